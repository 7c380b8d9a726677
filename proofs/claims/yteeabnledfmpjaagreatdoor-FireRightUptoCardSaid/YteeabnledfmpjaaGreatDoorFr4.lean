/- A part of the proof: texts of mine, merged by a program (wip/dev/merge.py). -/
import Derived.Test.YteeabnledfmpjaaGreatDoorFr3
import Derived.Tactics
import Derived.RangeFuncIn
import Derived.RangeFuncLeaves
import Derived.Maps.RangeRun
import Derived.LoopNIn
import Derived.Scope
import Derived.RecoverIn
set_option linter.unusedSimpArgs false
set_option linter.unusedVariables false
namespace Go.Am
open Go Go.RowKit
theorem zp(acc:J Nat)(x:Nat):∀(l:J Edge) (m:Nat),(l.foldl (λm e=>if Region.binds .any e then m ||| 2 ^ e.on ||| (acc[e.on]?).getD 0 else m) m).testBit x=true->
  m.testBit x=true\/∃e∈l,Region.binds .any e=true/\(x=e.on\/((acc[e.on]?).getD 0).testBit x=true)
 | [],m,h=>.inl h
 |e::l,m,h=>by
  have:=zp acc x l;grind
theorem Ch:∀(l:J Qz) (acc bs:J Nat),BZ l acc=some bs->(∃r,bs=acc++r)/\bs.length=acc.length+l.length/\
  ∀i o,l[i]? =some o->(∀e∈o.after.toList,Region.binds .any e=true->e.on<acc.length+i)/\∃b,bs[acc.length+i]? =some b/\b=Q3 (bs.take (acc.length+i)) o
 | [],acc,bs,h=>by simp_all [BZ]
 |o::l,acc,bs,h=>by
  simp only[BZ]at h
  split at h
  .rename_i a
   obtain⟨⟨r,d⟩,c,h3⟩:=Ch l _ bs h;simp only[xP,xZ,yN]at c h3
   refine⟨⟨Q3 acc o::r,by rw[d];simp⟩,by grind,λi g f=> ?_⟩
   cases i with
   |zero=>
    grind
   |succ i=>
    grind
  .cases h
theorem xk(b:Nat)(f:Fp):∀(l:J Fp) (j:Nat),jt b f j l=true->∀i g,l[i]? =some g->b.testBit (j+i)=false->apartFp g f=true
 | [],j,_,i,g,c,_=>by simp at c
 |a::l,j,h,i,g,c,d=>by
  simp only[jt,xA,ic]at h
  cases i with
  |zero=>
   grind
  |succ i=>
   have:=xk b f l;grind
theorem Dq(all:J Fp):∀(bs:J Nat) (a:J Fp) (i:Nat),rE all i bs a=true->∀j b f,bs[j]? =some b->a[j]? =some f->jt b f 0 (all.take (i+j))=true
 | [],a,i,_,j,b,f,d,_=>by simp at d
 |e::bs,[],i,_,j,b,f,_,c=>by simp at c
 |e::bs,g::a,i,h,j,b,f,d,c=>by
  simp only[rE,xA]at h
  cases j with
  |zero=>
   grind
  |succ j=>
   have:=Dq all bs a;grind
section
variable{P:Pz}{A:Av}{call:dH}{hint:Hint}
theorem SR.drawn{s:St}{a:Act}{w:Wz}{n:Nat}(g:SR A s a w):SR A s a {w with drawn:=n}:=by
 obtain⟨ρ,S,hd,h,e⟩:=g;have ext:Ext (am A s.H.length ρ S [] w) (am A s.H.length ρ S [] {w with drawn:=n}):=⟨λt b i=>⟨i,rfl⟩,dC _,λ_ _=>rfl⟩
 refine⟨ρ,S,hd,⟨λr t j=>TC.ext ext _ _ _ (λ_ _=>rfl) (h.cont r t j),h.gone,h.obj,λn d f c=> ?_,h.bw,h.bU,by simp,⟨h.fr.os,h.fr.tape,h.fr.output,h.fr.size,h.fr.kept,h.fr.recs⟩,h.Fold,h.cP⟩,λt=> ?_⟩
 .exact(h.map n d f c).ext ext (λ_ _=>rfl) rfl rfl
 .exact SO.aV ext (λr q=>h.hold (k':=s.wk) (hd':=hd) _ rfl rfl (λ_ _=>rfl) q) (e t)
theorem mG{ops:J Qz}{o:Qz}{s:St}:n7 P call hint ops o s=(fh P call hint ops o s).map λ(w,v,k)=>s.fin o.dst v k:=by
 unfold n7 fh
 cases iu ops s o with
 |none=>rfl
 |some w=>
  cases w with
  |true=>simp only[xS,if_true,Option.map_map];rfl
  |false=>rfl
theorem Ci{ops:J Qz}{o:Qz}{c d:Cf}{f:Fp}(e:er P call hint ops o c=some (d,f)):n7 P call hint ops o c.1=some d.1:=by
 grind [fG,mG]
theorem uv{ops:J Qz}:∀(l:J Qz) {c d:Cf} {a:J Fp},dX P call hint ops l c=some (d,a)->a.length=l.length
 | [],c,d,a,e=>by grind [dX]
 |o::l,c,d,a,e=>by
  simp only[dX,xB,xM,pJ]at e
  obtain⟨⟨i,f⟩,_,⟨h,b⟩,g,_,rfl⟩:=e;simp[uv l g]
theorem Jl{G:Nat->U D}(hc:gK P G call)(hG:GA G A)(c:∀g d,hint.gl g=some d->G g=some d){ops:Array Qz}{ro:U Nat}{Q:Exit->Act->Wz->Prop}{a0:Act}{ds:J Nat}:∀(l:J Qz) {s s':St} {a:Act} {w:Wz},SR A s a w->Kp a0 ds a->(∀o∈l,∀d,o.dst=some d->d∈ds/\d<a0.tmps.size)->fo P call hint ops.toList l s=some s'->
  (∀f w',SR A s' f w'->Kp a0 ds f->Q .normal f w')->wpListIn (FW ro) 0 P ops Q l a w
 | [],s,s',a,w,h,b,hd,e,i=>by
  simp only[fo,xJ]at e
  subst e;exact i a w h b
 |o::l,s,s',a,w,h,b,hd,e,i=>by
  simp only[fo,xB]at e
  obtain⟨t,r,k⟩:=e;refine wpListIn_step λK p=>GP hc hG c h b (hd o (by simp)) r λf w' m q=>p _ _ ?_
  exact Jl hc hG c l m q (λn j=>hd n (by simp[j])) k i
theorem xl{a:Type}(l:J a):∀(L:J Nat),(∀i∈L,i<l.length)->(L.filterMap λi=>l[i]?).length=L.length
 | [],_=>rfl
 |i::L,h=>by
  have:=xl l L;grind
theorem Kf(a:Array Bool)(i j:Nat)(hi:i<a.size):(a.setIfInBounds i true).getD j true=if j=i then true else a.getD j true:=by
 by_cases h:j=i
 .subst h;simp[hi]
 simp_all [Ne.symm]
theorem AR{a:Array Bool}{i:Nat}(hi:i<a.size):a.getD i false=a.getD i true:=by grind
def mH(ops:Array Qz)(a:Array Bool):J Nat:=(List.range ops.size).filter λi=> !a.getD i true
def Un(ops:Array Qz)(a:Array Bool)(x:Nat):Prop:=x<ops.size/\a.getD x true=false
theorem qA{ops:Array Qz}{a:Array Bool}{x:Nat}:x∈mH ops a↔Un ops a x:=by
 grind [mH,Un]
def Wq(bs:J Nat)(a:Array Bool):Prop:=∀i b,a.getD i false=true->bs[i]? =some b->∀x,b.testBit x=true->a.getD x false=true
inductive RT where
 |leaf (L:List Nat) (fs:List Fp) (c:Cf)
 |node (i j:Nat) (a b:RT)
def RE(bs:J Nat)(E:J (Nat×Nat))(p q:Nat×Fp):Prop:=(∀b,bs[q.1]? =some b->b.testBit p.1=false->apartFp p.2 q.2=true)\/∃e∈E,leB bs p.1 e.1=true/\leB bs e.2 q.1=true
def RT.Ok(P:Program)(call:dH)(hint:Hint)(ops:Array Oper)(bs:List Nat)(d:Array Bool)(c:Cf):List (Nat×Nat)->RT->Prop
 |E,.leaf L e c'=>L.Perm (mH ops d)/\dX P call hint ops.toList (j0 ops.toList L) c=some (c',e)/\(L.zip e).Pairwise (RE bs E)
 |E,.node i j a b=>i≠j/\Un ops d i/\Un ops d j/\RT.Ok P call hint ops bs d c ((i,j)::E) a/\RT.Ok P call hint ops bs d c ((j,i)::E) b
def RT.Ends(K:Cf->Prop):RT->Prop
 | .leaf _ _ c=>K c
 | .node _ _ a b=>RT.Ends K a/\RT.Ends K b
theorem Jm{ops:Array Qz}(L:J Nat)(h:∀x∈L,x<ops.size):(j0 ops.toList L).length=L.length:=xl ops.toList L (λx hx=>by grind)
theorem Ny{ops:Array Qz}{a:Array Bool}{i:Nat}(b:a.size=ops.size)(hi:i<ops.size):mH ops (a.setIfInBounds i true)=(mH ops a).filter λx=>decide (x≠i):=by
 unfold mH;rw[List.filter_filter]
 grind [Kf]
theorem Wr{ops:Array Qz}{a:Array Bool}{i x:Nat}(c:a.size=ops.size)(hi:i<ops.size)(hx:Un ops a x)(b:x≠i):Un ops (a.setIfInBounds i true) x:=
 ⟨hx.1,by rw[Kf a i x (by omega),if_neg b];exact hx.2⟩
theorem TK{ops:Array Qz}{bs:J Nat}{a:Array Bool}{c c':Cf}{E:J (Nat×Nat)}{L:J Nat}{y:J Fp}{i:Nat}{o:Qz}{b:Nat}(bP:a.size=ops.size)(C:Inv c)(ho:ops[i]? =some o)(D:Un ops a i)(ac:bs[i]? =some b)(R:∀x,Un ops a x->b.testBit x=false)
  (hE:∀e∈E,Un ops a e.1/\Un ops a e.2/\e.2≠i) (h:RT.Ok P call hint ops bs a c E (.leaf L y c')):
  ∃G fi L' I d,er P call hint ops.toList o c=some (G,fi)/\RT.Ok P call hint ops bs (a.setIfInBounds i true) G (E.filter λe=>decide (e.1≠i)) (.leaf L' I d)/\Eqv c' d:=by
 obtain⟨g,e,v⟩:=h;have A:i∈L:=g.mem_iff.2 (qA.2 D);obtain⟨LA,s,rfl⟩:=List.append_of_mem A;have l:∀x∈LA++i::s,Un ops a x:=λx w=>qA.1 (g.mem_iff.1 w)
 have M:(LA++i::s).Nodup:=g.nodup_iff.2 (List.Pairwise.filter _ List.nodup_range);have n1:=List.nodup_append.1 M;have K:ops.toList[i]? =some o:=by rw[yM];exact ho
 have j:=Jm (ops:=ops) LA (λx w=>(l x (by simp[w])).1)
 have t:=Jm (ops:=ops) s (λx w=>(l x (by simp[w])).1)
 have H:j0 ops.toList (LA++i::s)=j0 ops.toList LA++o::j0 ops.toList s:=by
  simp only[j0,List.filterMap_append,List.filterMap_cons,K]
 rw[H]at e
 have B:=uv _ e;simp only[xP,xZ,j,t]at B
 obtain⟨k,m,n,S,z⟩:∃k fi n,y=k++fi::n/\k.length=LA.length:=by
  have W:LA.length<y.length:=by omega
  refine⟨y.take LA.length,y[LA.length],y.drop (LA.length+1),?_,by simp;omega⟩
  grind [List.getElem_cons_drop,yP]
 subst S;rw[List.zip_append (by omega),List.zip_cons_cons]at v
 have af:∀x,Un ops a x->x≠i->leB bs x i=false:=λx w ab=>by
  grind [leB]
 obtain⟨G,d,fi,O,g2,V,g4⟩:=acr _ o _ C e (λfi u f Q=>by
  rw[j,<-z]at u Q
  simp only[xN (dC _),rz,yE,xJ]at u
  subst u;rw[List.take_left']at Q
  .obtain⟨p,N,rfl⟩:=lZ Q
   have hz:(LA[p]'(by omega),k[p])∈LA.zip k:=List.mem_iff_getElem.2 ⟨p,by simp;omega,by simp⟩
   have ad:=l (LA[p]'(by omega)) (by simp)
   rcases(List.pairwise_append.1 v).2.2 _ hz (i,m) (by simp)with q |⟨X,Y,T,U⟩
   .grind
   grind
  .rfl)
 rw[j,<-z]at O V
 simp only[xN (dC _),rz,yE,xJ]at O
 subst O;have Z:(k++m::n).take k.length++(k++m::n).drop (k.length+1)=k++n:=by simp
 rw[Z]at V
 refine⟨G,m,LA++s,k++n,d,g2,⟨?_,?_,?_⟩,g4⟩
 .rw[Ny bP D.1]
  have q:=g.filter λx=>decide (x≠i)
  rw[List.filter_append,List.filter_cons]at q
  grind [List.filter_eq_self]
 .grind [j0]
 .rw[List.zip_append (by omega)]
  have F:(LA.zip k++s.zip n).Pairwise (RE bs E):=v.sublist (List.Sublist.append (List.Sublist.refl _) (List.sublist_cons_self _ _))
  have aa:∀p∈LA.zip k++s.zip n,Un ops a p.1/\p.1≠i:=λp N=>by
   obtain q |q:=List.mem_append.1 N
   .have:=(List.of_mem_zip q).1
    grind
   .have:=(List.of_mem_zip q).1
    grind
  refine F.imp_of_mem λ{p q} N hq r=>r.imp id λ⟨X,Y,T,U⟩=>⟨X,?_,T,U⟩
  grind
theorem AS{ops:Array Qz}{bs:J Nat}{f:Array Bool}{c:Cf}{i:Nat}{o:Qz}{b:Nat}(n:f.size=ops.size)(j:Inv c)(ho:ops[i]? =some o)(k:Un ops f i)(l:bs[i]? =some b)(g:∀x,Un ops f x->b.testBit x=false){K:Cf->Prop}(w:∀c' d,Eqv c' d->K c'->K d):
  ∀(t:RT) (E:J (Nat×Nat)),(∀e∈E,Un ops f e.1/\Un ops f e.2/\e.2≠i)->RT.Ok P call hint ops bs f c E t->RT.Ends K t->
   ∃m fi t',er P call hint ops.toList o c=some (m,fi)/\RT.Ok P call hint ops bs (f.setIfInBounds i true) m (E.filter λe=>decide (e.1≠i)) t'/\RT.Ends K t'
 | .leaf L T c',E,I,h,hk=>by
  obtain⟨m,fi,Q,A,d,r,s,y⟩:=TK n j ho k l g I h
  exact⟨m,fi,.leaf Q A d,r,s,w _ _ y hk⟩
 | .node u v a t,E,I,h,hk=>by
  obtain⟨B,O,M,F,G⟩:=h
  by_cases p:u=i
  .subst p
   obtain⟨m,fi,H,r,s,y⟩:=AS n j ho k l g w a ((u,v)::E) (λe z=>by
    grind) F hk.1
   grind
  .by_cases q:v=i
   .subst q
    obtain⟨m,fi,t',r,s,y⟩:=AS n j ho k l g w t ((v,u)::E) (λe z=>by
     grind) G hk.2
    grind
   .obtain⟨m,fi,H,r,s,y⟩:=AS n j ho k l g w a ((u,v)::E) (λe z=>by
     grind) F hk.1
    obtain⟨S,N,t',C,D,R⟩:=AS n j ho k l g w t ((v,u)::E) (λe z=>by
     grind) G hk.2
    rw[r]at C
    simp only[xJ,pJ]at C
    obtain⟨rfl,rfl⟩:=C;rw[List.filter_cons,if_pos (by simpa using p)]at s
    rw[List.filter_cons,if_pos (by simpa using q)]at D
    exact⟨m,fi,.node u v H t',r,⟨B,Wr n k.1 O p,Wr n k.1 M q,s,D⟩,y,R⟩
theorem Ws{G:Nat->U D}(hc:gK P G call)(hG:GA G A)(aq:∀g d,hint.gl g=some d->G g=some d){ops:Array Qz}{ro:U Nat}{bs:J Nat}(hb:BZ ops.toList []=some bs){Q:Exit->Act->Wz->Prop}{a0:Act}{ds:J Nat}(hd:∀o∈ops.toList,∀d,o.dst=some d->d∈ds/\d<a0.tmps.size):
  ∀(m:Nat) (f:Array Bool) (t:RT) (c:Cf) (a:Act) (w:Wz),f.size=ops.size->(mH ops f).length=m->Wq bs f->Inv c->SR A c.1 a w->Kp a0 ds a->RT.Ok P call hint ops bs f c [] t->
   RT.Ends (λc'=>∀R v w',Eqv c' R->SR A R.1 v w'->Kp a0 ds v->Q .normal v w') t->wpAnyIn (FW ro) 0 P .any ops Q m f a w:=by
 obtain⟨_,av,an⟩:=Ch _ _ _ hb;simp only[yN,fu,yF]at av an
 have I:∀i o,ops[i]? =some o->(∀e∈o.after.toList,Region.binds .any e=true->e.on<i)/\∃b,bs[i]? =some b/\b=Q3 (bs.take i) o:=λi o E=>an i o (by grind)
 intro m
 induction m with
 |zero=>
  intro f t c a w bP Y C z hs S F n;have N:=yL Y
  cases t with
  |node i j a b=>
   have:=qA.2 F.2.1
   rw[N]at this
   cases this
  |leaf L fs c'=>
   obtain⟨s,e,_⟩:=F;rw[N,List.perm_nil]at s
   subst s;simp only[j0,List.filterMap_nil,dX,xJ,pJ]at e
   obtain⟨rfl,_⟩:=e
   refine⟨?_,n c a w (.refl _) hs S⟩
   simp_all [Region.ready,mH]
 |succ m ih=>
  intro f t c a w bP Y C z hs S F n
  refine⟨λhr=> ?_,λi hi=> ?_⟩
  ·-- the first that is left is ready
   exfalso;generalize hL:mH ops f=L at Y
   cases L with
   |nil=>cases Y
   |cons X L=>
    have ax:X∈(List.range ops.size).filter λi=> !f.getD i true:=by
     show X∈mH ops f;rw[hL];simp
    obtain⟨q1,q2⟩:=List.mem_filter.1 ax;have r:X<ops.size:=by simpa using q1
    obtain⟨o,E⟩:∃o,ops[X]? =some o:=⟨_,Array.getElem?_eq_getElem r⟩
    have:X∈Region.ready .any ops f:=by
     simp only[Region.ready,List.mem_filter,xA]
     refine⟨q1,q2,?_⟩
     rw[E];simp only[xQ,gZ];rw[Array.all_eq_true'];intro e O
     cases l:Region.binds .any e with
     |false=>rfl
     |true=>
      have aa:=(I X o E).1 e (by simpa using O) l
      simp only[Bool.not_true,Bool.false_or];rw[AR (by omega)]
      cases T:f.getD e.on true with
      |true=>rfl
      |false=>
       have M:e.on∈mH ops f:=qA.2 ⟨by omega,T⟩
       have ab:(mH ops f).Pairwise (·< ·):=List.Pairwise.filter _ List.pairwise_lt_range
       grind [List.pairwise_cons]
    rw[hr]at this
    cases this
  .simp only[Region.ready,List.mem_filter,xA]at hi
   obtain⟨q1,q2,q3⟩:=hi;have r:i<ops.size:=by simpa using q1
   obtain⟨o,E⟩:∃o,ops[i]? =some o:=⟨_,Array.getElem?_eq_getElem r⟩
   rw[E]at q3
   simp only[xQ,gZ]at q3
   rw[Array.all_eq_true']at q3
   have ak:Un ops f i:=⟨r,by simpa using q2⟩
   have ay:ops.toList[i]? =some o:=by rw[yM];exact E
   -- those that are left need not go before it
   obtain⟨u,b,al,ag⟩:=I i o E
   have W:∀x,Un ops f x->b.testBit x=false:=λx ac=>by
    cases ai:b.testBit x with
    |false=>rfl
    |true=>
     exfalso;rw[ag]at ai
     obtain q |⟨B,O,l,q⟩:=zp _ x _ 0 ai
     .simp at q
     .have aa:=u B O l
      have h:f.getD B.on false=true:=by
       have:=q3 B (by simpa using O)
       simpa [l]using this
      obtain rfl |q:=q
      .rw[AR (by omega),ac.2]at h;cases h
      .rw[xU,if_pos aa]at q
       cases k:bs[B.on]? with
       |none=>grind
       |some b2=>
        rw[k]at q
        have:=C B.on b2 h k x q
        rw[AR (by grind),ac.2]at this
        cases this
   obtain⟨c1,fi,t',g2,g3,g4⟩:=AS bP z E ak al W (K:=λc'=>∀R v w',Eqv c' R->SR A R.1 v w'->Kp a0 ds v->Q .normal v w') (λc' d hq hk R v w' p=>hk R v w' (hq.trans p)) t [] (by simp) F n
   have ad:∀x,(f.setIfInBounds i true).getD x true=if x=i then true else f.getD x true:=λx=>Kf f i x (by omega)
   unfold wpOpIn;rw[E]
   simp only
   have af:=GP (ro:=ro) (Q:=Q) hc hG aq hs S (hd o (yS ay)) (Ci g2) (K:=wpAnyIn (FW ro) 0 P .any ops Q m (f.setIfInBounds i true)) (λv w' k1 k2=>by
    refine ih (f.setIfInBounds i true) t' c1 v w' (by simpa using bP) ?_ (λj bj hj H x T=> ?_) (z.step g2) k1 k2 g3 g4
    .have M:i∈mH ops f:=qA.2 ak
     have aC:(mH ops f).Nodup:=List.Pairwise.filter _ List.nodup_range;rw[Ny bP r]
     have:((mH ops f).filter λx=>decide (x≠i))=(mH ops f).erase i:=by
      rw[aC.erase_eq_filter];refine List.filter_congr λx _=> ?_
      by_cases T:x=i <;>simp[T]
     rw[this,List.length_erase_of_mem M,Y];rfl
    .have ah:j<(f.setIfInBounds i true).size:=by
      obtain q |q:=gk j (f.setIfInBounds i true).size
      .exact q
      .grind
     have V:∀y,f.getD y false=true->(f.setIfInBounds i true).getD y false=true:=λy hy=>by
      grind
     by_cases ao:j=i
     .subst ao
      rw[al]at H
      simp only[xJ]at H
      subst H;rw[ag]at T
      obtain q |⟨B,O,l,q⟩:=zp _ x _ 0 T
      .simp at q
      .have h:f.getD B.on false=true:=by
        have:=q3 B (by simpa using O)
        simpa [l]using this
       obtain rfl |q:=q
       .exact V _ h
       .rw[xU,if_pos (u B O l)]at q
        cases k:bs[B.on]? with
        |none=>grind
        |some b2=>
         rw[k]at q
         exact V _ (C B.on b2 h k x q)
     .rw[AR ah,ad,if_neg ao]at hj
      have Z:j<f.size:=by simpa using ah
      rw[<-AR Z]at hj
      exact V _ (C j bj hj H x T))
   exact af
theorem Inv.start(s:St):Inv (s,kE s):=λt r a=>by
 have:eZ (kE s) t=(s.get t).aW:=by
  simp only[eZ,kE,St.get,Nq]
  cases look s.env t with
  |none=>rfl
  |some u=>rfl
 rw[this];exact a
theorem zq(ops:Array Qz):mH ops (Array.replicate ops.size false)=List.range ops.size:=by
 refine List.filter_eq_self.2 λx a=> ?_
 simp_all
theorem Kg(bs:J Nat)(n:Nat):Wq bs (Array.replicate n false):=λi b c=>by
 exfalso
 by_cases a:i<n
 .simp_all
 grind
theorem Nz(ops:Array Qz):j0 ops.toList (List.range ops.size)=ops.toList:=by
 have:∀(l a:J Qz),(List.range' a.length l.length).filterMap (λi=>(a++l)[i]?)=l:=λl=>by
  induction l with
  |nil=>intro a;rfl
  |cons x l b=>
   intro a;rw[xZ,wg,List.filterMap_cons];have c:(a++x::l)[a.length]? =some x:=by simp
   rw[c]
   have:=b (a++[x])
   grind
 have:=this ops.toList []
 rw[yN,<-nq,yF]at this
 exact this
theorem Dr{G:Nat->U D}(hc:gK P G call)(hG:GA G A)(c:∀g d,hint.gl g=some d->G g=some d)(i:P.follows .mixedOrders=true){id:Nat}{ops:Array Qz}{ro:U Nat}{Q:Exit->Act->Wz->Prop}{s:St}{bs:J Nat}{a:Act}{ds:J Nat}{w:Wz}(j:SR A s a w)(hd:∀o∈ops.toList,∀d,o.dst=some d->d∈ds/\d<a.tmps.size)(hb:BZ ops.toList []=some bs){t:RT}
  (e:RT.Ok P call hint ops bs (Array.replicate ops.size false) (s,kE s) [] t) (b:RT.Ends (λc'=>∀h f w',Eqv c' h->SR A h.1 f w'->Kp a ds f->Q .normal f w') t):(Code.region id ops true).wpIn (FW ro) 0 P Q a w:=
 wpIn_region_any i (Ws (hint:=hint) (a0:=a) (ds:=ds) hc hG c hb hd ops.size _ t (s,kE s) a _ (by simp) (by rw[zq];simp) (Kg _ _) (Inv.start s) j.drawn (.refl _ _) e b)
theorem PD{G:Nat->U D}(hc:gK P G call)(hG:GA G A)(l:∀g d,hint.gl g=some d->G g=some d)(r:P.follows .mixedOrders=true){id:Nat}{ops:Array Qz}{ro:U Nat}{Q:Exit->Act->Wz->Prop}{s:St}{c':Cf}{f:J Fp}{a:Act}{ds:J Nat}{w:Wz}(v:SR A s a w)(hd:∀o∈ops.toList,∀d,o.dst=some d->d∈ds/\d<a.tmps.size)
  (e:dX P call hint ops.toList ops.toList (s,kE s)=some (c',f)) (hk:uf ops.toList f=true)
  (z:∀p n w',Eqv c' p->SR A p.1 n w'->Kp a ds n->Q .normal n w'):(Code.region id ops true).wpIn (FW ro) 0 P Q a w:=by
 unfold uf at hk
 split at hk
 .rename_i y q
  have m:=(Ch _ _ _ q).2.1;simp only[yN,fu,yF]at m
  have c:=uv _ e;rw[yF]at c
  refine Dr hc hG l r v hd q (t:=.leaf (List.range ops.size) f c') ⟨by rw[zq],by rw[Nz];exact e,?_⟩ z
  rw[List.pairwise_iff_getElem];intro i j B x u;left;intro b k h;simp only[List.getElem_zip,List.getElem_range]at k h |-
  simp only[List.length_zip,List.length_range,c,Nat.min_self]at B x
  have:=Dq f y f 0 hk j b (f[j]'(by omega)) k (xG _)
  exact xk b _ _ 0 this i _ (by grind) (by simpa using h)
 .cases hk
theorem GZ(bs:J Nat):∀(E:J (Nat×Nat)) (L:J Nat),(mC bs E L).Perm L
 | [],L=>.refl _
 |e::E,L=>by
  have:=GZ bs E L;grind [mC,List.filter_append_perm]
theorem Ds(bs:J Nat)(E:J (Nat×Nat)):∀(l:J (Nat×Fp)),ug bs E l=true->l.Pairwise (RE bs E)
 | [],_=>.nil
 |p::r,h=>by
  simp only[ug,xA]at h
  refine List.pairwise_cons.2 ⟨λq c=> ?_,Ds bs E r h.2⟩
  have:=List.all_eq_true.1 h.1 q c
  simp only[ic,List.any_eq_true,xA]at this
  obtain (t |t) |⟨e,b,t1,a⟩:=this
  .left
   grind
  .exact .inl λ_ _ _=>t
  .exact .inr ⟨e,b,t1,a⟩
theorem G0{live:J Nat}{ops:Array Qz}{bs:J Nat}{s:St}:∀(t:OT) (E:J (Nat×Nat)) (s':St),j3 P call hint live ops.toList bs s t E=some s'->∃l,RT.Ok P call hint ops bs (Array.replicate ops.size false) (s,kE s) E l/\RT.Ends (λc=>prune live c.1=s') l
 | .leaf,E,s',e=>by
  simp only[j3,xB]at e
  obtain⟨⟨c,u⟩,h,f⟩:=e;simp only at f
  split at f
  .rename_i hk
   simp only[xJ]at f
   rw[yF]at h hk
   exact⟨.leaf _ u c,⟨by grind [zq,GZ],h,Ds bs E _ hk⟩,f⟩
  .cases f
 | .node i j a b,E,s',e=>by
  simp only[j3]at e
  split at e
  .rename_i d
   simp only[yF]at d
   simp only[xB]at e
   obtain⟨y,h,w,f,g⟩:=e
   split at g
   .rename_i o
    simp only[xJ]at g
    have:=St.beq_eq _ _ o
    subst this;subst g;obtain⟨v,m,p⟩:=G0 a _ _ h;obtain⟨rb,n,q⟩:=G0 b _ _ f;have k:∀x,x<ops.size->Un ops (Array.replicate ops.size false) x:=λx r=>⟨r,by simp_all⟩
    exact⟨.node i j v rb,⟨d.1,k _ d.2.1,k _ d.2.2,m,n⟩,p,q⟩
   .cases g
  .cases e
theorem RT.Ends.imp{K K':Cf->Prop}(h:∀c,K c->K' c):∀(t:RT),RT.Ends K t->RT.Ends K' t
 | .leaf _ _ c,hk=>h c hk
 | .node _ _ a b,hk=>⟨RT.Ends.imp h a hk.1,RT.Ends.imp h b hk.2⟩
end
def ajt(a:Ex)(x:Exit):Prop:=
 match a with
 | .normal=>x=.normal
 | .exit id=>x=.exit id
 | .ret=>x=.ret
 | .cQ d=>∃v,x=.panic [{v:=v,recovered:=false}]/\∀c,VV c d v
structure Av.le(A' A:Av):Prop where
 F:∀t b,A.F t b->A'.F t b
 n0:A.n0<=A'.n0
 cP:∀o,o<A.n0->A'.ρ0 o=A.ρ0 o
 O0:∀b,b<A.w0.heap.size->A'.O0 b->A.O0 b
 fr:Fr A A'.w0
 fold:∀t b,A.F t b->b<A.w0.heap.size
theorem Fr.le{A A':Av}(hl:A'.le A){w:Wz}(h:Fr A' w):Fr A w:=
 ⟨h.os.trans hl.fr.os,h.tape.trans hl.fr.tape,h.output.trans hl.fr.output,fj hl.fr.size h.size,λb a c=>
  (h.kept b (yA a hl.fr.size) (λq=>c (hl.O0 b a q))).trans (hl.fr.kept b a c),hl.fr.recs.trans h.recs⟩
theorem Av.le.trans{A A' B:Av}(x:B.le A')(y:A'.le A):B.le A:=
 ⟨λt b h=>x.F t b (y.F t b h),fj y.n0 x.n0,λo a=>(x.cP o (yA a y.n0)).trans (y.cP o a),λb c h=>y.O0 b c (x.O0 b (yA c y.fr.size) h),Fr.le y x.fr,y.fold⟩
section
variable{P:Pz}{A A':Av}{ρ:Nat->Nat}{S:aj->J Nat}{hd:aj->Vz}{fl:J Nat}{k k':Wk}{ay:J (SV×Vz)}{w:Wz}{G:Nat->U D}
theorem Av.le.refl(h:KR A ρ S hd fl k ay w):A.le A:=⟨λ_ _ h=>h,dC _,λ_ _=>rfl,λ_ _ h=>h,⟨rfl,rfl,rfl,dC _,λ_ _ _=>rfl,.refl _⟩,h.Fold⟩
theorem KR.up(hl:A'.le A)(h:KR A' ρ S hd fl k ay w):KR A ρ S hd fl k ay w/\Ext (am A' k.H.length ρ S fl w) (am A k.H.length ρ S fl w):=by
 have ext:Ext (am A' k.H.length ρ S fl w) (am A k.H.length ρ S fl w):=⟨λt b a=>⟨⟨a.1,λq=>a.2.1 (hl.F t b q),a.2.2⟩,rfl⟩,dC _,λ_ _=>rfl⟩
 refine⟨⟨λr t g=>TC.ext ext _ _ _ (λ_ _=>rfl) (h.cont r t g),h.gone,h.obj,λn ob f a=>(h.map n ob f a).ext ext (λ_ _=>rfl) rfl rfl,h.bw,λb e=> ?_,λp a=> ?_,Fr.le hl h.fr,hl.fold,⟨fj hl.n0 h.cP.1,λo d=>(h.cP.2 o (yA d hl.n0)).trans (hl.cP o d)⟩⟩,ext⟩
 .have:=h.bU b e
  exact⟨this.1,λt q=>this.2.1 t (hl.F t b q),λc=>hl.O0 b c (this.2.2 (yA c hl.fr.size))⟩
 .exact SO.aV ext (λr q=>h.hold (k':=k) (hd':=hd) _ rfl rfl (λ_ _=>rfl) q) (h.ay p a)
theorem KR.upW(hl:A'.le A)(h:KR A' ρ S hd fl k ay w){w':Wz}(ho:w'.os=w.os)(ht:w'.tape=w.tape)(hu:w'.output=w.output)(j:w'.heap.size=w.heap.size)(a:∀b,w'.heap[b]? =w.heap[b]? \/(A.w0.heap.size<=b/\∀t,A'.F t b))(i:cH w w'):
  KR A ρ S hd fl k ay w'/\Ext (am A' k.H.length ρ S fl w) (am A k.H.length ρ S fl w'):=by
 have ext:Ext (am A' k.H.length ρ S fl w) (am A k.H.length ρ S fl w'):=⟨λt b d=>⟨⟨d.1,λq=>d.2.1 (hl.F t b q),by rw[j];exact d.2.2⟩,(a b).resolve_right λq=>d.2.1 (q.2 t)⟩,dC _,λ_ _=>rfl⟩
 have c:∀r,∀b∈S r,w'.heap[b]? =w.heap[b]? :=λr b g=>(a b).resolve_right λq=>(h.bU b (.inl ⟨r,g⟩)).2.1 true (q.2 true)
 have e:=Fr.le hl h.fr
 refine⟨⟨λr t ht=>TC.ext ext _ _ _ (c r) (h.cont r t ht),h.gone,h.obj,λn ob m d=>(h.map n ob m d).ext ext (c _) rfl rfl,h.bw,λb g=> ?_,λp d=> ?_,⟨ho.trans e.os,ht.trans e.tape,hu.trans e.output,by rw[j];exact e.size,λb g l=> ?_,e.recs.trans i⟩,hl.fold,⟨fj hl.n0 h.cP.1,λo ho=>(h.cP.2 o (yA ho hl.n0)).trans (hl.cP o ho)⟩⟩,ext⟩
 .have:=h.bU b g
  exact⟨by grind,λt q=>this.2.1 t (hl.F t b q),λf=>hl.O0 b f (this.2.2 (yA f hl.fr.size))⟩
 .exact SO.aV ext (λr q=>h.hold (k':=k) (hd':=hd) _ rfl rfl (c r) q) (h.ay p d)
 .rw[(a b).resolve_right λq=>by omega]
  exact e.kept b g l
theorem SR.upW{s:St}{a:Act}(hl:A'.le A)(k:SR A' s a w){w':Wz}(ho:w'.os=w.os)(ht:w'.tape=w.tape)(hu:w'.output=w.output)(g:w'.heap.size=w.heap.size)(c:∀b,w'.heap[b]? =w.heap[b]? \/(A.w0.heap.size<=b/\∀t,A'.F t b))(d:cH w w'):SR A s a w':=by
 obtain⟨ρ,S,hd,h,f⟩:=k;obtain⟨i,ext⟩:=h.upW hl ho ht hu g c d;have e:∀r,∀b∈S r,w'.heap[b]? =w.heap[b]? :=λr b j=>(c b).resolve_right λq=>(h.bU b (.inl ⟨r,j⟩)).2.1 true (q.2 true)
 exact⟨ρ,S,hd,i,λt=>SO.aV ext (λr q=>h.hold (k':=s.wk) (hd':=hd) _ rfl rfl (e r) q) (f t)⟩
theorem SR.up{s:St}{a:Act}(hl:A'.le A)(d:SR A' s a w):SR A s a w:=by
 obtain⟨ρ,S,hd,h,c⟩:=d;obtain⟨b,ext⟩:=h.up hl
 exact⟨ρ,S,hd,b,λt=>SO.aV ext (λr q=>h.hold (k':=s.wk) (hd':=hd) _ rfl rfl (λ_ _=>rfl) q) (c t)⟩
def Mk(A:Av)(b:Nat):Prop:=(∀t,A.F t b)/\¬A.O0 b/\b<A.w0.heap.size/\A.w0.heap[b]? =some (.deferred (some []))
theorem Mk.le{b:Nat}(hl:A'.le A)(h:Mk A b):Mk A' b:=
 ⟨λt=>hl.F t b (h.1 t),λq=>h.2.1 (hl.O0 b h.2.2.1 q),yA h.2.2.1 hl.fr.size,(hl.fr.kept b h.2.2.1 h.2.1).trans h.2.2.2⟩
theorem Mk.now{b:Nat}(h:Mk A b)(hf:Fr A w):w.heap[b]? =some (.deferred (some [])):=(hf.kept b h.2.2.1 h.2.1).trans h.2.2.2
def mkD(b:Nat):Deferred:={target:=.collected b,args:= #[]}
structure Kc(b:Bool)(A0 A:Av)(a0:Act)(ds:List Nat)(a:Act):Prop where
 size:a.tmps.size=a0.tmps.size
 tmps:∀t,t∉ds->a.tmps[t]? =a0.tmps[t]?
 mks:∃l:List Nat,a.defers=l.map mkD++a0.defers/\l.Nodup/\∀b∈l,A0.w0.heap.size<=b/\Mk A b
 nst:b=true->a.defers=a0.defers
theorem Kc.of{q:Bool}{A0:Av}{a0 a:Act}{ds:J Nat}(h:Kp a0 ds a):Kc q A0 A a0 ds a:=⟨h.2.1,h.2.2,⟨[],by simp[h.1],List.nodup_nil,by simp⟩,λ_=>h.1⟩
theorem Kc.refl{q:Bool}{A0:Av}(a:Act)(ds:J Nat):Kc q A0 A a ds a:=.of (.refl _ _)
theorem Kc.trans{q:Bool}{A0:Av}{a b c:Act}{ds es:J Nat}(h0:A.le A0)(hl:A'.le A)(x:Kc q A0 A a ds b)(y:Kc q A A' b es c):Kc q A0 A' a (ds++es) c:=by
 obtain⟨l,p,k,g⟩:=x.mks;obtain⟨m,h3,f,h4⟩:=y.mks
 refine⟨y.size.trans x.size,λt h=> ?_,⟨m++l,by grind,?_,λb i=> ?_⟩,λj=>(y.nst j).trans (x.nst j)⟩
 .simp only[xD,not_or]at h
  exact(y.tmps t h.2).trans (x.tmps t h.1)
 .rw[xT]
  refine⟨f,k,λb i d hd e=> ?_⟩
  subst e;have n:=(h4 b i).1;have o:=(g b hd).2.2.2.1;omega
 .obtain q |q:=List.mem_append.1 i
  .exact⟨fj h0.fr.size (h4 b q).1,(h4 b q).2⟩
  .exact⟨(g b q).1,(g b q).2.le hl⟩
theorem Kc.more{q:Bool}{A0:Av}{a b:Act}{ds es:J Nat}(x:Kc q A0 A a ds b)(h:∀t∈ds,t∈es):Kc q A0 A a es b:=⟨x.size,λt ht=>x.tmps t (λq=>ht (h t q)),x.mks,x.nst⟩
def Av.dx(A:Av)(S:aj->J Nat)(fl X:J Nat)(w:Wz)(n:Nat)(ρ:Nat->Nat):Av:=
 {w0:=w,F:=λt b=>A.F t b\/b∈X,O0:=λb=>bT S fl b,n0:=n,ρ0:=ρ,mono:=λb h=>h.imp (A.mono b) id}
theorem aeB{X:J Nat}{n:Nat}(nO:Nat)(a:Nat->Nat)(w':Wz)(d:aj->J Nat)(fl':J Nat)(h:∀b,bT d fl' b\/b∈X↔bT S (X++fl) b):am (A.dx S fl X w n ρ) nO a d fl' w'=am A nO a S (X++fl) w':=by
 simp only[am,Av.dx,Cx.mk.injEq,true_and,and_true];funext t b;refine propext ⟨λq=>⟨λc=> ?_,λe=>q.2.1 (.inl e),q.2.2⟩,λq=>⟨λc=>q.1 ((h b).1 (.inl c)),λe=> ?_,q.2.2⟩⟩
 .grind
 grind
theorem KR.dx{X:J Nat}(h:KR A ρ S hd (X++fl) k ay w):KR (A.dx S fl X w k.H.length ρ) ρ S hd fl k ay w/\(A.dx S fl X w k.H.length ρ).le A/\am (A.dx S fl X w k.H.length ρ) k.H.length ρ S fl w=am A k.H.length ρ S (X++fl) w:=by
 have c:∀b,bT S fl b\/b∈X↔bT S (X++fl) b:=λb=>by
  constructor
  .rintro((q |q) |q)
   .exact .inl q
   .exact .inr (xR _ q)
   .exact .inr (xL _ q)
  .rintro(q |q)
   .exact .inl (.inl q)
   .obtain q |q:=List.mem_append.1 q
    .exact .inr q
    .exact .inl (.inr q)
 have d:am (A.dx S fl X w k.H.length ρ) k.H.length ρ S fl w=am A k.H.length ρ S (X++fl) w:=aeB _ _ _ _ _ c;have f:=h.bw.ndF;rw[xT]at f
 refine⟨⟨λr t l=>by rw[d];exact h.cont r t l,h.gone,h.obj,λn ob i g=>by rw[d];exact h.map n ob i g,⟨h.bw.nd,f.2.1,h.bw.one,λr b e s=>h.bw.cq r b e (xR _ s)⟩,λb e=> ?_,λp g=>by rw[d];exact h.ay p g,⟨rfl,rfl,rfl,dC _,λ_ _ _=>rfl,.refl _⟩,λt b a=> ?_,dC _,λ_ _=>rfl⟩,⟨λt b a=>.inl a,h.cP.1,h.cP.2,λb e j=> ?_,h.fr,h.Fold⟩,d⟩
 .have:=h.bU b ((c b).1 (.inl e))
  refine⟨this.1,λt a=> ?_,λ_=>e⟩
  obtain a |a:=a
  .exact this.2.1 t a
  .obtain⟨r,m⟩ |e:=e
   .exact h.bw.cq r b m (xL _ a)
   grind
 .obtain a |a:=a
  .exact yA (h.Fold t b a) h.fr.size
  .exact(h.bU b (.inr (xL _ a))).1
 .exact(h.bU b ((c b).1 (.inl j))).2.2 e
theorem GA.dx{X:J Nat}(hG:GA G A)(h:KR A ρ S hd (X++fl) k ay w):GA G (A.dx S fl X w k.H.length ρ):=λg d e=>by
 obtain⟨c,f,q3⟩:=hG.now h e;obtain⟨_,_,h3,i,h4,h5⟩:=hG g d e
 refine⟨f,λa=>c ?_,λt b=> ?_,i,h4.same q3,h5⟩
 .obtain a |a:=a
  .exact .inl a
  .exact .inr (xR _ a)
 .obtain b |b:=b
  .exact h3 t b
  .exact c (.inr (xL _ b))
theorem KR.rebW(h:KR A ρ S hd fl k ay w){w':Wz}(g:w'.heap.size=w.heap.size)(a:∀b,w'.heap[b]? =w.heap[b]? \/∀t,A.F t b):
  KR (A.dx S fl [] w' k.H.length ρ) ρ S hd fl k ay w'/\Ext (am A k.H.length ρ S fl w) (am (A.dx S fl [] w' k.H.length ρ) k.H.length ρ S fl w'):=by
 have ext:Ext (am A k.H.length ρ S fl w) (am (A.dx S fl [] w' k.H.length ρ) k.H.length ρ S fl w'):=⟨λt b d=>⟨⟨d.1,λq=>q.elim d.2.1 (by simp),by rw[g];exact d.2.2⟩,(a b).resolve_right λq=>d.2.1 (q t)⟩,dC _,λ_ _=>rfl⟩
 have c:∀r,∀b∈S r,w'.heap[b]? =w.heap[b]? :=λr b f=>(a b).resolve_right λq=>(h.bU b (.inl ⟨r,f⟩)).2.1 true (q true)
 refine⟨⟨λr t j=>TC.ext ext _ _ _ (c r) (h.cont r t j),h.gone,h.obj,λn ob i d=>(h.map n ob i d).ext ext (c _) rfl rfl,h.bw,λb f=> ?_,λp d=> ?_,⟨rfl,rfl,rfl,dC _,λ_ _ _=>rfl,.refl _⟩,λt b e=> ?_,dC _,λ_ _=>rfl⟩,ext⟩
 .have:=h.bU b f
  exact⟨by grind,λt q=>q.elim (this.2.1 t) (by simp),λ_=>f⟩
 .exact SO.aV ext (λr q=>h.hold (k':=k) (hd':=hd) _ rfl rfl (c r) q) (h.ay p d)
 .obtain e |e:=e
  .show b<w'.heap.size
   rw[g];exact yA (h.Fold t b e) h.fr.size
  .cases e
def ownL(S:aj->J Nat)(ct:J ((Nat×Nat)×T)):J Nat:=(Gh ct).flatMap λx=>S (.l x.1 x.2)
def soO(S:aj->J Nat):aj->J Nat
 | .l _ _=>[]
 | .o n=>S (.o n)
theorem Ext.of{c c':Cx}(e:c=c'):Ext c c':=e▸⟨λ_ _ hp=>⟨hp,rfl⟩,dC _,λ_ _=>rfl⟩
theorem TM{a:Type}{ct:J ((Nat×Nat)×a)}{x:Nat×Nat}(h:x∉ct.map (·.1)):fc ct x=none:=by
 induction ct with
 |nil=>rfl
 |cons p r b=>
  grind [fc]
theorem KR.gather(h:KR A ρ S hd fl k ay w):KR A ρ (soO S) hd (ownL S k.ct++fl) {ct:=[],H:=k.H} [] w/\am A k.H.length ρ (soO S) (ownL S k.ct++fl) w=am A k.H.length ρ S fl w:=by
 have B:∀b n j,b∈S (.l n j)->b∈ownL S k.ct:=λb n j d=>by
  by_cases hk:(n,j)∈k.ct.map (·.1)
  .exact List.mem_flatMap.2 ⟨(n,j),nP.2 hk,d⟩
  .have:=h.gone (.l n j) (TM hk) (λ_ _ e=>by cases e)
   rw[this]at d;cases d
 have f:∀b,bT (soO S) (ownL S k.ct++fl) b↔bT S fl b:=λb=>by
  constructor
  .rintro(⟨r,i⟩ |d)
   .cases r with
    |l n j=>cases i
    |o n=>exact .inl ⟨.o n,i⟩
   .obtain d |d:=List.mem_append.1 d
    .obtain⟨x,_,u⟩:=List.mem_flatMap.1 d
     exact .inl ⟨_,u⟩
    .exact .inr d
  .rintro(⟨r,i⟩ |d)
   .cases r with
    |l n j=>exact .inr (xL _ (B b n j i))
    |o n=>exact .inl ⟨.o n,i⟩
   .exact .inr (xR _ d)
 have g:am A k.H.length ρ (soO S) (ownL S k.ct++fl) w=am A k.H.length ρ S fl w:=by
  simp only[am,Cx.mk.injEq,true_and,and_true];funext t b;exact propext ⟨λq=>⟨λz=>q.1 ((f b).2 z),q.2⟩,λq=>⟨λz=>q.1 ((f b).1 z),q.2⟩⟩
 refine⟨⟨λr t C=> ?_,λr i E=> ?_,h.obj,λn ob G J=> ?_,⟨λr=> ?_,?_,λr O b d s=> ?_,λr b d v=> ?_⟩,λb d=>h.bU b ((f b).1 d),by simp,h.fr,h.Fold,h.cP⟩,g⟩
 .cases r with
  |l n j=>cases C
  |o n=>rw[g];exact h.cont (.o n) t C
 .cases r with
  |l n j=>rfl
  |o n=>exact h.gone (.o n) i E
 .rw[g]
  obtain⟨M,L,K⟩:=h.map n ob G J
  exact⟨M,L,K⟩
 .cases r with
  |l n j=>exact List.nodup_nil
  |o n=>exact h.bw.nd _
 .rw[xT]
  refine⟨List.pairwise_flatMap.2 ⟨λx _=>h.bw.nd _,?_⟩,h.bw.ndF,λa I b d e=> ?_⟩
  .refine(MD _).imp λ{x y} N b d c D e=> ?_
   subst e
   have:=h.bw.one _ _ b d D
   grind
  .subst e
   obtain⟨x,_,u⟩:=List.mem_flatMap.1 I;exact h.bw.cq _ a u d
 .cases r with
  |l n j=>cases d
  |o n=>
   cases O with
   |l n j=>cases s
   |o m=>exact h.bw.one _ _ b d s
 .cases r with
  |l n j=>cases d
  |o n=>
   obtain v |v:=List.mem_append.1 v
   .obtain⟨x,_,u⟩:=List.mem_flatMap.1 v
    have:=h.bw.one _ _ b d u
    cases this
   .exact h.bw.cq _ b d v
theorem Wt{a:Type}{ct:J ((Nat×Nat)×a)}{x:Nat×Nat}(h:x∈ct.map (·.1)):∃t,fc ct x=some t:=by
 induction ct with
 |nil=>cases h
 |cons p r b=>
  obtain⟨y,u⟩:=p;simp only[fc]
  by_cases e:y=x
  .simp_all
  grind
theorem KR.ungather{M:J Nat}{H:J Ob}{env:J (Nat×SV)}{ct:J ((Nat×Nat)×T)}{tmps:Array Vz}(h:KR A ρ S hd (M++fl) {ct:=[],H} [] w)(hf:FrOK (am A H.length ρ S (M++fl) w) M env ct tmps):
  ∃f hd',KR A ρ f hd' fl {ct,H} [] w/\am A H.length ρ f fl w=am A H.length ρ S (M++fl) w/\∀t,SO (am A H.length ρ f fl w) ({ct,H}:Wk).get hd' ((look env t).getD .dead) (tmps.getD t undef):=by
 obtain⟨v,G,Z,hT,W,hE⟩:=hf;have ad:∀n j,S (.l n j)=[]:=λn j=>h.gone _ rfl (λ_ _ e=>by cases e)
 let f:aj->J Nat:=λr=>match r with | .l n j=>if(n,j)∈ct.map (·.1)then v (n,j)else [] | .o n=>S (.o n)
 let hd':aj->Vz:=λr=>match r with | .l n j=>G (n,j) | .o n=>hd (.o n)
 have af:∀b n j,b∈f (.l n j)->(n,j)∈Gh ct/\b∈v (n,j):=λb n j c=>by
  simp only[f]at c
  split at c
  .rename_i hk;exact⟨nP.2 hk,c⟩
  .cases c
 have s:∀b n j,b∈f (.l n j)->b∈M:=λb n j c=>by
  grind
 have g:∀b,bT f fl b↔bT S (M++fl) b:=λb=>by
  constructor
  .rintro(⟨r,B⟩ |c)
   .cases r with
    |l n j=>exact .inr (xL _ (s b n j B))
    |o n=>exact .inl ⟨.o n,B⟩
   .exact .inr (xR _ c)
  .rintro(⟨r,B⟩ |c)
   .cases r with
    |l n j=>grind
    |o n=>exact .inl ⟨.o n,B⟩
   .obtain c |c:=List.mem_append.1 c
    .rw[Z]at c
     obtain⟨⟨n,j⟩,q1,q2⟩:=List.mem_flatMap.1 c;refine .inl ⟨.l n j,?_⟩;simp only[f];rw[if_pos (nP.1 q1)];exact q2
    .exact .inr c
 have z:am A H.length ρ f fl w=am A H.length ρ S (M++fl) w:=by
  simp only[am,Cx.mk.injEq,true_and,and_true];funext t b;exact propext ⟨λq=>⟨λR=>q.1 ((g b).2 R),q.2⟩,λq=>⟨λR=>q.1 ((g b).1 R),q.2⟩⟩
 have C:=h.bw.ndF;rw[xT]at C
 have E:=C.1;rw[Z]at E
 obtain⟨aa,L⟩:=List.pairwise_flatMap.1 E
 have ab:∀x y b,x∈Gh ct->y∈Gh ct->b∈v x->b∈v y->x=y:=by
  have:∀(l:J (Nat×Nat)),l.Pairwise (λI O=>∀x,x∈v I->∀y,y∈v O->x≠y)->∀x y b,x∈l->y∈l->b∈v x->b∈v y->x=y:=by
   intro l
   induction l with
   |nil=>grind
   |cons a l ih=>
    grind [List.pairwise_cons]
  exact this _ L
 refine⟨f,hd',⟨λr t P=> ?_,λr B hm=> ?_,h.obj,λn ob he hp=> ?_,⟨λr=> ?_,C.2.1,λr Y b c D=> ?_,λr b c hf=> ?_⟩,λb c=>h.bU b ((g b).1 c),by simp,h.fr,h.Fold,h.cP⟩,z,λt=> ?_⟩
 .rw[z]
  cases r with
  |l n j=>
   have e:f (.l n j)=v (n,j):=by
    simp only[f];exact if_pos (List.mem_map.2 ⟨_,B3 P,rfl⟩)
   rw[e];exact hT (n,j) t P
  |o n=>exact h.cont (.o n) t P
 .cases r with
  |l n j=>
   simp only[f];split
   .rename_i hk
    obtain⟨t,P⟩:=Wt hk
    have:fc ct (n,j)=none:=B
    grind
   .rfl
  |o n=>exact h.gone (.o n) B hm
 .rw[z]
  obtain⟨N,m1,m2⟩:=h.map n ob he hp
  exact⟨N,m1,m2⟩
 .cases r with
  |l n j=>
   grind
  |o n=>exact h.bw.nd _
 .cases r with
  |l n j=>
   cases Y with
   |l n' X=>
    grind
   |o m=>exact absurd (xL _ (s b n j c)) (h.bw.cq (.o m) b D)
  |o n=>
   cases Y with
   |l n' X=>exact absurd (xL _ (s b n' X D)) (h.bw.cq (.o n) b c)
   |o m=>exact h.bw.one _ _ b c D
 .cases r with
  |l n j=>grind
  |o n=>exact h.bw.cq (.o n) b c (xR _ hf)
 .rw[z]
  have hold:∀r q,wV (am A H.length ρ S (M++fl) w) (am A H.length ρ S (M++fl) w) (Go.Am.cont ct []) ({ct,H}:Wk).get (VM G) hd' r q:=λr q t0 es e1 e2=>by
   cases r with
   |l n j=>exact⟨t0,es,e1,e2,.refl _,λh' hn=>hn⟩
   |o n=>simp[Go.Am.cont]at e1
  have K:=hE t;have V:∀u,look env t=some u->u.loose=u:=λu Q=>W _ (IQ Q)
  cases Q:look env t with
  |none=>trivial
  |some u=>
   have V:=V u Q;rw[Q]at K
   simp only[gZ]at K |-
   cases u with
   |d x=>exact K
   |aH r p U ac=>exact SB.bS (hold r p) K
   |loc r p i U=>exact SB.bL (hold r p) K
   |dead=>trivial
   |_=>simp[SV.loose]at V
theorem PE(env:J (Nat×SV))(t:Nat):look (env.map λp=>(p.1,p.2.loose)) t=(look env t).map SV.loose:=by
 induction env with
 |nil=>rfl
 |cons p r a=>
  grind [look]
theorem Dt(v:SV):v.loose.loose=v.loose:=by
 cases v with
 |aH r p o l=>cases r <;>rfl
 |loc r p i o=>cases r <;>rfl
 |_=>rfl
theorem NA(h:KR A ρ S hd fl k ay w){env:J (Nat×SV)}{tmps:Array Vz}(hv:∀t,SO (am A k.H.length ρ S fl w) k.get hd ((look env t).getD .dead) (tmps.getD t undef)){c:Cx}(hx:Ext (am A k.H.length ρ S fl w) c)(hk:∀r,∀b∈S r,c.w.heap[b]? =w.heap[b]?):FrOK c (ownL S k.ct) (env.map λp=>(p.1,p.2.loose)) k.ct tmps:=by
 refine⟨λx=>S (.l x.1 x.2),λx=>hd (.l x.1 x.2),rfl,λx t y=>TC.ext hx _ _ _ (λb f=>hk _ b f) (h.cont (.l x.1 x.2) t y),λp D=> ?_,λt=> ?_⟩
 .grind [Dt]
 .rw[PE]
  have:=hv t
  have a:∀n j q,wV (am A k.H.length ρ S fl w) c k.get (Go.Am.cont k.ct []) hd (VM λx=>hd (.l x.1 x.2)) (.l n j) q:=λn j q t0 v g s=>by
   refine⟨t0,v,g,s,.refl _,λz m=> ?_⟩
   exact aI.ext q t0 _ z _ (h.cont (.l n j) t0 g) (λb f=>hk _ b f) m
  cases B:look env t with
  |none=>trivial
  |some u=>
   rw[B]at this
   simp only[gZ,xQ]at this |-
   cases u with
   |d x=>exact VV.ext hx this
   |aH r p e C=>
    cases r with
    |l n j=>exact SB.bS (a n j p) this
    |o n=>trivial
   |loc r p i e=>
    cases r with
    |l n j=>exact SB.bL (a n j p) this
    |o n=>trivial
   |_=>trivial
theorem TN{call:dH}(hc:gK P G call)(hG:GA G A){hint:Hint}{f:Oz}{ps:Array Nat}{x y:Code}{s s':St}{ex:Ex}{i:Act}{Q:Exit->Act->Wz->Prop}(hs:SR A s i w)(hk:ek i.tmps.size (.rangeFunc f ps x y)=true)(e:kX call hint f ps.toList x y s=some (ex,s'))
  (hQ:∀A' a' w',A'.le A->GA G A'->SR A' s' a' w'->Kc hint.nest A A' i [] a'->ex=.normal->Q .normal a' w'):(Code.rangeFunc f ps x y).wpIn (FW none) 0 P Q i w:=by
 obtain⟨ρ,S,hd,h,hv⟩:=hs;unfold kX at e
 split at e
 .cases e
 rename_i L
 split at e
 .rename_i g first ax hf
  split at e
  .cases e
  rename_i hy;simp only[xB]at e
  obtain⟨⟨rs,H2⟩,e1,e⟩:=e;simp only at e
  split at e
  .rename_i g' aZ x' y' env ct V
   split at e
   .rename_i aT
    simp only[xJ,pJ]at e
    obtain⟨rfl,rfl⟩:=e;have af:=SR.val hv f;rw[hf]at af
    have C:=VV.inv (c:=am A s.H.length ρ S [] w) af (by simp)
    simp only[VC,xC,and_true]at C
    obtain⟨av,bv,al,ha,m⟩:=C;refine wpIn_rangeFunc λfn _=> ?_
    let a:=w.alloc (.deferred (some []))
    let R:Loop:={state:=.ready,pending:=none,fn,tmps:=i.tmps,params:=ps,assign:=x,body:=y,defers:=w.heap.size}
    let k:=a.alloc (.loop R)
    have ah:a.heap.size=w.heap.size+1:=by simp[a]
    obtain⟨k1,x1⟩:=KR.alloc (M:=[]) (fl:=[]) (by simpa using h) (.deferred (some []))
    have aa:KR A ρ S hd ([w.heap.size]++[]) s.wk [] a:=by simpa using k1
    obtain⟨k2,ak,aH⟩:=KR.dx aa;have G1:=GA.dx hG aa;obtain⟨k3,x3⟩:=KR.alloc (M:=[]) (fl:=[]) (by simpa using k2) (.loop R)
    have ay:KR (A.dx S [] [w.heap.size] a s.wk.H.length ρ) ρ S hd [a.heap.size] s.wk [] k:=by simpa using k3
    obtain⟨k4,aL⟩:=ay.gather;obtain⟨k5,aQ⟩:=k4.perm (fl':=(a.heap.size::ownL S s.wk.ct)++[]) (by simp)
    have xx:Ext (am A s.H.length ρ S [] w) (am (A.dx S [] [w.heap.size] a s.wk.H.length ρ) s.H.length ρ (soO S) ((a.heap.size::ownL S s.wk.ct)++[]) k):=by
     have E:Ext (am A s.H.length ρ S [] w) (am A s.H.length ρ S ([w.heap.size]++[]) a):=x1;have q2:Ext (am (A.dx S [] [w.heap.size] a s.wk.H.length ρ) s.H.length ρ S [] a) (am (A.dx S [] [w.heap.size] a s.wk.H.length ρ) s.H.length ρ S [a.heap.size] k):=x3
     exact((E.trans (.of aH.symm)).trans q2).trans ((Ext.of aL.symm).trans (.of aQ))
    have ac:∀r,∀b∈S r,k.heap[b]? =w.heap[b]? :=λr b m=>by
     have aV:=(h.bU b (.inl ⟨r,m⟩)).1
     grind [Below.heap_alloc]
    have aN:=NA h (env:=s.env) (tmps:=i.tmps) hv xx ac
    let W:Ob:=.frame hint.self ps.toList x y (s.env.map λp=>(p.1,p.2.loose)) s.ct
    have aq:ObOK (am (A.dx S [] [w.heap.size] a s.wk.H.length ρ) s.H.length ρ (soO S) ((a.heap.size::ownL S s.wk.ct)++[]) k) a.heap.size (ownL S s.wk.ct) W:=⟨R,heap_alloc_new a _,rfl,rfl,rfl,rfl,rfl,aN,by
     simp only[ek,xA,iy,yD]at hk
     exact⟨hk.1.1,hk.1.2,hk.2⟩⟩
    obtain⟨k6,x6⟩:=k5.newOb (N:=a.heap.size::ownL S s.wk.ct) (fl:=[]) W a.heap.size (λz hz=>by simp[W]at hz) (λ_=>⟨_,rfl,aq⟩) (by simp[W])
    obtain⟨k7,aP,ao⟩:=KR.dx (X:=[]) (fl:=[]) (by simpa using k6)
    have G2:=GA.dx (X:=[]) (fl:=[]) G1 (by simpa using k6)
    let n:J Ob:=s.H++[W]
    let j:Nat->Nat:=λo=>if o=s.H.length then a.heap.size else ρ o
    let S1:aj->J Nat:=upd (soO S) (.o s.H.length) (a.heap.size::ownL S s.wk.ct)
    let B:Av:=(A.dx S [] [w.heap.size] a s.wk.H.length ρ).dx S1 [] [] k n.length j
    have ab:B.le A:=Av.le.trans aP ak;have hL:n.length=s.H.length+1:=by simp[n]
    have an:Ext (am (A.dx S [] [w.heap.size] a s.wk.H.length ρ) s.H.length ρ (soO S) ((a.heap.size::ownL S s.wk.ct)++[]) k) (am (A.dx S [] [w.heap.size] a s.wk.H.length ρ) n.length j S1 [] k):=by rw[hL];exact x6
    have ag:Ext (am A s.H.length ρ S [] w) (am B n.length j S1 [] k):=(xx.trans an).trans (.of ao.symm)
    let yv:Vz:=.func (.yield (w.heap.size+1)) #[] #[]
    have D:bf (am B n.length j S1 [] k) (first++[.yld s.H.length]++ax) ((av++ #[yv])++bv).toList:=by
     simp only[Array.toList_append];refine bf.append _ _ _ _ (bf.append _ _ _ _ (bf.ext ag _ _ ha) ?_) (bf.ext ag _ _ m)
     refine⟨_,[],rfl,?_,rfl,rfl⟩
     simp only[VC]
     refine⟨by show s.H.length<n.length;omega,?_⟩
     show yv.cells.toList=[Value.func (.yield (j s.H.length)) #[] #[]];simp[yv,j,ah,Value.cells]
    have d:=hc.2.1 g _ n [] H2 e1 B S1 _ _ rfl G2 k7 D;have ad:=hc.1 _ _ _ _ e1;obtain⟨a0,f1,f2,f3⟩:=ad.resolve_left hy;unfold ck at d;rw[if_neg hy]at d
    refine⟨w.heap.size+1,[mkD w.heap.size],k,{target:=.fn (.func g) bv,args:=av++ #[yv]},k,g,(av++ #[yv])++bv,k,run_enterLoop_outer _ _ _ _ _,?_,λ_ _=>trivial,?_,λhh=>by simp[FW,Fence.wide]at hh,kz.2 (Calls.mono d λen O he=> ?_)⟩
    .have aS:i.eval f=.func (.func g) av bv:=al
     have aY:∀v,i.eval (.const v)=v:=λ_=>rfl
     grind [resolve,Deferred.ofValue,Sem.run_pure]
    .grind [invoke,jh]
    .obtain⟨v,H,l,S2,aW,M2,vs,E,q2,rfl⟩:=he
     unfold Ends at H;rw[if_neg (show¬fp []=true by simp[fp])]at H
     subst H;obtain⟨rfl,rfl⟩:=q2;obtain⟨F,n1,r,r1,r2,r3,r4,r5,r6,r7⟩:=E.map _ _ V rfl
     have ai:l s.H.length=a.heap.size:=by
      have:=E.cP.2 s.H.length (by show s.H.length<n.length;omega)
      rw[this];show j s.H.length=_;simp[j]
     have hl:O.heap[a.heap.size]? =some (.loop r):=by rw[<-ai];exact r1
     have aC:r.tmps=i.tmps:=by
      obtain⟨st,pe,hr⟩:=E.fr.recs a.heap.size R (heap_alloc_new a _);rw[hl]at hr
      simp only[xJ,Obj.loop.injEq]at hr
      rw[hr]
     have U:a.heap.size<O.heap.size:=(Array.getElem?_eq_some_iff.1 hl).1
     let I:Wz:=O.putObj a.heap.size (.loop {r with state:=.exhausted})
     refine⟨none,I,?_,?_⟩
     .grind [run_endLoop]
     .have Z:S2 (.o s.H.length)=l s.H.length::F:=n1
      obtain⟨l1,l2⟩:=E.lockMap V rfl Z;have K:=E.bw.nd (.o s.H.length);rw[Z,List.nodup_cons]at K
      obtain⟨m1,m2⟩:=KR.world (w:=O) (w':=I) (M:=l s.H.length::F) (M':=F) (fl:=[]) rfl rfl rfl (by simp[I]) (λb r0 u=>by
       by_cases T:b=a.heap.size
       .subst T
        rw[hl]at u
        simp only[xJ,Obj.loop.injEq]at u
        subst u
        exact⟨.exhausted,r.pending,World.putObj_heap_same U⟩
       .exact⟨r0.state,r0.pending,(World.putObj_heap_other T).trans u⟩) l1 (λb m aJ=>World.putObj_heap_other (λe=>aJ (by grind))) (λb m=>.inl (by simp[m])) K.2
      have hfr:FrOK (am B (H2.set s.H.length .lock).length l (upd S2 (.o s.H.length) []) (F++[]) I) F env ct r.tmps:=by
       have ext:Ext (am B H2.length l S2 [] O) (am B (H2.set s.H.length .lock).length l (upd S2 (.o s.H.length) []) (F++[]) I):=by
        rw[oY];refine l2.trans ?_;have Y:=m2;simp only[oY]at Y
        exact Y
       have kp:∀b∈F,I.heap[b]? =O.heap[b]? :=λb m=>World.putObj_heap_other (λe=>K.1 (by grind))
       exact r7.1.imp kp (λp hp x v e q=>VV.ext ext q) (λp hp cs M' hM q=>TC.ext ext _ _ _ (λb m=>kp b (hM b m)) q)
      obtain⟨S4,aM,u1,_,u2⟩:=KR.ungather (fl:=[]) (by simpa using m1) hfr
      refine hQ B _ I ab G2 ⟨l,S4,aM,u1,λt=> ?_⟩ ⟨rfl,λ_ _=>rfl,⟨[w.heap.size],rfl,by simp,λb m=> ?_⟩,λhq=>absurd hq L⟩ rfl
      .have:=u2 t
       rw[aC]at this
       exact this
      .rw[yQ]at m
       subst m
       refine⟨h.fr.size,λt=>.inl (.inr (by simp)),λho=> ?_,?_,?_⟩
       .have:=k6.bU w.heap.size ho
        exact this.2.1 true (.inr (by simp))
       .show w.heap.size<k.heap.size
        simp[k,a];omega
       .show k.heap[w.heap.size]? =_
        grind [Below.heap_alloc,heap_alloc_new]
   .cases e
  .cases e
 .cases e
structure Shut(l:List Nat)(w w':World):Prop where
 os:w'.os=w.os
 tape:w'.tape=w.tape
 output:w'.output=w.output
 size:w'.heap.size=w.heap.size
 same:∀b,w'.heap[b]? =w.heap[b]? \/b∈l
 recs:cH w w'
theorem AT{fn:Func}{tmps:Array Vz}{R:Ending->Wz->Prop}{u:FrameMode}(hu:u≠ .run){ds:J Deferred}:∀(l:J Nat) (w:Wz),l.Nodup->(∀b∈l,w.heap[b]? =some (.deferred (some [])))->(∀w',Shut l w w'->LeavesInM (FW none) 0 P fn tmps R ds u w')->LeavesInM (FW none) 0 P fn tmps R (l.map mkD++ds) u w
 | [],w,_,_,h=>h w ⟨rfl,rfl,rfl,rfl,λ_=>.inl rfl,.refl _⟩
 |b::l,w,e,i,h=>by
  rw[List.nodup_cons]at e
  have c:=i b (by simp)
  have f:b<w.heap.size:=(Array.getElem?_eq_some_iff.1 c).1
  refine⟨hu,.inl ⟨b,w.putObj b (.deferred none),rfl,run_takeDeferred c,AT hu l _ e.2 (λd hd=> ?_) (λw' a=>h w' ?_)⟩⟩
  .grind [World.putObj_heap_other]
  .refine⟨a.os,a.tape,a.output,a.size.trans World.putObj_size,λd=> ?_,cH.trans (cH.other (g:=b) (λd hd=>World.putObj_heap_other hd) (λr=>by rw[c];simp)) a.recs⟩
   obtain q |q:=a.same d
   .grind [World.putObj_heap_other]
   grind
end
end Go.Am
namespace Go.Am
open Go Go.RowKit Go.ChangeMaps
theorem D!{l:J Qz}{c d e:Nat}{f:TypeId}(h:aeu l=some (c,d,f,e)):∃a b,l=[a,b]/\a.op=.move (.tmp c)/\a.dst=some d/\a.guard=none/\b.op=.range f (.tmp d)/\b.dst=some e/\b.guard=none:=by
 unfold aeu at h
 split at h
 .grind
 .cases h
theorem E_{l:J Qz}{d t c:Nat}(h:aev l=some (d,t,c)):∃a b,l=[a,b]/\a.op=.next (.tmp d) false/\a.dst=some t/\a.guard=none/\b.op=.extract (.tmp t) 0/\b.dst=some c/\b.guard=none:=by
 unfold aev at h
 split at h
 .grind
 .cases h
theorem E?{l:J Qz}{f e x c:Nat}(h:aew l=some (f,e,x,c)):∃a b d,l=[a,b,d]/\a.op=.entry (.tmp f)/\a.dst=some e/\a.guard=none/\b.op=.extract (.tmp e) 0/\b.dst=some x/\b.guard=none/\d.op=.assign (.tmp x)/\d.dst=some c/\d.guard=none:=by
 unfold aew at h
 split at h
 .split at h
  .grind
  .cases h
 .cases h
theorem E!{l:J Qz}{all m c k:Nat}{e:TypeId}(h:aex l=some (all,m,c,k,e)):∃a b d,l=[a,b,d]/\a.op=.move (.tmp all)/\a.dst=some m/\a.guard=none/\b.op=.move (.tmp c)/\b.dst=some k/\b.guard=none/\d.op=.mapUpdate e (.tmp m) (.tmp k) (.const (.bool true))/\d.dst=none/\d.guard=none:=by
 unfold aex at h
 split at h
 .grind
 .cases h
section
variable{P:Pz}{ev:Oz->Vz}{o:Qz}{w w':Wz}{v:Vz}
theorem Kh{x:Oz}(h:o.op=.move x):(execOp ev o).run P w=.ok (.value (ev x)) w:=by
 simp_all [execOp]
theorem TO{x:Oz}(h:o.op=.assign x):(execOp ev o).run P w=.ok (.value (ev x)) w:=by
 simp_all [execOp]
theorem Wu{a:TypeId}{x:Oz}(h:o.op=.range a x)(hr:(Instr.range a (ev x)).run P w=.ok v w'):(execOp ev o).run P w=.ok (.value v) w':=by
 simp_all [execOp]
theorem Ri{b:Bool}{x:Oz}(h:o.op=.next x b)(hr:∀ty,(Instr.next (ev x) b ty).run P w=.ok v w'):(execOp ev o).run P w=.ok (.value v) w':=by
 simp_all [execOp]
theorem Wv{x:Oz}(h:o.op=.entry x)(hr:(Instr.entry (ev x)).run P w=.ok v w'):(execOp ev o).run P w=.ok (.value v) w':=by
 simp_all [execOp]
theorem zr{x:Oz}{n:Nat}{vs:Array Vz}(h:o.op=.extract x n)(hx:ev x=.tuple vs)(hv:vs[n]? =some v):(execOp ev o).run P w=.ok (.value v) w:=by
 simp_all [execOp,Instr.extract]
theorem Ki{a:TypeId}{m k x:Oz}(h:o.op=.mapUpdate a m k x)(hr:(Instr.mapUpdate a (ev m) (ev k) (ev x)).run P w=.ok () w'):(execOp ev o).run P w=.ok .skip w':=by
 simp_all [execOp]
theorem stepV{ops:Array Qz}{Q:Exit->Act->Wz->Prop}{ro:U Nat}{l:J Qz}{a:Act}{n:Next}(e:o.guard=none)(hd:∀c,o.op≠ .defer c)(h:(execOp a.eval o).run P w=.ok n w')(hn:I5 n v)(b:wpListIn (FW ro) 0 P ops Q l (a.put o.dst v) w'):wpListIn (FW ro) 0 P ops Q (o::l) a w:=by
 refine wpListIn_step λK d=> ?_
 have:Region.wanted o (yielded ops a.tmps)=true:=by unfold Region.wanted;rw[e]
 rw[this];simp only[if_true]
 refine⟨λ_ _=>trivial,?_⟩
 rw[Oper.semAt_eq _ _ _ hd,h]
 obtain rfl |⟨rfl,rfl⟩:=hn
 .exact d _ _ b
 .exact d _ _ b
theorem AU{id:Nat}{ops:Array Qz}{l:J Qz}{Q:Exit->Act->Wz->Prop}{ro:U Nat}{a:Act}(hl:ops.toList=l)(h:wpListIn (FW ro) 0 P ops Q l a w):(Code.region id ops false).wpIn (FW ro) 0 P Q a w:=
 wpIn_region (by rw[nq,<-yF,wpOpsIn_eq_wpListIn ops.toList 0 (by simp),hl];exact h)
end
theorem kZ{a:Act}{d:Nat}{v:Vz}(h:d<a.tmps.size):(a.put (some d) v).eval (.tmp d)=v:=by
 show(a.tmps.setIfInBounds d v).getD d undef=v
 simp[h]
theorem Du{a:Act}{d t:Nat}{v:Vz}(h:d≠t):(a.put (some d) v).eval (.tmp t)=a.eval (.tmp t):=by
 show(a.tmps.setIfInBounds d v).getD t undef=a.tmps.getD t undef
 simp_all
theorem Kp.ev{a0 a:Act}{ds:J Nat}(h:Kp a0 ds a){t:Nat}(ht:t∉ds):a.eval (.tmp t)=a0.eval (.tmp t):=by
 show a.tmps.getD t undef=a0.tmps.getD t undef;rw[yB,yB,h.2.2 t ht]
theorem Dv{a:Type}(f:Nat->Bool)(t:Nat):∀l:J (Nat×a),look (l.filter λe=>f e.1) t=if f t=true then look l t else none
 | []=>by simp[look]
 |(k,v)::r=>by
  have:=Dv f t r;grind [look]
def Kj(k:J UInt8):Vz:=.string ⟨k.toArray⟩
theorem NB{c:Cx}:∀(es:J (D×T)) (l:J (J UInt8)) (a:J MapEntry),AF es=some l->All2 (J3 c) es a->(∀z∈a,∃k∈l,z.key=Kj k)/\∀k∈l,∃z∈a,z.key=Kj k
 | [],l,a,e,h=>by
  simp only[AF,xJ]at e
  subst e;rw[show a=[]from h]
  simp
 |(d,t)::es,l,a,e,h=>by
  obtain⟨z,r,rfl,i,h3⟩:=h
  cases d with
  |str k=>
   simp only[AF,xM]at e
   obtain⟨j,n,rfl⟩:=e;obtain⟨u,o⟩:=NB es j r n h3;have g:=VV.inv i (by simp)
   simp only[VC,xC,and_true]at g
   obtain⟨b,m,f⟩:=g;have s:z.key=Kj k:=by rw[m,(MV f).1];rfl
   refine⟨λy p=> ?_,λq v=> ?_⟩
   .grind
   grind
  |_=>simp[AF]at e
theorem SetOf.mem{es:J (D×T)}{ks ks':J (J UInt8)}(h:SetOf es ks)(e:∀k,k∈ks↔k∈ks'):SetOf es ks':=
 ⟨λp a=>by obtain⟨s,d,c⟩:=h.1 p a;grind,λs b=>h.2 s ((e s).2 b)⟩
structure CI(A:Av)(ρ:Nat->Nat)(hd:aj->Value)(s:St)(V:List (SV×Value))(o r b cl:Nat)(en:Array MapEntry)(lo hi:List (List UInt8))(W:List Nat)(a0:Act)(it:Nat)(seen:Array Nat)(a:Act)(w:World):Prop where
 kr:∃S ks,KR A ρ S hd ([r]++[]) {ct:=s.ct,H:=s.H.set o (.sset ks)} V w/\(∀k∈lo,k∈ks)/\(∀k∈ks,k∈hi)/\∀z∈en.toList,seen.contains z.born=true->∃k∈ks,z.key=Kj k
 itr:w.heap[r]? =some (.mapIter (some b) cl seen cl)
 mp:w.heap[b]? =some (.map en cl)
 kp:Kp a0 W a
 hit:a.eval (.tmp it)=.pointer (some ⟨r,0,none⟩)
theorem F_{P:Pz}{x y:Code}{p:Cpy}{A:Av}{s s':St}{ex:Ex}{a:Act}{w:Wz}{ro:U Nat}{Q:Exit->Act->Wz->Prop}(hp:Ge x y=some p)(e:MC P p s=some (ex,s'))(hs:SR A s a w)(hk:ek a.tmps.size (.seq x y)=true)
  (hQ:∀a' w' z,SR A s' a' w'->Kp a (kM (.seq x y)) a'->ajt ex z->Q z a' w'):(Code.seq x y).wpIn (FW ro) 0 P Q a w:=by
 unfold Ge at hp
 split at hp
 rotate_left
 .cases hp
 rename_i i0 o0 bx i1 o1 c' bZ b2 i2 o2 i3 o3;simp only[xB]at hp
 obtain⟨⟨V,G,mt,it⟩,h0,⟨ab,t,c⟩,h1,⟨f,D,C,kv⟩,h2,⟨aM,m,j,k,bY⟩,h3,hp⟩:=hp;simp only at hp
 split at hp
 rotate_left
 .cases hp
 rename_i hc;obtain⟨rfl,rfl,rfl,rfl,rfl,bK,aP,bO⟩:=hc;simp only[xJ]at hp
 subst hp;obtain⟨z1,z2,l0,z3,z4,z5,z6,z7,z8⟩:=D! h0;obtain⟨a1,a2,l1,a3,a4,a5,a6,a7,a8⟩:=E_ h1;obtain⟨b1,bX,b3,l2,b4,b5,b6,b7,b8,b9,b10,b11,b12⟩:=E? h2;obtain⟨d1,d2,d3,l3,d4,d5,d6,d7,d8,d9,aV,ax,bv⟩:=E! h3
 have hW:∀q∈[G,f,t,c',D,C,j,m,k],q∈kM (.seq (.region i0 o0 false) (.block bx (.loop (.seq (.region i1 o1 false) (.seq (.cond (.tmp c') .skip (.exit bx)) (.block b2 (.seq (.region i2 o2 false) (.region i3 o3 false)))))))):=by
  intro q hq;simp only[kM,l0,l1,l2,l3,List.filterMap_cons,List.filterMap_nil,z4,z7,a4,a7,b5,b8,b11,d5,d8,ax,xD,xY,List.not_mem_nil,or_false]at hq |-
  grind
 have bP:∀q∈[G,f,t,c',D,C,j,m,k],q<a.tmps.size:=by
  simp only[ek,IL,l0,l1,l2,l3,kU,List.all_nil,z4,z7,a4,a7,b5,b8,b11,d5,d8,ax,xA,yD,Bool.and_true]at hk
  intro q hq;simp only[xY,List.not_mem_nil,or_false]at hq
  grind
 simp only[MC]at e
 split at e
 rotate_left
 .cases e
 rename_i q o hq ho
 split at e
 rotate_left
 .cases e
 rename_i es E be aC
 split at e
 rotate_left
 .cases e
 rename_i an;simp only[xM,pJ]at e
 obtain⟨l,hl,rfl,rfl⟩:=e;obtain⟨bG,Y⟩:=an;obtain⟨⟨bj,bJ⟩,bt⟩:=Option.isSome_iff_exists.1 bG;simp only[xB]at Y
 obtain⟨⟨kt,el⟩,bb,bp⟩:=Y;have bl:=um bt;have bF:=um bb
 have ai:∀s:J UInt8,(eC P kt (.str s) (.str s)).isSome=true:=λs=>by
  simp only[eC];rw[bp];rfl
 obtain⟨ρ,S0,hd,h,hv⟩:=hs
 have bH:a.eval (.tmp V)=.map (some (ρ q)):=by
  have:=hv V
  rw[hq]at this
  have:=VV.inv this (by simp)
  simp only[VC,xC,and_true]at this
  exact this.2
 have bL:a.eval (.tmp aM)=.map (some (ρ o)):=by
  have:=hv aM
  rw[ho]at this
  have:=VV.inv this (by simp)
  simp only[VC,xC,and_true]at this
  exact this.2
 have hV:KR A ρ S0 hd ([]++[]) s.wk (s.env.map λp=>(s.get p.1,a.tmps.getD p.1 undef)) w:=h.dq (λp hp=>by
  obtain⟨u,_,rfl⟩:=List.mem_map.1 hp
  exact hv u.1)
 obtain⟨N,m1,L,i,m2,m3,m4⟩:=hV.map q _ be rfl;obtain⟨X,st⟩:=m2;obtain⟨aQ,bW⟩:=NB es l L.toList hl m3;obtain⟨N',n1,_⟩:=hV.map o _ aC rfl
 have ca:ρ q≠ρ o:=λq'=>by
  have:=hV.bw.one (.o q) (.o o) (ρ q) (by rw[m1];simp) (by rw[n1,q'];simp)
  grind
 have aZ:ρ q<w.heap.size:=(Array.getElem?_eq_some_iff.1 X).1;have bN:ρ o<w.heap.size:=(hV.bU (ρ o) (.inl ⟨.o o,by rw[n1];simp⟩)).1
 have ag:o<s.H.length:=(List.getElem?_eq_some_iff.1 aC).1
 -- the going through begins
 refine wpIn_seq (AU l0 ?_);refine stepV z5 (by rw[z3];simp) (Kh z3) (.inl rfl) ?_
 rw[z4];have e1:(a.put (some G) (a.eval (.tmp V))).eval (.tmp G)=.map (some (ρ q)):=by rw[kZ (bP G (by simp)),bH]
 refine stepV z8 (by rw[z6];simp) (Wu z6 (by rw[e1];exact run_range_map w mt bj bJ (ρ q) L i bl X)) (.inl rfl) ?_
 rw[z7];obtain⟨g1,_⟩:=KR.alloc hV (.mapIter (some (ρ q)) i #[] i);generalize hr:w.heap.size=r at g1 |-
 have aq:s.H.set o (.sset E)=s.H:=AL aC
 have I:CI A ρ hd s (s.env.map λp=>(s.get p.1,a.tmps.getD p.1 undef)) o r (ρ q) i L E (l++E) [G,f,t,c',D,C,j,m,k] a f #[] ((a.put (some G) (a.eval (.tmp V))).put (some f) (.pointer (some ⟨r,0,none⟩))) (w.alloc (.mapIter (some (ρ q)) i #[] i)):=by
  refine⟨⟨S0,E,by rw[aq];exact g1,λ_ h=>h,λk hk=>xR _ hk,by simp⟩,?_,?_,?_,?_⟩
  .grind [heap_alloc_new]
  .exact(Below.heap_alloc w _ _ aZ).trans X
  .exact((Kp.refl a _).put (by simp) _).put (by simp) _
  .grind [kZ,mE]
 have b0:r≠ρ o:=by omega
 have bk:r≠ρ q:=by omega
 refine wpIn_block (wpIn_loop_rounds ((leftOf L #[]).size+1) ?_)
 revert I
 generalize ((a.put (some G) (a.eval (.tmp V))).put (some f) (.pointer (some ⟨r,0,none⟩)))=O;generalize w.alloc (.mapIter (some (ρ q)) i #[] i)=B;intro I
 have aN:∀(n:Nat) (d:Array Nat) (O:Act) (B:Wz),CI A ρ hd s (s.env.map λp=>(s.get p.1,a.tmps.getD p.1 undef)) o r (ρ q) i L E (l++E) [G,f,t,c',D,C,j,m,k] a f d O B->(leftOf L d).size<n->
   Code.roundsIn (FW ro) 0 P (.seq (.region i1 o1 false) (.seq (.cond (.tmp c') .skip (.exit bx)) (.block b2 (.seq (.region i2 o2 false) (.region i3 o3 false))))) (Exit.inBlock bx Q) n O B:=by
  intro n
  induction n with
  |zero=>grind
  |succ n ih=>
   intro d O B ci bR;obtain⟨⟨S,ks,g,c1,c2,c3⟩,c4,c5,c6,c7⟩:=ci;have sz:O.tmps.size=a.tmps.size:=c6.2.1;rw[roundsIn_succ];refine wpIn_seq (AU l1 ?_)
   rcases run_next_at (P:=P) B 0 r (ρ q) i i d L i c4 c5 st.lt (dC _)with⟨hz,_⟩ |⟨z,hz,F,aa,_⟩
   ·-- it ends
    have hn:∀ty,(Instr.next (O.eval (.tmp f)) false ty).run P B=.ok (.tuple #[.bool false]) B:=λty=>by
     rw[c7]
     rcases run_next_at (P:=P) B ty r (ρ q) i i d L i c4 c5 st.lt (dC _)with⟨_,aS⟩ |⟨z,bS,_⟩
     .exact aS
     grind
    refine stepV a5 (by rw[a3];simp) (Ri a3 hn) (.inl rfl) ?_
    rw[a4];refine stepV a8 (by rw[a6];simp) (zr (v:=.bool false) a6 (kZ (by simp_all)) rfl) (.inl rfl) ?_
    rw[a7];refine wpIn_seq (wpIn_cond_false (kZ (by simp_all [mE])) (wpIn_exit ?_))
    have kp:Kp a [G,f,t,c',D,C,j,m,k] ((O.put (some t) (.tuple #[.bool false])).put (some c') (.bool false)):=(c6.put (by simp) _).put (by simp) _
    generalize ((O.put (some t) (.tuple #[.bool false])).put (some c') (.bool false))=af at kp |-
    simp only[Exit.then,Exit.inBlock,if_true]
    refine hQ _ _ _ ?_ (kp.more hW) rfl;obtain⟨g2,_⟩:=g.letGo (fl':=[]) List.nodup_nil (by simp)
    have hm:({ct:=s.ct,H:=s.H.set o (.sset ks)}:Wk).H[o]? =some (.sset ks):=yK ag;obtain⟨M,p1,aL,br,bB,p2,p3,p4,p5⟩:=g2.map o _ hm rfl
    have p6:SetOf aL (l++E):=p5.mem λkk=>⟨c2 kk,λaH=>by
     grind [all_seen,Kj]⟩
    have g3:=g2.reob (ob':=.sset (l++E)) hm rfl rfl ⟨M,p1,aL,br,bB,p2,p3,p4,p6⟩;simp only[List.set_set]at g3
    refine⟨ρ,S,hd,g3.hush,λu=> ?_⟩
    show SO _ _ _ ((look (s.env.filter λe=> ![G,f,t,c',D,C,j,m,k].contains e.1) u).getD .dead) _
    rw[Dv (λn=> ![G,f,t,c',D,C,j,m,k].contains n)]
    split
    .rename_i hu
     cases ba:look s.env u with
     |none=>trivial
     |some sv=>
      have a0:=Na ba;obtain⟨pr,bA,rfl⟩:=List.mem_map.1 a0
      have:=g3.ay _ (List.mem_map.2 ⟨pr,bA,rfl⟩)
      have aY:s.get pr.1=sv:=by show(look s.env pr.1).getD .dead=sv;rw[ba];rfl
      simp only[aY]at this
      have bi:af.tmps.getD pr.1 undef=a.tmps.getD pr.1 undef:=kp.ev (t:=pr.1) (by simpa using hu)
      rw[bi];exact this
    .trivial
   ·-- one key more
    obtain⟨K,aT⟩:=mem_left hz;obtain⟨kk,aH,aJ⟩:=aQ z K;clear aa
    have bh:∃z∈(leftOf L d).toList,∃F:Wz,(F=B\/F=B.drew)/\∀ty,(Instr.next (O.eval (.tmp f)) false ty).run P B=.ok (.tuple #[.bool true,z.key,z.val]) (setBlock F r (.mapIter (some (ρ q)) i (d.push z.born) i)):=by
     rcases run_next_at (P:=P) B 0 r (ρ q) i i d L i c4 c5 st.lt (dC _)with⟨q1,_⟩ |⟨z',q1,bs,q2,q3⟩
     .grind
     .exact⟨z',q1,bs,q2,λty=>by rw[c7];exact q3⟩
    clear K aT aH aJ;obtain⟨z,hz,F,aa,hn⟩:=bh;obtain⟨K,aT⟩:=mem_left hz;obtain⟨kk,aH,aJ⟩:=aQ z K;refine stepV a5 (by rw[a3];simp) (Ri a3 hn) (.inl rfl) ?_
    rw[a4];refine stepV a8 (by rw[a6];simp) (zr (v:=.bool true) a6 (kZ (by simp_all)) rfl) (.inl rfl) ?_
    rw[a7];have ak:r<B.heap.size:=(Array.getElem?_eq_some_iff.1 c4).1
    have W:F.os=B.os/\F.tape=B.tape/\F.output=B.output/\F.heap=B.heap:=by
     rcases aa with rfl |rfl <;>exact⟨rfl,rfl,rfl,rfl⟩
    clear aa
    have ad:∀b,b≠r->(setBlock F r (.mapIter (some (ρ q)) i (d.push z.born) i)).heap[b]? =B.heap[b]? :=λb X=>by
     grind [setBlock]
    have bc:(setBlock F r (.mapIter (some (ρ q)) i (d.push z.born) i)).heap[r]? =some (.mapIter (some (ρ q)) i (d.push z.born) i):=by
     rw[<-W.2.2.2]at ak
     simp[setBlock,ak]
    have R:(setBlock F r (.mapIter (some (ρ q)) i (d.push z.born) i)).os=B.os/\(setBlock F r (.mapIter (some (ρ q)) i (d.push z.born) i)).tape=B.tape/\(setBlock F r (.mapIter (some (ρ q)) i (d.push z.born) i)).output=B.output/\B.heap.size<=(setBlock F r (.mapIter (some (ρ q)) i (d.push z.born) i)).heap.size:=by
     refine⟨W.1,W.2.1,W.2.2.1,?_⟩
     rw[<-W.2.2.2];simp[setBlock]
    generalize setBlock F r (.mapIter (some (ρ q)) i (d.push z.born) i)=w2 at ad bc R |-
    obtain⟨g2,_⟩:=KR.world (w:=B) (w':=w2) (M:=[r]) (M':=[r]) R.1 R.2.1 R.2.2.1 R.2.2.2 (cH.other (g:=r) (λb X=>ad b X) (λr'=>by rw[c4];simp)) g (λb _ X=>ad b (by simpa using X)) (λb X=>.inl X) (by simp)
    have Y:w2.heap[ρ q]? =some (.map L i):=(ad _ bk.symm).trans c5;have hm:({ct:=s.ct,H:=s.H.set o (.sset ks)}:Wk).H[o]? =some (.sset ks):=yK ag;obtain⟨aL,q1,g3⟩:=g2.unset hm;obtain⟨bM,q2,q3⟩:=q1.put (ks':=kk::ks) (y:=.bool true) (ai kk) rfl;obtain⟨w4,S4,r1,r2,r3⟩:=Cc (P:=P) (o:=o) (fl:=[r]++[]) (vv:=.bool true) (xv:=Kj kk) g3 bF (ai kk) (VV.cW true) (VV.one (by grind [VC,Kj]) (by simp)) (by simp[ag]) q2
    have r4:=r2.reset (o:=o) (es:=bM) (ks:=kk::ks) (by simp[ag]) q3
    simp only[List.set_set]at r4
    -- the ways of the code
    have n1:∀{u v:Nat},u∈[G,f,t,c',D,C,j,m,k]->v∉[G,f,t,c',D,C,j,m,k]->u≠v:=λhu hv e=>hv (e▸hu)
    simp only[List.nodup_cons,xY,List.not_mem_nil,or_false,not_or,not_false_eq_true,List.nodup_nil,and_true]at bK
    have av:Kp a [G,f,t,c',D,C,j,m,k] ((O.put (some t) (.tuple #[.bool true,z.key,z.val])).put (some c') (.bool true)):=(c6.put (by simp) _).put (by simp) _
    have ab:((O.put (some t) (.tuple #[.bool true,z.key,z.val])).put (some c') (.bool true)).eval (.tmp f)=.pointer (some ⟨r,0,none⟩):=by
     rw[Du (by grind),Du (by grind)];exact c7
    refine wpIn_seq (wpIn_cond_true (kZ (by rw[mE,sz];exact bP c' (by simp))) (wpIn_skip ?_))
    generalize ((O.put (some t) (.tuple #[.bool true,z.key,z.val])).put (some c') (.bool true))=ac1 at av ab |-
    have ao:ac1.tmps.size=a.tmps.size:=av.2.1;refine wpIn_block (wpIn_seq (AU l2 ?_));refine stepV b6 (by rw[b4];simp) (Wv b4 (by rw[ab];exact run_entry_at w2 r (ρ q) i d L i z bc Y K st.nd)) (.inl rfl) ?_
    rw[b5];refine stepV b9 (by rw[b7];simp) (zr (v:=z.key) b7 (kZ (by rw[ao];exact bP D (by simp))) rfl) (.inl rfl) ?_
    rw[b8];refine stepV b12 (by rw[b10];simp) (TO b10) (.inl rfl) ?_
    rw[b11,kZ (by rw[mE,ao];exact bP C (by simp))]
    have Z:Kp a [G,f,t,c',D,C,j,m,k] (((ac1.put (some D) (.tuple #[z.key,z.val])).put (some C) z.key).put (some j) z.key):=((av.put (by simp) _).put (by simp) _).put (by simp) _
    have bd:(((ac1.put (some D) (.tuple #[z.key,z.val])).put (some C) z.key).put (some j) z.key).eval (.tmp f)=.pointer (some ⟨r,0,none⟩):=by
     rw[Du (by grind),Du (by grind),Du (by grind)];exact ab
    have al:(((ac1.put (some D) (.tuple #[z.key,z.val])).put (some C) z.key).put (some j) z.key).eval (.tmp j)=z.key:=kZ (by rw[mE,mE,ao];exact bP j (by simp))
    have ah:(((ac1.put (some D) (.tuple #[z.key,z.val])).put (some C) z.key).put (some j) z.key).eval (.tmp aM)=.map (some (ρ o)):=by rw[Z.ev aP];exact bL
    generalize (((ac1.put (some D) (.tuple #[z.key,z.val])).put (some C) z.key).put (some j) z.key)=ac2 at Z bd al ah |-
    have aW:ac2.tmps.size=a.tmps.size:=Z.2.1;refine AU l3 ?_;refine stepV d6 (by rw[d4];simp) (Kh d4) (.inl rfl) ?_
    rw[d5,ah];refine stepV d9 (by rw[d7];simp) (Kh d7) (.inl rfl) ?_
    rw[d8,Du (by grind),al,aJ]
    refine stepV bv (by rw[aV];simp) (Ki (w':=w4) aV (by
     rw[kZ (by rw[mE,aW];exact bP k (by simp)),Du (by grind),kZ (by rw[aW];exact bP m (by simp))]
     exact r1)) (.inr ⟨rfl,rfl⟩) ?_
    rw[ax];refine ih (d.push z.born) _ w4 ⟨⟨S4,kk::ks,r4,λx hx=>by simp[c1 x hx],λx hx=> ?_,λy hy T=> ?_⟩,?_,?_,?_,?_⟩ (by have:=left_shrinks L d z hz;omega)
    .grind
    .rw[contains_push,ic,beq_iff_eq]at T
     obtain T |T:=T
     .grind
     .have:y=z:=born_inj st.nd hy K T
      grind
    .grind
    .grind
    .exact((Z.put (by simp) _).put (by simp) _).put (by simp) _
    .show(((ac2.put (some m) (.map (some (ρ o)))).put (some k) (Kj kk)).put none undef).eval (.tmp f)=_
     show((ac2.put (some m) (.map (some (ρ o)))).put (some k) (Kj kk)).eval (.tmp f)=_
     grind [Du]
 exact aN _ _ _ _ I (Nat.lt_succ_self _)
end Go.Am
namespace Go.Am
open Go Go.RowKit
section
variable{P:Pz}{A:Av}{call:dH}{hint:Hint}
theorem Jn{c c':Cf}(q:Eqv c c')(live:J Nat):prune live c'.1=prune live c.1:=by
 have:(live.map λt=>(t,c'.1.get t))=live.map λt=>(t,c.1.get t):=lY λt _=>by rw[q.get]
 have a:∀l,pick c'.1.ct l=pick c.1.ct l:=λl=>by
  induction l with
  |nil=>rfl
  |cons x l b=>simp only[pick,q.ct,b]
 simp only[Go.Am.prune,this,a,q.H]
theorem G4{n:Nat}{ops:Array Qz}(h:IL n ops=true):∀o∈ops.toList,∀d,o.dst=some d->d<n:=λo a d hd=>by
 have:=List.all_eq_true.1 h o a
 grind
theorem Dw{G:Nat->U D}(hc:gK P G call)(hG:GA G A)(b:∀g d,hint.gl g=some d->G g=some d){id:Nat}{ops:Array Qz}{ro:U Nat}{Q:Exit->Act->Wz->Prop}{s s':St}{a:Act}{ds:J Nat}{w:Wz}(f:SR A s a w)(hd:∀o∈ops.toList,∀d,o.dst=some d->d∈ds/\d<a.tmps.size)
  (e:fo P call hint ops.toList ops.toList s=some s') (h:∀c w',SR A s' c w'->Kp a ds c->Q .normal c w'):(Code.region id ops false).wpIn (FW ro) 0 P Q a w:=
 wpIn_region (by rw[nq,<-yF,wpOpsIn_eq_wpListIn ops.toList 0 (by simp)];exact Jl (hint:=hint) hc hG b ops.toList f (.refl _ _) hd e h)
theorem PF{G:Nat->U D}(hc:gK P G call)(hG:GA G A)(f:∀g d,hint.gl g=some d->G g=some d){id:Nat}{ops:Array Qz}{ro:U Nat}{Q:Exit->Act->Wz->Prop}{s s':St}{t:U D}{a:Act}{ds:J Nat}{w:Wz}(h:SR A s a w)(hd:∀o∈ops.toList,∀d,o.dst=some d->d∈ds/\d<a.tmps.size)
  (e:gJ P call hint ops.toList ops.toList s=some (t,s')) (i:t=none->∀b w',SR A s' b w'->Kp a ds b->Q .normal b w') (hP:∀d,t=some d->∀x b w',SR A s' b w'->Kp a ds b->(∀c,VV c d x)->Q (.panic [{v:=x,recovered:=false}]) b w'):(Code.region id ops false).wpIn (FW ro) 0 P Q a w:=
 wpIn_region (by rw[nq,<-yF,wpOpsIn_eq_wpListIn ops.toList 0 (by simp)];exact zh (hint:=hint) hc hG f ops.toList h (.refl _ _) hd e i hP)
theorem PG{ro:U Nat}{Q:Exit->Act->Wz->Prop}{a:Act}{w:Wz}{c:Code}(h:c.wpIn (FW ro) 0 P (Exit.noGoto Q) a w):(Code.scope c).wpIn (FW ro) 0 P Q a w:=by
 intro b k g p q n;obtain⟨e,f,w',m,d⟩:=h b (.inScope c::k) g p q n;have i:step P (lone (b.atR a (.code (.scope c)::k)) g w)=.next (lone (b.atR a (.code c:: .inScope c::k)) g w):=step_lone_go (by simp[stepG,stepG.exec,Frame.atR])
 have j:step P (lone (b.atR f (.inScope c::k)) g w')=.next (lone (b.atR f k) g w'):=step_lone_go (by simp[stepG,stepG.exec,Frame.atR])
 have o:StepsIn (Machine.fenced P (FW ro)) P (lone (b.atR a (.code (.scope c)::k)) g w) (lone (b.atR a (.code c:: .inScope c::k)) g w):=.one (fenced_calm q n rfl) i
 cases e with
 |normal=>exact⟨.normal,f,w',m,StepsIn.trans o (StepsIn.trans d (.one (fenced_calm (fr:=b.atR f (.inScope c::k)) q n rfl) j))⟩
 |goto l=>exact m.elim
 |exit id=>exact⟨.exit id,f,w',m,.of_steps o ⟨λk' hk=>d.1 k' (by simp[exitTo,hk]),λn hk=>d.2 n (by simp[exitTo,hk])⟩⟩
 |ret=>exact⟨_,f,w',m,.of_steps o d⟩
 |panic r=>exact⟨_,f,w',m,.of_steps o d⟩
 |outgrown=>exact⟨_,f,w',m,.of_steps o d⟩
theorem SR.le{s:St}{a:Act}{w:Wz}(b:SR A s a w):A.le A:=by
 obtain⟨ρ,S,hd,h,_⟩:=b;exact .refl h
theorem n9{n:Nat}{ops:Array Qz}(h:IL n ops=true):∀o∈ops.toList,∀d,o.dst=some d->d∈ops.toList.filterMap (·.dst)/\d<n:=λo a d hd=>⟨List.mem_filterMap.2 ⟨o,a,hd⟩,G4 h o a d hd⟩
theorem iX{G:Nat->U D}(hc:gK P G call)(r:∀g d,hint.gl g=some d->G g=some d)(N:P.follows .mixedOrders=true)(i:Nat){ro:U Nat}(C:hint.nest=true\/ro=none):∀(c:Code) {A:Av} {s s':St} {E:Ex} {a:Act} {w:Wz} {Q:Exit->Act->Wz->Prop},GA G A->ec P call hint i c s=some (E,s')->SR A s a w->ek a.tmps.size c=true->
  (∀A' j w' x,A'.le A->GA G A'->SR A' s' j w'->Kc hint.nest A A' a (kM c) j->ajt E x->Q x j w')->c.wpIn (FW ro) 0 P Q a w
 | .skip,A,s,s',E,a,w,Q,hG,e,b,hk,m=>by
  simp only[ec,xJ,pJ]at e
  obtain⟨rfl,rfl⟩:=e;exact wpIn_skip (m A a w _ b.le hG b (.refl _ _) rfl)
 | .label l,A,s,s',E,a,w,Q,hG,e,b,hk,m=>by
  simp only[ec,xJ,pJ]at e
  obtain⟨rfl,rfl⟩:=e;exact wpIn_label (m A a w _ b.le hG b (.refl _ _) rfl)
 | .ret,A,s,s',E,a,w,Q,hG,e,b,hk,m=>by
  simp only[ec,xJ,pJ]at e
  obtain⟨rfl,rfl⟩:=e;exact wpIn_ret (m A a w _ b.le hG b (.refl _ _) rfl)
 | .exit id,A,s,s',E,a,w,Q,hG,e,b,hk,m=>by
  simp only[ec,xJ,pJ]at e
  obtain⟨rfl,rfl⟩:=e;exact wpIn_exit (m A a w _ b.le hG b (.refl _ _) rfl)
 | .region id ak dr,A,s,s',E,a,w,Q,hG,e,b,hk,m=>by
  simp only[ek]at hk
  simp only[ec]at e
  cases dr with
  |true=>
   simp only[if_true]at e
   split at e
   .rename_i t K
    simp only[xB,xM,pJ]at e
    obtain⟨bs,hb,V,L,rfl,rfl⟩:=e;obtain⟨rt,r1,r2⟩:=G0 t [] V L;refine Dr hc hG r N b (n9 hk) hb r1 (RT.Ends.imp (λc0 ag c2 j w' q1 O q3=>m A j w' _ b.le hG ?_ (.of q3) rfl) rt r2)
    rw[<-ag,<-Jn q1];exact O.prune _
   simp only[xB]at e
   obtain⟨⟨c',fs⟩,L,e⟩:=e;simp only at e
   split at e
   .rename_i af
    simp only[xJ,pJ]at e
    obtain⟨rfl,rfl⟩:=e;refine PD hc hG r N b (n9 hk) L af λc2 j w' q1 O q3=>m A j w' _ b.le hG ?_ (.of q3) rfl
    rw[<-Jn q1];exact O.prune _
   .cases e
  |false=>
   simp only[xH,if_false]at e
   split at e
   .simp only[xM]at e
    obtain⟨⟨t,V⟩,L,q⟩:=e;refine PF hc hG r b (n9 hk) L (λK j w' O q3=> ?_) (λd K x j w' O q3 q4=> ?_)
    .subst K
     simp only[pJ]at q
     obtain⟨rfl,rfl⟩:=q;exact m A j w' _ b.le hG (O.prune _) (.of q3) rfl
    .subst K
     simp only[pJ]at q
     obtain⟨rfl,rfl⟩:=q;exact m A j w' _ b.le hG O (.of q3) ⟨x,rfl,q4⟩
   .simp only[xM,pJ]at e
    obtain⟨V,L,rfl,rfl⟩:=e;exact Dw hc hG r b (n9 hk) L λj w' O q3=>m A j w' _ b.le hG (O.prune _) (.of q3) rfl
 | .seq x y,A,s,s',E,a,w,Q,hG,e,b,hk,m=>by
  simp only[ec]at e
  cases hp:Ge x y with
  |some p=>
   rw[hp]at e
   exact F_ hp e b hk λj w' x B F o=>m A j w' x b.le hG B (.of F) o
  |none=>
  rw[hp]at e
  simp only[ek,xA]at hk
  simp only[xB]at e
  obtain⟨⟨M,V⟩,L,q⟩:=e;refine wpIn_seq (iX hc r N i C x hG L b hk.1 λJ j w' z u I B F o=> ?_)
  simp only at q
  split at q
  .have:z=.normal:=o
   subst this;exact iX hc r N i C y I q B (by rw[F.size];exact hk.2) λW a2 w2 z2 R X p1 p2 p3=>m W a2 w2 z2 (R.trans u) X p1 (Kc.trans u R F p2) p3
  .rename_i ai ac
   simp only[xJ,pJ]at q
   obtain⟨rfl,rfl⟩:=q;have k:=F.more (es:=kM (.seq x y)) (λt K=>xL _ K)
   cases M with
   |normal=>grind
   |exit id=>have:z=.exit id:=o;subst this;exact m J j w' _ u I B k rfl
   |ret=>have:z=.ret:=o;subst this;exact m J j w' _ u I B k rfl
   |cQ d=>obtain⟨v,rfl,T⟩:=o;exact m J j w' _ u I B k ⟨v,rfl,T⟩
 | .cond c x y,A,s,s',E,a,w,Q,hG,e,b,hk,m=>by
  simp only[ek,xA]at hk
  simp only[ec]at e
  have ah:=b;obtain⟨ρ,S,hd,h,T⟩:=ah;have Z:=SR.val T c
  split at e
  .rename_i t K
   rw[K]at Z
   refine wpIn_cond (VV.of_bool Z) ?_
   cases t with
   |true=>exact iX hc r N i C x hG e b hk.1 λA' j w' z u I B F o=>m A' j w' z u I B (F.more λt K=>xL _ K) o
   |false=>exact iX hc r N i C y hG e b hk.2 λA' j w' z u I B F o=>m A' j w' z u I B (F.more λt K=>xR _ K) o
  .cases e
 | .block id c,A,s,s',E,a,w,Q,hG,e,b,hk,m=>by
  simp only[ek]at hk
  simp only[ec,xM,pJ]at e
  obtain⟨⟨M,V⟩,L,q,rfl⟩:=e;refine wpIn_block (iX hc r N i C c hG L b hk λJ j w' z u I B F o=> ?_)
  have:=λx=>m J j w' x u I B F
  simp only at q
  cases M with
  |normal=>have H:z=.normal:=o;subst H;subst q;exact this _ rfl
  |ret=>have H:z=.ret:=o;subst H;subst q;exact this _ rfl
  |cQ d=>obtain⟨v,rfl,T⟩:=o;subst q;exact this _ ⟨v,rfl,T⟩
  |exit aa=>
   have H:z=.exit aa:=o;subst H;simp only[Exit.inBlock];simp only[Ex.block]at q
   by_cases ad:aa=id
   .subst ad;rw[if_pos rfl]at q |-;subst q;exact this _ rfl
   grind
 | .loop c,A,s,s',E,a,w,Q,hG,e,b,hk,m=>by
  simp only[ek]at hk
  simp only[ec]at e
  refine wpIn_loop_rounds i ?_
  have ab:∀(n:Nat) (J:Av) (s:St) (Y:Act) (w1:Wz),J.le A->GA G J->mB (ec P call hint i c) n s=some (E,s')->SR J s Y w1->Kc hint.nest A J a (kM c) Y->Code.roundsIn (FW ro) 0 P c Q n Y w1:=by
   intro n
   induction n with
   |zero=>intro J s Y w1 u I e;cases e
   |succ n ih=>
    intro J s Y w1 u I e b h1;simp only[mB,xB]at e
    obtain⟨⟨M,V⟩,L,q⟩:=e;rw[roundsIn_succ];refine iX hc r N i C c I L b (by rw[h1.size];exact hk) λW j w' z R X B F o=> ?_
    have k:=(Kc.trans u R h1 F).more (es:=kM c) (λt K=>(List.mem_append.1 K).elim id id)
    simp only at q
    split at q
    .have H:z=.normal:=o
     subst H;exact ih W V j w' (R.trans u) X q B k
    .rename_i ai ac
     simp only[xJ,pJ]at q
     obtain⟨rfl,rfl⟩:=q
     cases M with
     |normal=>grind
     |exit id=>have H:z=.exit id:=o;subst H;exact m W j w' _ (R.trans u) X B k rfl
     |ret=>have H:z=.ret:=o;subst H;exact m W j w' _ (R.trans u) X B k rfl
     |cQ d=>obtain⟨v,rfl,T⟩:=o;exact m W j w' _ (R.trans u) X B k ⟨v,rfl,T⟩
  exact ab i A s a w b.le hG e b (.refl _ _)
 | .scope c,A,s,s',E,a,w,Q,hG,e,b,hk,m=>by
  simp only[ek]at hk
  simp only[ec]at e
  refine PG (iX hc r N i C c hG e b hk λJ j w' z u I B F o=> ?_)
  have:=m J j w' z u I B F o
  cases E with
  |cQ d=>obtain⟨v,rfl,_⟩:=o;exact this
  |normal=>have H:z=.normal:=o;subst H;exact this
  |ret=>have H:z=.ret:=o;subst H;exact this
  |exit id=>have H:z=.exit id:=o;subst H;exact this
 | .rangeFunc f ps x y,A,s,s',E,a,w,Q,hG,e,b,hk,m=>by
  simp only[ec]at e
  obtain C |rfl:=C
  .grind [kX]
  .refine TN hc hG b hk e λA' j w' u I B F o=>m A' j w' _ u I B F ?_
   subst o;rfl
 |.goto _,A,s,s',E,a,w,Q,hG,e,b,hk,m|.refuse _,A,s,s',E,a,w,Q,hG,e,b,hk,m=>by simp[ec]at e
def F?(tmps:Array Vz):ResultVar->Sem Vz
 | .tmp t=>pure (tmps.getD t undef)
 | .cell p t=>do loadVar t (<-asAddr (tmps.getD p undef))
theorem G7{ρ:Nat->Nat}{S:aj->J Nat}{hd:aj->Vz}{s:St}{a:Act}{w:Wz}(h:KR A ρ S hd [] s.wk [] w)(hv:∀t,SO (am A s.H.length ρ S [] w) s.wk.get hd (s.get t) (a.tmps.getD t undef)):
  ∀(l:J ResultVar) (b:J SV),kh P s l=some b->∃vs:J Vz,(l.mapM (F? a.tmps)).run P w=.ok vs w/\All2 (λu v=>SO (am A s.H.length ρ S [] w) s.wk.get hd u v) b vs
 | [],b,e=>by
  simp only[kh,xJ]at e
  subst e
  exact⟨[],by simp,rfl⟩
 |r::l,b,e=>by
  simp only[kh,xB,xM]at e
  obtain⟨u,f,m,k,rfl⟩:=e;obtain⟨vs,o,i⟩:=G7 h hv l m k
  have c:∃v,(F? a.tmps r).run P w=.ok v w/\SO (am A s.H.length ρ S [] w) s.wk.get hd u v:=by
   cases r with
   |tmp t=>
    simp only[Gf,xJ]at f
    subst f
    exact⟨_,rfl,hv t⟩
   |cell p t=>
    obtain⟨d,j,n⟩:=AH h (hv p) f
    exact⟨d,Wg j,n⟩
  obtain⟨v,q,g⟩:=c
  refine⟨v::vs,?_,v,vs,rfl,g,i⟩
  simp_all
theorem PH{fn:Func}{a:Act}{w:Wz}{vs:J Vz}(h:(fn.results.toList.mapM (F? a.tmps)).run P w=.ok vs w):(results fn a.tmps).run P w=.ok (Tk vs) w:=by
 have e:results fn a.tmps=(do let vs <-fn.results.mapM (F? a.tmps);pure (if h:vs.size=1 then vs[0]else .tuple vs)):=rfl
 rw[e,Array.mapM_eq_mapM_toList,map_eq_pure_bind];simp only[Sem.run_bind,h,Result.andThen_ok,Sem.run_pure]
 match vs with
 | []=>rfl
 | [x]=>rfl
 |x::y::r=>simp[Tk]
theorem Ww{b:Bool}{t:T}{x:D}{v:Vz}(h:T.cR b t=some x)(hf:qw t v):wU x v:=by
 cases t with
 |d y=>simp only[T.cR,xJ]at h;subst h;exact IN hf
 |own c=>simp only[T.cR,xM]at h;obtain⟨l,_,rfl⟩:=h;exact hf
 |agg a=>simp only[T.cR,xM]at h;obtain⟨l,_,rfl⟩:=h;exact hf
 |dead=>simp[T.cR]at h
theorem RetAll.cR{c c':Cx}(hx:Ext c c'):∀(a:J T) (vs:J Vz) (M:J Nat) (xs:J D),T.aZ false a=some xs->Pure c c' false M->RetAll c a vs M->RetAll c' (xs.map T.d) vs []
 | [],vs,M,xs,e,_,h=>by
  simp only[T.aZ,xJ]at e
  subst e;obtain⟨rfl,rfl⟩:=h
  exact⟨rfl,rfl⟩
 |t::a,vs,M,xs,e,b,h=>by
  simp only[T.aZ,xB,xM]at e
  obtain⟨x,d,g,f,rfl⟩:=e;obtain⟨v,r,i,j,rfl,rfl,h3,h4,h5⟩:=h
  exact⟨v,_,[],[],rfl,rfl,by simp only[TC];exact⟨trivial,T.frz_ok hx false t x _ i d b.left h3⟩,Ww d h4,RetAll.cR hx a r j g f b.right h5⟩
theorem RetAll.bZ{c:Cx}(d:∀b,c.pm false b->c.pm true b):∀(xs:J D) (vs:J Vz),RetAll c (xs.map T.d) vs []->RetAll c ((D.bl xs).map T.d) vs []
 | [],vs,h=>h
 |x::xs,vs,h=>by
  obtain⟨v,r,e,a,rfl,f,h3,h4,h5⟩:=h;obtain⟨rfl,rfl⟩:e=[]/\a=[]:=by simpa using f.symm
  simp only[TC]at h3
  exact⟨v,r,[],[],rfl,rfl,by grind [TC,VC.bZ],B2 h4,RetAll.bZ d xs r h5⟩
theorem RetAll.canon{c:Cx}(a:∀b,c.pm false b->c.pm true b){sn:Bool}{xs:J D}{vs:J Vz}(h:RetAll c (xs.map T.d) vs []):RetAll c ((canon sn xs).map T.d) vs []:=by
 grind [Go.Am.canon,RetAll.bZ]
theorem AV{fn:Func}{s:St}{a:Act}{w:Wz}{G:Ex}{own:Bool}{rs:J T}{E:J Ob}(hs:SR A s a w)(Q:G=.normal\/G=.ret)(e:jO P own fn A.n0 (G,s)=some (rs,E)):
  fp rs=false/\∃v,(results fn a.tmps).run P w=.ok v w/\aG A E rs v w:=by
 have X:((kh P s fn.results.toList).bind λb=>(nB b s.wk).bind λ(o,k)=>(settle own o).bind λo=>if fp o=true then none else some (o,lE A.n0 o k.H))=some (rs,E):=by
  rcases Q with rfl |rfl <;>exact e
 simp only[xB]at X
 obtain⟨c,e1,⟨z,k⟩,e2,o,q,y⟩:=X;simp only at q y
 split at y
 .cases y
 rename_i N;simp only[xJ,pJ]at y
 obtain⟨rfl,rfl⟩:=y
 refine⟨by simpa using N,?_⟩
 obtain⟨ρ,S,hd,h,hv⟩:=hs;obtain⟨b,h1,U⟩:=G7 h hv _ _ e1
 refine⟨_,PH h1,?_⟩
 have hk:KR A ρ S hd [] s.wk (c.zip b) w:=h.dq (λp l=>by
  have:∀(c:J SV) (b:J Vz),All2 (λu v=>SO (am A s.H.length ρ S [] w) s.wk.get hd u v) c b->∀p∈c.zip b,SO (am A s.H.length ρ S [] w) s.wk.get hd p.1 p.2:=by
   intro c
   induction c with
   |nil=>simp_all
   |cons u us O=>
    intro b x p l;obtain⟨v,r,rfl,d,f⟩:=x
    obtain rfl |l:=List.mem_cons.1 l
    .exact d
    .exact O r f p l
  exact this c b U p l)
 have C:All2 (λu v=>(u,v)∈c.zip b) c b:=by
  have:∀(c:J SV) (b:J Vz) (L:J (SV×Vz)),All2 (λu v=>SO (am A s.H.length ρ S [] w) s.wk.get hd u v) c b->(∀p∈c.zip b,p∈L)->All2 (λu v=>(u,v)∈L) c b:=by
   intro c
   induction c with
   |nil=>intro b L x _;exact x
   |cons u us O=>
    intro b L x V;obtain⟨v,r,rfl,d,f⟩:=x
    exact⟨v,r,rfl,V _ (by simp),O r L f (λp l=>V p (by simp[l]))⟩
  exact this c b _ U (λp l=>l)
 obtain⟨S1,M1,m,Y,t,g4⟩:=Pt c b z s.wk k S [] hk C e2;rw[gj]at m Y t
 have i:∃M,KR A ρ S1 hd M k (c.zip b) w/\RetAll (am A k.H.length ρ S1 M w) o b M:=by
  unfold settle at q
  split at q
  .grind [RetAll.fresh]
  .simp only[xM]at q
   obtain⟨xs,q,rfl⟩:=q;obtain⟨d,f⟩:=m.letGo (fl':=[]) (by simp) (by simp)
   refine⟨[],d,RetAll.canon (IP _ _ _ _ _ _) (RetAll.cR f z b M1 xs q (λg W=> ?_) t)⟩
   have Z:=m.bU g (.inr W)
   refine⟨⟨λD=> ?_,Z.2.1 _,Z.1⟩,rfl⟩
   obtain⟨r,D⟩ |D:=D
   .exact m.bw.cq r g D W
   grind
 clear m Y t;obtain⟨M,m,t⟩:=i;have R:=m.cP.1
 have n:∃j,KR A ρ j hd M {ct:=[],H:=k.H} [] w/\RetAll (am A k.H.length ρ j M w) o b M:=by
  obtain⟨j,d,f⟩:=m.cut (n2:=k.H.length) (dC _) R (.inl rfl);rw[iz]at d
  exact⟨j,d,RetAll.ext f _ _ _ (λ_ _=>rfl) t⟩
 unfold lE;split
 .obtain⟨j,d,f⟩:=n
  exact⟨ρ,j,hd,M,b,d,f,rfl⟩
 .split
  .rename_i hl
   obtain⟨K,F⟩:=hl;obtain⟨j,d,f⟩:=m.cut (n2:=A.n0) R (dC _) (.inr (λob I=>List.all_eq_true.1 F ob I))
   have B:(k.H.take A.n0).length=A.n0:=by simp;omega
   exact⟨ρ,j,hd,M,b,d,by rw[B];exact RetAll.ext f _ _ _ (λ_ _=>rfl) (RetAll.lo _ _ _ K t),rfl⟩
  .obtain⟨j,d,f⟩:=n
   exact⟨ρ,j,hd,M,b,d,f,rfl⟩
theorem TP{s:St}{a:Act}{w:Wz}{d:D}{x:Vz}(n:SR A s a w)(hx:∀c,VV c d x):aG A (lE A.n0 [.d d] s.H) [.d d,.agg []] (.tuple #[x,.agg #[]]) w:=by
 obtain⟨ρ,S,hd,h,_⟩:=n;have g:∀c,RetAll c [.d d,.agg []] [x,.agg #[]] []:=λc=>⟨x,[.agg #[]],[],[],rfl,rfl,by simp only[TC];exact⟨trivial,(hx c).1⟩,(hx c).2,.agg #[],[],[],[],rfl,rfl,by simp[TC,a9,Value.cells],⟨#[],rfl⟩,rfl,rfl⟩
 have k:A.n0<=s.H.length:=h.cP.1
 have f:∃b,KR A ρ b hd [] {ct:=[],H:=s.H} [] w:=by
  obtain⟨b,e,p⟩:=h.cut (n2:=s.H.length) (dC _) k (.inl rfl);rw[show List.take s.H.length s.wk.H=s.H from iz]at e
  exact⟨b,e⟩
 unfold lE;split
 .obtain⟨b,e⟩:=f
  exact⟨ρ,b,hd,[],_,e,g _,rfl⟩
 .split
  .rename_i o
   obtain⟨m,j⟩:=o;obtain⟨b,e,p⟩:=h.cut (n2:=A.n0) k (dC _) (.inr (λl i=>List.all_eq_true.1 j l i))
   exact⟨ρ,b,hd,[],_,e,g _,rfl⟩
  .obtain⟨b,e⟩:=f
   exact⟨ρ,b,hd,[],_,e,g _,rfl⟩
theorem Kk{G:Nat->U D}(hc:gK P G call)(u:∀g d,hint.gl g=some d->G g=some d)(H:P.follows .mixedOrders=true)(k:Nat){f:FuncId}{fn:Func}{c:Code}(hf:P.funcs[f]? =some fn)(hb:fn.body=some c){args:Array Vz}(hG:GA G A){s s':St}{w:Ex}{own:Bool}{rs:J T}{C:J Ob}
  (O:SR A s {tmps:=args++Array.replicate (fn.ntmps - args.size) undef,defers:=[]} A.w0) (hk:ek (args++Array.replicate (fn.ntmps - args.size) undef).size c=true) (e1:ec P call hint k c s=some (w,s')) (r:jO P own fn A.n0 (w,s')=some (rs,C)):
  Calls P f args A.w0 λe w'=>∃v,Ends (fp rs) e v/\aG A C rs v w':=by
 refine kz.1 (callsIn_of_wp_marks (F:=FW none) (n:=0) hf hb trivial (iX hc u H k (.inr rfl) c hG e1 O hk λA' L w' x N Q E K B=> ?_))
 obtain⟨l,i,o,m⟩:=K.mks;simp only[gj]at i
 have p:∀b∈l,w'.heap[b]? =some (.deferred (some [])):=λb hb=>by
  obtain⟨ρ,S,hd,h,_⟩:=E
  exact(m b hb).2.now h.fr
 have t:∀a,Shut l w' a->SR A s' L a:=λa j=>SR.upW N E j.os j.tape j.output j.size (λb=>(j.same b).imp id λq=>⟨(m b q).1,(m b q).2.1⟩) j.recs
 cases w with
 |exit id=>simp[jO]at r
 |normal=>
  have z:x=.normal:=B;subst z;show LeavesInM _ _ _ _ _ _ _ _ _;rw[i,<-gj (l.map mkD)];refine AT (by simp) l w' o p λa j=> ?_
  obtain⟨I,v,y,q3⟩:=AV (t a j) (.inl rfl) r
  exact⟨v,y,v,by grind [Ends],q3⟩
 |ret=>
  have z:x=.ret:=B;subst z;show LeavesInM _ _ _ _ _ _ _ _ _;rw[i,<-gj (l.map mkD)];refine AT (by simp) l w' o p λa j=> ?_
  obtain⟨I,v,y,q3⟩:=AV (t a j) (.inr rfl) r
  exact⟨v,y,v,by grind [Ends],q3⟩
 |cQ d=>
  obtain⟨v,rfl,M⟩:=B;simp only[jO,xJ,pJ]at r
  obtain⟨rfl,rfl⟩:=r;show LeavesInM _ _ _ _ _ _ _ _ _;rw[i,<-gj (l.map mkD)];refine AT (by simp) l w' o p λa j=> ?_
  exact⟨.tuple #[v,.agg #[]],by grind [Ends,fp],TP (t a j) M⟩
theorem G8(ds:J D)(vs:J Vz)(t:Nat){c:Cx}{K:aj->U T}{hd:aj->Vz}(h:bf c ds vs):∀j,SO c K hd ((look ((ds.zipIdx j).map λp=>(p.2,SV.d p.1)) t).getD .dead) ((if j<=t then vs[t - j]? else none).getD undef):=by
 induction ds generalizing vs with
 |nil=>intro j;trivial
 |cons d ds f=>
  intro j;simp only[bf]at h
  obtain⟨v,r,rfl,b,a,h3⟩:=h;simp only[List.zipIdx_cons,eG,look]
  by_cases e:j=t
  .subst e
   rw[if_pos rfl,if_pos (dC _),rz]
   exact(⟨b,a⟩:VV c d v)
  grind
theorem G9{ds:J D}{H:J Ob}{args:Array Vz}{S:aj->J Nat}{hd:aj->Vz}{n:Nat}(h:KR A A.ρ0 S hd [] {ct:=[],H} [] A.w0)(ha:bf (am A H.length A.ρ0 S [] A.w0) ds args.toList):
  SR A (enter ds H) {tmps:=args++Array.replicate (n - args.size) undef,defers:=[]} A.w0:=by
 refine⟨A.ρ0,S,hd,h,λt=> ?_⟩
 have:=G8 (K:=(enter ds H).wk.get) (hd:=hd) ds args.toList t ha 0
 simp only[eJ,if_true,Nat.sub_zero]at this
 have b:((args++Array.replicate (n - args.size) undef).getD t undef)=(args.toList[t]?).getD undef:=by
  rw[yM]
  by_cases a:t<args.size
  .simp_all [Array.getElem?_append_left]
  .rw[yB,Array.getElem?_append_right (by omega),Array.getElem?_eq_none (xs:=args) (by omega)]
   by_cases c:t - args.size<n - args.size
   .grind
   grind
 show SO _ _ _ ((look (ds.zipIdx.map λp=>(p.2,SV.d p.1)) t).getD .dead) _
 rw[b];exact this
theorem TQ{b:Bool}{H:J Ob}{args:Array Vz}{S:aj->J Nat}{hd:aj->Vz}{n:Nat}{v:Vz}(h:KR A A.ρ0 S hd [] {ct:=[],H} [] A.w0)(ha:args.toList=[v])(hv:∃a cap,v=.slice a 0 cap/\b=a.isNone):
  SR A (B0 b H) {tmps:=args++Array.replicate (n - args.size) undef,defers:=[]} A.w0:=by
 refine⟨A.ρ0,S,hd,h,λt=> ?_⟩
 have d:args.size=1:=by rw[<-yF,ha];rfl
 show SO _ _ _ ((look [(0,SV.ns b)] t).getD .dead) _
 by_cases c:t=0
 .subst c
  have:((args++Array.replicate (n - args.size) undef).getD 0 undef)=v:=by
   rw[yB,Array.getElem?_append_left (by omega),<-yM,ha];rfl
  rw[this];exact hv
 .have:(look [(0,SV.ns b)] t).getD .dead=.dead:=by
   simp only[look];rw[if_neg λe=>c e.symm];rfl
  rw[this];trivial
theorem TR{A:Av}{e:J Ob}{c:Bool}{v:Vz}{w':Wz}(h:aG A e [.d (.sl false [])] v w'):aG A e [.d (.sl c [])] v w':=by
 obtain⟨b,g,a,M,l,j,d,h3⟩:=h
 refine⟨b,g,a,M,l,j,?_,h3⟩
 simp only[RetAll]at d |-
 obtain⟨u,r,f,k,m,i,h4,h5,h6⟩:=d
 refine⟨u,r,f,k,m,i,?_,h5,h6⟩
 grind [TC,VC]
theorem Ha:∀{H:J Ob},nC H=true->H=List.replicate H.length .lock
 | [],_=>rfl
 |o::H,h=>by
  simp only[nC,kU,xA]at h
  have:=Ha (H:=H) h.2;grind
theorem bf.len{c:Cx}:∀(l:J D) (vs:J Vz),bf c l vs->vs.length=l.length
 | [],vs,h=>by grind [bf]
 |d::a,vs,h=>by
  simp only[bf]at h
  obtain⟨v,r,rfl,_,_,h3⟩:=h;simp[bf.len a r h3]
theorem Hc{n m:Nat}(h:n<=m){ops:Array Qz}(hk:IL n ops=true):IL m ops=true:=by
 refine List.all_eq_true.2 λo a=> ?_
 have:=List.all_eq_true.1 hk o a
 grind
theorem fK{n m:Nat}(h:n<=m):∀(c:Code),ek n c=true->ek m c=true
 | .region _ d _,hk=>Hc h hk
 |.seq a b,hk|.cond _ a b,hk=>by simp only[ek,xA]at hk |-;exact⟨fK h a hk.1,fK h b hk.2⟩
 |.block _ c,hk|.loop c,hk|.scope c,hk=>fK h c hk
 | .skip,_=>rfl
 | .rangeFunc _ e a b,hk=>by
  simp only[ek,xA,iy,yD]at hk |-
  have:=fK h a hk.1.2;have:=fK h b hk.2;grind
 |.exit _,_|.label _,_|.goto _,_|.ret,_|.refuse _,_=>rfl
end
section
variable{P:Pz}{A A':Av}{ρ:Nat->Nat}{S:aj->J Nat}{hd:aj->Vz}{fl:J Nat}{k k':Wk}{ay:J (SV×Vz)}{w:Wz}{G:Nat->U D}
theorem GA.rebW(hG:GA G A)(h:KR A ρ S hd [] k ay w){w':Wz}(f:w'.heap.size=w.heap.size)(a:∀b,w'.heap[b]? =w.heap[b]? \/∀t,A.F t b):GA G (A.dx S [] [] w' k.H.length ρ):=λg d e=>by
 obtain⟨c,i,q3⟩:=hG.now h e;obtain⟨_,_,h3,j,h4,h5⟩:=hG g d e;have q4:w'.heap[g]? =w.heap[g]? :=(a g).resolve_right λq=>h3 true (q true)
 refine⟨by show g<w'.heap.size;rw[f];exact i,c,λt l=>l.elim (h3 t) (by simp),j,h4.same (q4.trans q3),h5⟩
theorem KR.upX(hl:A'.le A)(h:KR A' ρ S hd fl k ay w){X:J Nat}(hn:X.Nodup)(s:∀b∈X,b<w.heap.size/\(∀t,A'.F t b)/\(∀t,¬A.F t b)/\(b<A.w0.heap.size->A.O0 b)){w':Wz}(ho:w'.os=w.os)(ht:w'.tape=w.tape)(hu:w'.output=w.output)(u:w'.heap.size=w.heap.size)(d:∀b,b∉X->w'.heap[b]? =w.heap[b]?)(m:cH w w'):
  KR A ρ S hd (X++fl) k ay w'/\Ext (am A' k.H.length ρ S fl w) (am A k.H.length ρ S (X++fl) w'):=by
 have i:∀b∈X,¬bT S fl b:=λb c q=>(h.bU b q).2.1 true ((s b c).2.1 true)
 have ext:Ext (am A' k.H.length ρ S fl w) (am A k.H.length ρ S (X++fl) w'):=⟨λt b g=>by
  have c:b∉X:=λq=>g.2.1 ((s b q).2.1 t)
  refine⟨⟨λq=> ?_,λq=>g.2.1 (hl.F t b q),by rw[u];exact g.2.2⟩,d b c⟩
  obtain q |q:=q
  .exact g.1 (.inl q)
  .exact(List.mem_append.1 q).elim c (λq=>g.1 (.inr q)),dC _,λ_ _=>rfl⟩
 have f:∀r,∀b∈S r,w'.heap[b]? =w.heap[b]? :=λr b c=>d b λq=>i b q (.inl ⟨r,c⟩)
 have j:=Fr.le hl h.fr
 refine⟨⟨λr t ht=>TC.ext ext _ _ _ (f r) (h.cont r t ht),h.gone,h.obj,λn ob x g=>(h.map n ob x g).ext ext (f _) rfl rfl,⟨h.bw.nd,?_,h.bw.one,λr b c z=> ?_⟩,λb c=> ?_,λp g=> ?_,⟨ho.trans j.os,ht.trans j.tape,hu.trans j.output,by rw[u];exact j.size,λb c v=> ?_,j.recs.trans m⟩,hl.fold,⟨fj hl.n0 h.cP.1,λo ho=>(h.cP.2 o (yA ho hl.n0)).trans (hl.cP o ho)⟩⟩,ext⟩
 .rw[xT]
  exact⟨hn,h.bw.ndF,λa y b c e=>i a y (.inr (e▸c))⟩
 .obtain q |q:=List.mem_append.1 z
  .exact i b q (.inl ⟨r,c⟩)
  .exact h.bw.cq r b c q
 .have:b∈X\/bT S fl b:=by
   obtain q |q:=c
   .exact .inr (.inl q)
   .exact(List.mem_append.1 q).imp id .inr
  obtain q |q:=this
  .grind
  .have:=h.bU b q
   exact⟨by grind,λt q=>this.2.1 t (hl.F t b q),λl=>hl.O0 b l (this.2.2 (yA l hl.fr.size))⟩
 .exact SO.aV ext (λr q=>h.hold (k':=k) (hd':=hd) _ rfl rfl (f r) q) (h.ay p g)
 .rw[d b λq=>v ((s b q).2.2.2 c)]
  exact j.kept b c v
theorem Wx{rs d:J T}{H:J Ob}{vs:J Vz}(ret:∀c,RetAll c rs vs [])(h:KR A ρ S hd [] {ct:=[],H:=H} [] w):aG A (lE A.n0 d H) rs (Tk vs) w:=by
 have g:A.n0<=H.length:=h.cP.1;have f:∃b,KR A ρ b hd [] {ct:=[],H:=H} [] w:=⟨S,h⟩
 unfold lE;split
 .exact⟨ρ,S,hd,[],_,h,ret _,rfl⟩
 .split
  .rename_i l
   obtain⟨j,e⟩:=l;obtain⟨b,k,m⟩:=h.cut (n2:=A.n0) g (dC _) (.inr (λi a=>List.all_eq_true.1 e i a))
   exact⟨ρ,b,hd,[],_,k,ret _,rfl⟩
  .exact⟨ρ,S,hd,[],_,h,ret _,rfl⟩
theorem SO.loosen{c:Cx}{K:aj->U T}{u:SV}{v:Vz}(h:SO c K hd u v):SO c K hd u.loose v:=by
 cases u with
 |d x=>exact h
 |aH r p o l=>cases r with
  |l n j=>exact h
  |o n=>trivial
 |loc r p i o=>cases r with
  |l n j=>exact h
  |o n=>trivial
 |_=>trivial
theorem TS{call:dH}(hc:gK P G call)(hints:FuncId->Hint)(ay:∀f g d,(hints f).gl g=some d->G g=some d)(hm:P.follows .mixedOrders=true)(n:Nat){o:Nat}{ds:J D}{H:J Ob}{rs:J T}{H2:J Ob}(e:rF P call hints n o ds H=some (rs,H2)){args:Array Vz}(hA:A.n0=H.length)(hG:GA G A)(C:KR A A.ρ0 S hd [] {ct:=[],H} [] A.w0)(F:bf (am A H.length A.ρ0 S [] A.w0) ds args.toList):
  ck P A.ρ0 (YB+o) args A.w0 λe w'=>∃v,Ends (fp rs) e v/\aG A H2 rs v w':=by
 unfold rF at e
 split at e
 .rename_i g p x y env ct d ab
  simp only[xB]at e
  obtain⟨⟨e1,s1⟩,c1,e⟩:=e;simp only at e
  split at e
  .simp only[xB]at e
   obtain⟨⟨e2,w⟩,c2,e⟩:=e;simp only at e
   split at e
   .split at e
    .rename_i a8
     simp only[xJ,pJ]at e
     obtain⟨rfl,rfl⟩:=e;obtain⟨M,hM,r,r1,r2,r3,r4,r5,r6,r7,r8⟩:=C.map o _ ab rfl;have an:o<H.length:=(List.getElem?_eq_some_iff.1 ab).1;subst r5;subst r6;simp only[bf]at F
     obtain⟨v,bk,bc,bh,a6,rfl⟩:=F;have O:args= #[v]:=Array.toList_inj.1 bc;subst O;have aL:r.params= #[p]:=Array.toList_inj.1 r4
     have a3:(r.params.zip #[v]).foldl (λtmps (t,a)=>tmps.setIfInBounds t a) r.tmps=r.tmps.setIfInBounds p v:=by
      rw[aL];simp
     have hp:p<r.tmps.size:=r8.1 p (by simp)
     have aC:A.ρ0 o<A.w0.heap.size:=(Array.getElem?_eq_some_iff.1 r1).1;obtain⟨k1,x1⟩:=C.lockMap ab rfl hM;have Q:KR A A.ρ0 (upd S (.o o) []) hd ([A.ρ0 o]++(M++[])) {ct:=[],H:=H.set o .lock} [] A.w0:=by simpa using k1
     obtain⟨k2,aY,a4⟩:=Q.dx;have G2:=hG.dx Q
     have E:Ext (am A H.length A.ρ0 S [] A.w0) (am (A.dx (upd S (.o o) []) (M++[]) [A.ρ0 o] A.w0 (H.set o .lock).length A.ρ0) (H.set o .lock).length A.ρ0 (upd S (.o o) []) (M++[]) A.w0):=by
      refine Ext.trans ?_ (.of a4.symm);simp only[oY];exact x1
     have a5:=r7.imp (c':=am (A.dx (upd S (.o o) []) (M++[]) [A.ρ0 o] A.w0 (H.set o .lock).length A.ρ0) (H.set o .lock).length A.ρ0 (upd S (.o o) []) (M++[]) A.w0) (λ_ _=>rfl) (λ_ _ _ _ _ q=>VV.ext E q) (λ_ _ _ _ hM q=>TC.ext E _ _ _ (λ_ _=>rfl) q)
     obtain⟨S3,hd3,k3,a7,v3⟩:=k2.ungather a5
     have aP:SR (A.dx (upd S (.o o) []) (M++[]) [A.ρ0 o] A.w0 (H.set o .lock).length A.ρ0) {env:=(p,.d d)::env,ct,H:=H.set o .lock} {tmps:=r.tmps.setIfInBounds p v,defers:=[]} A.w0:=by
      refine⟨A.ρ0,S3,hd3,k3,λt=> ?_⟩
      show SO _ _ _ ((look ((p,SV.d d)::env) t).getD .dead) ((r.tmps.setIfInBounds p v).getD t undef);simp only[look]
      by_cases ht:p=t
      .subst ht
       rw[if_pos rfl]
       have:(r.tmps.setIfInBounds p v).getD p undef=v:=by
        rw[yB,Array.getElem?_setIfInBounds_self_of_lt hp];rfl
       rw[this];have q:VV (am A H.length A.ρ0 S [] A.w0) d v:=⟨bh,a6⟩;exact VV.ext (E.trans (.of a7.symm)) q
      .rw[if_neg ht]
       have:(r.tmps.setIfInBounds p v).getD t undef=r.tmps.getD t undef:=by
        rw[yB,Ee ht,yB]
       rw[this];exact v3 t
     unfold ck;rw[if_pos (ru _ _),ri]
     refine⟨r,r1,by rw[aL];rfl,roundIn_of_wpIn trivial ?_⟩
     rw[a3];have W:(r.tmps.setIfInBounds p v).size=r.tmps.size:=by simp
     refine iX (hint:={hints g with nest:=true}) hc (ay g) hm n (ro:=some (A.ρ0 o)) (.inl rfl) r.assign G2 c1 aP (by rw[W];exact r8.2.1) λA2 a1 w1 z l2 G3 g1 g2 g3=> ?_
     have hz:z=.normal:=g3;subst hz;obtain⟨ac,S4,aM,N,v4⟩:=g1
     have av:¬bT (upd S (.o o) []) (M++[]) (A.ρ0 o):=by
      rintro(⟨K,hr⟩ |hr)
      .exact Q.bw.cq K _ hr (by simp)
      .have:=Q.bw.ndF
       grind
     have aN:w1.heap[A.ρ0 o]? =some (.loop r):=((Fr.le l2 N.fr).kept _ aC av).trans r1;have al:∀t,A2.F t (A.ρ0 o):=λt=>l2.F t _ (.inr (by simp))
     let I:Wz:=w1.putObj (A.ρ0 o) (.loop {r with state:=.busy})
     have U:A.ρ0 o<w1.heap.size:=(Array.getElem?_eq_some_iff.1 aN).1;have m:I.heap.size=w1.heap.size:=by simp[I]
     have ba:I.heap[A.ρ0 o]? =some (.loop {r with state:=.busy}):=World.putObj_heap_same U
     have j:∀b,I.heap[b]? =w1.heap[b]? \/∀t,A2.F t b:=λb=>by
      grind [World.putObj_heap_other]
     have ad:cH w1 I:=λb K k=>by
      by_cases aa:b=A.ρ0 o
      .grind
      .exact⟨K.state,K.pending,(World.putObj_heap_other aa).trans k⟩
     have aJ:¬bT S4 [] (A.ρ0 o):=λq=>(N.bU _ q).2.1 true (al true)
     obtain⟨k5,x5⟩:=N.rebW m j;have G5:=G3.rebW N m j
     refine⟨I,run_beginRound aN r2,?_⟩
     have aZ:SR (A2.dx S4 [] [] I s1.H.length ac) s1 a1 I:=⟨ac,S4,aM,k5,λt=>SO.aV x5 (λK q=>N.hold (k':=s1.wk) (hd':=aM) _ rfl rfl (λb k=>(j b).resolve_right λq=>(N.bU b (.inl ⟨K,k⟩)).2.1 true (q true)) q) (v4 t)⟩
     have l:=l2.trans aY;have f1:=Fr.le l N.fr;have aQ:A.O0 (A.ρ0 o):=(C.bU _ (.inl ⟨.o o,by rw[hM];simp⟩)).2.2 aC
     have bl:∀t,¬A.F t (A.ρ0 o):=(C.bU _ (.inl ⟨.o o,by rw[hM];simp⟩)).2.1
     have bj:(A2.dx S4 [] [] I s1.H.length ac).le A:=⟨λt b q=>.inl (l.F t b q),fj l.n0 N.cP.1,λi hi=>(N.cP.2 i (yA hi l.n0)).trans (l.cP i hi),λb k q=>l.O0 b k ((N.bU b q).2.2 (yA k l.fr.size)),⟨f1.os,f1.tape,f1.output,by show _<=I.heap.size;rw[m];exact f1.size,λb k hO=>by
      have:b≠A.ρ0 o:=λe=>hO (e▸aQ)
      exact(World.putObj_heap_other this).trans (f1.kept b k hO),f1.recs.trans ad⟩,C.Fold⟩
     refine iX (hint:={hints g with nest:=true}) hc (ay g) hm n (ro:=some (A.ρ0 o)) (.inl rfl) r.body G5 c2 aZ (by rw[g2.size,W];exact r8.2.2) λA4 a2 w3 z2 l4 G6 p1 p2 p3=> ?_
     have bd:z2=.normal:=p3;subst bd;obtain⟨B,S6,a0,k6,v6⟩:=p1;have ak:w3.heap[A.ρ0 o]? =some (.loop {r with state:=.busy}):=((Fr.le l4 k6.fr).kept _ (by show _<I.heap.size;rw[m];exact U) aJ).trans ba
     have ai:A.ρ0 o<w3.heap.size:=(Array.getElem?_eq_some_iff.1 ak).1
     let K:Loop:={r with state:=.ready,pending:=none}
     let V:Wz:=w3.putObj (A.ρ0 o) (.loop K)
     have bb:V.heap[A.ρ0 o]? =some (.loop K):=World.putObj_heap_same ai
     refine⟨.bool true,V,run_endRound (r:={r with state:=.busy}) none ak,.bool true,rfl,?_⟩
     have ag:=l4.trans bj;have aT:∀t,A4.F t (A.ρ0 o):=λt=>l4.F t _ (.inl (al t))
     have Y:B o=A.ρ0 o:=(k6.cP.2 o (yA (by rw[hA];exact an) ag.n0)).trans (ag.cP o (by rw[hA];exact an))
     let s:=(env.map (·.1)).filter λt=> !(p::kM r.assign++kM r.body).contains t
     let h:=s.map λt=>(t,(w.get t).loose)
     let L:=jZ (SV.cr (h.map (·.2)))
     obtain⟨S7,k7,t7⟩:=k6.forget L (ct:=pick w.ct L) (λx=>rP _ x)
     have ah:cH w3 V:=λb r0 k=>by
      by_cases aa:b=A.ρ0 o
      .grind
      .exact⟨r0.state,r0.pending,(World.putObj_heap_other aa).trans k⟩
     obtain⟨k8,x8⟩:=k7.upX ag (X:=[A.ρ0 o]) (w':=V) (by simp) (λb k=>by
      grind) rfl rfl rfl (by simp[V]) (λb k=>World.putObj_heap_other (λe=>k (by simp[e]))) ah
     obtain⟨k9,bi⟩:=k8.gather;obtain⟨aW,aq⟩:=k9.perm (fl':=(A.ρ0 o::ownL S7 (pick w.ct L))++[]) (by simp)
     have hx:Ext (am A4 w.H.length B S7 [] w3) (am A w.H.length B (soO S7) ((A.ρ0 o::ownL S7 (pick w.ct L))++[]) V):=x8.trans ((Ext.of bi.symm).trans (.of aq))
     have ax:h.map (λq=>(q.1,q.2.loose))=h:=by
      simp only[h,ke];refine lY λt _=> ?_
      simp[Dt]
     have af:∀rt,∀b∈S7 rt,V.heap[b]? =w3.heap[b]? :=λrt b k=>World.putObj_heap_other λe=>(k7.bU b (.inl ⟨rt,k⟩)).2.1 true (e▸aT true)
     have aH:=NA k7 (env:=h) (tmps:=r.tmps) (λt=>by
      have Z:look h t=if t∈s then some ((w.get t).loose)else none:=Ja s (λt=>(w.get t).loose) t
      rw[Z]
      by_cases ht:t∈s
      .rw[if_pos ht]
       have R:t∉p::kM r.assign++kM r.body:=by
        have:=(List.mem_filter.1 ht).2
        simpa using this
       simp only[l6,xY,xD,not_or]at R
       have aS:r.tmps.getD t undef=a2.tmps.getD t undef:=by
        rw[yB,yB,p2.tmps t R.2.2,g2.tmps t R.2.1,Ee (Ne.symm R.1)]
       rw[aS];refine t7 _ _ (λq hq=> ?_) (SO.loosen (v6 t))
       rw[nP];refine rO (u:=(w.get t).loose) ?_ hq
       grind
      .rw[if_neg ht]
       trivial) hx af
     rw[ax]at aH
     have ao:KR A B (soO S7) a0 ((B o::ownL S7 (pick w.ct L))++[]) {ct:=[],H:=w.H} [] V:=by rw[Y];exact aW
     obtain⟨be,_⟩:=ao.unlockMap (ob:=.frame g [p] r.assign r.body h (pick w.ct L)) rfl a8 ⟨K,by rw[Y];exact bb,rfl,rfl,r4,rfl,rfl,by rw[Y];exact aH,r8⟩
     rw[<-hA];exact Wx (rs:=[.d (.bool true)]) (vs:=[.bool true]) (λc=>⟨.bool true,[],[],[],rfl,rfl,by simp[TC,VC,Value.cells],rfl,rfl,rfl⟩) be
    .cases e
   .cases e
  .cases e
 .cases e
theorem NC{hint:Hint}{dst:Nat}{ty:TypeId}{op:Op}{a:Oz->SV}{r:SV×Wk}(e:dF P rG hint dst ty op a k=some r):opE P hint dst ty op a k=some r\/∃f args cz g first cap ds nm y,op=.call {callee:=.value f,args:=args,argTypes:=cz}/\a f=.d (.fn (.func g) first cap)/\AE P g=some nm/\SV.bH (args.toList.map a)=some ds/\S5 nm (first++ds++cap)=some y/\r=(.d y,k):=by
 have d:∀(f:FuncId) (ds:J D) (b:bn) (c:Wk),gC rG hint dst f ds b c=none:=λf ds b c=>by
  simp_all [fm,rG,gC]
 unfold dF at e
 split at e
 .grind [xB,xM]
 grind
theorem aeC(hG:GA G A){hint:Hint}(n:∀g d,hint.gl g=some d->G g=some d){ops:Array Qz}{o:Qz}{s s':St}{a a0:Act}{ds:J Nat}(B:SR A s a w)(i:Kp a0 ds a)(hd:∀d,o.dst=some d->d∈ds/\d<a0.tmps.size)(e:n7 P rG hint ops.toList o s=some s'):
  ∃v w',SR A s' (a.put o.dst v) w'/\Kp a0 ds (a.put o.dst v)/\((Region.wanted o (yielded ops a.tmps)=true/\((execOp a.eval o).run P w=.ok (.value v) w'\/(v=undef/\(execOp a.eval o).run P w=.ok .skip w')))\/(Region.wanted o (yielded ops a.tmps)=false/\v=undef/\w'=w)):=by
 simp only[n7,xB]at e
 obtain⟨b,H,e⟩:=e;rw[GO B H];obtain⟨ρ,S,hd0,h,z⟩:=B
 have hk:KR A ρ S hd0 [] s.wk (jP s a o.op.operands.toList) w:=h.dq (λp C=>by
  simp only[jP,xD,jC]at C
  obtain⟨q,_,rfl⟩ |⟨x,_,rfl⟩:=C
  .exact z q.1
  .exact SR.val z x)
 have c:∀t∈s.env.map (·.1),(s.get t,a.tmps.getD t undef)∈jP s a o.op.operands.toList:=λt N=>by
  grind [jP]
 have k:∀d,o.dst=some d->d<a.tmps.size:=λd q=>by rw[i.2.1];grind
 have j:∀d,o.dst=some d->d∈ds:=λd q=>(hd d q).1
 cases b
 .simp only[xH,if_false,xJ]at e |-
  subst e
  exact⟨undef,w,SR.fin (ay:=jP s a o.op.operands.toList) hk ⟨#[],rfl,rfl⟩ c k,i.put j _,.inr ⟨trivial,rfl,rfl⟩⟩
 .simp only[if_true,xM]at e |-
  obtain⟨⟨M,k'⟩,u,rfl⟩:=e
  have l:∀x∈o.op.operands,(s.val x,a.eval x)∈jP s a o.op.operands.toList:=λx O=>by
   grind [jP]
  obtain u |⟨f,D,I,g,first,cap,ds',nm,y,hop,hf,hnm,q1,q2,hr⟩:=NC u
  case inr=>
   simp only[pJ]at hr
   obtain⟨rfl,rfl⟩:=hr;obtain⟨v,m,r⟩:=I9 hk rfl hop l hf hnm q1 q2
   exact⟨v,w,SR.fin hk r c k,i.put j _,.inl ⟨trivial,.inl m⟩⟩
  obtain⟨L,v,w',F,K,E,m,r,h3,h4⟩:=V6 hG hk rfl n (ev:=a.eval) (λ_=>rfl) l u
  obtain rfl |⟨rfl,rfl⟩:=r
  .exact⟨v,w',SR.fin h3 h4 c k,i.put j _,.inl ⟨trivial,.inl m⟩⟩
  .exact⟨undef,w',SR.fin h3 h4 c k,i.put j _,.inl ⟨trivial,.inr ⟨rfl,m⟩⟩⟩
theorem Hd(hG:GA G A){hint:Hint}(c:∀g d,hint.gl g=some d->G g=some d){ops:Array Qz}{a0:Act}{ds:J Nat}{cs:J Frame}{Q:Exit->Act->J Frame->Wz->Prop}:∀(l:J Qz) (i:Nat) {s s':St} {a:Act} {w:Wz},(∀j,j<l.length->ops[i+j]? =l[j]?)->SR A s a w->Kp a0 ds a->(∀o∈l,∀d,o.dst=some d->d∈ds/\d<a0.tmps.size)->fo P rG hint ops.toList l s=some s'->
  (∀k w',SR A s' k w'->Kp a0 ds k->Q .normal k cs w')->wpOpsSIn (FW none) 0 P ops Q (List.range' i l.length) a cs w
 | [],i,s,s',a,w,n,f,b,hd,e,m=>by
  simp only[fo,xJ]at e
  subst e;exact m a w f b
 |o::l,i,s,s',a,w,n,f,b,hd,e,m=>by
  simp only[fo,xB]at e
  obtain⟨E,C,r⟩:=e;obtain⟨v,w',t,x,y⟩:=aeC hG c f b (hd o (by simp)) C
  have q:ops[i]? =some o:=by have:=n 0 (by simp);simpa using this
  have p:=Hd hG c (cs:=cs) (Q:=Q) l (i+1) (λj D=>by have:=n (j+1) (by simp;omega);grind) t x (λu h=>hd u (by simp[h])) r m
  rw[xZ,wg];simp only[wpOpsSIn,q]
  refine⟨λ_ _=>trivial,?_⟩
  obtain⟨z,B |⟨rfl,B⟩⟩ |⟨z,rfl,rfl⟩:=y
  .grind
  .grind
  grind
def CD(P:Pz)(u b:FrameMode):CallT:=λ_ f a w R=>CallsDIn (FW none) 0 P f a u w λe m w'=>m=b/\R e w'
theorem F!{u b:FrameMode}:CallT.mono (CD P u b):=λ_ _ _ _ _ _ h a=>h.mono λ_ _ _ q=>⟨q.1,a _ _ q.2⟩
structure RecIs(u u':FrameMode)(r:D):Prop where
 run:u≠ .run
 settle:Go.settle u'=.returning
 rcv:∀(c₀:Frame) (cs:List Frame),c₀.mode=u->∃v,(∀c,VV c r v)/\((recoverD (c₀::cs)=none/\u'=u/\v=.nilIface)\/recoverD (c₀::cs)=some (v,{c₀ with mode:=u'}::cs))
theorem Jo:RecIs .returning .returning .bX:=
 ⟨by simp,rfl,λa d b=>⟨.nilIface,λc=>⟨rfl,rfl⟩,.inl ⟨by simp[recoverD,b],rfl,rfl⟩⟩⟩
theorem TT{d:D}{x:Vz}(hx:∀c,VV c d x):RecIs (.panicking [{v:=x,recovered:=false}]) (.panicking [{v:=x,recovered:=true}]) d:=
 ⟨by simp,rfl,λa e b=>⟨x,hx,.inr (by simp[recoverD,b])⟩⟩
theorem SR.put{s:St}{a:Act}(g:SR A s a w){t:Nat}{d:D}{v:Vz}(ht:t<a.tmps.size)(hv:∀c,VV c d v):SR A {s with env:=(t,.d d)::s.env} (a.put (some t) v) w:=by
 obtain⟨ρ,S,hd,h,f⟩:=g
 refine⟨ρ,S,hd,h,λb=> ?_⟩
 show SO _ _ _ ((look ((t,SV.d d)::s.env) b).getD .dead) ((a.tmps.setIfInBounds t v).getD b undef);simp only[look]
 by_cases e:t=b
 .subst e
  rw[if_pos rfl]
  have:(a.tmps.setIfInBounds t v).getD t undef=v:=by
   rw[yB,Array.getElem?_setIfInBounds_self_of_lt ht];rfl
  rw[this];exact hv _
 .rw[if_neg e]
  have:(a.tmps.setIfInBounds t v).getD b undef=a.tmps.getD b undef:=by
   rw[yB,Ee e,yB]
  rw[this];exact f b
theorem PI{call:dH}{hints:FuncId->Hint}{n:Nat}{r:D}{g:FuncId}{ds:J D}{H:J Ob}{x:J T×J Ob}(e:mW P call hints n r g ds H=some x):∃fn,P.funcs[g]? =some fn/\fn.body.isSome=true/\(fn.name== "runtime.NumGoroutine")=false:=by
 simp only[mW,xB]at e
 grind
theorem TU{call:dH}(hc:gK P G call){hints:FuncId->Hint}(I:∀f g d,(hints f).gl g=some d->G g=some d)(hm:P.follows .mixedOrders=true)(n:Nat){u E:FrameMode}{r:D}(hr:RecIs u E r):Eo (CD P u E) G (mW P call hints n r):=by
 intro g ds H rs H2 e A S hd b hA hG ab B;simp only[mW,xB]at e
 obtain⟨s,hf,c,hb,e⟩:=e
 split at e
 .rename_i id i N
  split at e
  .rename_i o l k
   split at e
   .rename_i ah cz t R p W
    split at e
    .rename_i hh
     obtain⟨hl,hk,_⟩:=hh;simp only[ek,xA]at hk
     simp only[xB]at e
     obtain⟨s1,e1,⟨ex,s2⟩,e2,V⟩:=e
     have Y:(ex=.normal\/ex=.ret)/\jO P (hints g).own s A.n0 (ex,s2)=some (rs,H2):=by
      rw[hA];simp only at V
      split at V
      .grind
      .grind
      .cases V
     clear V;obtain⟨T,Y⟩:=Y;refine callsDIn_of_wpSIn hf hb trivial λc₀ U hu=> ?_
     obtain⟨rv,aa,O⟩:=hr.rcv c₀ U hu;have ad:=G9 (n:=s.ntmps) ab B;have bP:s.ntmps<=(b++Array.replicate (s.ntmps - b.size) undef).size:=by simp;omega
     have y:=Hc bP hk.1;have ak:=G4 y o (by rw[k];simp) t p
     have X:=SR.put ad (a:={tmps:=b++Array.replicate (s.ntmps - b.size) undef,defers:=[]}) ak aa
     have F:∃q,q={c₀ with mode:=E}::U/\∀(Q:Exit->Act->J Frame->Wz->Prop) (a:Act) (w:Wz),
       wpOpsSIn (FW none) 0 P i Q (List.range' 1 l.length) (a.put o.dst rv) q w->wpOpsSIn (FW none) 0 P i Q (List.range i.size) a (c₀::U) w:=by
      refine⟨_,rfl,λQ a w h=> ?_⟩
      have C:i.size=l.length+1:=by rw[<-yF,k];rfl
      rw[nq,C,wg];have ho:i[0]? =some o:=by rw[<-yM,k];rfl
      simp only[wpOpsSIn,ho]
      refine⟨λ_ _=>trivial,?_⟩
      rw[if_pos (by simp[Region.wanted,W])]
      have L:(execOp a.eval o).run P w=.ok .recover w:=by
       obtain⟨al,op,aq,ao,ag,ac⟩:=o;simp only at R;subst R;simp[execOp,resolve,invoke,builtin,Sem.run_bind,Sem.run_pure,Result.andThen]
      rw[L]
      simp only
      obtain⟨h1,h2,h3⟩ |h1:=O
      .rw[h1]
       simp only
       subst h3
       have:c₀={c₀ with mode:=E}:=by rw[h2,<-hu]
       rw[this];exact h
      .grind
     obtain⟨q,ai,af⟩:=F;refine wpSIn_seq (wpSIn_region (af _ _ _ ?_));have z:∀Z∈i.toList,∀d,Z.dst=some d->d∈i.toList.filterMap (·.dst)/\d<(b++Array.replicate (s.ntmps - b.size) undef).size:=n9 y
     rw[p];refine Hd (a0:={tmps:=b++Array.replicate (s.ntmps - b.size) undef,defers:=[]}) (ds:=i.toList.filterMap (·.dst)) hG (I g) l 1 (λj hj=> ?_) X ((Kp.refl _ _).put (dst:=some t) (λd hd=>(z o (by rw[k];simp) d (by rw[p];exact hd)).1) _) (λZ an=>z Z (by grind)) e1 λa1 w1 q1 q2=> ?_
     .rw[<-yM,k,show 1+j=j+1 by omega,lW]
     .refine wpSIn_of_wpIn rfl (iX (hint:={hints g with nest:=true}) hc (I g) hm n (ro:=none) (.inl rfl) N hG e2 (q1.prune _) (by rw[q2.2.1];grind [fK]) λA' a' w' x l1 G1 g1 g2 g3=> ?_)
      have M:a'.defers=[]:=(g2.nst rfl).trans q2.1;obtain⟨p1,v,p2,p3⟩:=AV (g1.up l1) T Y
      have hx:x=.normal\/x=.ret:=by
       obtain rfl |rfl:=T
       .exact .inl g3
       .exact .inr g3
      have K:a'.defers=[]/\∃m,q={c₀ with mode:=m}::U/\∃v,(results s a'.tmps).run P w'=.ok v w'/\(m=E/\∃v1,Ends (fp rs) (.returned v) v1/\aG A H2 rs v1 w'):=
       ⟨M,E,ai,v,p2,rfl,v,by grind [Ends],p3⟩
      obtain rfl |rfl:=hx
      .exact K
      .exact K
    .cases e
   .cases e
  .cases e
 .cases e
theorem VV.pin{c c':Cx}(hn:c.nO<=c'.nO)(hr:∀o,o<c.nO->c'.ρ o=c.ρ o){d:D}{v:Vz}(hp:d.pin=true)(h:VV c d v):VV c' d v:=by
 have a:d.flat=true->VV c' d v:=λb=>VV.flat b h
 cases d with
 |ptr o=>
  refine⟨?_,h.2⟩
  have:=h.1
  grind [VC]
 |_=>exact a hp
theorem bf.pin{c c':Cx}(hn:c.nO<=c'.nO)(hr:∀o,o<c.nO->c'.ρ o=c.ρ o):∀(l:J D) (vs:J Vz),l.all D.pin=true->bf c l vs->bf c' l vs
 | [],_,_,h=>by simpa [bf]using h
 |d::l,vs,a,h=>by
  simp only[kU,xA]at a
  simp only[bf]at h |-
  obtain⟨v,r,b,e,h3,h4⟩:=h;have q:=VV.pin hn hr a.1 (⟨e,h3⟩:VV c d v)
  exact⟨v,r,b,q.1,q.2,bf.pin hn hr l r a.2 h4⟩
theorem Dx{call:dH}{hint:Hint}(hc:gK P G call)(hG:GA G A)(c:∀g d,hint.gl g=some d->G g=some d){ops:Array Qz}{ro:U Nat}{Q:Exit->Act->Wz->Prop}{a0:Act}{ds:J Nat}{b:J Qz}:∀(l:J Qz) {s s':St} {a:Act} {w:Wz},SR A s a w->Kp a0 ds a->(∀o∈l,∀d,o.dst=some d->d∈ds/\d<a0.tmps.size)->fo P call hint ops.toList l s=some s'->
  (∀h w',SR A s' h w'->Kp a0 ds h->wpListIn (FW ro) 0 P ops Q b h w')->wpListIn (FW ro) 0 P ops Q (l++b) a w
 | [],s,s',a,w,i,f,hd,e,j=>by
  grind [fo]
 |o::l,s,s',a,w,i,f,hd,e,j=>by
  simp only[fo,xB]at e
  obtain⟨u,r,n⟩:=e;rw[l6];refine wpListIn_step λK t=>GP hc hG c i f (hd o (by simp)) r λh w' p k=>t _ _ ?_
  exact Dx hc hG c l p k (λq m=>hd q (by simp[m])) n j
theorem SR.dx{s:St}{a:Act}(hG:GA G A)(j:SR A s a w):∃(c:Av) (ρ:Nat->Nat) (S:aj->J Nat) (hd:aj->Vz),c=A.dx S [] [] w s.H.length ρ/\KR A ρ S hd [] s.wk [] w/\c.le A/\GA G c/\SR c s a w/\∀t,SO (am A s.H.length ρ S [] w) s.wk.get hd (s.get t) (a.tmps.getD t undef):=by
 obtain⟨ρ,S,hd,h,f⟩:=j;obtain⟨i,e,d⟩:=KR.dx (X:=[]) (fl:=[]) (by simpa using h)
 have g:=GA.dx (X:=[]) (fl:=[]) hG (by simpa using h)
 refine⟨_,ρ,S,hd,rfl,h,e,g,⟨ρ,S,hd,i,λt=> ?_⟩,f⟩
 have b:am (A.dx S [] [] w s.H.length ρ) s.H.length ρ S [] w=am A s.H.length ρ S [] w:=d;rw[b];exact f t
theorem G_{call:dH}(hc:gK P G call){hints:FuncId->Hint}(y:∀f g d,(hints f).gl g=some d->G g=some d)(hm:P.follows .mixedOrders=true)(n:Nat){f:FuncId}{fn:Func}{c:Code}{nt:Nat}(hf:P.funcs[f]? =some fn)(hb:fn.body=some c){args:Array Vz}(hG:GA G A){s s':St}{ex:Ex}{own:Bool}{rs:J T}{H2:J Ob}
  (hs:SR A s {tmps:=args++Array.replicate (fn.ntmps - args.size) undef,defers:=[]} A.w0) (hk:ek (args++Array.replicate (fn.ntmps - args.size) undef).size c=true) (e1:J2 P call hints n f c nt s=some (ex,s')) (e2:jO P own fn A.n0 (ex,s')=some (rs,H2)):
  Calls P f args A.w0 λe w'=>∃v,Ends (fp rs) e v/\aG A H2 rs v w':=by
 refine kz.1 (callsIn_of_wp_marks (F:=FW none) (n:=0) hf hb trivial ?_);unfold J2 at e1
 split at e1
 .rename_i i0 o0 i1 o1 I
  simp only[ek,xA]at hk
  obtain⟨aY,aM,a5⟩:=hk;simp only[xB]at e1
  obtain⟨s1,a7,e1⟩:=e1
  split at e1
  .rename_i o aa
   split at e1
   .rename_i x Y cz ah ai aZ
    simp only[xB]at e1
    obtain⟨s2,aT,e1⟩:=e1
    split at e1
    .rename_i g ad hx
     split at e1
     .rename_i j
      obtain⟨w,j⟩:=j
      obtain rfl:Y= #[]:=Array.size_eq_zero_iff.1 w
      simp only[xB,xM,pJ]at e1
      obtain⟨⟨aC,s3⟩,a3,r,O,⟨sv,k'⟩,⟨⟨al,k0⟩,aJ,R⟩,rfl,rfl⟩:=e1
      have N:al=sv/\k0=k'/\al.bO=false:=by
       unfold jY at R
       split at R
       .cases R
       .grind
      obtain⟨rfl,rfl,N⟩:=N;refine wpIn_seq (Dw hc hG (y f) hs (n9 aY) a7 λa1 w1 g1 g2=> ?_)
      refine wpIn_seq (wpIn_region ?_);rw[nq,<-yF,wpOpsIn_eq_wpListIn o1.toList 0 (by simp)]
      have E:o1.toList.dropLast++[o]=o1.toList:=by
       obtain⟨ys,a8⟩:=List.getLast?_eq_some_iff.1 aa;rw[a8,List.dropLast_concat]
      have ax:=n9 (n:=a1.tmps.size) (ops:=o1) (by rw[g2.2.1];exact aM)
      rw[<-E];refine Dx (a0:=a1) (ds:=o1.toList.filterMap (·.dst)) hc hG (y f) _ (g1.prune _) (.refl _ _) (λo' B=>ax o' (List.dropLast_subset _ B)) aT λV w2 q1 q2=> ?_
      refine wpListIn_plain aZ λK hK=>⟨λ_ _=>trivial,?_⟩
      obtain⟨A1,k,S2,bk,X,k2,aL,G1,aQ,v2⟩:=SR.dx hG q1;have ay:=SR.val v2 x;rw[hx]at ay
      have H:=VV.inv (c:=am A s2.H.length k S2 [] w2) ay (by simp)
      simp only[VC,xC,and_true]at H
      obtain⟨av,L,a4,ha,bb⟩:=H
      have ba:av= #[]:=by
       simp only[bf]at ha
       exact Array.toList_eq_nil_iff.1 ha
      subst ba
      have ao:(o.semAt (FW none).round V.eval).run P w2=.ok (.defer {target:=.fn (.func g) L,args:= #[]}) w2:=by
       rw[show(FW none).round=none from rfl,Oper.semAt_none]
       obtain⟨be,op,bl,bj,aW,aN⟩:=o;simp only at ah;subst ah;have an:V.eval x=.func (.func g) #[] L:=a4;simp[execOp,resolve,an,Deferred.ofValue,Sem.run_bind,Sem.run_pure,Result.andThen]
      rw[ao,Oper.uponIn_defer,ai];refine hK _ _ (wpListIn_nil ?_);have ag:V.defers=[]:=q2.1.trans g2.1;have ac:SR A1 (prune ((hints f).live i1) s2) ({V with defers:={target:=.fn (.func g) L,args:= #[]}::V.defers}:Act) w2:=aQ.prune _
      refine iX (hint:=hints f) hc (y f) hm n (ro:=none) (.inr rfl) I G1 a3 ac (by show ek V.tmps.size I=true;rw[q2.2.1,g2.2.1];exact a5) λA' a' w' z l1 G2 p1 p2 p3=> ?_
      obtain⟨l,aq,bc,Z⟩:=p2.mks
      have Q:a'.defers=l.map mkD++[{target:=.fn (.func g) L,args:= #[]}]:=by
       rw[aq];show _++(_::V.defers)=_;rw[ag]
      obtain⟨i,S3,hd3,k3,v3⟩:=p1;have bd:∀b∈l,w'.heap[b]? =some (.deferred (some [])):=λb hb=>(Z b hb).2.now k3.fr
      have aS:=l1.trans aL
      have M:∀{u u':FrameMode},RecIs u u' r->LeavesInM (FW none) 0 P fn a'.tmps (λe w'=>∃v,Ends (fp rs) e v/\aG A H2 rs v w') a'.defers u w':=λ{u u'} a=>by
       rw[Q];refine AT a.run l w' bc bd λh sh=>⟨a.run,.inr ⟨λhh=>by simp[FW,Fence.wide]at hh,.func g,L,g, #[]++L,rfl,?_,λ_ _=>trivial,?_⟩⟩
       .grind [fm,xB,PI,invoke,jh]
       .have af:∀b,h.heap[b]? =w'.heap[b]? \/(A.w0.heap.size<=b/\∀t,A'.F t b):=λb=>(sh.same b).imp id λq=>⟨fj (by rw[X];exact k2.fr.size) (Z b q).1,(Z b q).2.1⟩
        obtain⟨k4,x4⟩:=k3.upW aS sh.os sh.tape sh.output sh.size af sh.recs;have ak:∀rt,∀b∈S3 rt,h.heap[b]? =w'.heap[b]? :=λrt b hb=>(af b).resolve_right λq=>(k3.bU b (.inl ⟨rt,hb⟩)).2.1 true (q.2 true)
        have v4:∀t,SO (am A s3.H.length i S3 [] h) s3.wk.get hd3 (s3.get t) (a'.tmps.getD t undef):=λt=>SO.aV x4 (λrt q=>k3.hold (k':=s3.wk) (hd':=hd3) _ rfl rfl (ak rt) q) (v3 t)
        have k5:KR A i S3 hd3 [] s3.wk (jP s3 a' []) h:=k4.dq (λp hp=>by
         simp only[jP,g9,gj,jC]at hp
         obtain⟨q,_,rfl⟩:=hp
         exact v4 q.1)
        have ab:A1.n0=s2.H.length:=by rw[X];rfl
        have aP:A1.ρ0=k:=by rw[X];rfl
        have W:bf (am A s3.H.length i S3 [] h) ad L.toList:=bf.pin (c:=am A s2.H.length k S2 [] w2) (by
         show s2.H.length<=s3.H.length;rw[<-ab]
         exact fj l1.n0 k3.cP.1) (λo ho=>by
         have B:o<A1.n0:=by rw[ab];exact ho
         show i o=k o;rw[<-aP]
         exact(k3.cP.2 o (yA B l1.n0)).trans (l1.cP o B)) _ _ j bb
        have S:bf (cxS ({}:bn).sn ({}:bn).lk A s3.H.length i S3 [] h) (canon false ad) (#[]++L).toList:=by
         rw[Array.empty_append];exact bf.canon (J6 _ _ _) (bf.ext (rL _ _ _) _ _ W)
        have U:=ww (C:=CD P u u') F! hG (TU hc y hm n a) k5 S aJ;refine CallsDIn.mono U λen m w3 he=> ?_
        obtain⟨rfl,v,D,bh,S6,bi,r1,r2⟩:=he;rw[N]at D
        unfold Ends at D;rw[if_neg (by simp)]at D
        subst D;show LeavesInM _ _ _ _ _ _ [] (Go.settle m) w3;rw[a.settle]
        have a6:SR A (s3.fin none .dead k0) (a'.put none undef) w3:=SR.fin (d:=none) (v:=undef) r1 trivial (λt ht=>by
         grind [jP]) (λt ht=>by cases ht)
        obtain⟨q1,v,q2,q3⟩:=AV a6 (.inr rfl) e2
        exact⟨v,q2,v,by grind [Ends],q3⟩
      cases aC with
      |exit id=>cases O
      |normal=>
       have hz:z=.normal:=p3;subst hz;simp only[S9,xJ]at O
       subst O;exact M Jo
      |ret=>
       have hz:z=.ret:=p3;subst hz;simp only[S9,xJ]at O
       subst O;exact M Jo
      |cQ d=>
       obtain⟨xv,rfl,aH⟩:=p3;simp only[S9,xJ]at O
       subst O;exact M (TT aH)
     .cases e1
    .cases e1
   .cases e1
  .cases e1
 .cases e1
end
section
variable{P:Pz}{A:Av}{G:Nat->U D}
theorem TV{ds:J D}{es:J T}{v:Vz}{vs:J Vz}{S:aj->J Nat}{hd:aj->Vz}{n:Nat}(h:KR A A.ρ0 S hd [] {ct:=[((0,0),.own es)],H:=[]} [] A.w0)
  (e:SB (am A 0 A.ρ0 S [] A.w0) ({ct:=[((0,0),.own es)],H:=[]}:Wk).get hd (.aH (.l 0 0) [] 0 es.length) v) (ha:bf (am A 0 A.ρ0 S [] A.w0) ds vs):
  SR A (B1 es ds) {tmps:=(v::vs).toArray++Array.replicate (n - (v::vs).toArray.size) undef,defers:=[]} A.w0:=by
 refine⟨A.ρ0,S,hd,h,λt=> ?_⟩
 have f:(((v::vs).toArray++Array.replicate (n - (v::vs).toArray.size) undef).getD t undef)=((v::vs)[t]?).getD undef:=by
  generalize ha:(v::vs).toArray=args;have c:v::vs=args.toList:=by rw[<-ha]
  rw[c,yM]
  by_cases d:t<args.size
  .simp_all [Array.getElem?_append_left]
  .rw[yB,Array.getElem?_append_right (by omega),Array.getElem?_eq_none (xs:=args) (by omega)]
   by_cases g:t - args.size<n - args.size
   .grind
   grind
 have a:(B1 es ds).env=(0,.aH (.l 0 0) [] 0 es.length)::(ds.zipIdx 1).map λp=>(p.2,SV.d p.1):=by
  simp only[B1];rw[List.zipIdx_succ,ke];rfl
 show SO _ _ _ ((look (B1 es ds).env t).getD .dead) _;rw[f,a];simp only[look]
 by_cases b:0=t
 .subst b
  exact e
 grind [G8,B1]
def Wy(P:Pz)(G:Nat->U D)(f:FuncId)(F:J D->U (J T)):Prop:=
 GK P f/\∀c b (H:J Ob),F c=some b->fp b=false->∀(A:Av) (S:aj->J Nat) (hd:aj->Vz) (a:Array Vz),A.n0=H.length->GA G A->KR A A.ρ0 S hd [] {ct:=[],H} [] A.w0->bf (am A H.length A.ρ0 S [] A.w0) c a.toList->
  ck P A.ρ0 f a A.w0 λe w'=>∃v,Ends false e v/\aG A H b v w'
theorem ND(L:P.follows .mixedOrders=true)(hints:FuncId->Hint)(l:∀f g d,(hints f).gl g=some d->G g=some d)(p:∀f F,(hints f).ext=some F->Wy P G f F):∀n,gK P G (eT P hints n)
 |0=>⟨λf w H r e=>by simp[eT]at e,λf w H K O e=>by simp[eT]at e,λf w es K O e=>by simp[eT]at e⟩
 |n+1=>by
  have U:=ND L hints l p n
  refine⟨λf w H r e=> ?_,λf w H K O e A S hd i E hG j h=> ?_,λf w es K O e h0 B aa A S hd v vs E hG j hs h=> ?_⟩
  .simp only[eT]at e
   split at e
   .rename_i B;exact .inl B
   split at e
   .rename_i F Z
    exact(p f F Z).1
   .simp only[xB]at e
    obtain⟨I,t,c,x,e⟩:=e
    split at e
    .rename_i z
     exact .inr ⟨I,t,by rw[x];rfl,z.2.2⟩
    .split at e
     .rename_i z
      exact .inr ⟨I,t,by rw[x];rfl,z.2.2⟩
     .cases e
  rotate_left
  .simp only[eT]at e
   rw[if_neg B]at e
   split at e
   .grind [xB]
   .simp only[xB]at e
    obtain⟨I,t,c,x,e⟩:=e;rw[t,xQ,xJ]at aa
    rw[if_neg (λq=>by omega)]at e
    split at e
    .rename_i z
     simp only[VL,xS,xB]at e
     obtain⟨⟨W,s'⟩,s,m⟩:=e;rw[<-E]at m
     exact Kk U (l f) L n t x hG (TV j hs h) (fK (by simp;omega) c z.2.1) s m
    .cases e
  simp only[eT]at e
  split at e
  .rename_i B
   obtain⟨o,rfl⟩:=Nat.exists_eq_add_of_le B;rw[ri]at e
   grind [TS]
  rename_i B
  split at e
  .rename_i F Z
   simp only[xB]at e
   obtain⟨T,s,e⟩:=e
   split at e
   .cases e
   rename_i V;simp only[xJ,pJ]at e
   obtain⟨rfl,rfl⟩:=e;have Q:fp T=false:=by simpa using V
   rw[Q]
   exact(p f F Z).2 w T H s Q A S hd i E hG j h
  unfold ck;rw[if_neg B];simp only[xB]at e
  obtain⟨I,t,c,x,e⟩:=e
  split at e
  .rename_i z
   obtain⟨hl,hk,af⟩:=z;have y:ek (i++Array.replicate (I.ntmps - i.size) undef).size c=true:=fK (by simp;omega) c hk
   split at e
   .rename_i ac
    simp only[xB]at e
    obtain⟨⟨W,s'⟩,s,m⟩:=e;rw[<-E]at m
    exact G_ U l L n t x hG (G9 j h) y s m
   by_cases k:(decide ((hints f).nilt≠0)&&iD w)=true
   .rw[if_pos k]at e
    obtain⟨t1,t2,H1,H2',ht,q1,q2,l1,l2,m1,m2,hr⟩:=Gg e
    obtain⟨b0,rfl⟩:∃b0,w=[.sl b0 []]:=by
     simp only[xA]at k
     have N:=k.2;unfold iD at N
     grind
    obtain⟨v,X,a,C,rfl⟩:∃v,i.toList=[v]/\∃a C,v=.slice a 0 C:=by
     simp only[bf]at h
     obtain⟨v,r,h1,N,h3,rfl⟩:=h;have h4:=VV.inv (c:=_) ⟨N,h3⟩ (by simp)
     grind [VC]
    have go:∀(b:Bool) (D:J Ob),b=a.isNone->nC D=true->D.length=H.length->(ec P (eT P hints n) (hints f) n c (B0 b H)).bind (jO P (hints f).own I H.length)=some ([t1],D)->
      Calls P f i A.w0 λe w'=>∃v,Ends (fp K) e v/\aG A O K v w':=by
     intro b D Y ad ab u
     obtain rfl:D=O:=by grind [Ha]
     obtain rfl:K=[t2]:=congrArg Prod.fst hr
     have R:∀{v w'},aG A D [t1] v w'->aG A D [t2] v w':=λq=>by
      obtain⟨rfl,rfl⟩ |⟨rfl,rfl⟩:=ht
      .exact TR q
      .exact q
     simp only[xB]at u
     obtain⟨⟨W,s'⟩,s,m⟩:=u;rw[<-E]at m
     have V:fp [t1]=false/\fp [t2]=false:=by
      rcases ht with⟨rfl,rfl⟩ |⟨rfl,rfl⟩ <;>exact⟨rfl,rfl⟩
     refine Calls.mono (Kk U (l f) L n t x hG (TQ j X ⟨a,C,rfl,Y⟩) y s m) λen w' M=> ?_
     obtain⟨v,h1,N⟩:=M;rw[V.1]at h1
     exact⟨v,by rw[V.2];exact h1,R N⟩
    grind
   rw[if_neg k]at e
   simp only[xB]at e
   obtain⟨⟨W,s'⟩,s,m⟩:=e;rw[<-E]at m
   exact Kk U (l f) L n t x hG (G9 j h) y s m
  .split at e
   .simp only[xB]at e
    obtain⟨es,M,_⟩:=e;unfold VL at M
    split at M
    .obtain⟨_,_,q⟩:=j.map 0 _ rfl rfl
     exact q.elim
    .cases M
   .cases e
end
end Go.Am
namespace Go.Am
open Go
def iq(c c':dH):Prop:=∀f ds H r,c f ds H=some r->c' f ds H=some r
section
variable{P:Pz}{c c':dH}{h:Hint}
theorem pg(hc:iq c c'){dst:Nat}{f:FuncId}{ds:J D}{b:bn}{k:Wk}{r:SV×Wk}(e:fm c h dst f ds b k=some r):fm c' h dst f ds b k=some r:=by
 unfold fm at e |-
 split at e
 .rename_i hk
  rw[if_pos hk];simp only[xB]at e |-
  obtain⟨x,d,a⟩:=e
  exact⟨x,hc _ _ _ _ d,a⟩
 rename_i g;rw[if_neg g]
 split at e
 .cases e
 .rename_i hk
  rw[if_neg hk];simp only[xB]at e |-
  obtain⟨x,d,a⟩:=e
  exact⟨x,hc _ _ _ _ d,a⟩
theorem rT(hc:iq c c'){dst:Nat}{f:FuncId}{ds:J D}{b:bn}{k:Wk}{r:SV×Wk}(e:gC c h dst f ds b k=some r):gC c' h dst f ds b k=some r:=by
 grind [gC,xB,pg]
theorem PJ(hc:iq c c'){dst:Nat}{ty:TypeId}{op:Op}{a:Oz->SV}{k:Wk}{r:SV×Wk}(e:dF P c h dst ty op a k=some r):dF P c' h dst ty op a k=some r:=by
 unfold dF at e |-
 split at e
 .simp only
  split at e
  .grind [xB,rT]
  .grind [xB,rT]
  .cases e
 .exact e
theorem WA(hc:iq c c'){dst:Nat}{g:FuncId}{xs:J SV}{k:Wk}{r:SV×Wk}(e:mvE P c h dst g xs k=some r):mvE P c' h dst g xs k=some r:=by simp[mvE]at e
theorem He(hc:iq c c'){dst:Nat}{ty:TypeId}{op:Op}{a:Oz->SV}{k:Wk}{r:U D×SV×Wk}(e:hU P c h dst ty op a k=some r):hU P c' h dst ty op a k=some r:=by
 unfold hU at e |-
 split at e
 .exact e
 .simp only
  split at e
  .grind [xB,WA,rT]
  .cases e
 .grind [xB,rT]
 .exact e
theorem rU(hc:iq c c'){ops:J Qz}{o:Qz}{s:St}{r:Bool×SV×Wk}(e:fh P c h ops o s=some r):fh P c' h ops o s=some r:=by
 grind [fh,xB,xM,PJ]
theorem PK(hc:iq c c'){ops:J Qz}{o:Qz}{s s':St}(e:n7 P c h ops o s=some s'):n7 P c' h ops o s=some s':=by
 grind [mG,xM,rU]
theorem gO(hc:iq c c'){ops:J Qz}:∀(l:J Qz) {s s':St},fo P c h ops l s=some s'->fo P c' h ops l s=some s'
 | [],s,s',e=>e
 |o::l,s,s',e=>by
  simp only[fo,xB]at e |-
  obtain⟨x,b,a⟩:=e
  exact⟨x,PK hc b,gO hc l a⟩
theorem NE(hc:iq c c'){ops:J Qz}{o:Qz}{s:Cf}{r:Cf×Fp}(e:er P c h ops o s=some r):er P c' h ops o s=some r:=by
 grind [er,xM,rU]
theorem ld(hc:iq c c'){ops:J Qz}:∀(l:J Qz) {s:Cf} {r:Cf×J Fp},dX P c h ops l s=some r->dX P c' h ops l s=some r
 | [],s,r,e=>e
 |o::l,s,r,e=>by
  simp only[dX,xB,xM]at e |-
  obtain⟨x,d,y,a,b⟩:=e
  have:=ld hc l a;grind [NE]
theorem lf(hc:iq c c'){ops:J Qz}:∀(l:J Qz) {s:St} {r:U D×St},gJ P c h ops l s=some r->gJ P c' h ops l s=some r
 | [],s,r,e=>e
 |o::l,s,r,e=>by
  simp only[gJ,xB]at e |-
  obtain⟨w,g,b⟩:=e
  refine⟨w,g,?_⟩
  split at b
  .rename_i d
   rw[if_pos d];simp only[xB]at b |-
   obtain⟨⟨t,v,k⟩,f,a⟩:=b
   refine⟨(t,v,k),He hc f,?_⟩
   simp only at a |-
   split at a
   .exact a
   .exact lf hc l a
  have:=lf hc l b;grind
theorem lM(hc:iq c c'){live:J Nat}{ops:J Qz}{bs:J Nat}{s:St}:∀(t:OT) (E:J (Nat×Nat)) {r:St},j3 P c h live ops bs s t E=some r->j3 P c' h live ops bs s t E=some r
 | .leaf,E,r,e=>by
  grind [j3,xB,ld]
 | .node i j a b,E,r,e=>by
  simp only[j3]at e |-
  split at e
  .rename_i d
   rw[if_pos d];simp only[xB]at e |-
   obtain⟨x,k,y,g,f⟩:=e
   exact⟨x,lM hc a _ k,y,lM hc b _ g,f⟩
  .cases e
theorem Dy(hc:iq c c'){f:Oz}{a:J Nat}{x y:Code}{s:St}{r:Ex×St}(e:kX c h f a x y s=some r):kX c' h f a x y s=some r:=by
 unfold kX at e |-
 split at e
 .cases e
 rename_i b;rw[if_neg b]
 split at e
 .simp only
  split at e
  .cases e
  rename_i g;rw[if_neg g];simp only[xB]at e |-
  obtain⟨z,i,d⟩:=e
  exact⟨z,hc _ _ _ _ i,d⟩
 .cases e
theorem lN{f a:St->U (Ex×St)}(hf:∀s r,f s=some r->a s=some r):∀(n m:Nat),n<=m->∀s r,mB f n s=some r->mB a m s=some r
 |0,_,_,_,_,e=>by cases e
 |n+1,0,h,_,_,_=>by omega
 |n+1,m+1,h,s,r,e=>by
  have:=lN hf n m;grind [mB,xB]
theorem eb(hc:iq c c'){n m:Nat}(hn:n<=m):∀(d:Code) (s:St) (r:Ex×St),ec P c h n d s=some r->ec P c' h m d s=some r
 |.skip,s,r,e|.label _,s,r,e|.ret,s,r,e|.exit _,s,r,e=>e
 |.goto _,s,r,e|.refuse _,s,r,e=>by cases e
 | .rangeFunc _ _ _ _,s,r,e=>by
  grind [ec,Dy]
 | .region id g f,s,r,e=>by
  simp only[ec]at e |-
  cases f with
  |true=>
   simp only[if_true]at e |-
   split at e
   .grind [xB,xM,lM]
   grind [xB,ld]
  |false=>
   grind [xM,lf,gO]
 | .seq a b,s,r,e=>by
  have:=eb hc hn a;have:=eb hc hn b;grind [ec,xB]
 | .cond o a b,s,r,e=>by
  have:=eb hc hn a;have:=eb hc hn b;grind [ec]
 | .block id a,s,r,e=>by
  have:=eb hc hn a;grind [ec,xM]
 | .loop a,s,r,e=>by
  simp only[ec]at e |-
  exact lN (λs r=>eb hc hn a s r) n m hn s r e
 | .scope a,s,r,e=>by
  have:=eb hc hn a;grind [ec]
theorem NF(hc:iq c c'){hints:FuncId->Hint}{n m:Nat}(hn:n<=m){o:Nat}{ds:J D}{H:J Ob}{r:J T×J Ob}(e:rF P c hints n o ds H=some r):rF P c' hints m o ds H=some r:=by
 unfold rF at e |-
 split at e
 .grind [xB,eb]
 .cases e
theorem Dz(hc:iq c c'){hints:FuncId->Hint}{n m:Nat}(hn:n<=m){r:D}:iq (mW P c hints n r) (mW P c' hints m r):=λg h H x e=>by
 simp only[mW,xB]at e |-
 obtain⟨f,d,a,b,e⟩:=e
 refine⟨f,d,a,b,?_⟩
 split at e
 .grind [xB,eb]
 .cases e
theorem TW(hc:iq c c'){hints:FuncId->Hint}{n m:Nat}(hn:n<=m){f:FuncId}{g:Code}{h:Nat}{s:St}{r:Ex×St}(e:J2 P c hints n f g h s=some r):J2 P c' hints m f g h s=some r:=by
 unfold J2 at e |-
 split at e
 .simp only[xB]at e |-
  obtain⟨w,x,e⟩:=e
  refine⟨w,gO hc _ x,?_⟩
  split at e
  .rename_i B
   split at e
   .rename_i d a b
    simp only[d,a,b,xB]at e |-
    obtain⟨u,o,e⟩:=e
    refine⟨u,gO hc _ o,?_⟩
    split at e
    .rename_i A
     split at e
     .rename_i t
      rw[if_pos t];simp only[xB,xM]at e |-
      obtain⟨y,k,q,p,z,⟨v,i,j⟩,l⟩:=e
      exact⟨y,eb hc hn _ _ _ k,q,p,z,⟨v,pg (Dz hc hn) i,j⟩,l⟩
     .cases e
    .cases e
   .cases e
  .cases e
 .cases e
theorem NG{hints:FuncId->Hint}:∀n,iq (eT P hints n) (eT P hints (n+1))
 |0=>λf h H r e=>by cases e
 |n+1=>λf h H r e=>by
  have g:=NG (hints:=hints) n;rw[eT]at e |-
  by_cases l:YB<=f
  .rw[if_pos l]at e |-
   exact NF g (nz n) e
  rw[if_neg l]at e |-
  split at e
  .exact e
  simp only[xB]at e |-
  obtain⟨j,v,c,p,e⟩:=e
  refine⟨j,v,c,p,?_⟩
  split at e
  .rename_i i
   rw[if_pos i]
   by_cases o:(hints f).rcv=true
   .rw[if_pos o]at e |-
    simp only[xB]at e |-
    obtain⟨x,d,b⟩:=e
    exact⟨x,TW g (nz n) d,b⟩
   rw[if_neg o]at e |-
   by_cases a:(decide ((hints f).nilt≠0)&&iD h)=true
   .rw[if_pos a]at e |-
    obtain⟨t1,F,w,z,D,k,m,E,B,C,A,rfl⟩:=Gg e;simp only[xB]at k m
    obtain⟨x,d,b⟩:=k;obtain⟨y,q,s⟩:=m;show Q4 H.length (acj (hints f) h) ((ec P (eT P hints (n+1)) (hints f) (n+1) c (B0 true H)).bind (jO P (hints f).own j H.length)) ((ec P (eT P hints (n+1)) (hints f) (n+1) c (B0 false H)).bind (jO P (hints f).own j H.length))=_;rw[eb g (nz n) c _ _ d,eb g (nz n) c _ _ q,xS,xS,b,s]
    grind
   rw[if_neg a]at e |-
   simp only[xB]at e |-
   obtain⟨x,d,b⟩:=e
   exact⟨x,eb g (nz n) c _ _ d,b⟩
  .rename_i i
   rw[if_neg i]
   split at e
   .rename_i h3
    rw[if_pos h3];simp only[xB]at e |-
    obtain⟨t,u,x,d,b⟩:=e
    exact⟨t,u,x,eb g (nz n) c _ _ d,b⟩
   .cases e
theorem eu{hints:FuncId->Hint}{n m:Nat}(h:n<=m):iq (eT P hints n) (eT P hints m):=by
 induction h with
 |refl=>exact λ_ _ _ _ e=>e
 |step _ b=>exact λf a H r e=>NG _ f a H r (b f a H r e)
end
open Classical in
noncomputable def lim{α:Type}(g:Nat->U α):U α:=if h:∃r,∃n,g n=some r then some (Classical.choose h)else none
theorem Rj{a:Type}{g:Nat->U a}(d:∀n m r,n<=m->g n=some r->g m=some r){r:a}:lim g=some r↔∃n,g n=some r:=by
 unfold lim;constructor
 .intro h
  split at h
  .grind
  .cases h
 .rintro⟨n,b⟩
  have c:∃r,∃n,g n=some r:=⟨r,n,b⟩
  grind
section
variable(P:Pz)(hints:FuncId->Hint)
noncomputable def eM:dH:=λf a H=>lim λn=>eT P hints n f a H
noncomputable def eP(h:Hint)(c:Code)(s:St):U (Ex×St):=lim λn=>ec P (eT P hints n) h n c s
variable{P hints}
theorem gS{f:FuncId}{ds:J D}{H:J Ob}{r:J T×J Ob}:eM P hints f ds H=some r↔∃n,eT P hints n f ds H=some r:=
 Rj λn m r h e=>eu h f ds H r e
theorem dT{h:Hint}{c:Code}{s:St}{r:Ex×St}:eP P hints h c s=some r↔∃n,ec P (eT P hints n) h n c s=some r:=
 Rj λn m r a e=>eb (eu a) a c s r e
theorem rV(n:Nat):iq (eT P hints n) (eM P hints):=λf a H r e=>gS.2 ⟨n,e⟩
section
variable{h:Hint}
theorem NH{dst:Nat}{f:FuncId}{ds:J D}{b:bn}{k:Wk}{r:SV×Wk}(e:fm (eM P hints) h dst f ds b k=some r):∃n,fm (eT P hints n) h dst f ds b k=some r:=by
 grind [fm,xB,gS]
theorem rW{dst:Nat}{f:FuncId}{ds:J D}{b:bn}{k:Wk}{r:SV×Wk}(e:gC (eM P hints) h dst f ds b k=some r):∃n,gC (eT P hints n) h dst f ds b k=some r:=by
 grind [gC,xB,NH]
theorem PL{dst:Nat}{ty:TypeId}{op:Op}{a:Oz->SV}{k:Wk}{r:SV×Wk}(e:dF P (eM P hints) h dst ty op a k=some r):∃n,dF P (eT P hints n) h dst ty op a k=some r:=by
 by_cases g:∃f args c,op=.call {callee:=.value f,args:=args,argTypes:=c}
 .obtain⟨f,args,c,rfl⟩:=g
  unfold dF at e |-
  simp only at e |-
  split at e
  .split at e
   .cases e
   rename_i j;simp only[if_neg j]
   split at e
   .exact⟨0,e⟩
   simp only[xB]at e
   obtain⟨x,l,y,b,i⟩:=e;obtain⟨n,d⟩:=rW b
   exact⟨n,by grind⟩
  .simp only[xB]at e
   obtain⟨x,l,y,b,i⟩:=e;obtain⟨n,d⟩:=rW b
   exact⟨n,by grind⟩
  .cases e
 .have:∀call:dH,dF P call h dst ty op a k=opE P h dst ty op a k:=λcall=>by
   unfold dF;split
   .grind
   .rfl
  simp_all
theorem Hf{ops:J Qz}{o:Qz}{s:St}{r:Bool×SV×Wk}(e:fh P (eM P hints) h ops o s=some r):∃n,fh P (eT P hints n) h ops o s=some r:=by
 simp only[fh,xB]at e
 obtain⟨w,b,a⟩:=e
 split at a
 .grind [xM,PL,fh]
 simp_all [fh]
theorem ph{ops:J Qz}:∀(l:J Qz) {s s':St},fo P (eM P hints) h ops l s=some s'->∃n,fo P (eT P hints n) h ops l s=some s'
 | [],s,s',e=>⟨0,e⟩
 |o::l,s,s',e=>by
  simp only[fo,xB]at e
  obtain⟨x,a,f⟩:=e;rw[mG]at a
  simp only[xM]at a
  obtain⟨y,d,g⟩:=a;obtain⟨n,b⟩:=Hf d;obtain⟨m,c⟩:=ph l f
  refine⟨max n m,?_⟩
  simp only[fo,xB]
  refine⟨x,?_,gO (eu (kP n m)) l c⟩
  rw[mG,rU (eu (l9 n m)) b]
  grind
theorem rX{ops:J Qz}:∀(l:J Qz) {s:Cf} {r:Cf×J Fp},dX P (eM P hints) h ops l s=some r->∃n,dX P (eT P hints n) h ops l s=some r
 | [],s,r,e=>⟨0,e⟩
 |o::l,s,r,e=>by
  simp only[dX,xB,xM]at e
  obtain⟨x,a,y,g,f⟩:=e;simp only[er,xM]at a
  obtain⟨z,i,c⟩:=a;obtain⟨n,b⟩:=Hf i;obtain⟨m,d⟩:=rX l g
  refine⟨max n m,?_⟩
  simp only[dX,xB,xM]
  refine⟨x,?_,y,ld (eu (kP n m)) l d,f⟩
  simp only[er,rU (eu (l9 n m)) b,xQ,c]
theorem WB{dst:Nat}{g:FuncId}{xs:J SV}{k:Wk}{r:SV×Wk}(e:mvE P (eM P hints) h dst g xs k=some r):∃n,mvE P (eT P hints n) h dst g xs k=some r:=by simp[mvE]at e
theorem PM{dst:Nat}{ty:TypeId}{op:Op}{c:Oz->SV}{k:Wk}{r:U D×SV×Wk}(e:hU P (eM P hints) h dst ty op c k=some r):∃n,hU P (eT P hints n) h dst ty op c k=some r:=by
 by_cases g:∃f args b,op=.call {callee:=.value f,args:=args,argTypes:=b}
 .obtain⟨f,args,b,rfl⟩:=g
  unfold hU at e |-
  simp only at e |-
  split at e
  .grind [xB,WB,rW]
  .cases e
 .by_cases hd:∃x d args b,op=.call {callee:=.invoke x d,args:=args,argTypes:=b}
  .obtain⟨x,d,args,b,rfl⟩:=hd
   unfold hU at e |-
   simp only[xB]at e |-
   obtain⟨q,j,e⟩:=e
   split at e
   .cases e
   rename_i o;simp only[xB]at e
   obtain⟨x,p,y,i,m⟩:=e;obtain⟨n,l⟩:=rW i
   exact⟨n,q,j,by grind⟩
  have:∀call a:dH,hU P call h dst ty op c k=hU P a h dst ty op c k:=λcall a=>by
   unfold hU;split
   .rfl
   .grind
   .grind
   .rfl
  exact⟨0,by grind⟩
theorem rY{ops:J Qz}:∀(l:J Qz) {s:St} {r:U D×St},gJ P (eM P hints) h ops l s=some r->∃n,gJ P (eT P hints n) h ops l s=some r
 | [],s,r,e=>⟨0,e⟩
 |o::l,s,r,e=>by
  simp only[gJ,xB]at e
  obtain⟨w,i,a⟩:=e
  split at a
  .rename_i d
   simp only[xB]at a
   obtain⟨⟨t,v,k⟩,g,b⟩:=a;obtain⟨n,c⟩:=PM g;simp only at b
   split at b
   .grind [gJ]
   .obtain⟨m,f⟩:=rY l b
    refine⟨max n m,?_⟩
    simp only[gJ,i,xS,d,if_true,He (eu (l9 n m)) c];exact lf (eu (kP n m)) l f
  have:=rY l a;grind [gJ]
theorem gD{a:Type}{x y:U a}(h:∀r,x=some r↔y=some r):x=y:=Option.ext h
theorem mI{c:Code}{s:St}{x:U (Ex×St)}(hx:∀n,ec P (eT P hints n) h n c s=x):eP P hints h c s=x:=
 gD λr=>by rw[dT];simp[hx]
theorem Hg{s:St}:eP P hints h .skip s=some (.normal,s):=mI λ_=>rfl
theorem DA{l:Nat}{s:St}:eP P hints h (.label l) s=some (.normal,s):=mI λ_=>rfl
theorem Jp{s:St}:eP P hints h .ret s=some (.ret,s):=mI λ_=>rfl
theorem Hh{id:Nat}{s:St}:eP P hints h (.exit id) s=some (.exit id,s):=mI λ_=>rfl
theorem AW{id:Nat}{ops:Array Qz}{s:St}(hp:h.cQ.contains id=false):eP P hints h (.region id ops false) s=(fo P (eM P hints) h ops.toList ops.toList s).map λs'=>(.normal,prune (h.live id) s'):=
 gD λr=>by
  grind [dT,ec,xM,gO,rV,ph]
theorem IA{id:Nat}{ops:Array Qz}{s:St}(hp:h.cQ.contains id=true):eP P hints h (.region id ops false) s=(gJ P (eM P hints) h ops.toList ops.toList s).map λp=>match p.1 with |some d=>(.cQ d,p.2) |none=>(.normal,prune (h.live id) p.2):=
 gD λr=>by
  grind [dT,ec,xM,lf,rV,rY]
theorem Hj{id:Nat}{ops:Array Qz}{s:St}(hp:h.swp id=none):eP P hints h (.region id ops true) s=(dX P (eM P hints) h ops.toList ops.toList (s,kE s)).bind λ(c,a)=>if uf ops.toList a then some (.normal,prune (h.live id) c.1)else none:=
 gD λr=>by
  grind [dT,ec,xB,ld,rV,rX]
noncomputable def Jq(P:Pz)(hints:FuncId->Hint)(h:Hint)(b:Code)(r:Ex×St):U (Ex×St):=match r.1 with | .normal=>eP P hints h b r.2 |e=>some (e,r.2)
theorem TX{a b:Code}{s:St}{p:Cpy}(hc:Ge a b=some p):eP P hints h (.seq a b) s=MC P p s:=mI λn=>by grind [ec]
theorem Jr{a b:Code}{s:St}(hc:Ge a b=none):eP P hints h (.seq a b) s=(eP P hints h a s).bind (Jq P hints h b):=
 gD λr=>by
  rw[dT];simp only[ec,hc,xB,Jq];constructor
  .grind [dT]
  .rintro⟨⟨i,f⟩,g,c⟩
   obtain⟨n,d⟩:=dT.1 g;simp only at c
   split at c
   .obtain⟨m,e⟩:=dT.1 c
    exact⟨max n m,⟨.normal,f⟩,eb (eu (l9 n m)) (l9 n m) a _ _ d,eb (eu (kP n m)) (kP n m) b _ _ e⟩
   grind
theorem PN{o:Oz}{a b:Code}{s:St}:eP P hints h (.cond o a b) s=match s.val o with | .d (.bool t)=>if t then eP P hints h a s else eP P hints h b s |_=>none:=
 gD λr=>by
  grind [dT,ec]
theorem NI{id:Nat}{a:Code}{s:St}:eP P hints h (.block id a) s=(eP P hints h a s).map λr=>(r.1.block id,r.2):=
 gD λr=>by
  grind [dT,ec,xM]
theorem DB{a:Code}{s:St}:eP P hints h (.scope a) s=eP P hints h a s:=
 gD λr=>by grind [dT,ec]
theorem Hk{a:Code}{s:St}:eP P hints h (.loop a) s=(eP P hints h a s).bind (Jq P hints h (.loop a)):=
 gD λr=>by
  rw[dT];simp only[xB,Jq];constructor
  .rintro⟨n,e⟩
   simp only[ec]at e
   cases n with
   |zero=>cases e
   |succ n=>
    have k:=e;simp only[mB,xB]at e
    obtain⟨⟨c,d⟩,f,b⟩:=e
    refine⟨⟨c,d⟩,dT.2 ⟨n+1,f⟩,?_⟩
    simp only at b |-
    cases c with
    |normal=>
     refine dT.2 ⟨n+1,?_⟩;simp only[ec];exact lN (λ_ _ e=>e) n (n+1) (nz n) _ _ b
    |_=>exact b
  .rintro⟨⟨c,d⟩,f,b⟩
   obtain⟨n,g⟩:=dT.1 f;simp only at b
   split at b
   .obtain⟨m,i⟩:=dT.1 b
    simp only[ec]at i
    refine⟨max n m+1,?_⟩
    simp only[ec,mB,xB]
    exact⟨⟨.normal,d⟩,eb (eu (by omega)) (by omega) a _ _ g,lN (λs r e=>eb (eu (by omega)) (by omega) a s r e) m (max n m) (kP n m) _ _ i⟩
   .rename_i j
    refine⟨n+1,?_⟩
    simp only[ec,mB,xB]
    refine⟨⟨c,d⟩,eb (eu (nz n)) (nz n) a _ _ g,?_⟩
    grind
end
theorem WC{f:FuncId}{ds:J D}{H:J Ob}{fn:Func}{c:Code}(h:¬YB<=f)(hr:(hints f).rcv=false)(b:(hints f).ext=none)(hf:P.funcs[f]? =some fn)(hb:fn.body=some c)(hl:ds.length=fn.params.size+fn.nfree)(hk:ek fn.ntmps c=true)(hn:(fn.name== "runtime.NumGoroutine")=false)(hx:(decide ((hints f).nilt≠0)&&iD ds)=false):
  eM P hints f ds H=(eP P hints (hints f) c (enter ds H)).bind (jO P (hints f).own fn H.length):=
 gD λr=>by
  rw[gS];simp only[xB];constructor
  .rintro⟨n,e⟩
   cases n with
   |zero=>cases e
   |succ n=>
    grind [eT,xB,dT]
  .rintro⟨x,d,g⟩
   obtain⟨n,a⟩:=dT.1 d
   refine⟨n+1,?_⟩
   grind [eT]
theorem TY{f:FuncId}{ds:J D}{H:J Ob}{F:J D->U (J T)}(a:¬YB<=f)(hx:(hints f).ext=some F):eM P hints f ds H=(F ds).bind λrs=>if fp rs=true then none else some (rs,H):=
 gD λr=>by
  rw[gS];constructor
  .rintro⟨n,e⟩
   cases n with
   |zero=>cases e
   |succ n=>
    grind [eT]
  .intro e
   refine⟨1,?_⟩
   grind [eT]
end
section
variable{P:Pz}{hints:FuncId->Hint}{call:dH}{h:Hint}
def Rk(id:Nat)(e:Ex):Ex:=e.block id
theorem AX{id:Nat}{a:Code}{s:St}:eP P hints h (.block id a) s=(eP P hints h a s).bind λr=>some (Rk id r.1,r.2):=by
 rw[NI,xF];rfl
noncomputable def awk(P:Pz)(hints:FuncId->Hint)(h:Hint)(v:SV)(a b:Code)(s:St):U (Ex×St):=match v with | .d (.bool t)=>if t then eP P hints h a s else eP P hints h b s |_=>none
def AY(P:Pz)(call:dH)(h:Hint)(d:U Nat)(ty:TypeId)(op:Op)(s:St):U St:=(dF P call h (d.getD 0) ty op s.val s.wk).bind λp=>some (s.fin d p.1 p.2)
theorem DC{ops:J Qz}{d:U Nat}{op:Op}{ty:TypeId}{pos:String}{after:Array Edge}{s:St}:n7 P call h ops {dst:=d,op:=op,type:=ty,pos:=pos,after:=after,guard:=none} s=AY P call h d ty op s:=by
 show(dF P call h (d.getD 0) ty op s.val s.wk).map _=_
 rw[xF];rfl
def stepG(P:Pz)(call:dH)(h:Hint)(d:U Nat)(ty:TypeId)(op:Op)(want:Bool)(g:SV)(s:St):U St:=
 match g with
 | .d (.bool b)=>if b=want then AY P call h d ty op s else some (s.fin d (.aS []) s.wk)
 | .aS []=>some (s.fin d (.aS []) s.wk)
 |_=>none
theorem Hl{d:U Nat}{ty:TypeId}{op:Op}{want b:Bool}{s:St}:stepG P call h d ty op want (.d (.bool b)) s=if b=want then AY P call h d ty op s else some (s.fin d (.aS []) s.wk):=rfl
def Js(ops:J Qz)(j:Nat):Nat:=((ops[j]?).bind (·.dst)).getD 0
theorem NJ{ops:J Qz}{d:U Nat}{op:Op}{ty:TypeId}{pos:String}{after:Array Edge}{j:Nat}{want:Bool}{s:St}(f:((ops[j]?).bind (·.dst)).isSome=true):
  n7 P call h ops {dst:=d,op:=op,type:=ty,pos:=pos,after:=after,guard:=some (j,want)} s=stepG P call h d ty op want (s.get (Js ops j)) s:=by
 obtain⟨t,c⟩:=Option.isSome_iff_exists.1 f;have e:Js ops j=t:=by simp[Js,c]
 rw[e];simp only[n7,iu,c];generalize s.get t=g
 have a:∀b:Bool,((some b).bind λw=>if w=true then(dF P call h (d.getD 0) ty op s.val s.wk).map λp=>s.fin d p.1 p.2 else some (s.fin d (.aS []) s.wk))=if b=true then AY P call h d ty op s else some (s.fin d (.aS []) s.wk):=λb=>by
  cases b
  .rfl
  .simp only[xS,if_true,AY];rw[xF];rfl
 cases g with
 |d x=>
  cases x with
  |bool b=>
   refine(a (b==want)).trans ?_
   cases b <;>cases want <;>rfl
  |_=>rfl
 |aS l=>
  cases l with
  |nil=>exact a false
  |cons _ _=>rfl
 |_=>rfl
theorem Kl{s:St}{t:Nat}:s.val (.tmp t)=s.get t:=rfl
theorem G?{s:St}{k:IntKind}{n:Int}:s.val (.const (.int k n))=.d (.int k n):=rfl
theorem WE{s:St}{b:Bool}:s.val (.const (.bool b))=.d (.bool b):=rfl
theorem WG{s:St}:s.val (.const (.slice none 0 0))=.d .aJ:=rfl
theorem WH{s:St}:s.val (.const (.pointer none))=.d .cU:=rfl
theorem WI{s:St}:s.val (.const (.map none))=.d .de:=rfl
theorem WJ{s:St}:s.val (.const .nilFunc)=.d .cZ:=rfl
theorem WK{s:St}:s.val (.const .nilIface)=.d .bX:=rfl
theorem WL{s:St}{f:FuncId}:s.val (.func f)=.d (.fn (.func f) [] []):=rfl
theorem aeD{env:J (Nat×SV)}{ct:J ((Nat×Nat)×T)}{H:J Ob}{t:Nat}:St.get ⟨env,ct,H⟩ t=(look env t).getD .dead:=rfl
theorem WM{t:Nat}:look ([]:J (Nat×SV)) t=none:=rfl
theorem TZ{k t:Nat}{v:SV}{r:J (Nat×SV)}:look ((k,v)::r) t=if k=t then some v else look r t:=rfl
theorem PO{a b c d:Nat}{v:T}{r:J ((Nat×Nat)×T)}:fc (((a,b),v)::r) (c,d)=if a=c/\b=d then some v else fc r (c,d):=by
 simp only[fc,pJ]
theorem aju{env:J (Nat×SV)}{ct:J ((Nat×Nat)×T)}{H:J Ob}:St.wk ⟨env,ct,H⟩=⟨ct,H,[]⟩:=rfl
theorem WN{env:J (Nat×SV)}{ct ct':J ((Nat×Nat)×T)}{H H':J Ob}{d:Nat}{v:SV}{tr:J Tr}:St.fin ⟨env,ct,H⟩ (some d) v ⟨ct',H',tr⟩=⟨(d,v)::trs tr env,ct',H'⟩:=rfl
theorem WO{env:J (Nat×SV)}{ct ct':J ((Nat×Nat)×T)}{H H':J Ob}{v:SV}{tr:J Tr}:St.fin ⟨env,ct,H⟩ none v ⟨ct',H',tr⟩=⟨trs tr env,ct',H'⟩:=rfl
theorem G!{env:J (Nat×SV)}:trs [] env=env:=rfl
theorem WP{x:Tr}{r:J Tr}{env:J (Nat×SV)}:trs (x::r) env=trs r (x.env env):=rfl
theorem T0{x:Tr}:x.env []=[]:=rfl
theorem PP{x:Tr}{t:Nat}{v:SV}{r:J (Nat×SV)}:x.env ((t,v)::r)=(t,x.sv v)::x.env r:=rfl
theorem atP{x:Tr}{y:D}:x.sv (.d y)=.d y:=by cases x <;>rfl
theorem ajv{x:Tr}{b:Bool}{y:J D}:x.sv (.rp b y)=.rp b y:=by cases x <;>rfl
theorem H_{x:Tr}:x.sv .dead=.dead:=by cases x <;>rfl
theorem aeE{x:Tr}{l:J SV}:x.sv (.agg l)=.agg (l.map x.sv):=by
 have:∀l,Tr.bG x l=l.map x.sv:=λl=>by induction l with |nil=>rfl |cons a r b=>simp[Tr.bG,b]
 rw[<-this];cases x <;>rfl
theorem aeF{x:Tr}{l:J SV}:x.sv (.aS l)=.aS (l.map x.sv):=by
 have:∀l,Tr.bG x l=l.map x.sv:=λl=>by induction l with |nil=>rfl |cons a r b=>simp[Tr.bG,b]
 rw[<-this];cases x <;>rfl
theorem H?{v:SV}:aU [] v=v:=rfl
theorem WQ{x:Tr}{r:J Tr}{v:SV}:aU (x::r) v=aU r (x.sv v):=rfl
def xm(s:St):List Nat->List (Nat×SV)
 | []=>[]
 |t::r=>(t,s.get t)::xm s r
theorem WR{live:J Nat}{s:St}:prune live s=⟨xm s live,pick s.ct (jZ (SV.cr ((xm s live).map (·.2)))),s.H⟩:=by
 have:∀l:J Nat,(l.map λt=>(t,s.get t))=xm s l:=λl=>by induction l with |nil=>rfl |cons a r b=>simp[xm,b]
 simp only[prune,this]
theorem WT{live:J Nat}{env:J (Nat×SV)}{ct:J ((Nat×Nat)×T)}{H:J Ob}:prune live ⟨env,ct,H⟩=⟨xm ⟨env,ct,H⟩ live,pick ct (jZ (SV.cr ((xm ⟨env,ct,H⟩ live).map (·.2)))),H⟩:=WR
theorem T2{s:St}:xm s []=[]:=rfl
theorem PQ{s:St}{t:Nat}{r:J Nat}:xm s (t::r)=(t,s.get t)::xm s r:=rfl
theorem WU{ds:J D}{H:J Ob}:enter ds H=⟨(ds.zipIdx).map λp=>(p.2,.d p.1),[],H⟩:=rfl
section
variable{dst:Nat}{ty:TypeId}{ρ:Oz->SV}{k:Wk}
theorem H!{x:Oz}:dF P call h dst ty (.move x) ρ k=some (ρ x,k):=rfl
theorem T3{x:Oz}:dF P call h dst ty (.assign x) ρ k=ff dst (elemOf P ty).isSome (ρ x) k:=rfl
theorem I_{c a b:Oz}:dF P call h dst ty (.pick c a b) ρ k=match ρ c with | .d (.bool t)=>some (if t=true then ρ a else ρ b,k) |_=>none:=rfl
theorem WV{e:TypeId}:dF P call h dst ty (.alloc e) ρ k=(dS P e).bind λz=>Gc h dst (T.cj z) k:=rfl
theorem aeG{e:TypeId}{x:Oz}:dF P call h dst ty (.box e x) ρ k=(jD h.nv (ρ x) k).bind λp=>if p.1.nc=P.cellsOf e then Gc h dst p.1 p.2 else none:=rfl
theorem WW{t:TypeId}{a:Array (Nat×Oz)}:dF P call h dst ty (.build t a) ρ k=(BU P t (a.toList.map λp=>(p.1,ρ p.2))).bind λv=>some (v,k):=by
 show Option.map _ _=_;rw[xF];rfl
theorem IB{t:TypeId}{n:Nat}{a:Array (Nat×Oz)}:dF P call h dst ty (.buildSlice t n a) ρ k=gd P h.nv dst (h.lits.contains dst) t n (a.toList.map λp=>(p.1,ρ p.2)) k:=rfl
theorem I?{t:TypeId}{x:Nat}:dF P call h dst ty (.load t (.tmp x)) ρ k=if h.lits.contains dst=true then(hJ P t (ρ (.tmp x)) k).bind λv=>t6 dst v k else(hJ P t (ρ (.tmp x)) k).bind λv=>some (v,k):=by
 show(if _ then _ else Option.map _ _)=_;rw[xF];rfl
theorem WX{l:J D}:Pf (.agg l)=true:=rfl
theorem WY{t:TypeId}{g:Nat}:dF P call h dst ty (.load t (.global g)) ρ k=(h.gl g).bind λx=>if Pf x=true then(hJ P t (.rp true x.cells) k).bind λv=>some (v,k)else none:=by
 show(h.gl g).bind (λx=>if Pf x=true then Option.map _ _ else none)=_;simp only[xF];rfl
theorem WZ{t:TypeId}{a x:Oz}:dF P call h dst ty (.store t a x) ρ k=(mT P h.nv t (ρ a) (ρ x) k).bind λk=>some (.dead,k):=by
 show Option.map _ _=_;rw[xF];rfl
theorem W2{op:BinOp}{t t':TypeId}{x y:Oz}:dF P call h dst ty (.binOp op t x y t') ρ k=(gR P (isConst x || isConst y) op t (ρ x) (ρ y)).bind λy=>some (.d y,k):=by
 show Option.map _ _=_;rw[xF];rfl
theorem I!{op:UnOp}{t:TypeId}{x:Oz}:dF P call h dst ty (.unOp op t x) ρ k=(unE op (ρ x)).bind λy=>some (.d y,k):=by
 show Option.map _ _=_;rw[xF];rfl
theorem PR{s t:TypeId}{x:Oz}:dF P call h dst ty (.convert s t x) ρ k=(F7 P s t (ρ x)).bind λy=>some (.d y,k):=by
 show Option.map _ _=_;rw[xF];rfl
theorem NK{f:Fn}{a c:Array Oz}:dF P call h dst ty (.makeFunc f a c) ρ k=(SV.bH (a.toList.map ρ)).bind λa=>(SV.bH (c.toList.map ρ)).bind λc=>some (.d (.fn f a c),k):=by
 show Option.bind _ _=_;simp only[xF];rfl
theorem PS{t:TypeId}:dF P call h dst ty (.makeMap t none) ρ k=some (.d (.map k.H.length),{k with H:=k.H++[if h.lits.contains dst=true then .sset []else .map []]}):=rfl
theorem Km{t:TypeId}{l c:Oz}:dF P call h dst ty (.makeSlice t l c) ρ k=Ga P dst t (ρ l) (ρ c) k:=rfl
theorem W3{t:TypeId}{x:Oz}{lo hi a:U Oz}:dF P call h dst ty (.slice t x lo hi a) ρ k=(kx P t (ρ x) (lo.map ρ) (hi.map ρ) (a.map ρ) k).bind λv=>some (v,k):=by
 show Option.map _ _=_;rw[xF];rfl
theorem Kn{t:TypeId}{x:Oz}{f:Nat}:dF P call h dst ty (.fieldAddr t x f) ρ k=(eL P t (ρ x) f k).bind λv=>some (v,k):=by
 show Option.map _ _=_;rw[xF];rfl
theorem W4{t:TypeId}{x:Oz}{f:Nat}:dF P call h dst ty (.field t x f) ρ k=(F8 P t (ρ x) f).bind λv=>some (v,k):=by
 show Option.map _ _=_;rw[xF];rfl
theorem Ko{t:TypeId}{x i:Oz}:dF P call h dst ty (.indexAddr t x i) ρ k=(gU P t (ρ x) (ρ i) k).bind λv=>some (v,k):=by
 show Option.map _ _=_;rw[xF];rfl
theorem W5{t:TypeId}{x i:Oz}:dF P call h dst ty (.index t x i) ρ k=(ub P t (ρ x) (ρ i)).bind λv=>some (v,k):=by
 show Option.map _ _=_;rw[xF];rfl
theorem T4{t:TypeId}{m key:Oz}{a:Bool}:dF P call h dst ty (.lookup t m key a) ρ k=if h.lits.contains dst=true then(if a=true then none else Gb P dst t (ρ m) (ρ key) k)else if h.cA.contains dst=true then(if a=true then none else nY P t (ρ m) (ρ key) k)else(nA P t (ρ m) (ρ key) a k.H).bind λv=>some (v,k):=by
 show(if _ then _ else if _ then _ else Option.map _ _)=_;rw[xF];rfl
theorem Kq{t:TypeId}{m key x:Oz}:dF P call h dst ty (.mapUpdate t m key x) ρ k=(hD P h.nv t (ρ m) (ρ key) (ρ x) k).bind λk=>some (.dead,k):=by
 show Option.map _ _=_;rw[xF];rfl
theorem T5{t:TypeId}{m key x:Oz}:dF P call h dst ty (.insert t m key x) ρ k=(hD P h.nv t (ρ m) (ρ key) (ρ x) k).bind λk=>some (.dead,k):=by
 show Option.map _ _=_;rw[xF];rfl
theorem NL{x:Oz}:dF P call h dst ty (.nilCheck x) ρ k=match ρ x with | .loc r p i o=>some (.loc r p i o,k) | .rp b d=>some (.rp b d,k) | .d (.ptr o)=>some (.d (.ptr o),k) | .d (.bR d)=>some (.d (.bR d),k) | .d (.fn (.func f) a c)=>some (.d (.fn (.func f) a c),k) |_=>none:=rfl
theorem PU{x:Oz}{n:Nat}:dF P call h dst ty (.extract x n) ρ k=match ρ x with | .aS l=>(l[n]?).bind λv=>some (v,k) |_=>none:=by
 show(match ρ x with | .aS l=>(l[n]?).map (·,k) |_=>none)=_
 cases ρ x <;>simp only[xF] <;>rfl
def NM(P:Pz)(call:dH)(h:Hint)(dst:Nat)(f:SV)(xs:J SV)(k:Wk):U (SV×Wk):=
 match f with
 | .d (.fn (.func g) first cap)=>if YB<=g then none else match AE P g with
  |some c=>(SV.bH xs).bind λa=>(S5 c (first++a++cap)).map λy=>(.d y,k)
  |none=>(gV (h.nvAt dst) xs k {}).bind λ(a,k,b)=>(gC call h dst g (canon b.sn (first++a++cap)) b k).bind jY
 | .d (.yld o)=>(gV (h.nvAt dst) xs k {}).bind λ(a,k,b)=>(gC call h dst (YB+o) (canon b.sn a) b k).bind jY
 |_=>none
theorem K_{f:Oz}{args:Array Oz}{cz:Array TypeId}:dF P call h dst ty (.call {callee:=.value f,args:=args,argTypes:=cz}) ρ k=NM P call h dst (ρ f) (args.toList.map ρ) k:=by
 unfold NM
 show(match ρ f with | .d (.fn (.func g) first cap)=>_ | .d (.yld o)=>_ |_=>none)=_
 rfl
theorem W6{g:FuncId}{first cap:J D}{xs:J SV}(a:g<1099511627776)(hx:AE P g=none):NM P call h dst (.d (.fn (.func g) first cap)) xs k=(gV (h.nvAt dst) xs k {}).bind λp=>(gC call h dst g (canon p.2.2.sn (first++p.1++cap)) p.2.2 p.2.1).bind jY:=by
 unfold NM;simp only[if_neg (show¬YB<=g from Nat.not_le.2 a),hx]
theorem W7(a:h.emp=[]):h.nvAt dst=h.nv:=by simp[Hint.nvAt,a]
theorem W8{v:SV}:jY (v,k)=if v.bO=true then none else some (v,k):=rfl
theorem K?{x:D}:(SV.d x).bO=false:=rfl
theorem T6{r:aj}{p:dR}{o l:Nat}:(SV.aH r p o l).bO=false:=rfl
theorem W9:(SV.aS []).bO=false:=rfl
theorem Xa{a:SV}{x:D}:(SV.aS [a,.d x]).bO=false:=by cases a <;>rfl
theorem Xb{a b c:SV}{l:J SV}:(SV.aS (a::b::c::l)).bO=false:=by
 unfold SV.bO;split
 .rename_i e;simp at e
 .rfl
theorem Xc:fp []=false:=rfl
theorem Xd{a:T}:fp [a]=false:=by cases a <;>rfl
theorem T7{a:T}{x:D}:fp [a,.d x]=false:=by cases a <;>rfl
theorem Xe{a b c:T}{l:J T}:fp (a::b::c::l)=false:=by
 unfold fp;split
 .rename_i e;simp at e
 .rfl
theorem aeH{args:Array Oz}{cz:Array TypeId}:dF P call h dst ty (.call {callee:=.builtin .len,args:=args,argTypes:=cz}) ρ k=match args.toList,cz.toList with | [x],[t]=>(F9 P t k.H (ρ x)).bind λn=>some (.d (.int .i64 n),k) |_,_=>none:=by
 show(match args.toList,cz.toList with | [x],[t]=>(F9 P t k.H (ρ x)).map λn=>(SV.d (.int .i64 n),k) |_,_=>none)=_
 simp only[xF];rfl
theorem aeI{args:Array Oz}{cz:Array TypeId}:dF P call h dst ty (.call {callee:=.builtin .min,args:=args,argTypes:=cz}) ρ k=match args.toList with | [x,y]=>(SW (ρ x) (ρ y)).bind λn=>some (.d n,k) |_=>none:=by
 show(match args.toList with | [x,y]=>(SW (ρ x) (ρ y)).map λn=>(SV.d n,k) |_=>none)=_
 simp only[xF];rfl
theorem K!{x y:Oz}{t u:TypeId}:dF P call h dst ty (.call {callee:=.builtin .copy,args:= #[x,y],argTypes:= #[t,u]}) ρ k=(nZ P t (ρ x) (ρ y) k).bind λp=>some p:=by
 simp only[dF,opE];simp
theorem aeJ{args:Array Oz}{cz:Array TypeId}:dF P call h dst ty (.call {callee:=.builtin .max,args:=args,argTypes:=cz}) ρ k=match args.toList with | [x,y]=>(SX (ρ x) (ρ y)).bind λn=>some (.d n,k) |_=>none:=by
 show(match args.toList with | [x,y]=>(SX (ρ x) (ρ y)).map λn=>(SV.d n,k) |_=>none)=_
 simp only[xF];rfl
theorem T8{args:Array Oz}{cz:Array TypeId}:dF P call h dst ty (.call {callee:=.builtin .append,args:=args,argTypes:=cz}) ρ k=match args.toList,cz.toList with | [x,y],[t,u]=>if t=u then iA P h.nv dst t (ρ x) (ρ y) k else none |_,_=>none:=rfl
end
end
def pR(P:Pz)(own:Bool)(rs:J ResultVar)(n0:Nat)(r:Ex×St):U (J T×J Ob):=
 match r.1 with
 | .exit _=>none
 | .cQ d=>some ([.d d,.agg []],lE n0 [.d d] r.2.H)
 |_=>(kh P r.2 rs).bind λb=>(nB b r.2.wk).bind λp=>(settle own p.1).bind λa=>if fp a=true then none else some (a,lE n0 a p.2.H)
theorem Jt{P:Pz}{own:Bool}{fn:Func}{n0:Nat}:jO P own fn n0=pR P own fn.results.toList n0:=by
 funext ⟨a,s⟩;unfold jO pR
 cases a <;>rfl
theorem PV{P:Pz}{own:Bool}{rs:J ResultVar}{n0:Nat}{s:St}:pR P own rs n0 (.ret,s)=(kh P s rs).bind λvs=>(nB vs s.wk).bind λp=>(settle own p.1).bind λa=>if fp a=true then none else some (a,lE n0 a p.2.H):=rfl
theorem NN{P:Pz}{s:St}:kh P s []=some []:=rfl
theorem Kr{P:Pz}{s:St}{r:ResultVar}{rs:J ResultVar}:kh P s (r::rs)=(Gf P s r).bind λv=>(kh P s rs).bind λvs=>some (v::vs):=by
 simp only[kh,xF];rfl
theorem PW{P:Pz}{s:St}{t:Nat}:Gf P s (.tmp t)=some (s.get t):=rfl
theorem NO{P:Pz}{s:St}{t ty:Nat}:Gf P s (.cell t ty)=hJ P ty (s.get t) s.wk:=rfl
theorem T9{k:Wk}:nB [] k=some ([],k):=rfl
theorem Ua{v:SV}{k:Wk}:nB [v] k=kj [v] k:=rfl
theorem Ub{u v:SV}{r:J SV}{k:Wk}:nB (u::v::r) k=if crossing (u::v::r)=true then J1 (u::v::r) k else kj (u::v::r) k:=rfl
theorem Ks:crossing []=false:=rfl
theorem IC{u:SV}{r:J SV}:crossing (u::r)=(r.any (wq u) || crossing r):=rfl
theorem Uc{x:D}{v:SV}:wq (.d x) v=false:=rfl
theorem PX{u v:SV}(h:v.bp=none):wq u v=false:=by unfold wq;rw[h];cases u.bp <;>rfl
theorem PY{u:SV}{x:D}:wq u (.d x)=false:=PX rfl
theorem NP{k:Wk}:kj [] k=some ([],k):=rfl
theorem Kt{v:SV}{r:J SV}{k:Wk}:kj (v::r) k=(fV 0 v k).bind λp=>(kj r p.2).bind λq=>some (p.1::q.1,q.2):=by
 simp only[kj,xF];rfl
theorem PZ{a:J T}:settle true a=some (a.map T.fresh):=rfl
theorem P0{a:J T}:settle false a=(T.aZ false a).bind λxs=>some ((canon false xs).map T.d):=by
 simp only[settle,xF];rfl
theorem Xf{b:Bool}:T.aZ b []=some []:=rfl
theorem Ud{b:Bool}{t:T}{r:J T}:T.aZ b (t::r)=(T.cR b t).bind λx=>(T.aZ b r).bind λxs=>some (x::xs):=by
 simp only[T.aZ,xF];rfl
theorem ajw{b:Bool}{x:D}:T.cR b (.d x)=some x.norm:=by simp only[T.cR]
theorem L_{b:Bool}{es:J T}:T.cR b (.own es)=(T.aZ b es).bind λxs=>some (.sl b xs):=by simp only[T.cR,xF];rfl
theorem L?{b:Bool}{es:J T}:T.cR b (.agg es)=(T.aZ b es).bind λxs=>some (.agg xs):=by simp only[T.cR,xF];rfl
theorem NQ{P:Pz}{hints:FuncId->Hint}{f:FuncId}{ds:J D}{H:J Ob}{fn:Func}{c:Code}{rs:J ResultVar}(d:f<1099511627776)(b:(hints f).rcv=false)(a:(hints f).ext=none)(hf:P.funcs[f]? =some fn)(hb:fn.body=some c)(hl:ds.length=fn.params.size+fn.nfree)(hk:ek fn.ntmps c=true)(hn:(fn.name== "runtime.NumGoroutine")=false)(hr:fn.results.toList=rs)(hx:(decide ((hints f).nilt≠0)&&iD ds)=false):
  eM P hints f ds H=(eP P hints (hints f) c (enter ds H)).bind (pR P (hints f).own rs H.length):=by
 rw[WC (Nat.not_le.2 d) b a hf hb hl hk hn hx,Jt,hr]
attribute [go_sem] Jr AX Hg Jp Hh DA DB DC Kl G? WE WG WH WI WJ WK WL aeD WM TZ PO aju WN WO G! WP T0 PP atP ajv H_ aeE aeF H? WQ WT T2 PQ H! T3 I_ WV aeG WW IB I? WY WX WZ W2 I! PR NK PS Km W3 Kn W4 Ko W5 T4 Kq T5 NL PU K_ aeH aeI aeJ T8 W6 W7 W8 K? T6 W9 Xa Xb Xc Xd T7 Xe
attribute [go_sem] PV NN Kr PW NO T9 Ua Ub Ks IC Uc PY NP Kt PZ P0 Xf Ud ajw L_ L? AY
attribute [go_sem] xS Option.bind_none Option.getD_some Option.getD_none List.map_cons List.map_nil xQ Option.map_none List.cons_append List.nil_append List.append_nil pJ List.zipIdx_cons List.zipIdx_nil WU
theorem lg{x:Int}(h1:-9223372036854775808<=x)(h2:x<=9223372036854775807):IntKind.i64.wrap x=x:=by
 simp only[IntKind.wrap,IntKind.signed,IntKind.bits];simp;omega
section
variable{P:Pz}{dst nv:Nat}{sl:Bool}{k:Wk}
theorem atQ{q:IntKind}{n:Int}:ff dst sl (.d (.int q n)) k=some (.d (.int q n),k):=rfl
theorem asz{b:Bool}:ff dst sl (.d (.bool b)) k=some (.d (.bool b),k):=rfl
theorem atS{s:J UInt8}:ff dst sl (.d (.str s)) k=some (.d (.str s),k):=rfl
theorem awl{b:Bool}{l:J D}:ff dst sl (.d (.sl b l)) k=some (.d (.sl b l),k):=rfl
theorem asA:ff dst sl (.d .cU) k=some (.d .cU,k):=rfl
theorem atT{o:Nat}:ff dst sl (.d (.ptr o)) k=some (.d (.ptr o),k):=rfl
theorem asB:ff dst sl (.d .de) k=some (.d .de,k):=rfl
theorem atU{o:Nat}:ff dst sl (.d (.map o)) k=some (.d (.map o),k):=rfl
theorem asC:ff dst sl (.d .cZ) k=some (.d .cZ,k):=rfl
theorem awm{f:Fn}{a c:J D}:ff dst sl (.d (.fn f a c)) k=some (.d (.fn f a c),k):=rfl
theorem asD:ff dst sl (.d .bX) k=some (.d .bX,k):=rfl
theorem asE:ff dst sl (.d .aJ) k=if sl=true then some (.aH (.l dst 0) [] 0 0,k.new dst 0 (.own []))else some (.d .aJ,k):=rfl
attribute[go_sem]atQ asz atS awl asA atT asB atU asC awm asD asE
@[go_sem] theorem asF{r:aj}{a:Nat×Nat}{p:dR}{o len:Nat}:ff dst sl (.aH r (a::p) o len) k=some (.aH r (a::p) o len,k):=by cases r <;>cases o <;>rfl
@[go_sem] theorem atV{n j len:Nat}:ff dst sl (.aH (.l n j) [] 0 len) k=if(n,j)=(dst,0)then some (.aH (.l n j) [] 0 len,k)else(k.get (.l n j)).bind λc=>match c with
  | .own a=>if len=a.length then some (.aH (.l dst 0) [] 0 len,({k with ct:=((n,j),.dead)::k.ct}.new dst 0 c).tell (.dp (n,j) (dst,0)))else some (.aH (.l n j) [] 0 len,k)
  |_=>none:=rfl
section
variable{c:Bool}{t:TypeId}{q:IntKind}{a b:Int}
@[go_sem] theorem asG:gR P c .add t (.d (.int q a)) (.d (.int q b))=some (.int q (q.wrap (a+b))):=by simp[gR,my]
@[go_sem] theorem asH:gR P c .sub t (.d (.int q a)) (.d (.int q b))=some (.int q (q.wrap (a - b))):=by simp[gR,my]
@[go_sem] theorem asI:gR P c .mul t (.d (.int q a)) (.d (.int q b))=some (.int q (q.wrap (a * b))):=by simp[gR,my]
@[go_sem] theorem asJ:gR P c .quo t (.d (.int q a)) (.d (.int q b))=if b=0 then none else some (.int q (q.wrap (a.tdiv b))):=by simp[gR,my]
@[go_sem] theorem asK:gR P c .rem t (.d (.int q a)) (.d (.int q b))=if b=0 then none else some (.int q (a.tmod b)):=by simp[gR,my]
@[go_sem] theorem asL:gR P c .eql t (.d (.int q a)) (.d (.int q b))=some (.bool (decide (a=b))):=by simp[gR,my];rfl
@[go_sem] theorem asM:gR P c .neq t (.d (.int q a)) (.d (.int q b))=some (.bool (decide (a≠b))):=by simp[gR,my,bne];rfl
@[go_sem] theorem asN:gR P c .lss t (.d (.int q a)) (.d (.int q b))=some (.bool (decide (a<b))):=by simp[gR,my]
@[go_sem] theorem asO:gR P c .leq t (.d (.int q a)) (.d (.int q b))=some (.bool (decide (a<=b))):=by simp[gR,my]
@[go_sem] theorem asP:gR P c .gtr t (.d (.int q a)) (.d (.int q b))=some (.bool (decide (b<a))):=by simp[gR,my]
@[go_sem] theorem asQ:gR P c .geq t (.d (.int q a)) (.d (.int q b))=some (.bool (decide (b<=a))):=by simp[gR,my]
@[go_sem] theorem ajx{x y:Bool}:gR P c .eql t (.d (.bool x)) (.d (.bool y))=match P.underlying t with |some .bool=>some (.bool (decide (x=y))) |_=>none:=by
 simp only[gR,eqV]
 cases P.underlying t with
 |none=>rfl
 |some d=>cases d <;>first |rfl |(cases x <;>cases y <;>rfl)
@[go_sem] theorem ajy{x y:Bool}:gR P c .neq t (.d (.bool x)) (.d (.bool y))=match P.underlying t with |some .bool=>some (.bool (decide (x≠y))) |_=>none:=by
 simp only[gR,eqV]
 cases P.underlying t with
 |none=>rfl
 |some d=>cases d <;>first |rfl |(cases x <;>cases y <;>rfl)
@[go_sem] theorem ajz{x y:J D}:gR P c .neq t (.d (.agg x)) (.d (.agg y))=(rA P t).bind λks=>(tY ks x y).bind λb=>some (.bool !b):=by
 simp only[gR,eqV]
 cases rA P t with
 |none=>rfl
 |some ks=>simp only[xS];cases tY ks x y <;>rfl
@[go_sem] theorem ajA{x y:J UInt8}:gR P c .eql t (.d (.str x)) (.d (.str y))=some (.bool (decide (x=y))):=by
 have:(x==y)=decide (x=y):=by rw[Bool.eq_iff_iff];simp
 simp only[gR,Q1,this]
end
@[go_sem] theorem ajB:tY [] [] []=some true:=rfl
@[go_sem] theorem ajC{ns:J Nat}{q:IntKind}{a b:Int}{r s:J D}:tY (0::ns) (.int q a::r) (.int q b::s)=(tY ns r s).bind λx=>some (decide (a=b)&&x):=by
 simp only[tY,eqK,if_true,xS,xF];rfl
theorem atW{b:Bool}:unE .not (.d (.bool b))=some (.bool !b):=rfl
theorem ajD{s t:TypeId}{q:IntKind}{n:Int}:F7 P s t (.d (.int q n))=match P.underlying s,P.underlying t with |some _,some (.int q)=>some (.int q (q.wrap n)) |_,_=>none:=rfl
theorem awn{q r:IntKind}{a b:Int}:SW (.d (.int q a)) (.d (.int r b))=some (.int q (if b<a then b else a)):=rfl
theorem awo{q r:IntKind}{a b:Int}:SX (.d (.int q a)) (.d (.int r b))=some (.int q (if b >a then b else a)):=rfl
theorem atX{t:TypeId}{H:J Ob}{b:Bool}{l:J D}:F9 P t H (.d (.sl b l))=match P.underlying t with |some (.slice _)=>some (l.length:Int) |_=>none:=rfl
theorem asR{t:TypeId}{H:J Ob}{s:J UInt8}:F9 P t H (.d (.str s))=match P.underlying t with |some .string=>some (s.length:Int) |_=>none:=rfl
theorem asS{t:TypeId}{H:J Ob}{r:aj}{p:dR}{o n:Nat}:F9 P t H (.aH r p o n)=match P.underlying t with |some (.slice _)=>some (n:Int) |_=>none:=rfl
attribute[go_sem]atW ajD awn awo atX asR asS
@[go_sem] theorem awp{t:TypeId}{b:Bool}{l:J D}{q:IntKind}{n:Int}:gU P t (.d (.sl b l)) (.d (.int q n)) k=match P.underlying t with |some (.slice e)=>if 0<=n then(l[n.toNat]?).bind λy=>if y.nc=P.cellsOf e then some (.rp b y.cells)else none else none |_=>none:=by
 simp only[gU]
 cases P.underlying t with
 |none=>rfl
 |some d=>cases d <;>rfl
@[go_sem] theorem atY{t:TypeId}{r:aj}{p:dR}{o len:Nat}{q:IntKind}{n:Int}:gU P t (.aH r p o len) (.d (.int q n)) k=match P.underlying t with
  |some (.slice e)=>if 0<=n/\n<len then(k.get r).bind λc=>(c.at p).bind λb=>match b with
   | .own a=>(a[o+n.toNat]?).bind λy=>if y.nc=P.cellsOf e then some (.loc r p (o+n.toNat) 0)else none
   |_=>none
   else none
  |_=>none:=by
 simp only[gU]
 cases P.underlying t with
 |none=>rfl
 |some d=>cases d <;>rfl
@[go_sem] theorem awq{t:TypeId}{b:Bool}{cs:J D}:hJ P t (.rp b cs) k=(oR P t).bind λa=>if a=true then(if P.cellsOf t<=cs.length then some (.d (.agg (cs.take (P.cellsOf t))))else none)else(cs[0]?).bind D.sv1:=rfl
def NR(P:Pz)(t:TypeId)(r:aj)(p:dR)(i off:Nat)(e:T):U SV:=
 (oR P t).bind λb=>if b=true then
   match e with
   | .d (.agg l)=>if off+P.cellsOf t<=l.length then some (.d (.agg (bz l off (P.cellsOf t))))else none
   | .agg a=>if off+P.cellsOf t<=a.length then(kg r p i off (bz a off (P.cellsOf t))).map SV.br else none
   |_=>none
  else(e.cell off).bind (im r p i off)
@[go_sem] theorem atZ{t:TypeId}{r:aj}{p:dR}{i off:Nat}:hJ P t (.loc r p i off) k=(k.get r).bind λc=>(c.at p).bind λnd=>match nd with | .own a=>(a[i]?).bind (NR P t r p i off) |_=>none:=by
 simp only[hJ,bD]
 cases k.get r with
 |none=>rfl
 |some c=>
  simp only[xS]
  cases c.at p with
  |none=>rfl
  |some nd=>cases nd <;>rfl
@[go_sem] theorem at1{t:TypeId}{n:Nat}:hJ P t (.d (.ptr n)) k=hJ P t (.loc (.o n) [] 0 0) k:=rfl
@[go_sem] theorem asT{t:TypeId}{r:aj}{p:dR}{i off:Nat}{x:D}:NR P t r p i off (.d x)=(oR P t).bind λa=>if a=true then(match x with | .agg l=>if off+P.cellsOf t<=l.length then some (.d (.agg (bz l off (P.cellsOf t))))else none |_=>none)else(T.cell (.d x) off).bind (im r p i off):=by
 simp only[NR];cases x <;>rfl
@[go_sem] theorem ahD{t:TypeId}{r:aj}{p:dR}{i off:Nat}{es:J T}:NR P t r p i off (.own es)=(oR P t).bind λa=>if a=true then none else(T.cell (.own es) off).bind (im r p i off):=rfl
@[go_sem] theorem ahE{t:TypeId}{r:aj}{p:dR}{i off:Nat}{cs:J T}:NR P t r p i off (.agg cs)=(oR P t).bind λa=>if a=true then(if off+P.cellsOf t<=cs.length then(kg r p i off (bz cs off (P.cellsOf t))).map SV.br else none)else(T.cell (.agg cs) off).bind (im r p i off):=rfl
@[go_sem] theorem ajE{l:J T}{o:Nat}:T.cell (.agg l) o=l[o]? :=rfl
@[go_sem] theorem ahF{l:J D}{o:Nat}:T.cell (.d (.agg l)) o=(l[o]?).bind λx=>some (.d x):=by
 show(l[o]?).map _=_;rw[xF];rfl
theorem ajF{q:IntKind}{n:Int}:T.cell (.d (.int q n)) 0=some (.d (.int q n)):=rfl
theorem asU{b:Bool}{l:J D}:T.cell (.d (.sl b l)) 0=some (.d (.sl b l)):=rfl
theorem ajG{o:Nat}:T.cell (.d (.ptr o)) 0=some (.d (.ptr o)):=rfl
theorem asV{f:Fn}{a c:J D}:T.cell (.d (.fn f a c)) 0=some (.d (.fn f a c)):=rfl
theorem ajH{es:J T}:T.cell (.own es) 0=some (.own es):=rfl
theorem awr{r:aj}{p:dR}{i o:Nat}{x:D}:im r p i o (.d x)=x.sv1:=rfl
theorem asW{r:aj}{p:dR}{i o:Nat}{es:J T}:im r p i o (.own es)=some (.aH r (p++[(i,o)]) 0 es.length):=rfl
theorem asX{q:IntKind}{n:Int}:D.sv1 (.int q n)=some (.d (.int q n)):=rfl
theorem ajI{b:Bool}:D.sv1 (.bool b)=some (.d (.bool b)):=rfl
theorem asY{s:J UInt8}:D.sv1 (.str s)=some (.d (.str s)):=rfl
theorem at2{b:Bool}{l:J D}:D.sv1 (.sl b l)=some (.d (.sl b l)):=rfl
theorem asZ{o:Nat}:D.sv1 (.ptr o)=some (.d (.ptr o)):=rfl
theorem as0{o:Nat}:D.sv1 (.map o)=some (.d (.map o)):=rfl
theorem at3{f:Fn}{a c:J D}:D.sv1 (.fn f a c)=some (.d (.fn f a c)):=rfl
theorem ahG{q:IntKind}{n:Int}:D.cells (.int q n)=[.int q n]:=rfl
theorem ahH{s:J UInt8}:D.cells (.str s)=[.str s]:=rfl
theorem ajJ{b:Bool}{l:J D}:D.cells (.sl b l)=[.sl b l]:=rfl
theorem ahI{l:J D}:D.cells (.agg l)=l:=rfl
theorem at4{q:IntKind}{n:Int}:D.nc (.int q n)=1:=rfl
theorem as1{b:Bool}:D.nc (.bool b)=1:=rfl
theorem at5{s:J UInt8}:D.nc (.str s)=1:=rfl
theorem aws{b:Bool}{l:J D}:D.nc (.sl b l)=1:=rfl
theorem at6{l:J D}:D.nc (.agg l)=l.length:=rfl
theorem as2:D.nc .aJ=1:=rfl
theorem at7{o:Nat}:D.nc (.ptr o)=1:=rfl
theorem at8{o:Nat}:D.nc (.map o)=1:=rfl
theorem awt{f:Fn}{a c:J D}:D.nc (.fn f a c)=1:=rfl
theorem awu{x:D}:T.nc (.d x)=x.nc:=rfl
theorem as3{l:J T}:T.nc (.own l)=1:=rfl
theorem as4{l:J T}:T.nc (.agg l)=l.length:=rfl
theorem awv{t:TypeId}{b:Bool}{cs:J D}{f:Nat}:eL P t (.rp b cs) f k=(dz P t f).bind λp=>if 0<p.2.1 then some (.rp b (cs.drop p.1))else none:=rfl
theorem at9{t:TypeId}{r:aj}{p:dR}{i o f:Nat}:eL P t (.loc r p i o) f k=(dz P t f).bind λq=>if 0<q.2.1 then(if o5 k r p i (o+q.1)=true then some (.loc r p i (o+q.1))else none)else none:=rfl
theorem as5{t:TypeId}{cs:J D}{f:Nat}:eL P t (.d (.bR cs)) f k=eL P t (.rp true cs) f k:=rfl
theorem aua{t:TypeId}{n f:Nat}:eL P t (.d (.ptr n)) f k=eL P t (.loc (.o n) [] 0 0) f k:=rfl
theorem aub{t:TypeId}{l:J D}{f:Nat}:F8 P t (.d (.agg l)) f=(dz P t f).bind λq=>if q.2.2=true then(if q.1+q.2.1<=l.length then some (.d (.agg (bz l q.1 q.2.1)))else none)else(l[q.1]?).bind D.sv1:=rfl
attribute[go_sem]ajF asU ajG asV ajH awr asW asX ajI asY at2 asZ as0 at3 ahG ahH ajJ ahI at4 as1 at5 aws at6 as2 at7 at8 awt awu as3 as4 awv at9 as5 aua aub
@[go_sem] theorem P1{t:T}:t.at []=some t:=by unfold T.at;rfl
@[go_sem] theorem as6{es:J T}{i o:Nat}{p:dR}:T.at (.own es) ((i,o)::p)=(es[i]?).bind λe=>(e.cell o).bind λc=>c.at p:=by simp only[T.at]
@[go_sem] theorem as7{t x:T}:t.put [] x=some x:=by unfold T.put;rfl
@[go_sem] theorem ajK{es:J T}{i o:Nat}{p:dR}{x:T}:T.put (.own es) ((i,o)::p) x=(es[i]?).bind λe=>(e.cell o).bind λc=>(c.put p x).bind λc'=>some (.own (es.set i (e.aT o c'))):=by simp only[T.put,xF];rfl
theorem aww{ct:J ((Nat×Nat)×T)}{H:J Ob}{tr:J Tr}{n j:Nat}:Wk.get ⟨ct,H,tr⟩ (.l n j)=fc ct (n,j):=rfl
theorem awx{ct:J ((Nat×Nat)×T)}{H:J Ob}{tr:J Tr}{n:Nat}:Wk.get ⟨ct,H,tr⟩ (.o n)=match H[n]? with |some (.box c)=>some (.own [c]) |_=>none:=rfl
theorem awy{ct:J ((Nat×Nat)×T)}{H:J Ob}{tr:J Tr}{n j:Nat}{t:T}:Wk.set ⟨ct,H,tr⟩ (.l n j) t=some ⟨((n,j),t)::ct,H,tr⟩:=rfl
theorem awz{ct:J ((Nat×Nat)×T)}{H:J Ob}{tr:J Tr}{n:Nat}{c:T}:Wk.set ⟨ct,H,tr⟩ (.o n) (.own [c])=some ⟨ct,H.set n (.box c),tr⟩:=rfl
theorem as8{ct:J ((Nat×Nat)×T)}{H:J Ob}{tr:J Tr}{x:Tr}:Wk.tell ⟨ct,H,tr⟩ x=⟨ct,H,tr++[x]⟩:=rfl
theorem auc{ct:J ((Nat×Nat)×T)}{H:J Ob}{tr:J Tr}{n j:Nat}{t:T}:Wk.new ⟨ct,H,tr⟩ n j t=⟨((n,j),t)::ct,H,tr++[.kill (.l n j) []]⟩:=rfl
theorem aud{h:Hint}{x:T}:Gc h dst x k=if x.nc=0 then none else if h.cA.contains dst=true then some (.d (.ptr k.H.length),{k with H:=k.H++[.box x]})else some (.loc (.l dst 0) [] 0 0,k.new dst 0 (.own [x])):=rfl
attribute[go_sem]aww awx awy awz as8 auc aud
attribute [go_sem] Nd
@[go_sem] theorem ajL{r:aj}{p:dR}{i off:Nat}:o5 k r p i off=((k.get r).bind λc=>c.at p).any λnd=>match nd with | .own a=>(a[i]?).any λe=>decide (off<e.nc) |_=>false:=by
 unfold o5
 cases(k.get r).bind λc=>c.at p with
 |none=>rfl
 |some x=>cases x with
  |own a=>simp only[Option.any_some];cases a[i]? <;>rfl
  |_=>rfl
@[go_sem] theorem ajM{a b:Type}{o:U a}{f:a->a->U b}:(o.bind λx=>o.bind λy=>f x y)=o.bind λx=>f x x:=by cases o <;>rfl
@[go_sem] theorem aue{r:aj}{p:dR}{o len:Nat}:fV nv (.aH r p o len) k=dO nv (aU k.tr (.aH r p o len)) k:=rfl
@[go_sem] theorem auf{l:J SV}:fV nv (.agg l) k=(gH nv l k).bind λp=>some (T.br p.1,p.2):=by show(gH nv l k).map _=_;rw[xF];rfl
@[go_sem] theorem awA{x:D}:dO nv (.d x) k=some (.d x,k):=rfl
@[go_sem] theorem awB{n j o len:Nat}:dO nv (.aH (.l n j) [] o len) k=(k.get (.l n j)).bind λc=>match c with
  | .own a=>if nv<=n/\o=0/\len=a.length then(k.set (.l n j) .dead).bind λ(k:Wk)=>some (.own a,k.tell (.kill (.l n j) []))
   else(T.aZ false a).bind λl=>(k.set (.l n j) .dead).bind λ(k:Wk)=>some (.d (.sl false (bz l o len)),k.tell (.cR (.l n j) [] l))
  |_=>none:=by
 simp only[dO]
 cases k.get (.l n j)with
 |none=>rfl
 |some c=>
  simp only[xS,P1]
  cases c with
  |own a=>simp only[xF];rfl
  |_=>rfl
@[go_sem] theorem as9:gH nv [] k=some ([],k):=rfl
@[go_sem] theorem ajN{v:SV}{r:J SV}:gH nv (v::r) k=(dO nv (aU k.tr v) k).bind λp=>(gH nv r p.2).bind λq=>some (p.1::q.1,q.2):=by simp only[gH,xF];rfl
@[go_sem] theorem ata{b:bn}:gV nv [] k b=some ([],k,b):=rfl
@[go_sem] theorem ajO{v:SV}{r:J SV}{b:bn}:gV nv (v::r) k b=(wS nv v k b).bind λp=>(gV nv r p.2.1 p.2.2).bind λq=>some (p.1::q.1,q.2.1,q.2.2):=by simp only[gV,xF];rfl
@[go_sem] theorem ax0{x:D}{b:bn}:wS nv (.d x) k b=some (if EM<=nv then x else x.norm,k,b):=by simp only[wS,ack,fJ]
theorem aug{r:aj}{p:dR}{o len:Nat}{b:bn}:wS nv (.aH r p o len) k b=fJ nv (aU k.tr (.aH r p o len)) k b:=rfl
theorem ajP{q:IntKind}{n:Int}:D.norm (.int q n)=.int q n:=rfl
theorem ahJ{l:J D}:D.norm (.bR l)=.bR l:=rfl
theorem ahK{b:Bool}:D.norm (.bool b)=.bool b:=rfl
theorem ajQ{s:J UInt8}:D.norm (.str s)=.str s:=rfl
theorem atb{b:Bool}{l:J D}:D.norm (.sl b l)=.sl b l:=rfl
theorem ahL:D.norm .aJ=.sl false []:=rfl
theorem ajR{o:Nat}:D.norm (.ptr o)=.ptr o:=rfl
theorem ajS{o:Nat}:D.norm (.map o)=.map o:=rfl
theorem atc{f:Fn}{a c:J D}:D.norm (.fn f a c)=.fn f a c:=rfl
theorem ahM{l:J D}:D.norm (.agg l)=.agg (l.map D.bt):=rfl
theorem ahN{q:IntKind}{n:Int}:D.bt (.int q n)=.int q n:=rfl
theorem aeK{b:Bool}:D.bt (.bool b)=.bool b:=rfl
theorem ahO{s:J UInt8}:D.bt (.str s)=.str s:=rfl
theorem ajT{b:Bool}{l:J D}:D.bt (.sl b l)=.sl b l:=rfl
theorem aeL:D.bt .aJ=.sl false []:=rfl
theorem ajU{f:Fn}{a c:J D}:D.bt (.fn f a c)=.fn f a c:=rfl
theorem ahP{ct:J ((Nat×Nat)×T)}{x:Nat×Nat}{r:J (Nat×Nat)}:pick ct (x::r)=match fc ct x with |some t=>(x,t)::pick ct r |none=>pick ct r:=rfl
theorem ahQ{ct:J ((Nat×Nat)×T)}:pick ct []=[]:=rfl
attribute[go_sem]aug ajP ahJ ahK ajQ atb ahL ajR ajS atc ahM ahN aeK ahO ajT aeL ajU ahP ahQ
attribute [go_sem] SV.cr SV.roots jZ
end
structure dg where
 d:Option Nat
 ty:TypeId
 op:Op
 g:Option (Nat×Bool)
def jR(ops:J Qz)(o:Qz):dg:=⟨o.dst,o.type,o.op,o.guard.map λp=>(Js ops p.1,p.2)⟩
def Xg(P:Pz)(call:dH)(h:Hint)(o:dg)(s:St):U St:=
 match o.g with
 |none=>AY P call h o.d o.ty o.op s
 |some (t,want)=>stepG P call h o.d o.ty o.op want (s.get t) s
def rZ(P:Program)(call:dH)(h:Hint):List dg->St->Option St
 | [],s=>some s
 |o::r,s=>(Xg P call h o s).bind (rZ P call h r)
def kn(ops:J Qz)(o:Qz):Bool:=match o.guard with |none=>true |some (j,_)=>((ops[j]?).bind (·.dst)).isSome
section
variable{P:Pz}{hints:FuncId->Hint}{call:dH}{h:Hint}
theorem P2{ops:J Qz}{o:Qz}{s:St}(e:kn ops o=true):n7 P call h ops o s=Xg P call h (jR ops o) s:=by
 obtain⟨d,op,ty,c,b,a⟩:=o
 cases a with
 |none=>exact DC
 |some p=>obtain⟨j,want⟩:=p;exact NJ e
theorem mJ{ops:J Qz}:∀(l:J Qz) (s:St),l.all (kn ops)=true->fo P call h ops l s=rZ P call h (l.map (jR ops)) s
 | [],s,_=>rfl
 |o::l,s,a=>by
  simp only[kU,xA]at a
  simp only[fo,eG,rZ,P2 a.1];congr 1;funext b;exact mJ l b a.2
def slotsApart(ops:J Qz)(x y:Qz):Bool:=
 (match x.dst with |some d=> !(looks ops y).contains d&&y.dst !=some d |none=>true)&&
 (match y.dst with |some d=> !(looks ops x).contains d |none=>true)
def Rl(ops:List Oper)(b:Nat)(y:Oper):Nat->List Oper->Bool
 |_,[]=>true
 |j,x::r=>(b.testBit j || slotsApart ops x y)&&Rl ops b y (j+1) r
def Rm(ops:List Oper):Nat->List Nat->List Oper->Bool
 |i,b::a,y::r=>Rl ops b y 0 (ops.take i)&&Rm ops (i+1) a r
 |_,_,_=>true
def pureR(h:Hint)(ops:J Qz):Bool:=ops.all (λo=> !fY h (o.dst.getD 0) o.op)&&(match BZ ops []with |some a=>Rm ops 0 a ops |none=>false)
def sd(ops:J Qz)(o:Qz)(f:Fp):Prop:=f.sl=looks ops o/\f.dst=o.dst/\f.wr=[]/\f.hw=false/\f.dp=false
theorem DD{ops:J Qz}{o:Qz}{c:Cf}(a:fY h (o.dst.getD 0) o.op=false){s':St}(e:n7 P call h ops o c.1=some s'):∃c' f,er P call h ops o c=some (c',f)/\c'.1=s'/\sd ops o f:=by
 rw[mG]at e
 simp only[xM]at e
 obtain⟨⟨w,v,k⟩,b,rfl⟩:=e
 refine⟨_,_,ib b,rfl,rfl,rfl,?_,?_,?_⟩
 .have:=(mF b).2 (by simp[a])
  subst this;simp[mA,ga,St.wk]
 .simp[mA,a]
 .have:=(mF b).2 (by simp[a])
  subst this;rfl
theorem AZ{ops:J Qz}:∀(l:J Qz) {c:Cf} {s':St},(∀o∈l,fY h (o.dst.getD 0) o.op=false)->fo P call h ops l c.1=some s'->∃c' a,dX P call h ops l c=some (c',a)/\c'.1=s'/\All2 (sd ops) l a
 | [],c,s',_,e=>by simp only[fo,xJ]at e;exact⟨c,[],rfl,e,rfl⟩
 |o::l,c,s',b,e=>by
  simp only[fo,xB]at e
  obtain⟨r,p,j⟩:=e;obtain⟨q,f,m,rfl,d⟩:=DD (b o (by simp)) p
  obtain⟨k,a,i,n,q3⟩:=AZ l (λo g=>b o (by simp[g])) j
  exact⟨k,f::a,by simp only[dX,m,xS,i,xQ],n,f,a,rfl,d,q3⟩
theorem zt{ops:J Qz}{x y:Qz}{f g:Fp}(hf:sd ops x f)(i:sd ops y g)(h:slotsApart ops x y=true):apartFp f g=true:=by
 obtain⟨j,n,o,p,e⟩:=hf;obtain⟨k,a,b,l,c⟩:=i
 suffices rC f g=true by simp[apartFp,this]
 simp only[rC,j,n,o,p,e,k,a,b,l,c];simp only[slotsApart,xA]at h
 cases d:x.dst <;>cases m:y.dst <;>simp only[d,m]at h |- <;>simp[MB] <;>simpa using h
theorem xn{ops:J Qz}{y:Qz}{b:Nat}{g:Fp}(e:sd ops y g):∀(l:J Qz) (a:J Fp) (j:Nat),All2 (sd ops) l a->Rl ops b y j l=true->jt b g j a=true
 | [],a,j,c,_=>by rw[show a=[]from c];rfl
 |x::l,a,j,c,d=>by
  obtain⟨f,r,rfl,h,i⟩:=c;simp only[Rl,xA,ic]at d
  simp only[jt,xA,ic]
  exact⟨d.1.imp id (zt h e),xn e l r (j+1) i d.2⟩
theorem DE{ops:J Qz}{all:J Fp}(a:All2 (sd ops) ops all):∀(l:J Qz) (c:J Fp) (i:Nat) (bs:J Nat),All2 (sd ops) l c->Rm ops i bs l=true->rE all i bs c=true
 | [],c,i,bs,d,_=>by rw[show c=[]from d];cases bs <;>rfl
 |y::l,c,i,[],d,_=>by obtain⟨f,r,rfl,_,_⟩:=d;rfl
 |y::l,c,i,b::bs,d,e=>by
  obtain⟨f,r,rfl,g,h⟩:=d;simp only[Rm,xA]at e
  simp only[rE,xA]
  exact⟨xn g _ _ 0 (All2.take i a) e.1,DE a l r (i+1) bs h e.2⟩
def Xh(h:Hint)(id:Nat)(ls:J Nat)(c:Code):Bool:=
 match c with
 | .region i a b=>decide (i=id)&&a.toList.all (kn a.toList)&&(!b || pureR h a.toList)&&decide (h.live id=ls)&& !h.cQ.contains id&&(!b || (h.swp id).isNone)
 |_=>false
def opsL(c:Code):J dg:=match c with | .region _ a _=>a.toList.map (jR a.toList) |_=>[]
theorem ajV{c:Code}{id:Nat}{ls:J Nat}{L:J dg}(hk:Xh h id ls c=true)(D:opsL c=L)(s:St):eP P hints h c s=(rZ P (eM P hints) h L s).bind λs'=>some (.normal,prune ls s'):=by
 unfold Xh at hk
 split at hk
 .rename_i i a B
  simp only[xA,yD,ic,rq]at hk
  obtain⟨⟨⟨⟨⟨rfl,y⟩,hd⟩,v⟩,b⟩,n⟩:=hk;subst D
  have d:(eP P hints h (.region i a false) s)=(rZ P (eM P hints) h (a.toList.map (jR a.toList)) s).bind λs'=>some (.normal,prune ls s'):=by
   rw[AW b,mJ _ _ y,v,xF];rfl
  cases B with
  |false=>exact d
  |true=>
   obtain hd |hd:=hd
   .cases hd
   .refine Eq.trans ?_ d
    have m:h.swp i=none:=by
     obtain q |q:=n
     .cases q
     .simpa using q
    rw[Hj m,AW b,v];simp only[pureR,xA,iy,rq]at hd
    obtain⟨w,u⟩:=hd
    split at u
    .rename_i C p
     refine gD λr=> ?_
     simp only[xB,xM];constructor
     .rintro⟨⟨c',g⟩,k,j⟩
      simp only at j
      split at j
      .refine⟨c'.1,?_,by simpa using j⟩
       have:∀(l:J Qz) (c c':Cf) (g:J Fp),dX P (eM P hints) h a.toList l c=some (c',g)->fo P (eM P hints) h a.toList l c.1=some c'.1:=by
        intro l
        induction l with
        |nil=>intro c c' g e;simp only[dX,xJ,pJ]at e;rw[<-e.1];rfl
        |cons o l E=>
         intro c c' g e;simp only[dX,xB,xM,pJ]at e
         obtain⟨⟨G,f⟩,k,⟨F,z⟩,j,rfl,_⟩:=e;simp only[fo,Ci k,xS];exact E _ _ _ j
       exact this _ _ _ _ k
      .cases j
     .rintro⟨s',k,rfl⟩
      obtain⟨c',g,x,A,q3⟩:=AZ a.toList (c:=(s,kE s)) w k
      refine⟨(c',g),x,?_⟩
      have t:uf a.toList g=true:=by
       unfold uf;rw[p];exact DE q3 _ _ 0 C q3 u
      simp only[t,if_true,A]
    .cases u
 .cases hk
@[go_sem] theorem ajW{s:St}:rZ P call h [] s=some s:=rfl
def Rn(P:Pz)(call:dH)(h:Hint)(d:U Nat)(r:J dg)(s:St)(v:SV)(k:Wk):U St:=rZ P call h r (s.fin d v k)
section
variable{d:U Nat}{ty:TypeId}{op:Op}{r:J dg}{env:J (Nat×SV)}{ct ct':J ((Nat×Nat)×T)}{H H':J Ob}{tr:J Tr}{v:SV}{s:St}{t:Nat}{want b:Bool}
@[go_sem] theorem P3:rZ P call h (⟨d,ty,op,none⟩::r) ⟨env,ct,H⟩=(dF P call h (d.getD 0) ty op (St.val ⟨env,ct,H⟩) ⟨ct,H,[]⟩).bind λp=>Rn P call h d r ⟨env,ct,H⟩ p.1 p.2:=by
 simp only[rZ,Xg,AY,xX,xS];rfl
@[go_sem] theorem ajX:Rn P call h d r s v ⟨ct',H',tr⟩=rZ P call h r (s.fin d v ⟨ct',H',tr⟩):=rfl
def uw(P:Pz)(call:dH)(h:Hint)(d:U Nat)(ty:TypeId)(op:Op)(want:Bool)(r:J dg)(s:St)(g:SV):U St:=(stepG P call h d ty op want g s).bind λs'=>rZ P call h r s'
@[go_sem] theorem P4:rZ P call h (⟨d,ty,op,some (t,want)⟩::r) ⟨env,ct,H⟩=uw P call h d ty op want r ⟨env,ct,H⟩ (St.get ⟨env,ct,H⟩ t):=rfl
@[go_sem] theorem ux:uw P call h d ty op want r ⟨env,ct,H⟩ (.d (.bool b))=if b=want then(dF P call h (d.getD 0) ty op (St.val ⟨env,ct,H⟩) ⟨ct,H,[]⟩).bind λp=>Rn P call h d r ⟨env,ct,H⟩ p.1 p.2 else rZ P call h r (St.fin ⟨env,ct,H⟩ d (.aS []) ⟨ct,H,[]⟩):=by
 by_cases e:b=want
 .simp only[uw,Hl,e,if_true,AY,xX,xS];rfl
 .simp only[uw,Hl,e,if_false,xS];rfl
@[go_sem] theorem NS:uw P call h d ty op want r ⟨env,ct,H⟩ (.aS [])=rZ P call h r (St.fin ⟨env,ct,H⟩ d (.aS []) ⟨ct,H,[]⟩):=rfl
end
end
end Go.Am
