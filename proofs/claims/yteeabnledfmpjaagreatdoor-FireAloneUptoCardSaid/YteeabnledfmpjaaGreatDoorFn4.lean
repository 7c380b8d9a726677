/- A part of the proof: texts of mine, merged by a program (wip/dev/merge.py). -/
import Derived.Test.YteeabnledfmpjaaGreatDoorFn3
import Derived.Tactics
import Derived.RangeFuncIn
import Derived.RangeFuncLeaves
import Derived.Maps.RangeRun
import Derived.LoopNIn
import Derived.Scope
import Derived.RecoverIn
set_option linter.unusedSimpArgs false
set_option linter.unusedVariables false
namespace Go.Am
open Go Go.RowKit
theorem zf(acc:J Nat)(x:Nat):∀(l:J Edge) (m:Nat),(l.foldl (λm e=>if Region.binds .any e then m ||| 2 ^ e.on ||| (acc[e.on]?).getD 0 else m) m).testBit x=true->
  m.testBit x=true\/∃e∈l,Region.binds .any e=true/\(x=e.on\/((acc[e.on]?).getD 0).testBit x=true)
 | [],m,h=>.inl h
 |e::l,m,h=>by
  have:=zf acc x l;grind
theorem Cg:∀(l:J Qz) (acc bs:J Nat),BY l acc=some bs->(∃r,bs=acc++r)/\bs.length=acc.length+l.length/\
  ∀i o,l[i]? =some o->(∀e∈o.after.toList,Region.binds .any e=true->e.on<acc.length+i)/\∃b,bs[acc.length+i]? =some b/\b=QJ (bs.take (acc.length+i)) o
 | [],acc,bs,h=>by simp_all [BY]
 |o::l,acc,bs,h=>by
  simp only[BY]at h
  split at h
  .rename_i a
   obtain⟨⟨r,c⟩,d,h3⟩:=Cg l _ bs h;simp only[xP,xZ,yN]at d h3
   refine⟨⟨QJ acc o::r,by rw[c];simp⟩,by grind,λi f g=> ?_⟩
   cases i with
   |zero=>
    grind
   |succ i=>
    grind
  .cases h
theorem w9(b:Nat)(f:Fp):∀(l:J Fp) (j:Nat),jl b f j l=true->∀i g,l[i]? =some g->b.testBit (j+i)=false->apartFp g f=true
 | [],j,_,i,g,c,_=>by simp at c
 |a::l,j,h,i,g,c,d=>by
  simp only[jl,xA,iq]at h
  cases i with
  |zero=>
   grind
  |succ i=>
   have:=w9 b f l;grind
theorem Dp(all:J Fp):∀(bs:J Nat) (a:J Fp) (i:Nat),rj all i bs a=true->∀j b f,bs[j]? =some b->a[j]? =some f->jl b f 0 (all.take (i+j))=true
 | [],a,i,_,j,b,f,c,_=>by simp at c
 |e::bs,[],i,_,j,b,f,_,d=>by simp at d
 |e::bs,g::a,i,h,j,b,f,c,d=>by
  simp only[rj,xA]at h
  cases j with
  |zero=>
   grind
  |succ j=>
   have:=Dp all bs a;grind
section
variable{P:Pz}{A:Av}{call:dF}{hint:Hint}
theorem SR.drawn{s:St}{a:Act}{w:Wz}{n:Nat}(d:SR A s a w):SR A s a {w with drawn:=n}:=by
 obtain⟨ρ,S,hd,h,f⟩:=d;have ext:Ext (am A s.H.length ρ S [] w) (am A s.H.length ρ S [] {w with drawn:=n}):=⟨λt b j=>⟨j,rfl⟩,dB _,λ_ _=>rfl⟩
 refine⟨ρ,S,hd,⟨λr t e=>TC.ext ext _ _ _ (λ_ _=>rfl) (h.cont r t e),h.gone,h.obj,λn g i c=> ?_,h.bz,h.bT,by simp,⟨h.fr.os,h.fr.tape,h.fr.output,h.fr.size,h.fr.kept,h.fr.recs⟩,h.Fold,h.cM⟩,λt=> ?_⟩
 .exact(h.map n g i c).ext ext (λ_ _=>rfl) rfl rfl
 .exact SO.aV ext (λr q=>h.hold (k':=s.wk) (hd':=hd) _ rfl rfl (λ_ _=>rfl) q) (f t)
theorem mq{ops:J Qz}{o:Qz}{s:St}:nQ P call hint ops o s=(fe P call hint ops o s).map λ(w,v,k)=>s.fin o.dst v k:=by
 unfold nQ fe
 cases ik ops s o with
 |none=>rfl
 |some w=>
  cases w with
  |true=>simp only[xS,if_true,Option.map_map];rfl
  |false=>rfl
theorem Ch{ops:J Qz}{o:Qz}{c d:Cf}{f:Fp}(e:ek P call hint ops o c=some (d,f)):nQ P call hint ops o c.1=some d.1:=by
 grind [fx,mq]
theorem um{ops:J Qz}:∀(l:J Qz) {c d:Cf} {a:J Fp},dV P call hint ops l c=some (d,a)->a.length=l.length
 | [],c,d,a,e=>by grind [dV]
 |o::l,c,d,a,e=>by
  simp only[dV,xB,xM,pJ]at e
  obtain⟨⟨h,f⟩,_,⟨i,b⟩,g,_,rfl⟩:=e;simp[um l g]
theorem Jd{G:Nat->U D}(hc:gJ P G call)(hG:GA G A)(c:∀g d,hint.gl g=some d->G g=some d){ops:Array Qz}{ro:U Nat}{Q:Exit->Act->Wz->Prop}{a0:Act}{ds:J Nat}:∀(l:J Qz) {s s':St} {a:Act} {w:Wz},SR A s a w->Kp a0 ds a->(∀o∈l,∀d,o.dst=some d->d∈ds/\d<a0.tmps.size)->fh P call hint ops.toList l s=some s'->
  (∀f w',SR A s' f w'->Kp a0 ds f->Q .normal f w')->wpListIn (FW ro) 0 P ops Q l a w
 | [],s,s',a,w,h,b,hd,e,i=>by
  simp only[fh,xJ]at e
  subst e;exact i a w h b
 |o::l,s,s',a,w,h,b,hd,e,i=>by
  simp only[fh,xB]at e
  obtain⟨t,m,r⟩:=e;refine wpListIn_step λK q=>GL hc hG c h b (hd o (by simp)) m λf w' n k=>q _ _ ?_
  exact Jd hc hG c l n k (λj p=>hd j (by simp[p])) r i
theorem xb{a:Type}(l:J a):∀(L:J Nat),(∀i∈L,i<l.length)->(L.filterMap λi=>l[i]?).length=L.length
 | [],_=>rfl
 |i::L,h=>by
  have:=xb l L;grind
theorem J3(a:Array Bool)(i j:Nat)(hi:i<a.size):(a.setIfInBounds i true).getD j true=if j=i then true else a.getD j true:=by
 by_cases h:j=i
 .subst h;simp[hi]
 simp_all [Ne.symm]
theorem AJ{a:Array Bool}{i:Nat}(hi:i<a.size):a.getD i false=a.getD i true:=by grind
def mr(ops:Array Qz)(a:Array Bool):J Nat:=(List.range ops.size).filter λi=> !a.getD i true
def Un(ops:Array Qz)(a:Array Bool)(x:Nat):Prop:=x<ops.size/\a.getD x true=false
theorem qv{ops:Array Qz}{a:Array Bool}{x:Nat}:x∈mr ops a↔Un ops a x:=by
 grind [mr,Un]
def V7(bs:J Nat)(a:Array Bool):Prop:=∀i b,a.getD i false=true->bs[i]? =some b->∀x,b.testBit x=true->a.getD x false=true
inductive RT where
 |leaf (L:List Nat) (fs:List Fp) (c:Cf)
 |node (i j:Nat) (a b:RT)
def RE(bs:J Nat)(E:J (Nat×Nat))(p q:Nat×Fp):Prop:=(∀b,bs[q.1]? =some b->b.testBit p.1=false->apartFp p.2 q.2=true)\/∃e∈E,leB bs p.1 e.1=true/\leB bs e.2 q.1=true
def RT.Ok(P:Program)(call:dF)(hint:Hint)(ops:Array Oper)(bs:List Nat)(d:Array Bool)(c:Cf):List (Nat×Nat)->RT->Prop
 |E,.leaf L e c'=>L.Perm (mr ops d)/\dV P call hint ops.toList (jR ops.toList L) c=some (c',e)/\(L.zip e).Pairwise (RE bs E)
 |E,.node i j a b=>i≠j/\Un ops d i/\Un ops d j/\RT.Ok P call hint ops bs d c ((i,j)::E) a/\RT.Ok P call hint ops bs d c ((j,i)::E) b
def RT.Ends(K:Cf->Prop):RT->Prop
 | .leaf _ _ c=>K c
 | .node _ _ a b=>RT.Ends K a/\RT.Ends K b
theorem Je{ops:Array Qz}(L:J Nat)(h:∀x∈L,x<ops.size):(jR ops.toList L).length=L.length:=xb ops.toList L (λx hx=>by grind)
theorem Nh{ops:Array Qz}{a:Array Bool}{i:Nat}(b:a.size=ops.size)(hi:i<ops.size):mr ops (a.setIfInBounds i true)=(mr ops a).filter λx=>decide (x≠i):=by
 unfold mr;rw[List.filter_filter]
 grind [J3]
theorem V8{ops:Array Qz}{a:Array Bool}{i x:Nat}(c:a.size=ops.size)(hi:i<ops.size)(hx:Un ops a x)(b:x≠i):Un ops (a.setIfInBounds i true) x:=
 ⟨hx.1,by rw[J3 a i x (by omega),if_neg b];exact hx.2⟩
theorem Tj{ops:Array Qz}{bs:J Nat}{a:Array Bool}{c c':Cf}{E:J (Nat×Nat)}{L:J Nat}{w:J Fp}{i:Nat}{o:Qz}{b:Nat}(bP:a.size=ops.size)(C:Inv c)(ho:ops[i]? =some o)(B:Un ops a i)(ab:bs[i]? =some b)(R:∀x,Un ops a x->b.testBit x=false)
  (hE:∀e∈E,Un ops a e.1/\Un ops a e.2/\e.2≠i) (h:RT.Ok P call hint ops bs a c E (.leaf L w c')):
  ∃G fi L' M d,ek P call hint ops.toList o c=some (G,fi)/\RT.Ok P call hint ops bs (a.setIfInBounds i true) G (E.filter λe=>decide (e.1≠i)) (.leaf L' M d)/\Eqv c' d:=by
 obtain⟨g,e,v⟩:=h;have z:i∈L:=g.mem_iff.2 (qv.2 B);obtain⟨LA,s,rfl⟩:=List.append_of_mem z;have l:∀x∈LA++i::s,Un ops a x:=λx y=>qv.1 (g.mem_iff.1 y)
 have O:(LA++i::s).Nodup:=g.nodup_iff.2 (List.Pairwise.filter _ List.nodup_range);have n1:=List.nodup_append.1 O;have N:ops.toList[i]? =some o:=by rw[yM];exact ho
 have j:=Je (ops:=ops) LA (λx y=>(l x (by simp[y])).1)
 have t:=Je (ops:=ops) s (λx y=>(l x (by simp[y])).1)
 have K:jR ops.toList (LA++i::s)=jR ops.toList LA++o::jR ops.toList s:=by
  simp only[jR,List.filterMap_append,List.filterMap_cons,N]
 rw[K]at e
 have D:=um _ e;simp only[xP,xZ,j,t]at D
 obtain⟨k,m,n,S,A⟩:∃k fi n,w=k++fi::n/\k.length=LA.length:=by
  have V:LA.length<w.length:=by omega
  refine⟨w.take LA.length,w[LA.length],w.drop (LA.length+1),?_,by simp;omega⟩
  grind [List.getElem_cons_drop,yP]
 subst S;rw[List.zip_append (by omega),List.zip_cons_cons]at v
 have ac:∀x,Un ops a x->x≠i->leB bs x i=false:=λx y ad=>by
  grind [leB]
 obtain⟨G,d,fi,H,g2,X,Z⟩:=ab9 _ o _ C e (λfi u f I=>by
  rw[j,<-A]at u I
  simp only[xN (dB _),re,yE,xJ]at u
  subst u;rw[List.take_left']at I
  .obtain⟨p,Q,rfl⟩:=mZ I
   have hz:(LA[p]'(by omega),k[p])∈LA.zip k:=List.mem_iff_getElem.2 ⟨p,by simp;omega,by simp⟩
   have aa:=l (LA[p]'(by omega)) (by simp)
   rcases(List.pairwise_append.1 v).2.2 _ hz (i,m) (by simp)with q |⟨U,he,T,W⟩
   .grind
   grind
  .rfl)
 rw[j,<-A]at H X
 simp only[xN (dB _),re,yE,xJ]at H
 subst H;have e3:(k++m::n).take k.length++(k++m::n).drop (k.length+1)=k++n:=by simp
 rw[e3]at X
 refine⟨G,m,LA++s,k++n,d,g2,⟨?_,?_,?_⟩,Z⟩
 .rw[Nh bP B.1]
  have q:=g.filter λx=>decide (x≠i)
  rw[List.filter_append,List.filter_cons]at q
  grind [List.filter_eq_self]
 .grind [jR]
 .rw[List.zip_append (by omega)]
  have F:(LA.zip k++s.zip n).Pairwise (RE bs E):=v.sublist (List.Sublist.append (List.Sublist.refl _) (List.sublist_cons_self _ _))
  have Y:∀p∈LA.zip k++s.zip n,Un ops a p.1/\p.1≠i:=λp Q=>by
   obtain q |q:=List.mem_append.1 Q
   .have:=(List.of_mem_zip q).1
    grind
   .have:=(List.of_mem_zip q).1
    grind
  refine F.imp_of_mem λ{p q} Q hq r=>r.imp id λ⟨U,he,T,W⟩=>⟨U,?_,T,W⟩
  grind
theorem AK{ops:Array Qz}{bs:J Nat}{f:Array Bool}{c:Cf}{i:Nat}{o:Qz}{b:Nat}(n:f.size=ops.size)(j:Inv c)(ho:ops[i]? =some o)(k:Un ops f i)(l:bs[i]? =some b)(g:∀x,Un ops f x->b.testBit x=false){K:Cf->Prop}(w:∀c' d,Eqv c' d->K c'->K d):
  ∀(t:RT) (E:J (Nat×Nat)),(∀e∈E,Un ops f e.1/\Un ops f e.2/\e.2≠i)->RT.Ok P call hint ops bs f c E t->RT.Ends K t->
   ∃m fi t',ek P call hint ops.toList o c=some (m,fi)/\RT.Ok P call hint ops bs (f.setIfInBounds i true) m (E.filter λe=>decide (e.1≠i)) t'/\RT.Ends K t'
 | .leaf L S c',E,I,h,hk=>by
  obtain⟨m,fi,Q,A,d,s,r,y⟩:=Tj n j ho k l g I h
  exact⟨m,fi,.leaf Q A d,s,r,w _ _ y hk⟩
 | .node u v a t,E,I,h,hk=>by
  obtain⟨z,R,M,F,G⟩:=h
  by_cases p:u=i
  .subst p
   obtain⟨m,fi,H,s,r,y⟩:=AK n j ho k l g w a ((u,v)::E) (λe C=>by
    grind) F hk.1
   grind
  .by_cases q:v=i
   .subst q
    obtain⟨m,fi,t',s,r,y⟩:=AK n j ho k l g w t ((v,u)::E) (λe C=>by
     grind) G hk.2
    grind
   .obtain⟨m,fi,H,s,r,y⟩:=AK n j ho k l g w a ((u,v)::E) (λe C=>by
     grind) F hk.1
    obtain⟨T,O,t',B,D,N⟩:=AK n j ho k l g w t ((v,u)::E) (λe C=>by
     grind) G hk.2
    rw[s]at B
    simp only[xJ,pJ]at B
    obtain⟨rfl,rfl⟩:=B;rw[List.filter_cons,if_pos (by simpa using p)]at r
    rw[List.filter_cons,if_pos (by simpa using q)]at D
    exact⟨m,fi,.node u v H t',s,⟨z,V8 n k.1 R p,V8 n k.1 M q,r,D⟩,y,N⟩
theorem V9{G:Nat->U D}(hc:gJ P G call)(hG:GA G A)(ax:∀g d,hint.gl g=some d->G g=some d){ops:Array Qz}{ro:U Nat}{bs:J Nat}(hb:BY ops.toList []=some bs){Q:Exit->Act->Wz->Prop}{a0:Act}{ds:J Nat}(hd:∀o∈ops.toList,∀d,o.dst=some d->d∈ds/\d<a0.tmps.size):
  ∀(m:Nat) (f:Array Bool) (t:RT) (c:Cf) (a:Act) (w:Wz),f.size=ops.size->(mr ops f).length=m->V7 bs f->Inv c->SR A c.1 a w->Kp a0 ds a->RT.Ok P call hint ops bs f c [] t->
   RT.Ends (λc'=>∀W s w',Eqv c' W->SR A W.1 s w'->Kp a0 ds s->Q .normal s w') t->wpAnyIn (FW ro) 0 P .any ops Q m f a w:=by
 obtain⟨_,ao,Y⟩:=Cg _ _ _ hb;simp only[yN,fp,yF]at ao Y
 have N:∀i o,ops[i]? =some o->(∀e∈o.after.toList,Region.binds .any e=true->e.on<i)/\∃b,bs[i]? =some b/\b=QJ (bs.take i) o:=λi o F=>Y i o (by grind)
 intro m
 induction m with
 |zero=>
  intro f t c a w bP hm C u hs O H l;have I:=yL hm
  cases t with
  |node i j a b=>
   have:=qv.2 H.2.1
   rw[I]at this
   cases this
  |leaf L fs c'=>
   obtain⟨r,e,_⟩:=H;rw[I,List.perm_nil]at r
   subst r;simp only[jR,List.filterMap_nil,dV,xJ,pJ]at e
   obtain⟨rfl,_⟩:=e
   refine⟨?_,l c a w (.refl _) hs O⟩
   simp_all [Region.ready,mr]
 |succ m ih=>
  intro f t c a w bP hm C u hs O H l
  refine⟨λhr=> ?_,λi hi=> ?_⟩
  ·-- the first that is left is ready
   exfalso;generalize hL:mr ops f=L at hm
   cases L with
   |nil=>cases hm
   |cons X L=>
    have av:X∈(List.range ops.size).filter λi=> !f.getD i true:=by
     show X∈mr ops f;rw[hL];simp
    obtain⟨q1,q2⟩:=List.mem_filter.1 av;have B:X<ops.size:=by simpa using q1
    obtain⟨o,F⟩:∃o,ops[X]? =some o:=⟨_,Array.getElem?_eq_getElem B⟩
    have:X∈Region.ready .any ops f:=by
     simp only[Region.ready,List.mem_filter,xA]
     refine⟨q1,q2,?_⟩
     rw[F];simp only[xQ,gC];rw[Array.all_eq_true'];intro e T
     cases n:Region.binds .any e with
     |false=>rfl
     |true=>
      have Z:=(N X o F).1 e (by simpa using T) n
      simp only[Bool.not_true,Bool.false_or];rw[AJ (by omega)]
      cases R:f.getD e.on true with
      |true=>rfl
      |false=>
       have M:e.on∈mr ops f:=qv.2 ⟨by omega,R⟩
       have ah:(mr ops f).Pairwise (·< ·):=List.Pairwise.filter _ List.pairwise_lt_range
       grind [List.pairwise_cons]
    rw[hr]at this
    cases this
  .simp only[Region.ready,List.mem_filter,xA]at hi
   obtain⟨q1,q2,q3⟩:=hi;have B:i<ops.size:=by simpa using q1
   obtain⟨o,F⟩:∃o,ops[i]? =some o:=⟨_,Array.getElem?_eq_getElem B⟩
   rw[F]at q3
   simp only[xQ,gC]at q3
   rw[Array.all_eq_true']at q3
   have ak:Un ops f i:=⟨B,by simpa using q2⟩
   have aq:ops.toList[i]? =some o:=by rw[yM];exact F
   -- those that are left need not go before it
   obtain⟨z,b,af,ag⟩:=N i o F
   have V:∀x,Un ops f x->b.testBit x=false:=λx aa=>by
    cases an:b.testBit x with
    |false=>rfl
    |true=>
     exfalso;rw[ag]at an
     obtain q |⟨v,T,n,q⟩:=zf _ x _ 0 an
     .simp at q
     .have Z:=z v T n
      have h:f.getD v.on false=true:=by
       have:=q3 v (by simpa using T)
       simpa [n]using this
      obtain rfl |q:=q
      .rw[AJ (by omega),aa.2]at h;cases h
      .rw[xU,if_pos Z]at q
       cases k:bs[v.on]? with
       |none=>grind
       |some b2=>
        rw[k]at q
        have:=C v.on b2 h k x q
        rw[AJ (by grind),aa.2]at this
        cases this
   obtain⟨c1,fi,t',g2,g3,g4⟩:=AK bP u F ak af V (K:=λc'=>∀W s w',Eqv c' W->SR A W.1 s w'->Kp a0 ds s->Q .normal s w') (λc' d hq hk W s w' p=>hk W s w' (hq.trans p)) t [] (by simp) H l
   have ac:∀x,(f.setIfInBounds i true).getD x true=if x=i then true else f.getD x true:=λx=>J3 f i x (by omega)
   unfold wpOpIn;rw[F]
   simp only
   have ai:=GL (ro:=ro) (Q:=Q) hc hG ax hs O (hd o (yS aq)) (Ch g2) (K:=wpAnyIn (FW ro) 0 P .any ops Q m (f.setIfInBounds i true)) (λs w' k1 k2=>by
    refine ih (f.setIfInBounds i true) t' c1 s w' (by simpa using bP) ?_ (λj bj hj E x R=> ?_) (u.step g2) k1 k2 g3 g4
    .have M:i∈mr ops f:=qv.2 ak
     have ay:(mr ops f).Nodup:=List.Pairwise.filter _ List.nodup_range;rw[Nh bP B]
     have:((mr ops f).filter λx=>decide (x≠i))=(mr ops f).erase i:=by
      rw[ay.erase_eq_filter];refine List.filter_congr λx _=> ?_
      by_cases R:x=i <;>simp[R]
     rw[this,List.length_erase_of_mem M,hm];rfl
    .have al:j<(f.setIfInBounds i true).size:=by
      obtain q |q:=gF j (f.setIfInBounds i true).size
      .exact q
      .grind
     have S:∀y,f.getD y false=true->(f.setIfInBounds i true).getD y false=true:=λy hy=>by
      grind
     by_cases ad:j=i
     .subst ad
      rw[af]at E
      simp only[xJ]at E
      subst E;rw[ag]at R
      obtain q |⟨v,T,n,q⟩:=zf _ x _ 0 R
      .simp at q
      .have h:f.getD v.on false=true:=by
        have:=q3 v (by simpa using T)
        simpa [n]using this
       obtain rfl |q:=q
       .exact S _ h
       .rw[xU,if_pos (z v T n)]at q
        cases k:bs[v.on]? with
        |none=>grind
        |some b2=>
         rw[k]at q
         exact S _ (C v.on b2 h k x q)
     .rw[AJ al,ac,if_neg ad]at hj
      have ab:j<f.size:=by simpa using al
      rw[<-AJ ab]at hj
      exact S _ (C j bj hj E x R))
   exact ai
theorem Inv.start(s:St):Inv (s,ku s):=λt r a=>by
 have:eV (ku s) t=(s.get t).aX:=by
  simp only[eV,ku,St.get,M8]
  cases look s.env t with
  |none=>rfl
  |some u=>rfl
 rw[this];exact a
theorem zh(ops:Array Qz):mr ops (Array.replicate ops.size false)=List.range ops.size:=by
 refine List.filter_eq_self.2 λx a=> ?_
 simp_all
theorem J4(bs:J Nat)(n:Nat):V7 bs (Array.replicate n false):=λi b c=>by
 exfalso
 by_cases a:i<n
 .simp_all
 grind
theorem Nj(ops:Array Qz):jR ops.toList (List.range ops.size)=ops.toList:=by
 have:∀(l a:J Qz),(List.range' a.length l.length).filterMap (λi=>(a++l)[i]?)=l:=λl=>by
  induction l with
  |nil=>intro a;rfl
  |cons x l c=>
   intro a;rw[xZ,v7,List.filterMap_cons];have b:(a++x::l)[a.length]? =some x:=by simp
   rw[b]
   have:=c (a++[x])
   grind
 have:=this ops.toList []
 rw[yN,<-mY,yF]at this
 exact this
theorem Dq{G:Nat->U D}(hc:gJ P G call)(hG:GA G A)(f:∀g d,hint.gl g=some d->G g=some d)(j:P.follows .mixedOrders=true){id:Nat}{ops:Array Qz}{ro:U Nat}{Q:Exit->Act->Wz->Prop}{s:St}{bs:J Nat}{a:Act}{ds:J Nat}{w:Wz}(i:SR A s a w)(hd:∀o∈ops.toList,∀d,o.dst=some d->d∈ds/\d<a.tmps.size)(hb:BY ops.toList []=some bs){t:RT}
  (c:RT.Ok P call hint ops bs (Array.replicate ops.size false) (s,ku s) [] t) (b:RT.Ends (λc'=>∀h e w',Eqv c' h->SR A h.1 e w'->Kp a ds e->Q .normal e w') t):(Code.region id ops true).wpIn (FW ro) 0 P Q a w:=
 wpIn_region_any j (V9 (hint:=hint) (a0:=a) (ds:=ds) hc hG f hb hd ops.size _ t (s,ku s) a _ (by simp) (by rw[zh];simp) (J4 _ _) (Inv.start s) i.drawn (.refl _ _) c b)
theorem Pl{G:Nat->U D}(hc:gJ P G call)(hG:GA G A)(l:∀g d,hint.gl g=some d->G g=some d)(u:P.follows .mixedOrders=true){id:Nat}{ops:Array Qz}{ro:U Nat}{Q:Exit->Act->Wz->Prop}{s:St}{c':Cf}{f:J Fp}{a:Act}{ds:J Nat}{w:Wz}(y:SR A s a w)(hd:∀o∈ops.toList,∀d,o.dst=some d->d∈ds/\d<a.tmps.size)
  (e:dV P call hint ops.toList ops.toList (s,ku s)=some (c',f)) (hk:ua ops.toList f=true)
  (z:∀q n w',Eqv c' q->SR A q.1 n w'->Kp a ds n->Q .normal n w'):(Code.region id ops true).wpIn (FW ro) 0 P Q a w:=by
 unfold ua at hk
 split at hk
 .rename_i v p
  have m:=(Cg _ _ _ p).2.1;simp only[yN,fp,yF]at m
  have c:=um _ e;rw[yF]at c
  refine Dq hc hG l u y hd p (t:=.leaf (List.range ops.size) f c') ⟨by rw[zh],by rw[Nj];exact e,?_⟩ z
  rw[List.pairwise_iff_getElem];intro i j x B r;left;intro b h k;simp only[List.getElem_zip,List.getElem_range]at h k |-
  simp only[List.length_zip,List.length_range,c,Nat.min_self]at x B
  have:=Dp f v f 0 hk j b (f[j]'(by omega)) h (xG _)
  exact w9 b _ _ 0 this i _ (by grind) (by simpa using k)
 .cases hk
theorem GU(bs:J Nat):∀(E:J (Nat×Nat)) (L:J Nat),(mi bs E L).Perm L
 | [],L=>.refl _
 |e::E,L=>by
  have:=GU bs E L;grind [mi,List.filter_append_perm]
theorem Dr(bs:J Nat)(E:J (Nat×Nat)):∀(l:J (Nat×Fp)),ub bs E l=true->l.Pairwise (RE bs E)
 | [],_=>.nil
 |p::r,h=>by
  simp only[ub,xA]at h
  refine List.pairwise_cons.2 ⟨λq a=> ?_,Dr bs E r h.2⟩
  have:=List.all_eq_true.1 h.1 q a
  simp only[iq,List.any_eq_true,xA]at this
  obtain (t |t) |⟨e,b,t1,c⟩:=this
  .left
   grind
  .exact .inl λ_ _ _=>t
  .exact .inr ⟨e,b,t1,c⟩
theorem GW{live:J Nat}{ops:Array Qz}{bs:J Nat}{s:St}:∀(t:OT) (E:J (Nat×Nat)) (s':St),jS P call hint live ops.toList bs s t E=some s'->∃k,RT.Ok P call hint ops bs (Array.replicate ops.size false) (s,ku s) E k/\RT.Ends (λc=>prune live c.1=s') k
 | .leaf,E,s',e=>by
  simp only[jS,xB]at e
  obtain⟨⟨c,q⟩,g,f⟩:=e;simp only at f
  split at f
  .rename_i hk
   simp only[xJ]at f
   rw[yF]at g hk
   exact⟨.leaf _ q c,⟨by grind [zh,GU],g,Dr bs E _ hk⟩,f⟩
  .cases f
 | .node i j a b,E,s',e=>by
  simp only[jS]at e
  split at e
  .rename_i d
   simp only[yF]at d
   simp only[xB]at e
   obtain⟨w,g,y,f,h⟩:=e
   split at h
   .rename_i m
    simp only[xJ]at h
    have:=St.beq_eq _ _ m
    subst this;subst h;obtain⟨n,o,p⟩:=GW a _ _ g;obtain⟨rb,r,v⟩:=GW b _ _ f;have l:∀x,x<ops.size->Un ops (Array.replicate ops.size false) x:=λx u=>⟨u,by simp_all⟩
    exact⟨.node i j n rb,⟨d.1,l _ d.2.1,l _ d.2.2,o,r⟩,p,v⟩
   .cases h
  .cases e
theorem RT.Ends.imp{K K':Cf->Prop}(h:∀c,K c->K' c):∀(t:RT),RT.Ends K t->RT.Ends K' t
 | .leaf _ _ c,hk=>h c hk
 | .node _ _ a b,hk=>⟨RT.Ends.imp h a hk.1,RT.Ends.imp h b hk.2⟩
end
def ajc(a:Ex)(x:Exit):Prop:=
 match a with
 | .normal=>x=.normal
 | .exit id=>x=.exit id
 | .ret=>x=.ret
 | .cO d=>∃v,x=.panic [{v:=v,recovered:=false}]/\∀c,VV c d v
structure Av.le(A' A:Av):Prop where
 F:∀t b,A.F t b->A'.F t b
 n0:A.n0<=A'.n0
 cM:∀o,o<A.n0->A'.ρ0 o=A.ρ0 o
 O0:∀b,b<A.w0.heap.size->A'.O0 b->A.O0 b
 fr:Fr A A'.w0
 fold:∀t b,A.F t b->b<A.w0.heap.size
theorem Fr.le{A A':Av}(hl:A'.le A){w:Wz}(h:Fr A' w):Fr A w:=
 ⟨h.os.trans hl.fr.os,h.tape.trans hl.fr.tape,h.output.trans hl.fr.output,ff hl.fr.size h.size,λb a c=>
  (h.kept b (yA a hl.fr.size) (λq=>c (hl.O0 b a q))).trans (hl.fr.kept b a c),hl.fr.recs.trans h.recs⟩
theorem Av.le.trans{A A' B:Av}(x:B.le A')(y:A'.le A):B.le A:=
 ⟨λt b h=>x.F t b (y.F t b h),ff y.n0 x.n0,λo a=>(x.cM o (yA a y.n0)).trans (y.cM o a),λb c h=>y.O0 b c (x.O0 b (yA c y.fr.size) h),Fr.le y x.fr,y.fold⟩
section
variable{P:Pz}{A A':Av}{ρ:Nat->Nat}{S:aj->J Nat}{hd:aj->Vz}{fl:J Nat}{k k':Wk}{ay:J (SV×Vz)}{w:Wz}{G:Nat->U D}
theorem Av.le.refl(h:KR A ρ S hd fl k ay w):A.le A:=⟨λ_ _ h=>h,dB _,λ_ _=>rfl,λ_ _ h=>h,⟨rfl,rfl,rfl,dB _,λ_ _ _=>rfl,.refl _⟩,h.Fold⟩
theorem KR.up(hl:A'.le A)(h:KR A' ρ S hd fl k ay w):KR A ρ S hd fl k ay w/\Ext (am A' k.H.length ρ S fl w) (am A k.H.length ρ S fl w):=by
 have ext:Ext (am A' k.H.length ρ S fl w) (am A k.H.length ρ S fl w):=⟨λt b a=>⟨⟨a.1,λq=>a.2.1 (hl.F t b q),a.2.2⟩,rfl⟩,dB _,λ_ _=>rfl⟩
 refine⟨⟨λr t f=>TC.ext ext _ _ _ (λ_ _=>rfl) (h.cont r t f),h.gone,h.obj,λn ob g a=>(h.map n ob g a).ext ext (λ_ _=>rfl) rfl rfl,h.bz,λb e=> ?_,λp a=> ?_,Fr.le hl h.fr,hl.fold,⟨ff hl.n0 h.cM.1,λo d=>(h.cM.2 o (yA d hl.n0)).trans (hl.cM o d)⟩⟩,ext⟩
 .have:=h.bT b e
  exact⟨this.1,λt q=>this.2.1 t (hl.F t b q),λc=>hl.O0 b c (this.2.2 (yA c hl.fr.size))⟩
 .exact SO.aV ext (λr q=>h.hold (k':=k) (hd':=hd) _ rfl rfl (λ_ _=>rfl) q) (h.ay p a)
theorem KR.upW(hl:A'.le A)(h:KR A' ρ S hd fl k ay w){w':Wz}(ho:w'.os=w.os)(ht:w'.tape=w.tape)(hu:w'.output=w.output)(j:w'.heap.size=w.heap.size)(a:∀b,w'.heap[b]? =w.heap[b]? \/(A.w0.heap.size<=b/\∀t,A'.F t b))(f:cF w w'):
  KR A ρ S hd fl k ay w'/\Ext (am A' k.H.length ρ S fl w) (am A k.H.length ρ S fl w'):=by
 have ext:Ext (am A' k.H.length ρ S fl w) (am A k.H.length ρ S fl w'):=⟨λt b d=>⟨⟨d.1,λq=>d.2.1 (hl.F t b q),by rw[j];exact d.2.2⟩,(a b).resolve_right λq=>d.2.1 (q.2 t)⟩,dB _,λ_ _=>rfl⟩
 have c:∀r,∀b∈S r,w'.heap[b]? =w.heap[b]? :=λr b g=>(a b).resolve_right λq=>(h.bT b (.inl ⟨r,g⟩)).2.1 true (q.2 true)
 have e:=Fr.le hl h.fr
 refine⟨⟨λr t ht=>TC.ext ext _ _ _ (c r) (h.cont r t ht),h.gone,h.obj,λn ob m d=>(h.map n ob m d).ext ext (c _) rfl rfl,h.bz,λb g=> ?_,λp d=> ?_,⟨ho.trans e.os,ht.trans e.tape,hu.trans e.output,by rw[j];exact e.size,λb g l=> ?_,e.recs.trans f⟩,hl.fold,⟨ff hl.n0 h.cM.1,λo ho=>(h.cM.2 o (yA ho hl.n0)).trans (hl.cM o ho)⟩⟩,ext⟩
 .have:=h.bT b g
  exact⟨by grind,λt q=>this.2.1 t (hl.F t b q),λi=>hl.O0 b i (this.2.2 (yA i hl.fr.size))⟩
 .exact SO.aV ext (λr q=>h.hold (k':=k) (hd':=hd) _ rfl rfl (c r) q) (h.ay p d)
 .rw[(a b).resolve_right λq=>by omega]
  exact e.kept b g l
theorem SR.upW{s:St}{a:Act}(hl:A'.le A)(j:SR A' s a w){w':Wz}(ho:w'.os=w.os)(ht:w'.tape=w.tape)(hu:w'.output=w.output)(i:w'.heap.size=w.heap.size)(c:∀b,w'.heap[b]? =w.heap[b]? \/(A.w0.heap.size<=b/\∀t,A'.F t b))(d:cF w w'):SR A s a w':=by
 obtain⟨ρ,S,hd,h,f⟩:=j;obtain⟨k,ext⟩:=h.upW hl ho ht hu i c d;have e:∀r,∀b∈S r,w'.heap[b]? =w.heap[b]? :=λr b g=>(c b).resolve_right λq=>(h.bT b (.inl ⟨r,g⟩)).2.1 true (q.2 true)
 exact⟨ρ,S,hd,k,λt=>SO.aV ext (λr q=>h.hold (k':=s.wk) (hd':=hd) _ rfl rfl (e r) q) (f t)⟩
theorem SR.up{s:St}{a:Act}(hl:A'.le A)(c:SR A' s a w):SR A s a w:=by
 obtain⟨ρ,S,hd,h,b⟩:=c;obtain⟨d,ext⟩:=h.up hl
 exact⟨ρ,S,hd,d,λt=>SO.aV ext (λr q=>h.hold (k':=s.wk) (hd':=hd) _ rfl rfl (λ_ _=>rfl) q) (b t)⟩
def Mk(A:Av)(b:Nat):Prop:=(∀t,A.F t b)/\¬A.O0 b/\b<A.w0.heap.size/\A.w0.heap[b]? =some (.deferred (some []))
theorem Mk.le{b:Nat}(hl:A'.le A)(h:Mk A b):Mk A' b:=
 ⟨λt=>hl.F t b (h.1 t),λq=>h.2.1 (hl.O0 b h.2.2.1 q),yA h.2.2.1 hl.fr.size,(hl.fr.kept b h.2.2.1 h.2.1).trans h.2.2.2⟩
theorem Mk.now{b:Nat}(h:Mk A b)(hf:Fr A w):w.heap[b]? =some (.deferred (some [])):=(hf.kept b h.2.2.1 h.2.1).trans h.2.2.2
def mkD(b:Nat):Deferred:={target:=.collected b,args:= #[]}
structure Kc(b:Bool)(A0 A:Av)(a0:Act)(ds:List Nat)(a:Act):Prop where
 size:a.tmps.size=a0.tmps.size
 tmps:∀t,t∉ds->a.tmps[t]? =a0.tmps[t]?
 mks:∃l:List Nat,a.defers=l.map mkD++a0.defers/\l.Nodup/\∀b∈l,A0.w0.heap.size<=b/\Mk A b
 nst:b=true->a.defers=a0.defers
theorem Kc.of{q:Bool}{A0:Av}{a0 a:Act}{ds:J Nat}(h:Kp a0 ds a):Kc q A0 A a0 ds a:=⟨h.2.1,h.2.2,⟨[],by simp[h.1],List.nodup_nil,by simp⟩,λ_=>h.1⟩
theorem Kc.refl{q:Bool}{A0:Av}(a:Act)(ds:J Nat):Kc q A0 A a ds a:=.of (.refl _ _)
theorem Kc.trans{q:Bool}{A0:Av}{a b c:Act}{ds es:J Nat}(h0:A.le A0)(hl:A'.le A)(x:Kc q A0 A a ds b)(y:Kc q A A' b es c):Kc q A0 A' a (ds++es) c:=by
 obtain⟨l,n,m,h⟩:=x.mks;obtain⟨k,h3,i,h4⟩:=y.mks
 refine⟨y.size.trans x.size,λt g=> ?_,⟨k++l,by grind,?_,λb f=> ?_⟩,λj=>(y.nst j).trans (x.nst j)⟩
 .simp only[xD,not_or]at g
  exact(y.tmps t g.2).trans (x.tmps t g.1)
 .rw[xT]
  refine⟨i,m,λb f d hd e=> ?_⟩
  subst e;have o:=(h4 b f).1;have p:=(h b hd).2.2.2.1;omega
 .obtain q |q:=List.mem_append.1 f
  .exact⟨ff h0.fr.size (h4 b q).1,(h4 b q).2⟩
  .exact⟨(h b q).1,(h b q).2.le hl⟩
theorem Kc.more{q:Bool}{A0:Av}{a b:Act}{ds es:J Nat}(x:Kc q A0 A a ds b)(h:∀t∈ds,t∈es):Kc q A0 A a es b:=⟨x.size,λt ht=>x.tmps t (λq=>ht (h t q)),x.mks,x.nst⟩
def Av.du(A:Av)(S:aj->J Nat)(fl X:J Nat)(w:Wz)(n:Nat)(ρ:Nat->Nat):Av:=
 {w0:=w,F:=λt b=>A.F t b\/b∈X,O0:=λb=>bS S fl b,n0:=n,ρ0:=ρ,mono:=λb h=>h.imp (A.mono b) id}
theorem aek{X:J Nat}{n:Nat}(nO:Nat)(a:Nat->Nat)(w':Wz)(d:aj->J Nat)(fl':J Nat)(h:∀b,bS d fl' b\/b∈X↔bS S (X++fl) b):am (A.du S fl X w n ρ) nO a d fl' w'=am A nO a S (X++fl) w':=by
 simp only[am,Av.du,Cx.mk.injEq,true_and,and_true];funext t b;refine propext ⟨λq=>⟨λc=> ?_,λe=>q.2.1 (.inl e),q.2.2⟩,λq=>⟨λc=>q.1 ((h b).1 (.inl c)),λe=> ?_,q.2.2⟩⟩
 .grind
 grind
theorem KR.du{X:J Nat}(h:KR A ρ S hd (X++fl) k ay w):KR (A.du S fl X w k.H.length ρ) ρ S hd fl k ay w/\(A.du S fl X w k.H.length ρ).le A/\am (A.du S fl X w k.H.length ρ) k.H.length ρ S fl w=am A k.H.length ρ S (X++fl) w:=by
 have c:∀b,bS S fl b\/b∈X↔bS S (X++fl) b:=λb=>by
  constructor
  .rintro((q |q) |q)
   .exact .inl q
   .exact .inr (xR _ q)
   .exact .inr (xL _ q)
  .rintro(q |q)
   .exact .inl (.inl q)
   .obtain q |q:=List.mem_append.1 q
    .exact .inr q
    .exact .inl (.inr q)
 have d:am (A.du S fl X w k.H.length ρ) k.H.length ρ S fl w=am A k.H.length ρ S (X++fl) w:=aek _ _ _ _ _ c;have f:=h.bz.ndF;rw[xT]at f
 refine⟨⟨λr t l=>by rw[d];exact h.cont r t l,h.gone,h.obj,λn ob s g=>by rw[d];exact h.map n ob s g,⟨h.bz.nd,f.2.1,h.bz.one,λr b e j=>h.bz.cq r b e (xR _ j)⟩,λb e=> ?_,λp g=>by rw[d];exact h.ay p g,⟨rfl,rfl,rfl,dB _,λ_ _ _=>rfl,.refl _⟩,λt b a=> ?_,dB _,λ_ _=>rfl⟩,⟨λt b a=>.inl a,h.cM.1,h.cM.2,λb e m=> ?_,h.fr,h.Fold⟩,d⟩
 .have:=h.bT b ((c b).1 (.inl e))
  refine⟨this.1,λt a=> ?_,λ_=>e⟩
  obtain a |a:=a
  .exact this.2.1 t a
  .obtain⟨r,i⟩ |e:=e
   .exact h.bz.cq r b i (xL _ a)
   grind
 .obtain a |a:=a
  .exact yA (h.Fold t b a) h.fr.size
  .exact(h.bT b (.inr (xL _ a))).1
 .exact(h.bT b ((c b).1 (.inl m))).2.2 e
theorem GA.du{X:J Nat}(hG:GA G A)(h:KR A ρ S hd (X++fl) k ay w):GA G (A.du S fl X w k.H.length ρ):=λg d e=>by
 obtain⟨c,i,q3⟩:=hG.now h e;obtain⟨_,_,h3,f,h4,h5⟩:=hG g d e
 refine⟨i,λa=>c ?_,λt b=> ?_,f,h4.same q3,h5⟩
 .obtain a |a:=a
  .exact .inl a
  .exact .inr (xR _ a)
 .obtain b |b:=b
  .exact h3 t b
  .exact c (.inr (xL _ b))
theorem KR.rebW(h:KR A ρ S hd fl k ay w){w':Wz}(g:w'.heap.size=w.heap.size)(a:∀b,w'.heap[b]? =w.heap[b]? \/∀t,A.F t b):
  KR (A.du S fl [] w' k.H.length ρ) ρ S hd fl k ay w'/\Ext (am A k.H.length ρ S fl w) (am (A.du S fl [] w' k.H.length ρ) k.H.length ρ S fl w'):=by
 have ext:Ext (am A k.H.length ρ S fl w) (am (A.du S fl [] w' k.H.length ρ) k.H.length ρ S fl w'):=⟨λt b d=>⟨⟨d.1,λq=>q.elim d.2.1 (by simp),by rw[g];exact d.2.2⟩,(a b).resolve_right λq=>d.2.1 (q t)⟩,dB _,λ_ _=>rfl⟩
 have c:∀r,∀b∈S r,w'.heap[b]? =w.heap[b]? :=λr b f=>(a b).resolve_right λq=>(h.bT b (.inl ⟨r,f⟩)).2.1 true (q true)
 refine⟨⟨λr t i=>TC.ext ext _ _ _ (c r) (h.cont r t i),h.gone,h.obj,λn ob j d=>(h.map n ob j d).ext ext (c _) rfl rfl,h.bz,λb f=> ?_,λp d=> ?_,⟨rfl,rfl,rfl,dB _,λ_ _ _=>rfl,.refl _⟩,λt b e=> ?_,dB _,λ_ _=>rfl⟩,ext⟩
 .have:=h.bT b f
  exact⟨by grind,λt q=>q.elim (this.2.1 t) (by simp),λ_=>f⟩
 .exact SO.aV ext (λr q=>h.hold (k':=k) (hd':=hd) _ rfl rfl (c r) q) (h.ay p d)
 .obtain e |e:=e
  .show b<w'.heap.size
   rw[g];exact yA (h.Fold t b e) h.fr.size
  .cases e
def ownL(S:aj->J Nat)(ct:J ((Nat×Nat)×T)):J Nat:=(Gd ct).flatMap λx=>S (.l x.1 x.2)
def soO(S:aj->J Nat):aj->J Nat
 | .l _ _=>[]
 | .o n=>S (.o n)
theorem Ext.of{c c':Cx}(e:c=c'):Ext c c':=e▸⟨λ_ _ hp=>⟨hp,rfl⟩,dB _,λ_ _=>rfl⟩
theorem Tk{a:Type}{ct:J ((Nat×Nat)×a)}{x:Nat×Nat}(h:x∉ct.map (·.1)):eZ ct x=none:=by
 induction ct with
 |nil=>rfl
 |cons p r b=>
  grind [eZ]
theorem KR.gather(h:KR A ρ S hd fl k ay w):KR A ρ (soO S) hd (ownL S k.ct++fl) {ct:=[],H:=k.H} [] w/\am A k.H.length ρ (soO S) (ownL S k.ct++fl) w=am A k.H.length ρ S fl w:=by
 have B:∀b n j,b∈S (.l n j)->b∈ownL S k.ct:=λb n j d=>by
  by_cases hk:(n,j)∈k.ct.map (·.1)
  .exact List.mem_flatMap.2 ⟨(n,j),nE.2 hk,d⟩
  .have:=h.gone (.l n j) (Tk hk) (λ_ _ e=>by cases e)
   rw[this]at d;cases d
 have f:∀b,bS (soO S) (ownL S k.ct++fl) b↔bS S fl b:=λb=>by
  constructor
  .rintro(⟨r,g⟩ |d)
   .cases r with
    |l n j=>cases g
    |o n=>exact .inl ⟨.o n,g⟩
   .obtain d |d:=List.mem_append.1 d
    .obtain⟨x,_,u⟩:=List.mem_flatMap.1 d
     exact .inl ⟨_,u⟩
    .exact .inr d
  .rintro(⟨r,g⟩ |d)
   .cases r with
    |l n j=>exact .inr (xL _ (B b n j g))
    |o n=>exact .inl ⟨.o n,g⟩
   .exact .inr (xR _ d)
 have i:am A k.H.length ρ (soO S) (ownL S k.ct++fl) w=am A k.H.length ρ S fl w:=by
  simp only[am,Cx.mk.injEq,true_and,and_true];funext t b;exact propext ⟨λq=>⟨λz=>q.1 ((f b).2 z),q.2⟩,λq=>⟨λz=>q.1 ((f b).1 z),q.2⟩⟩
 refine⟨⟨λr t C=> ?_,λr g G=> ?_,h.obj,λn ob L N=> ?_,⟨λr=> ?_,?_,λr I b d s=> ?_,λr b d v=> ?_⟩,λb d=>h.bT b ((f b).1 d),by simp,h.fr,h.Fold,h.cM⟩,i⟩
 .cases r with
  |l n j=>cases C
  |o n=>rw[i];exact h.cont (.o n) t C
 .cases r with
  |l n j=>rfl
  |o n=>exact h.gone (.o n) g G
 .rw[i]
  obtain⟨M,O,D⟩:=h.map n ob L N
  exact⟨M,O,D⟩
 .cases r with
  |l n j=>exact List.nodup_nil
  |o n=>exact h.bz.nd _
 .rw[xT]
  refine⟨List.pairwise_flatMap.2 ⟨λx _=>h.bz.nd _,?_⟩,h.bz.ndF,λa E b d e=> ?_⟩
  .refine(Mn _).imp λ{x y} K b d c J e=> ?_
   subst e
   have:=h.bz.one _ _ b d J
   grind
  .subst e
   obtain⟨x,_,u⟩:=List.mem_flatMap.1 E;exact h.bz.cq _ a u d
 .cases r with
  |l n j=>cases d
  |o n=>
   cases I with
   |l n j=>cases s
   |o m=>exact h.bz.one _ _ b d s
 .cases r with
  |l n j=>cases d
  |o n=>
   obtain v |v:=List.mem_append.1 v
   .obtain⟨x,_,u⟩:=List.mem_flatMap.1 v
    have:=h.bz.one _ _ b d u
    cases this
   .exact h.bz.cq _ b d v
theorem Wa{a:Type}{ct:J ((Nat×Nat)×a)}{x:Nat×Nat}(h:x∈ct.map (·.1)):∃t,eZ ct x=some t:=by
 induction ct with
 |nil=>cases h
 |cons p r b=>
  obtain⟨y,u⟩:=p;simp only[eZ]
  by_cases e:y=x
  .simp_all
  grind
theorem KR.ungather{M:J Nat}{H:J Ob}{env:J (Nat×SV)}{ct:J ((Nat×Nat)×T)}{tmps:Array Vz}(h:KR A ρ S hd (M++fl) {ct:=[],H} [] w)(hf:FrOK (am A H.length ρ S (M++fl) w) M env ct tmps):
  ∃f hd',KR A ρ f hd' fl {ct,H} [] w/\am A H.length ρ f fl w=am A H.length ρ S (M++fl) w/\∀t,SO (am A H.length ρ f fl w) ({ct,H}:Wk).get hd' ((look env t).getD .dead) (tmps.getD t undef):=by
 obtain⟨v,L,Y,hT,V,hE⟩:=hf;have aa:∀n j,S (.l n j)=[]:=λn j=>h.gone _ rfl (λ_ _ e=>by cases e)
 let f:aj->J Nat:=λr=>match r with | .l n j=>if(n,j)∈ct.map (·.1)then v (n,j)else [] | .o n=>S (.o n)
 let hd':aj->Vz:=λr=>match r with | .l n j=>L (n,j) | .o n=>hd (.o n)
 have ad:∀b n j,b∈f (.l n j)->(n,j)∈Gd ct/\b∈v (n,j):=λb n j c=>by
  simp only[f]at c
  split at c
  .rename_i hk;exact⟨nE.2 hk,c⟩
  .cases c
 have s:∀b n j,b∈f (.l n j)->b∈M:=λb n j c=>by
  grind
 have g:∀b,bS f fl b↔bS S (M++fl) b:=λb=>by
  constructor
  .rintro(⟨r,D⟩ |c)
   .cases r with
    |l n j=>exact .inr (xL _ (s b n j D))
    |o n=>exact .inl ⟨.o n,D⟩
   .exact .inr (xR _ c)
  .rintro(⟨r,D⟩ |c)
   .cases r with
    |l n j=>grind
    |o n=>exact .inl ⟨.o n,D⟩
   .obtain c |c:=List.mem_append.1 c
    .rw[Y]at c
     obtain⟨⟨n,j⟩,q1,q2⟩:=List.mem_flatMap.1 c;refine .inl ⟨.l n j,?_⟩;simp only[f];rw[if_pos (nE.1 q1)];exact q2
    .exact .inr c
 have z:am A H.length ρ f fl w=am A H.length ρ S (M++fl) w:=by
  simp only[am,Cx.mk.injEq,true_and,and_true];funext t b;exact propext ⟨λq=>⟨λU=>q.1 ((g b).2 U),q.2⟩,λq=>⟨λU=>q.1 ((g b).1 U),q.2⟩⟩
 have C:=h.bz.ndF;rw[xT]at C
 have E:=C.1;rw[Y]at E
 obtain⟨Z,G⟩:=List.pairwise_flatMap.1 E
 have ac:∀x y b,x∈Gd ct->y∈Gd ct->b∈v x->b∈v y->x=y:=by
  have:∀(l:J (Nat×Nat)),l.Pairwise (λK O=>∀x,x∈v K->∀y,y∈v O->x≠y)->∀x y b,x∈l->y∈l->b∈v x->b∈v y->x=y:=by
   intro l
   induction l with
   |nil=>grind
   |cons a l ih=>
    grind [List.pairwise_cons]
  exact this _ G
 refine⟨f,hd',⟨λr t P=> ?_,λr D hm=> ?_,h.obj,λn ob he hp=> ?_,⟨λr=> ?_,C.2.1,λr r' b c B=> ?_,λr b c hf=> ?_⟩,λb c=>h.bT b ((g b).1 c),by simp,h.fr,h.Fold,h.cM⟩,z,λt=> ?_⟩
 .rw[z]
  cases r with
  |l n j=>
   have e:f (.l n j)=v (n,j):=by
    simp only[f];exact if_pos (List.mem_map.2 ⟨_,B2 P,rfl⟩)
   rw[e];exact hT (n,j) t P
  |o n=>exact h.cont (.o n) t P
 .cases r with
  |l n j=>
   simp only[f];split
   .rename_i hk
    obtain⟨t,P⟩:=Wa hk
    have:eZ ct (n,j)=none:=D
    grind
   .rfl
  |o n=>exact h.gone (.o n) D hm
 .rw[z]
  obtain⟨N,m1,m2⟩:=h.map n ob he hp
  exact⟨N,m1,m2⟩
 .cases r with
  |l n j=>
   grind
  |o n=>exact h.bz.nd _
 .cases r with
  |l n j=>
   cases r' with
   |l X j'=>
    grind
   |o m=>exact absurd (xL _ (s b n j c)) (h.bz.cq (.o m) b B)
  |o n=>
   cases r' with
   |l X j'=>exact absurd (xL _ (s b X j' B)) (h.bz.cq (.o n) b c)
   |o m=>exact h.bz.one _ _ b c B
 .cases r with
  |l n j=>grind
  |o n=>exact h.bz.cq (.o n) b c (xR _ hf)
 .rw[z]
  have hold:∀r q,wN (am A H.length ρ S (M++fl) w) (am A H.length ρ S (M++fl) w) (Go.Am.cont ct []) ({ct,H}:Wk).get (Vr L) hd' r q:=λr q t0 es e1 e2=>by
   cases r with
   |l n j=>exact⟨t0,es,e1,e2,.refl _,λh' hn=>hn⟩
   |o n=>simp[Go.Am.cont]at e1
  have I:=hE t;have W:∀u,look env t=some u->u.loose=u:=λu Q=>V _ (IH Q)
  cases Q:look env t with
  |none=>trivial
  |some u=>
   have W:=W u Q;rw[Q]at I
   simp only[gC]at I |-
   cases u with
   |d x=>exact I
   |aG r p R ab=>exact SB.bR (hold r p) I
   |loc r p i R=>exact SB.bM (hold r p) I
   |dead=>trivial
   |_=>simp[SV.loose]at W
theorem Pm(env:J (Nat×SV))(t:Nat):look (env.map λp=>(p.1,p.2.loose)) t=(look env t).map SV.loose:=by
 induction env with
 |nil=>rfl
 |cons p r a=>
  grind [look]
theorem Ds(v:SV):v.loose.loose=v.loose:=by
 cases v with
 |aG r p o l=>cases r <;>rfl
 |loc r p i o=>cases r <;>rfl
 |_=>rfl
theorem Nk(h:KR A ρ S hd fl k ay w){env:J (Nat×SV)}{tmps:Array Vz}(hv:∀t,SO (am A k.H.length ρ S fl w) k.get hd ((look env t).getD .dead) (tmps.getD t undef)){c:Cx}(hx:Ext (am A k.H.length ρ S fl w) c)(hk:∀r,∀b∈S r,c.w.heap[b]? =w.heap[b]?):FrOK c (ownL S k.ct) (env.map λp=>(p.1,p.2.loose)) k.ct tmps:=by
 refine⟨λx=>S (.l x.1 x.2),λx=>hd (.l x.1 x.2),rfl,λx t v=>TC.ext hx _ _ _ (λb e=>hk _ b e) (h.cont (.l x.1 x.2) t v),λp D=> ?_,λt=> ?_⟩
 .grind [Ds]
 .rw[Pm]
  have:=hv t
  have a:∀n j q,wN (am A k.H.length ρ S fl w) c k.get (Go.Am.cont k.ct []) hd (Vr λx=>hd (.l x.1 x.2)) (.l n j) q:=λn j q t0 s g C=>by
   refine⟨t0,s,g,C,.refl _,λB m=> ?_⟩
   exact aI.ext q t0 _ B _ (h.cont (.l n j) t0 g) (λb e=>hk _ b e) m
  cases y:look env t with
  |none=>trivial
  |some u=>
   rw[y]at this
   simp only[gC,xQ]at this |-
   cases u with
   |d x=>exact VV.ext hx this
   |aG r p f z=>
    cases r with
    |l n j=>exact SB.bR (a n j p) this
    |o n=>trivial
   |loc r p i f=>
    cases r with
    |l n j=>exact SB.bM (a n j p) this
    |o n=>trivial
   |_=>trivial
theorem Tl{call:dF}(hc:gJ P G call)(hG:GA G A){hint:Hint}{f:Oz}{ps:Array Nat}{x y:Code}{s s':St}{ex:Ex}{i:Act}{Q:Exit->Act->Wz->Prop}(hs:SR A s i w)(hk:ef i.tmps.size (.rangeFunc f ps x y)=true)(e:kJ call hint f ps.toList x y s=some (ex,s'))
  (hQ:∀A' a' w',A'.le A->GA G A'->SR A' s' a' w'->Kc hint.nest A A' i [] a'->ex=.normal->Q .normal a' w'):(Code.rangeFunc f ps x y).wpIn (FW none) 0 P Q i w:=by
 obtain⟨ρ,S,hd,h,hv⟩:=hs;unfold kJ at e
 split at e
 .cases e
 rename_i L
 split at e
 .rename_i g first al hf
  split at e
  .cases e
  rename_i hy;simp only[xB]at e
  obtain⟨⟨rs,H2⟩,e1,e⟩:=e;simp only at e
  split at e
  .rename_i g' aT x' y' env ct Z
   split at e
   .rename_i aS
    simp only[xJ,pJ]at e
    obtain⟨rfl,rfl⟩:=e;have V:=SR.val hv f;rw[hf]at V
    have C:=VV.inv (c:=am A s.H.length ρ S [] w) V (by simp)
    simp only[VC,xC,and_true]at C
    obtain⟨av,bv,aO,ha,m⟩:=C;refine wpIn_rangeFunc λfn _=> ?_
    let a:=w.alloc (.deferred (some []))
    let R:Loop:={state:=.ready,pending:=none,fn,tmps:=i.tmps,params:=ps,assign:=x,body:=y,defers:=w.heap.size}
    let k:=a.alloc (.loop R)
    have W:a.heap.size=w.heap.size+1:=by simp[a]
    obtain⟨k1,x1⟩:=KR.alloc (M:=[]) (fl:=[]) (by simpa using h) (.deferred (some []))
    have ab:KR A ρ S hd ([w.heap.size]++[]) s.wk [] a:=by simpa using k1
    obtain⟨k2,ao,an⟩:=KR.du ab;have G1:=GA.du hG ab;obtain⟨k3,x3⟩:=KR.alloc (M:=[]) (fl:=[]) (by simpa using k2) (.loop R)
    have ak:KR (A.du S [] [w.heap.size] a s.wk.H.length ρ) ρ S hd [a.heap.size] s.wk [] k:=by simpa using k3
    obtain⟨k4,aL⟩:=ak.gather;obtain⟨k5,aM⟩:=k4.perm (fl':=(a.heap.size::ownL S s.wk.ct)++[]) (by simp)
    have xx:Ext (am A s.H.length ρ S [] w) (am (A.du S [] [w.heap.size] a s.wk.H.length ρ) s.H.length ρ (soO S) ((a.heap.size::ownL S s.wk.ct)++[]) k):=by
     have H:Ext (am A s.H.length ρ S [] w) (am A s.H.length ρ S ([w.heap.size]++[]) a):=x1;have q2:Ext (am (A.du S [] [w.heap.size] a s.wk.H.length ρ) s.H.length ρ S [] a) (am (A.du S [] [w.heap.size] a s.wk.H.length ρ) s.H.length ρ S [a.heap.size] k):=x3
     exact((H.trans (.of an.symm)).trans q2).trans ((Ext.of aL.symm).trans (.of aM))
    have af:∀r,∀b∈S r,k.heap[b]? =w.heap[b]? :=λr b m=>by
     have aX:=(h.bT b (.inl ⟨r,m⟩)).1
     grind [Below.heap_alloc]
    have ax:=Nk h (env:=s.env) (tmps:=i.tmps) hv xx af
    let ob:Ob:=.frame hint.self ps.toList x y (s.env.map λp=>(p.1,p.2.loose)) s.ct
    have ai:ObOK (am (A.du S [] [w.heap.size] a s.wk.H.length ρ) s.H.length ρ (soO S) ((a.heap.size::ownL S s.wk.ct)++[]) k) a.heap.size (ownL S s.wk.ct) ob:=⟨R,heap_alloc_new a _,rfl,rfl,rfl,rfl,rfl,ax,by
     simp only[ef,xA,io,yD]at hk
     exact⟨hk.1.1,hk.1.2,hk.2⟩⟩
    obtain⟨k6,x6⟩:=k5.newOb (N:=a.heap.size::ownL S s.wk.ct) (fl:=[]) ob a.heap.size (λz hz=>by simp[ob]at hz) (λ_=>⟨_,rfl,ai⟩) (by simp[ob])
    obtain⟨k7,aJ,ay⟩:=KR.du (X:=[]) (fl:=[]) (by simpa using k6)
    have G2:=GA.du (X:=[]) (fl:=[]) G1 (by simpa using k6)
    let u:J Ob:=s.H++[ob]
    let j:Nat->Nat:=λo=>if o=s.H.length then a.heap.size else ρ o
    let S1:aj->J Nat:=upd (soO S) (.o s.H.length) (a.heap.size::ownL S s.wk.ct)
    let B:Av:=(A.du S [] [w.heap.size] a s.wk.H.length ρ).du S1 [] [] k u.length j
    have Y:B.le A:=Av.le.trans aJ ao;have hL:u.length=s.H.length+1:=by simp[u]
    have ah:Ext (am (A.du S [] [w.heap.size] a s.wk.H.length ρ) s.H.length ρ (soO S) ((a.heap.size::ownL S s.wk.ct)++[]) k) (am (A.du S [] [w.heap.size] a s.wk.H.length ρ) u.length j S1 [] k):=by rw[hL];exact x6
    have ac:Ext (am A s.H.length ρ S [] w) (am B u.length j S1 [] k):=(xx.trans ah).trans (.of ay.symm)
    let yv:Vz:=.func (.yield (w.heap.size+1)) #[] #[]
    have D:bf (am B u.length j S1 [] k) (first++[.yld s.H.length]++al) ((av++ #[yv])++bv).toList:=by
     simp only[Array.toList_append];refine bf.append _ _ _ _ (bf.append _ _ _ _ (bf.ext ac _ _ ha) ?_) (bf.ext ac _ _ m)
     refine⟨_,[],rfl,?_,rfl,rfl⟩
     simp only[VC]
     refine⟨by show s.H.length<u.length;omega,?_⟩
     show yv.cells.toList=[Value.func (.yield (j s.H.length)) #[] #[]];simp[yv,j,W,Value.cells]
    have d:=hc.2.1 g _ u [] H2 e1 B S1 _ _ rfl G2 k7 D;have ad:=hc.1 _ _ _ _ e1;obtain⟨aV,f1,f2,f3⟩:=ad.resolve_left hy;unfold ck at d;rw[if_neg hy]at d
    refine⟨w.heap.size+1,[mkD w.heap.size],k,{target:=.fn (.func g) bv,args:=av++ #[yv]},k,g,(av++ #[yv])++bv,k,run_enterLoop_outer _ _ _ _ _,?_,λ_ _=>trivial,?_,λhh=>by simp[FW,Fence.wide]at hh,km.2 (Calls.mono d λen O he=> ?_)⟩
    .have aQ:i.eval f=.func (.func g) av bv:=aO
     have aZ:∀v,i.eval (.const v)=v:=λ_=>rfl
     grind [resolve,Deferred.ofValue,Sem.run_pure]
    .grind [invoke,i7]
    .obtain⟨v,F,l,S2,aY,M2,vs,H,q2,rfl⟩:=he
     unfold Ends at F;rw[if_neg (show¬fj []=true by simp[fj])]at F
     subst F;obtain⟨rfl,rfl⟩:=q2;obtain⟨E,n1,r,r1,r2,r3,r4,r5,r6,r7⟩:=H.map _ _ Z rfl
     have aq:l s.H.length=a.heap.size:=by
      have:=H.cM.2 s.H.length (by show s.H.length<u.length;omega)
      rw[this];show j s.H.length=_;simp[j]
     have hl:O.heap[a.heap.size]? =some (.loop r):=by rw[<-aq];exact r1
     have aC:r.tmps=i.tmps:=by
      obtain⟨st,pe,hr⟩:=H.fr.recs a.heap.size R (heap_alloc_new a _);rw[hl]at hr
      simp only[xJ,Obj.loop.injEq]at hr
      rw[hr]
     have ag:a.heap.size<O.heap.size:=(Array.getElem?_eq_some_iff.1 hl).1
     let K:Wz:=O.putObj a.heap.size (.loop {r with state:=.exhausted})
     refine⟨none,K,?_,?_⟩
     .grind [run_endLoop]
     .have U:S2 (.o s.H.length)=l s.H.length::E:=n1
      obtain⟨l1,l2⟩:=H.lockMap Z rfl U;have I:=H.bz.nd (.o s.H.length);rw[U,List.nodup_cons]at I
      obtain⟨m1,m2⟩:=KR.world (w:=O) (w':=K) (M:=l s.H.length::E) (M':=E) (fl:=[]) rfl rfl rfl (by simp[K]) (λb r0 n=>by
       by_cases T:b=a.heap.size
       .subst T
        rw[hl]at n
        simp only[xJ,Obj.loop.injEq]at n
        subst n
        exact⟨.exhausted,r.pending,World.putObj_heap_same ag⟩
       .exact⟨r0.state,r0.pending,(World.putObj_heap_other T).trans n⟩) l1 (λb m aN=>World.putObj_heap_other (λe=>aN (by grind))) (λb m=>.inl (by simp[m])) I.2
      have hfr:FrOK (am B (H2.set s.H.length .lock).length l (upd S2 (.o s.H.length) []) (E++[]) K) E env ct r.tmps:=by
       have ext:Ext (am B H2.length l S2 [] O) (am B (H2.set s.H.length .lock).length l (upd S2 (.o s.H.length) []) (E++[]) K):=by
        rw[oN];refine l2.trans ?_;have aa:=m2;simp only[oN]at aa
        exact aa
       have kp:∀b∈E,K.heap[b]? =O.heap[b]? :=λb m=>World.putObj_heap_other (λe=>I.1 (by grind))
       exact r7.1.imp kp (λp hp x v e q=>VV.ext ext q) (λp hp cs M' hM q=>TC.ext ext _ _ _ (λb m=>kp b (hM b m)) q)
      obtain⟨S4,aG,u1,_,u2⟩:=KR.ungather (fl:=[]) (by simpa using m1) hfr
      refine hQ B _ K Y G2 ⟨l,S4,aG,u1,λt=> ?_⟩ ⟨rfl,λ_ _=>rfl,⟨[w.heap.size],rfl,by simp,λb m=> ?_⟩,λhq=>absurd hq L⟩ rfl
      .have:=u2 t
       rw[aC]at this
       exact this
      .rw[yQ]at m
       subst m
       refine⟨h.fr.size,λt=>.inl (.inr (by simp)),λho=> ?_,?_,?_⟩
       .have:=k6.bT w.heap.size ho
        exact this.2.1 true (.inr (by simp))
       .show w.heap.size<k.heap.size
        simp[k,a];omega
       .show k.heap[w.heap.size]? =_
        grind [Below.heap_alloc,heap_alloc_new]
   .cases e
  .cases e
 .cases e
structure Shut(l:List Nat)(w w':World):Prop where
 os:w'.os=w.os
 tape:w'.tape=w.tape
 output:w'.output=w.output
 size:w'.heap.size=w.heap.size
 same:∀b,w'.heap[b]? =w.heap[b]? \/b∈l
 recs:cF w w'
theorem AL{fn:Func}{tmps:Array Vz}{R:Ending->Wz->Prop}{u:FrameMode}(hu:u≠ .run){ds:J Deferred}:∀(l:J Nat) (w:Wz),l.Nodup->(∀b∈l,w.heap[b]? =some (.deferred (some [])))->(∀w',Shut l w w'->LeavesInM (FW none) 0 P fn tmps R ds u w')->LeavesInM (FW none) 0 P fn tmps R (l.map mkD++ds) u w
 | [],w,_,_,h=>h w ⟨rfl,rfl,rfl,rfl,λ_=>.inl rfl,.refl _⟩
 |b::l,w,e,i,h=>by
  rw[List.nodup_cons]at e
  have c:=i b (by simp)
  have f:b<w.heap.size:=(Array.getElem?_eq_some_iff.1 c).1
  refine⟨hu,.inl ⟨b,w.putObj b (.deferred none),rfl,run_takeDeferred c,AL hu l _ e.2 (λd hd=> ?_) (λw' a=>h w' ?_)⟩⟩
  .grind [World.putObj_heap_other]
  .refine⟨a.os,a.tape,a.output,a.size.trans World.putObj_size,λd=> ?_,cF.trans (cF.other (g:=b) (λd hd=>World.putObj_heap_other hd) (λr=>by rw[c];simp)) a.recs⟩
   obtain q |q:=a.same d
   .grind [World.putObj_heap_other]
   grind
end
end Go.Am
namespace Go.Am
open Go Go.RowKit Go.ChangeMaps
theorem y?{l:J Qz}{c d f:Nat}{e:TypeId}(h:aed l=some (c,d,e,f)):∃a b,l=[a,b]/\a.op=.move (.tmp c)/\a.dst=some d/\a.guard=none/\b.op=.range e (.tmp d)/\b.dst=some f/\b.guard=none:=by
 unfold aed at h
 split at h
 .grind
 .cases h
theorem y!{l:J Qz}{d t c:Nat}(h:aee l=some (d,t,c)):∃a b,l=[a,b]/\a.op=.next (.tmp d) false/\a.dst=some t/\a.guard=none/\b.op=.extract (.tmp t) 0/\b.dst=some c/\b.guard=none:=by
 unfold aee at h
 split at h
 .grind
 .cases h
theorem z_{l:J Qz}{f e x c:Nat}(h:aef l=some (f,e,x,c)):∃a b d,l=[a,b,d]/\a.op=.entry (.tmp f)/\a.dst=some e/\a.guard=none/\b.op=.extract (.tmp e) 0/\b.dst=some x/\b.guard=none/\d.op=.assign (.tmp x)/\d.dst=some c/\d.guard=none:=by
 unfold aef at h
 split at h
 .split at h
  .grind
  .cases h
 .cases h
theorem z?{l:J Qz}{all m e k:Nat}{c:TypeId}(h:aeg l=some (all,m,e,k,c)):∃a b d,l=[a,b,d]/\a.op=.move (.tmp all)/\a.dst=some m/\a.guard=none/\b.op=.move (.tmp e)/\b.dst=some k/\b.guard=none/\d.op=.mapUpdate c (.tmp m) (.tmp k) (.const (.bool true))/\d.dst=none/\d.guard=none:=by
 unfold aeg at h
 split at h
 .grind
 .cases h
section
variable{P:Pz}{ev:Oz->Vz}{o:Qz}{w w':Wz}{v:Vz}
theorem J5{x:Oz}(h:o.op=.move x):(execOp ev o).run P w=.ok (.value (ev x)) w:=by
 simp_all [execOp]
theorem Tm{x:Oz}(h:o.op=.assign x):(execOp ev o).run P w=.ok (.value (ev x)) w:=by
 simp_all [execOp]
theorem Wb{a:TypeId}{x:Oz}(h:o.op=.range a x)(hr:(Instr.range a (ev x)).run P w=.ok v w'):(execOp ev o).run P w=.ok (.value v) w':=by
 simp_all [execOp]
theorem QY{b:Bool}{x:Oz}(h:o.op=.next x b)(hr:∀ty,(Instr.next (ev x) b ty).run P w=.ok v w'):(execOp ev o).run P w=.ok (.value v) w':=by
 simp_all [execOp]
theorem Wc{x:Oz}(h:o.op=.entry x)(hr:(Instr.entry (ev x)).run P w=.ok v w'):(execOp ev o).run P w=.ok (.value v) w':=by
 simp_all [execOp]
theorem zi{x:Oz}{n:Nat}{vs:Array Vz}(h:o.op=.extract x n)(hx:ev x=.tuple vs)(hv:vs[n]? =some v):(execOp ev o).run P w=.ok (.value v) w:=by
 simp_all [execOp,Instr.extract]
theorem J6{a:TypeId}{m k x:Oz}(h:o.op=.mapUpdate a m k x)(hr:(Instr.mapUpdate a (ev m) (ev k) (ev x)).run P w=.ok () w'):(execOp ev o).run P w=.ok .skip w':=by
 simp_all [execOp]
theorem stepV{ops:Array Qz}{Q:Exit->Act->Wz->Prop}{ro:U Nat}{l:J Qz}{a:Act}{n:Next}(e:o.guard=none)(hd:∀c,o.op≠ .defer c)(h:(execOp a.eval o).run P w=.ok n w')(hn:IV n v)(b:wpListIn (FW ro) 0 P ops Q l (a.put o.dst v) w'):wpListIn (FW ro) 0 P ops Q (o::l) a w:=by
 refine wpListIn_step λK d=> ?_
 have:Region.wanted o (yielded ops a.tmps)=true:=by unfold Region.wanted;rw[e]
 rw[this];simp only[if_true]
 refine⟨λ_ _=>trivial,?_⟩
 rw[Oper.semAt_eq _ _ _ hd,h]
 obtain rfl |⟨rfl,rfl⟩:=hn
 .exact d _ _ b
 .exact d _ _ b
theorem AM{id:Nat}{ops:Array Qz}{l:J Qz}{Q:Exit->Act->Wz->Prop}{ro:U Nat}{a:Act}(hl:ops.toList=l)(h:wpListIn (FW ro) 0 P ops Q l a w):(Code.region id ops false).wpIn (FW ro) 0 P Q a w:=
 wpIn_region (by rw[mY,<-yF,wpOpsIn_eq_wpListIn ops.toList 0 (by simp),hl];exact h)
end
theorem kL{a:Act}{d:Nat}{v:Vz}(h:d<a.tmps.size):(a.put (some d) v).eval (.tmp d)=v:=by
 show(a.tmps.setIfInBounds d v).getD d undef=v
 simp[h]
theorem Dt{a:Act}{d t:Nat}{v:Vz}(h:d≠t):(a.put (some d) v).eval (.tmp t)=a.eval (.tmp t):=by
 show(a.tmps.setIfInBounds d v).getD t undef=a.tmps.getD t undef
 simp_all
theorem Kp.ev{a0 a:Act}{ds:J Nat}(h:Kp a0 ds a){t:Nat}(ht:t∉ds):a.eval (.tmp t)=a0.eval (.tmp t):=by
 show a.tmps.getD t undef=a0.tmps.getD t undef;rw[yB,yB,h.2.2 t ht]
theorem Du{a:Type}(f:Nat->Bool)(t:Nat):∀l:J (Nat×a),look (l.filter λe=>f e.1) t=if f t=true then look l t else none
 | []=>by simp[look]
 |(k,v)::r=>by
  have:=Du f t r;grind [look]
def J7(k:J UInt8):Vz:=.string ⟨k.toArray⟩
theorem Nl{c:Cx}:∀(es:J (D×T)) (l:J (J UInt8)) (a:J MapEntry),Ax es=some l->All2 (JS c) es a->(∀z∈a,∃k∈l,z.key=J7 k)/\∀k∈l,∃z∈a,z.key=J7 k
 | [],l,a,e,h=>by
  simp only[Ax,xJ]at e
  subst e;rw[show a=[]from h]
  simp
 |(d,t)::es,l,a,e,h=>by
  obtain⟨z,r,rfl,n,h3⟩:=h
  cases d with
  |str k=>
   simp only[Ax,xM]at e
   obtain⟨i,j,rfl⟩:=e;obtain⟨o,s⟩:=Nl es i r j h3;have g:=VV.inv n (by simp)
   simp only[VC,xC,and_true]at g
   obtain⟨b,m,f⟩:=g;have v:z.key=J7 k:=by rw[m,(ME f).1];rfl
   refine⟨λy u=> ?_,λq p=> ?_⟩
   .grind
   grind
  |_=>simp[Ax]at e
theorem SetOf.mem{es:J (D×T)}{ks ks':J (J UInt8)}(h:SetOf es ks)(e:∀k,k∈ks↔k∈ks'):SetOf es ks':=
 ⟨λp b=>by obtain⟨s,c,d⟩:=h.1 p b;grind,λs a=>h.2 s ((e s).2 a)⟩
structure CI(A:Av)(ρ:Nat->Nat)(hd:aj->Value)(s:St)(V:List (SV×Value))(o r b cl:Nat)(en:Array MapEntry)(lo hi:List (List UInt8))(W:List Nat)(a0:Act)(it:Nat)(seen:Array Nat)(a:Act)(w:World):Prop where
 kr:∃S ks,KR A ρ S hd ([r]++[]) {ct:=s.ct,H:=s.H.set o (.sset ks)} V w/\(∀k∈lo,k∈ks)/\(∀k∈ks,k∈hi)/\∀z∈en.toList,seen.contains z.born=true->∃k∈ks,z.key=J7 k
 itr:w.heap[r]? =some (.mapIter (some b) cl seen cl)
 mp:w.heap[b]? =some (.map en cl)
 kp:Kp a0 W a
 hit:a.eval (.tmp it)=.pointer (some ⟨r,0,none⟩)
theorem z!{P:Pz}{x y:Code}{p:Cpy}{A:Av}{s s':St}{ex:Ex}{a:Act}{w:Wz}{ro:U Nat}{Q:Exit->Act->Wz->Prop}(hp:Ga x y=some p)(e:Mm P p s=some (ex,s'))(hs:SR A s a w)(hk:ef a.tmps.size (.seq x y)=true)
  (hQ:∀a' w' z,SR A s' a' w'->Kp a (kB (.seq x y)) a'->ajc ex z->Q z a' w'):(Code.seq x y).wpIn (FW ro) 0 P Q a w:=by
 unfold Ga at hp
 split at hp
 rotate_left
 .cases hp
 rename_i i0 o0 bx i1 o1 c' bR b2 i2 o2 i3 o3;simp only[xB]at hp
 obtain⟨⟨R,G,mt,it⟩,h0,⟨ag,t,c⟩,h1,⟨f,D,E,kv⟩,h2,⟨an,m,j,k,bW⟩,h3,hp⟩:=hp;simp only at hp
 split at hp
 rotate_left
 .cases hp
 rename_i hc;obtain⟨rfl,rfl,rfl,rfl,rfl,bJ,aT,bN⟩:=hc;simp only[xJ]at hp
 subst hp;obtain⟨z1,z2,l0,z3,z4,z5,z6,z7,z8⟩:=y? h0;obtain⟨a1,a2,l1,a3,a4,a5,a6,a7,a8⟩:=y! h1;obtain⟨b1,ca,b3,l2,b4,b5,b6,b7,b8,b9,b10,b11,b12⟩:=z_ h2;obtain⟨d1,d2,d3,l3,d4,d5,d6,d7,d8,d9,aQ,ao,bk⟩:=z? h3
 have hW:∀q∈[G,f,t,c',D,E,j,m,k],q∈kB (.seq (.region i0 o0 false) (.block bx (.loop (.seq (.region i1 o1 false) (.seq (.cond (.tmp c') .skip (.exit bx)) (.block b2 (.seq (.region i2 o2 false) (.region i3 o3 false)))))))):=by
  intro q hq;simp only[kB,l0,l1,l2,l3,List.filterMap_cons,List.filterMap_nil,z4,z7,a4,a7,b5,b8,b11,d5,d8,ao,xD,xY,List.not_mem_nil,or_false]at hq |-
  grind
 have bP:∀q∈[G,f,t,c',D,E,j,m,k],q<a.tmps.size:=by
  simp only[ef,ID,l0,l1,l2,l3,kG,List.all_nil,z4,z7,a4,a7,b5,b8,b11,d5,d8,ao,xA,yD,Bool.and_true]at hk
  intro q hq;simp only[xY,List.not_mem_nil,or_false]at hq
  grind
 simp only[Mm]at e
 split at e
 rotate_left
 .cases e
 rename_i q o hq ho
 split at e
 rotate_left
 .cases e
 rename_i es C bE aM
 split at e
 rotate_left
 .cases e
 rename_i aJ;simp only[xM,pJ]at e
 obtain⟨l,hl,rfl,rfl⟩:=e;obtain⟨br,Y⟩:=aJ;obtain⟨⟨bg,bF⟩,bl⟩:=Option.isSome_iff_exists.1 br;simp only[xB]at Y
 obtain⟨⟨kt,el⟩,aX,bK⟩:=Y;have bm:=uh bl;have bi:=uh aX
 have al:∀s:J UInt8,(ew P kt (.str s) (.str s)).isSome=true:=λs=>by
  simp only[ew];rw[bK];rfl
 obtain⟨ρ,S0,hd,h,hv⟩:=hs
 have bv:a.eval (.tmp R)=.map (some (ρ q)):=by
  have:=hv R
  rw[hq]at this
  have:=VV.inv this (by simp)
  simp only[VC,xC,and_true]at this
  exact this.2
 have bA:a.eval (.tmp an)=.map (some (ρ o)):=by
  have:=hv an
  rw[ho]at this
  have:=VV.inv this (by simp)
  simp only[VC,xC,and_true]at this
  exact this.2
 have hV:KR A ρ S0 hd ([]++[]) s.wk (s.env.map λp=>(s.get p.1,a.tmps.getD p.1 undef)) w:=h.dp (λp hp=>by
  obtain⟨u,_,rfl⟩:=List.mem_map.1 hp
  exact hv u.1)
 obtain⟨N,m1,L,i,m2,m3,m4⟩:=hV.map q _ bE rfl;obtain⟨X,st⟩:=m2;obtain⟨be,bQ⟩:=Nl es l L.toList hl m3;obtain⟨N',n1,_⟩:=hV.map o _ aM rfl
 have bY:ρ q≠ρ o:=λq'=>by
  have:=hV.bz.one (.o q) (.o o) (ρ q) (by rw[m1];simp) (by rw[n1,q'];simp)
  grind
 have aS:ρ q<w.heap.size:=(Array.getElem?_eq_some_iff.1 X).1;have bM:ρ o<w.heap.size:=(hV.bT (ρ o) (.inl ⟨.o o,by rw[n1];simp⟩)).1
 have Z:o<s.H.length:=(List.getElem?_eq_some_iff.1 aM).1
 -- the going through begins
 refine wpIn_seq (AM l0 ?_);refine stepV z5 (by rw[z3];simp) (J5 z3) (.inl rfl) ?_
 rw[z4];have e1:(a.put (some G) (a.eval (.tmp R))).eval (.tmp G)=.map (some (ρ q)):=by rw[kL (bP G (by simp)),bv]
 refine stepV z8 (by rw[z6];simp) (Wb z6 (by rw[e1];exact run_range_map w mt bg bF (ρ q) L i bm X)) (.inl rfl) ?_
 rw[z7];obtain⟨g1,_⟩:=KR.alloc hV (.mapIter (some (ρ q)) i #[] i);generalize hr:w.heap.size=r at g1 |-
 have av:s.H.set o (.sset C)=s.H:=AD aM
 have I:CI A ρ hd s (s.env.map λp=>(s.get p.1,a.tmps.getD p.1 undef)) o r (ρ q) i L C (l++C) [G,f,t,c',D,E,j,m,k] a f #[] ((a.put (some G) (a.eval (.tmp R))).put (some f) (.pointer (some ⟨r,0,none⟩))) (w.alloc (.mapIter (some (ρ q)) i #[] i)):=by
  refine⟨⟨S0,C,by rw[av];exact g1,λ_ h=>h,λk hk=>xR _ hk,by simp⟩,?_,?_,?_,?_⟩
  .grind [heap_alloc_new]
  .exact(Below.heap_alloc w _ _ aS).trans X
  .exact((Kp.refl a _).put (by simp) _).put (by simp) _
  .grind [kL,ml]
 have bX:r≠ρ o:=by omega
 have bs:r≠ρ q:=by omega
 refine wpIn_block (wpIn_loop_rounds ((leftOf L #[]).size+1) ?_)
 revert I
 generalize ((a.put (some G) (a.eval (.tmp R))).put (some f) (.pointer (some ⟨r,0,none⟩)))=O;generalize w.alloc (.mapIter (some (ρ q)) i #[] i)=B;intro I
 have aL:∀(n:Nat) (d:Array Nat) (O:Act) (B:Wz),CI A ρ hd s (s.env.map λp=>(s.get p.1,a.tmps.getD p.1 undef)) o r (ρ q) i L C (l++C) [G,f,t,c',D,E,j,m,k] a f d O B->(leftOf L d).size<n->
   Code.roundsIn (FW ro) 0 P (.seq (.region i1 o1 false) (.seq (.cond (.tmp c') .skip (.exit bx)) (.block b2 (.seq (.region i2 o2 false) (.region i3 o3 false))))) (Exit.inBlock bx Q) n O B:=by
  intro n
  induction n with
  |zero=>grind
  |succ n ih=>
   intro d O B ci b0;obtain⟨⟨S,ks,g,c1,c2,c3⟩,c4,c5,c6,c7⟩:=ci;have sz:O.tmps.size=a.tmps.size:=c6.2.1;rw[roundsIn_succ];refine wpIn_seq (AM l1 ?_)
   rcases run_next_at (P:=P) B 0 r (ρ q) i i d L i c4 c5 st.lt (dB _)with⟨hz,_⟩ |⟨z,hz,F,ab,_⟩
   ·-- it ends
    have hn:∀ty,(Instr.next (O.eval (.tmp f)) false ty).run P B=.ok (.tuple #[.bool false]) B:=λty=>by
     rw[c7]
     rcases run_next_at (P:=P) B ty r (ρ q) i i d L i c4 c5 st.lt (dB _)with⟨_,aY⟩ |⟨z,bV,_⟩
     .exact aY
     grind
    refine stepV a5 (by rw[a3];simp) (QY a3 hn) (.inl rfl) ?_
    rw[a4];refine stepV a8 (by rw[a6];simp) (zi (v:=.bool false) a6 (kL (by simp_all)) rfl) (.inl rfl) ?_
    rw[a7];refine wpIn_seq (wpIn_cond_false (kL (by simp_all [ml])) (wpIn_exit ?_))
    have kp:Kp a [G,f,t,c',D,E,j,m,k] ((O.put (some t) (.tuple #[.bool false])).put (some c') (.bool false)):=(c6.put (by simp) _).put (by simp) _
    generalize ((O.put (some t) (.tuple #[.bool false])).put (some c') (.bool false))=af at kp |-
    simp only[Exit.then,Exit.inBlock,if_true]
    refine hQ _ _ _ ?_ (kp.more hW) rfl;obtain⟨g2,_⟩:=g.letGo (fl':=[]) List.nodup_nil (by simp)
    have hm:({ct:=s.ct,H:=s.H.set o (.sset ks)}:Wk).H[o]? =some (.sset ks):=yK Z;obtain⟨M,p1,aN,bB,bt,p2,p3,p4,p5⟩:=g2.map o _ hm rfl
    have p6:SetOf aN (l++C):=p5.mem λkk=>⟨c2 kk,λax=>by
     grind [all_seen,J7]⟩
    have g3:=g2.reob (ob':=.sset (l++C)) hm rfl rfl ⟨M,p1,aN,bB,bt,p2,p3,p4,p6⟩;simp only[List.set_set]at g3
    refine⟨ρ,S,hd,g3.hush,λu=> ?_⟩
    show SO _ _ _ ((look (s.env.filter λe=> ![G,f,t,c',D,E,j,m,k].contains e.1) u).getD .dead) _
    rw[Du (λn=> ![G,f,t,c',D,E,j,m,k].contains n)]
    split
    .rename_i hu
     cases aV:look s.env u with
     |none=>trivial
     |some sv=>
      have bb:=MQ aV;obtain⟨pr,bp,rfl⟩:=List.mem_map.1 bb
      have:=g3.ay _ (List.mem_map.2 ⟨pr,bp,rfl⟩)
      have aZ:s.get pr.1=sv:=by show(look s.env pr.1).getD .dead=sv;rw[aV];rfl
      simp only[aZ]at this
      have bj:af.tmps.getD pr.1 undef=a.tmps.getD pr.1 undef:=kp.ev (t:=pr.1) (by simpa using hu)
      rw[bj];exact this
    .trivial
   ·-- one key more
    obtain⟨K,bd⟩:=mem_left hz;obtain⟨kk,ax,aG⟩:=be z K;clear ab
    have bL:∃z∈(leftOf L d).toList,∃F:Wz,(F=B\/F=B.drew)/\∀ty,(Instr.next (O.eval (.tmp f)) false ty).run P B=.ok (.tuple #[.bool true,z.key,z.val]) (setBlock F r (.mapIter (some (ρ q)) i (d.push z.born) i)):=by
     rcases run_next_at (P:=P) B 0 r (ρ q) i i d L i c4 c5 st.lt (dB _)with⟨q1,_⟩ |⟨z',q1,bH,q2,q3⟩
     .grind
     .exact⟨z',q1,bH,q2,λty=>by rw[c7];exact q3⟩
    clear K bd ax aG;obtain⟨z,hz,F,ab,hn⟩:=bL;obtain⟨K,bd⟩:=mem_left hz;obtain⟨kk,ax,aG⟩:=be z K;refine stepV a5 (by rw[a3];simp) (QY a3 hn) (.inl rfl) ?_
    rw[a4];refine stepV a8 (by rw[a6];simp) (zi (v:=.bool true) a6 (kL (by simp_all)) rfl) (.inl rfl) ?_
    rw[a7];have ah:r<B.heap.size:=(Array.getElem?_eq_some_iff.1 c4).1
    have V:F.os=B.os/\F.tape=B.tape/\F.output=B.output/\F.heap=B.heap:=by
     rcases ab with rfl |rfl <;>exact⟨rfl,rfl,rfl,rfl⟩
    clear ab
    have ad:∀b,b≠r->(setBlock F r (.mapIter (some (ρ q)) i (d.push z.born) i)).heap[b]? =B.heap[b]? :=λb X=>by
     grind [setBlock]
    have aO:(setBlock F r (.mapIter (some (ρ q)) i (d.push z.born) i)).heap[r]? =some (.mapIter (some (ρ q)) i (d.push z.born) i):=by
     rw[<-V.2.2.2]at ah
     simp[setBlock,ah]
    have T:(setBlock F r (.mapIter (some (ρ q)) i (d.push z.born) i)).os=B.os/\(setBlock F r (.mapIter (some (ρ q)) i (d.push z.born) i)).tape=B.tape/\(setBlock F r (.mapIter (some (ρ q)) i (d.push z.born) i)).output=B.output/\B.heap.size<=(setBlock F r (.mapIter (some (ρ q)) i (d.push z.born) i)).heap.size:=by
     refine⟨V.1,V.2.1,V.2.2.1,?_⟩
     rw[<-V.2.2.2];simp[setBlock]
    generalize setBlock F r (.mapIter (some (ρ q)) i (d.push z.born) i)=w2 at ad aO T |-
    obtain⟨g2,_⟩:=KR.world (w:=B) (w':=w2) (M:=[r]) (M':=[r]) T.1 T.2.1 T.2.2.1 T.2.2.2 (cF.other (g:=r) (λb X=>ad b X) (λr'=>by rw[c4];simp)) g (λb _ X=>ad b (by simpa using X)) (λb X=>.inl X) (by simp)
    have Y:w2.heap[ρ q]? =some (.map L i):=(ad _ bs.symm).trans c5;have hm:({ct:=s.ct,H:=s.H.set o (.sset ks)}:Wk).H[o]? =some (.sset ks):=yK Z;obtain⟨aN,q1,g3⟩:=g2.unset hm;obtain⟨bG,q2,q3⟩:=q1.put (ks':=kk::ks) (y:=.bool true) (al kk) rfl;obtain⟨w4,S4,r1,r2,r3⟩:=Cb (P:=P) (o:=o) (fl:=[r]++[]) (vv:=.bool true) (xv:=J7 kk) g3 bi (al kk) (VV.cR true) (VV.one (by grind [VC,J7]) (by simp)) (by simp[Z]) q2
    have r4:=r2.reset (o:=o) (es:=bG) (ks:=kk::ks) (by simp[Z]) q3
    simp only[List.set_set]at r4
    -- the ways of the code
    have n1:∀{u v:Nat},u∈[G,f,t,c',D,E,j,m,k]->v∉[G,f,t,c',D,E,j,m,k]->u≠v:=λhu hv e=>hv (e▸hu)
    simp only[List.nodup_cons,xY,List.not_mem_nil,or_false,not_or,not_false_eq_true,List.nodup_nil,and_true]at bJ
    have aC:Kp a [G,f,t,c',D,E,j,m,k] ((O.put (some t) (.tuple #[.bool true,z.key,z.val])).put (some c') (.bool true)):=(c6.put (by simp) _).put (by simp) _
    have ag:((O.put (some t) (.tuple #[.bool true,z.key,z.val])).put (some c') (.bool true)).eval (.tmp f)=.pointer (some ⟨r,0,none⟩):=by
     rw[Dt (by grind),Dt (by grind)];exact c7
    refine wpIn_seq (wpIn_cond_true (kL (by rw[ml,sz];exact bP c' (by simp))) (wpIn_skip ?_))
    generalize ((O.put (some t) (.tuple #[.bool true,z.key,z.val])).put (some c') (.bool true))=ac1 at aC ag |-
    have aq:ac1.tmps.size=a.tmps.size:=aC.2.1;refine wpIn_block (wpIn_seq (AM l2 ?_));refine stepV b6 (by rw[b4];simp) (Wc b4 (by rw[ag];exact run_entry_at w2 r (ρ q) i d L i z aO Y K st.nd)) (.inl rfl) ?_
    rw[b5];refine stepV b9 (by rw[b7];simp) (zi (v:=z.key) b7 (kL (by rw[aq];exact bP D (by simp))) rfl) (.inl rfl) ?_
    rw[b8];refine stepV b12 (by rw[b10];simp) (Tm b10) (.inl rfl) ?_
    rw[b11,kL (by rw[ml,aq];exact bP E (by simp))]
    have aa:Kp a [G,f,t,c',D,E,j,m,k] (((ac1.put (some D) (.tuple #[z.key,z.val])).put (some E) z.key).put (some j) z.key):=((aC.put (by simp) _).put (by simp) _).put (by simp) _
    have a0:(((ac1.put (some D) (.tuple #[z.key,z.val])).put (some E) z.key).put (some j) z.key).eval (.tmp f)=.pointer (some ⟨r,0,none⟩):=by
     rw[Dt (by grind),Dt (by grind),Dt (by grind)];exact ag
    have ak:(((ac1.put (some D) (.tuple #[z.key,z.val])).put (some E) z.key).put (some j) z.key).eval (.tmp j)=z.key:=kL (by rw[ml,ml,aq];exact bP j (by simp))
    have ai:(((ac1.put (some D) (.tuple #[z.key,z.val])).put (some E) z.key).put (some j) z.key).eval (.tmp an)=.map (some (ρ o)):=by rw[aa.ev aT];exact bA
    generalize (((ac1.put (some D) (.tuple #[z.key,z.val])).put (some E) z.key).put (some j) z.key)=ac2 at aa a0 ak ai |-
    have ba:ac2.tmps.size=a.tmps.size:=aa.2.1;refine AM l3 ?_;refine stepV d6 (by rw[d4];simp) (J5 d4) (.inl rfl) ?_
    rw[d5,ai];refine stepV d9 (by rw[d7];simp) (J5 d7) (.inl rfl) ?_
    rw[d8,Dt (by grind),ak,aG]
    refine stepV bk (by rw[aQ];simp) (J6 (w':=w4) aQ (by
     rw[kL (by rw[ml,ba];exact bP k (by simp)),Dt (by grind),kL (by rw[ba];exact bP m (by simp))]
     exact r1)) (.inr ⟨rfl,rfl⟩) ?_
    rw[ao];refine ih (d.push z.born) _ w4 ⟨⟨S4,kk::ks,r4,λx hx=>by simp[c1 x hx],λx hx=> ?_,λy hy W=> ?_⟩,?_,?_,?_,?_⟩ (by have:=left_shrinks L d z hz;omega)
    .grind
    .rw[contains_push,iq,beq_iff_eq]at W
     obtain W |W:=W
     .grind
     .have:y=z:=born_inj st.nd hy K W
      grind
    .grind
    .grind
    .exact((aa.put (by simp) _).put (by simp) _).put (by simp) _
    .show(((ac2.put (some m) (.map (some (ρ o)))).put (some k) (J7 kk)).put none undef).eval (.tmp f)=_
     show((ac2.put (some m) (.map (some (ρ o)))).put (some k) (J7 kk)).eval (.tmp f)=_
     grind [Dt]
 exact aL _ _ _ _ I (Nat.lt_succ_self _)
end Go.Am
namespace Go.Am
open Go Go.RowKit
section
variable{P:Pz}{A:Av}{call:dF}{hint:Hint}
theorem Jf{c c':Cf}(q:Eqv c c')(live:J Nat):prune live c'.1=prune live c.1:=by
 have:(live.map λt=>(t,c'.1.get t))=live.map λt=>(t,c.1.get t):=lM λt _=>by rw[q.get]
 have a:∀l,pick c'.1.ct l=pick c.1.ct l:=λl=>by
  induction l with
  |nil=>rfl
  |cons x l b=>simp only[pick,q.ct,b]
 simp only[Go.Am.prune,this,a,q.H]
theorem GX{n:Nat}{ops:Array Qz}(h:ID n ops=true):∀o∈ops.toList,∀d,o.dst=some d->d<n:=λo a d hd=>by
 have:=List.all_eq_true.1 h o a
 grind
theorem Dv{G:Nat->U D}(hc:gJ P G call)(hG:GA G A)(c:∀g d,hint.gl g=some d->G g=some d){id:Nat}{ops:Array Qz}{ro:U Nat}{Q:Exit->Act->Wz->Prop}{s s':St}{a:Act}{ds:J Nat}{w:Wz}(f:SR A s a w)(hd:∀o∈ops.toList,∀d,o.dst=some d->d∈ds/\d<a.tmps.size)
  (e:fh P call hint ops.toList ops.toList s=some s') (h:∀b w',SR A s' b w'->Kp a ds b->Q .normal b w'):(Code.region id ops false).wpIn (FW ro) 0 P Q a w:=
 wpIn_region (by rw[mY,<-yF,wpOpsIn_eq_wpListIn ops.toList 0 (by simp)];exact Jd (hint:=hint) hc hG c ops.toList f (.refl _ _) hd e h)
theorem Pn{G:Nat->U D}(hc:gJ P G call)(hG:GA G A)(f:∀g d,hint.gl g=some d->G g=some d){id:Nat}{ops:Array Qz}{ro:U Nat}{Q:Exit->Act->Wz->Prop}{s s':St}{t:U D}{a:Act}{ds:J Nat}{w:Wz}(h:SR A s a w)(hd:∀o∈ops.toList,∀d,o.dst=some d->d∈ds/\d<a.tmps.size)
  (e:gH P call hint ops.toList ops.toList s=some (t,s')) (i:t=none->∀b w',SR A s' b w'->Kp a ds b->Q .normal b w') (hP:∀d,t=some d->∀x b w',SR A s' b w'->Kp a ds b->(∀c,VV c d x)->Q (.panic [{v:=x,recovered:=false}]) b w'):(Code.region id ops false).wpIn (FW ro) 0 P Q a w:=
 wpIn_region (by rw[mY,<-yF,wpOpsIn_eq_wpListIn ops.toList 0 (by simp)];exact y7 (hint:=hint) hc hG f ops.toList h (.refl _ _) hd e i hP)
theorem Po{ro:U Nat}{Q:Exit->Act->Wz->Prop}{a:Act}{w:Wz}{c:Code}(h:c.wpIn (FW ro) 0 P (Exit.noGoto Q) a w):(Code.scope c).wpIn (FW ro) 0 P Q a w:=by
 intro b k g p q o;obtain⟨e,f,w',m,d⟩:=h b (.inScope c::k) g p q o;have j:step P (lone (b.atR a (.code (.scope c)::k)) g w)=.next (lone (b.atR a (.code c:: .inScope c::k)) g w):=step_lone_go (by simp[stepG,stepG.exec,Frame.atR])
 have i:step P (lone (b.atR f (.inScope c::k)) g w')=.next (lone (b.atR f k) g w'):=step_lone_go (by simp[stepG,stepG.exec,Frame.atR])
 have n:StepsIn (Machine.fenced P (FW ro)) P (lone (b.atR a (.code (.scope c)::k)) g w) (lone (b.atR a (.code c:: .inScope c::k)) g w):=.one (fenced_calm q o rfl) j
 cases e with
 |normal=>exact⟨.normal,f,w',m,StepsIn.trans n (StepsIn.trans d (.one (fenced_calm (fr:=b.atR f (.inScope c::k)) q o rfl) i))⟩
 |goto l=>exact m.elim
 |exit id=>exact⟨.exit id,f,w',m,.of_steps n ⟨λk' hk=>d.1 k' (by simp[exitTo,hk]),λo hk=>d.2 o (by simp[exitTo,hk])⟩⟩
 |ret=>exact⟨_,f,w',m,.of_steps n d⟩
 |panic r=>exact⟨_,f,w',m,.of_steps n d⟩
 |outgrown=>exact⟨_,f,w',m,.of_steps n d⟩
theorem SR.le{s:St}{a:Act}{w:Wz}(b:SR A s a w):A.le A:=by
 obtain⟨ρ,S,hd,h,_⟩:=b;exact .refl h
theorem nS{n:Nat}{ops:Array Qz}(h:ID n ops=true):∀o∈ops.toList,∀d,o.dst=some d->d∈ops.toList.filterMap (·.dst)/\d<n:=λo a d hd=>⟨List.mem_filterMap.2 ⟨o,a,hd⟩,GX h o a d hd⟩
theorem iR{G:Nat->U D}(hc:gJ P G call)(r:∀g d,hint.gl g=some d->G g=some d)(N:P.follows .mixedOrders=true)(i:Nat){ro:U Nat}(C:hint.nest=true\/ro=none):∀(c:Code) {A:Av} {s s':St} {H:Ex} {a:Act} {w:Wz} {Q:Exit->Act->Wz->Prop},GA G A->dZ P call hint i c s=some (H,s')->SR A s a w->ef a.tmps.size c=true->
  (∀A' j w' x,A'.le A->GA G A'->SR A' s' j w'->Kc hint.nest A A' a (kB c) j->ajc H x->Q x j w')->c.wpIn (FW ro) 0 P Q a w
 | .skip,A,s,s',H,a,w,Q,hG,e,b,hk,m=>by
  simp only[dZ,xJ,pJ]at e
  obtain⟨rfl,rfl⟩:=e;exact wpIn_skip (m A a w _ b.le hG b (.refl _ _) rfl)
 | .label l,A,s,s',H,a,w,Q,hG,e,b,hk,m=>by
  simp only[dZ,xJ,pJ]at e
  obtain⟨rfl,rfl⟩:=e;exact wpIn_label (m A a w _ b.le hG b (.refl _ _) rfl)
 | .ret,A,s,s',H,a,w,Q,hG,e,b,hk,m=>by
  simp only[dZ,xJ,pJ]at e
  obtain⟨rfl,rfl⟩:=e;exact wpIn_ret (m A a w _ b.le hG b (.refl _ _) rfl)
 | .exit id,A,s,s',H,a,w,Q,hG,e,b,hk,m=>by
  simp only[dZ,xJ,pJ]at e
  obtain⟨rfl,rfl⟩:=e;exact wpIn_exit (m A a w _ b.le hG b (.refl _ _) rfl)
 | .region id ak dr,A,s,s',H,a,w,Q,hG,e,b,hk,m=>by
  simp only[ef]at hk
  simp only[dZ]at e
  cases dr with
  |true=>
   simp only[if_true]at e
   split at e
   .rename_i t J
    simp only[xB,xM,pJ]at e
    obtain⟨bs,hb,V,L,rfl,rfl⟩:=e;obtain⟨rt,r1,r2⟩:=GW t [] V L;refine Dq hc hG r N b (nS hk) hb r1 (RT.Ends.imp (λc0 ac c2 j w' q1 O q3=>m A j w' _ b.le hG ?_ (.of q3) rfl) rt r2)
    rw[<-ac,<-Jf q1];exact O.prune _
   simp only[xB]at e
   obtain⟨⟨c',fs⟩,L,e⟩:=e;simp only at e
   split at e
   .rename_i ai
    simp only[xJ,pJ]at e
    obtain⟨rfl,rfl⟩:=e;refine Pl hc hG r N b (nS hk) L ai λc2 j w' q1 O q3=>m A j w' _ b.le hG ?_ (.of q3) rfl
    rw[<-Jf q1];exact O.prune _
   .cases e
  |false=>
   simp only[xH,if_false]at e
   split at e
   .simp only[xM]at e
    obtain⟨⟨t,V⟩,L,q⟩:=e;refine Pn hc hG r b (nS hk) L (λJ j w' O q3=> ?_) (λd J x j w' O q3 q4=> ?_)
    .subst J
     simp only[pJ]at q
     obtain⟨rfl,rfl⟩:=q;exact m A j w' _ b.le hG (O.prune _) (.of q3) rfl
    .subst J
     simp only[pJ]at q
     obtain⟨rfl,rfl⟩:=q;exact m A j w' _ b.le hG O (.of q3) ⟨x,rfl,q4⟩
   .simp only[xM,pJ]at e
    obtain⟨V,L,rfl,rfl⟩:=e;exact Dv hc hG r b (nS hk) L λj w' O q3=>m A j w' _ b.le hG (O.prune _) (.of q3) rfl
 | .seq x y,A,s,s',H,a,w,Q,hG,e,b,hk,m=>by
  simp only[dZ]at e
  cases hp:Ga x y with
  |some p=>
   rw[hp]at e
   exact z! hp e b hk λj w' x B F o=>m A j w' x b.le hG B (.of F) o
  |none=>
  rw[hp]at e
  simp only[ef,xA]at hk
  simp only[xB]at e
  obtain⟨⟨M,V⟩,L,q⟩:=e;refine wpIn_seq (iR hc r N i C x hG L b hk.1 λK j w' z u I B F o=> ?_)
  simp only at q
  split at q
  .have:z=.normal:=o
   subst this;exact iR hc r N i C y I q B (by rw[F.size];exact hk.2) λW a2 w2 z2 R X p1 p2 p3=>m W a2 w2 z2 (R.trans u) X p1 (Kc.trans u R F p2) p3
  .rename_i af ag
   simp only[xJ,pJ]at q
   obtain⟨rfl,rfl⟩:=q;have k:=F.more (es:=kB (.seq x y)) (λt J=>xL _ J)
   cases M with
   |normal=>grind
   |exit id=>have:z=.exit id:=o;subst this;exact m K j w' _ u I B k rfl
   |ret=>have:z=.ret:=o;subst this;exact m K j w' _ u I B k rfl
   |cO d=>obtain⟨v,rfl,T⟩:=o;exact m K j w' _ u I B k ⟨v,rfl,T⟩
 | .cond c x y,A,s,s',H,a,w,Q,hG,e,b,hk,m=>by
  simp only[ef,xA]at hk
  simp only[dZ]at e
  have ad:=b;obtain⟨ρ,S,hd,h,T⟩:=ad;have Z:=SR.val T c
  split at e
  .rename_i t J
   rw[J]at Z
   refine wpIn_cond (VV.of_bool Z) ?_
   cases t with
   |true=>exact iR hc r N i C x hG e b hk.1 λA' j w' z u I B F o=>m A' j w' z u I B (F.more λt J=>xL _ J) o
   |false=>exact iR hc r N i C y hG e b hk.2 λA' j w' z u I B F o=>m A' j w' z u I B (F.more λt J=>xR _ J) o
  .cases e
 | .block id c,A,s,s',H,a,w,Q,hG,e,b,hk,m=>by
  simp only[ef]at hk
  simp only[dZ,xM,pJ]at e
  obtain⟨⟨M,V⟩,L,q,rfl⟩:=e;refine wpIn_block (iR hc r N i C c hG L b hk λK j w' z u I B F o=> ?_)
  have:=λx=>m K j w' x u I B F
  simp only at q
  cases M with
  |normal=>have E:z=.normal:=o;subst E;subst q;exact this _ rfl
  |ret=>have E:z=.ret:=o;subst E;subst q;exact this _ rfl
  |cO d=>obtain⟨v,rfl,T⟩:=o;subst q;exact this _ ⟨v,rfl,T⟩
  |exit aa=>
   have E:z=.exit aa:=o;subst E;simp only[Exit.inBlock];simp only[Ex.block]at q
   by_cases ah:aa=id
   .subst ah;rw[if_pos rfl]at q |-;subst q;exact this _ rfl
   grind
 | .loop c,A,s,s',H,a,w,Q,hG,e,b,hk,m=>by
  simp only[ef]at hk
  simp only[dZ]at e
  refine wpIn_loop_rounds i ?_
  have ab:∀(n:Nat) (K:Av) (s:St) (Y:Act) (w1:Wz),K.le A->GA G K->mh (dZ P call hint i c) n s=some (H,s')->SR K s Y w1->Kc hint.nest A K a (kB c) Y->Code.roundsIn (FW ro) 0 P c Q n Y w1:=by
   intro n
   induction n with
   |zero=>intro K s Y w1 u I e;cases e
   |succ n ih=>
    intro K s Y w1 u I e b h1;simp only[mh,xB]at e
    obtain⟨⟨M,V⟩,L,q⟩:=e;rw[roundsIn_succ];refine iR hc r N i C c I L b (by rw[h1.size];exact hk) λW j w' z R X B F o=> ?_
    have k:=(Kc.trans u R h1 F).more (es:=kB c) (λt J=>(List.mem_append.1 J).elim id id)
    simp only at q
    split at q
    .have E:z=.normal:=o
     subst E;exact ih W V j w' (R.trans u) X q B k
    .rename_i af ag
     simp only[xJ,pJ]at q
     obtain⟨rfl,rfl⟩:=q
     cases M with
     |normal=>grind
     |exit id=>have E:z=.exit id:=o;subst E;exact m W j w' _ (R.trans u) X B k rfl
     |ret=>have E:z=.ret:=o;subst E;exact m W j w' _ (R.trans u) X B k rfl
     |cO d=>obtain⟨v,rfl,T⟩:=o;exact m W j w' _ (R.trans u) X B k ⟨v,rfl,T⟩
  exact ab i A s a w b.le hG e b (.refl _ _)
 | .scope c,A,s,s',H,a,w,Q,hG,e,b,hk,m=>by
  simp only[ef]at hk
  simp only[dZ]at e
  refine Po (iR hc r N i C c hG e b hk λK j w' z u I B F o=> ?_)
  have:=m K j w' z u I B F o
  cases H with
  |cO d=>obtain⟨v,rfl,_⟩:=o;exact this
  |normal=>have E:z=.normal:=o;subst E;exact this
  |ret=>have E:z=.ret:=o;subst E;exact this
  |exit id=>have E:z=.exit id:=o;subst E;exact this
 | .rangeFunc f ps x y,A,s,s',H,a,w,Q,hG,e,b,hk,m=>by
  simp only[dZ]at e
  obtain C |rfl:=C
  .grind [kJ]
  .refine Tl hc hG b hk e λA' j w' u I B F o=>m A' j w' _ u I B F ?_
   subst o;rfl
 |.goto _,A,s,s',H,a,w,Q,hG,e,b,hk,m|.refuse _,A,s,s',H,a,w,Q,hG,e,b,hk,m=>by simp[dZ]at e
def A_(tmps:Array Vz):ResultVar->Sem Vz
 | .tmp t=>pure (tmps.getD t undef)
 | .cell p t=>do loadVar t (<-asAddr (tmps.getD p undef))
theorem GY{ρ:Nat->Nat}{S:aj->J Nat}{hd:aj->Vz}{s:St}{a:Act}{w:Wz}(h:KR A ρ S hd [] s.wk [] w)(hv:∀t,SO (am A s.H.length ρ S [] w) s.wk.get hd (s.get t) (a.tmps.getD t undef)):
  ∀(l:J ResultVar) (b:J SV),j5 P s l=some b->∃vs:J Vz,(l.mapM (A_ a.tmps)).run P w=.ok vs w/\All2 (λu v=>SO (am A s.H.length ρ S [] w) s.wk.get hd u v) b vs
 | [],b,e=>by
  simp only[j5,xJ]at e
  subst e
  exact⟨[],by simp,rfl⟩
 |r::l,b,e=>by
  simp only[j5,xB,xM]at e
  obtain⟨u,d,k,n,rfl⟩:=e;obtain⟨vs,o,m⟩:=GY h hv l k n
  have f:∃v,(A_ a.tmps r).run P w=.ok v w/\SO (am A s.H.length ρ S [] w) s.wk.get hd u v:=by
   cases r with
   |tmp t=>
    simp only[Gb,xJ]at d
    subst d
    exact⟨_,rfl,hv t⟩
   |cell p t=>
    obtain⟨c,i,j⟩:=Az h (hv p) d
    exact⟨c,VW i,j⟩
  obtain⟨v,q,g⟩:=f
  refine⟨v::vs,?_,v,vs,rfl,g,m⟩
  simp_all
theorem Pp{fn:Func}{a:Act}{w:Wz}{vs:J Vz}(h:(fn.results.toList.mapM (A_ a.tmps)).run P w=.ok vs w):(results fn a.tmps).run P w=.ok (SJ vs) w:=by
 have e:results fn a.tmps=(do let vs <-fn.results.mapM (A_ a.tmps);pure (if h:vs.size=1 then vs[0]else .tuple vs)):=rfl
 rw[e,Array.mapM_eq_mapM_toList,map_eq_pure_bind];simp only[Sem.run_bind,h,Result.andThen_ok,Sem.run_pure]
 match vs with
 | []=>rfl
 | [x]=>rfl
 |x::y::r=>simp[SJ]
theorem Wd{b:Bool}{t:T}{x:D}{v:Vz}(h:T.cP b t=some x)(hf:qr t v):wM x v:=by
 cases t with
 |d y=>simp only[T.cP,xJ]at h;subst h;exact IF hf
 |own c=>simp only[T.cP,xM]at h;obtain⟨l,_,rfl⟩:=h;exact hf
 |agg a=>simp only[T.cP,xM]at h;obtain⟨l,_,rfl⟩:=h;exact hf
 |dead=>simp[T.cP]at h
theorem RetAll.cP{c c':Cx}(hx:Ext c c'):∀(a:J T) (vs:J Vz) (M:J Nat) (xs:J D),T.aY false a=some xs->Pure c c' false M->RetAll c a vs M->RetAll c' (xs.map T.d) vs []
 | [],vs,M,xs,e,_,h=>by
  simp only[T.aY,xJ]at e
  subst e;obtain⟨rfl,rfl⟩:=h
  exact⟨rfl,rfl⟩
 |t::a,vs,M,xs,e,d,h=>by
  simp only[T.aY,xB,xM]at e
  obtain⟨x,b,f,j,rfl⟩:=e;obtain⟨v,r,g,i,rfl,rfl,h3,h4,h5⟩:=h
  exact⟨v,_,[],[],rfl,rfl,by simp only[TC];exact⟨trivial,T.frz_ok hx false t x _ g b d.left h3⟩,Wd b h4,RetAll.cP hx a r i f j d.right h5⟩
theorem RetAll.bX{c:Cx}(a:∀b,c.pm false b->c.pm true b):∀(xs:J D) (vs:J Vz),RetAll c (xs.map T.d) vs []->RetAll c ((D.bl xs).map T.d) vs []
 | [],vs,h=>h
 |x::xs,vs,h=>by
  obtain⟨v,r,d,e,rfl,f,h3,h4,h5⟩:=h;obtain⟨rfl,rfl⟩:d=[]/\e=[]:=by simpa using f.symm
  simp only[TC]at h3
  exact⟨v,r,[],[],rfl,rfl,by grind [TC,VC.bX],B1 h4,RetAll.bX a xs r h5⟩
theorem RetAll.canon{c:Cx}(a:∀b,c.pm false b->c.pm true b){sn:Bool}{xs:J D}{vs:J Vz}(h:RetAll c (xs.map T.d) vs []):RetAll c ((canon sn xs).map T.d) vs []:=by
 grind [Go.Am.canon,RetAll.bX]
theorem AN{fn:Func}{s:St}{a:Act}{w:Wz}{K:Ex}{own:Bool}{rs:J T}{I:J Ob}(hs:SR A s a w)(Q:K=.normal\/K=.ret)(e:jD P own fn A.n0 (K,s)=some (rs,I)):
  fj rs=false/\∃v,(results fn a.tmps).run P w=.ok v w/\aH A I rs v w:=by
 have Y:((j5 P s fn.results.toList).bind λb=>(nf b s.wk).bind λ(o,k)=>(settle own o).bind λo=>if fj o=true then none else some (o,lu A.n0 o k.H))=some (rs,I):=by
  rcases Q with rfl |rfl <;>exact e
 simp only[xB]at Y
 obtain⟨c,e1,⟨z,k⟩,e2,o,q,B⟩:=Y;simp only at q B
 split at B
 .cases B
 rename_i N;simp only[xJ,pJ]at B
 obtain⟨rfl,rfl⟩:=B
 refine⟨by simpa using N,?_⟩
 obtain⟨ρ,S,hd,h,hv⟩:=hs;obtain⟨b,h1,Z⟩:=GY h hv _ _ e1
 refine⟨_,Pp h1,?_⟩
 have hk:KR A ρ S hd [] s.wk (c.zip b) w:=h.dp (λp m=>by
  have:∀(c:J SV) (b:J Vz),All2 (λu v=>SO (am A s.H.length ρ S [] w) s.wk.get hd u v) c b->∀p∈c.zip b,SO (am A s.H.length ρ S [] w) s.wk.get hd p.1 p.2:=by
   intro c
   induction c with
   |nil=>simp_all
   |cons u us G=>
    intro b x p m;obtain⟨v,r,rfl,d,f⟩:=x
    obtain rfl |m:=List.mem_cons.1 m
    .exact d
    .exact G r f p m
  exact this c b Z p m)
 have y:All2 (λu v=>(u,v)∈c.zip b) c b:=by
  have:∀(c:J SV) (b:J Vz) (L:J (SV×Vz)),All2 (λu v=>SO (am A s.H.length ρ S [] w) s.wk.get hd u v) c b->(∀p∈c.zip b,p∈L)->All2 (λu v=>(u,v)∈L) c b:=by
   intro c
   induction c with
   |nil=>intro b L x _;exact x
   |cons u us G=>
    intro b L x R;obtain⟨v,r,rfl,d,f⟩:=x
    exact⟨v,r,rfl,R _ (by simp),G r L f (λp m=>R p (by simp[m]))⟩
  exact this c b _ Z (λp m=>m)
 obtain⟨S1,M1,l,U,t,g4⟩:=Pc c b z s.wk k S [] hk y e2;rw[gf]at l U t
 have i:∃M,KR A ρ S1 hd M k (c.zip b) w/\RetAll (am A k.H.length ρ S1 M w) o b M:=by
  unfold settle at q
  split at q
  .grind [RetAll.fresh]
  .simp only[xM]at q
   obtain⟨xs,q,rfl⟩:=q;obtain⟨d,f⟩:=l.letGo (fl':=[]) (by simp) (by simp)
   refine⟨[],d,RetAll.canon (IG _ _ _ _ _ _) (RetAll.cP f z b M1 xs q (λg X=> ?_) t)⟩
   have W:=l.bT g (.inr X)
   refine⟨⟨λD=> ?_,W.2.1 _,W.1⟩,rfl⟩
   obtain⟨r,D⟩ |D:=D
   .exact l.bz.cq r g D X
   grind
 clear l U t;obtain⟨M,l,t⟩:=i;have V:=l.cM.1
 have n:∃j,KR A ρ j hd M {ct:=[],H:=k.H} [] w/\RetAll (am A k.H.length ρ j M w) o b M:=by
  obtain⟨j,d,f⟩:=l.cut (n2:=k.H.length) (dB _) V (.inl rfl);rw[hJ]at d
  exact⟨j,d,RetAll.ext f _ _ _ (λ_ _=>rfl) t⟩
 unfold lu;split
 .obtain⟨j,d,f⟩:=n
  exact⟨ρ,j,hd,M,b,d,f,rfl⟩
 .split
  .rename_i hl
   obtain⟨E,O⟩:=hl;obtain⟨j,d,f⟩:=l.cut (n2:=A.n0) V (dB _) (.inr (λob F=>List.all_eq_true.1 O ob F))
   have C:(k.H.take A.n0).length=A.n0:=by simp;omega
   exact⟨ρ,j,hd,M,b,d,by rw[C];exact RetAll.ext f _ _ _ (λ_ _=>rfl) (RetAll.lo _ _ _ E t),rfl⟩
  .obtain⟨j,d,f⟩:=n
   exact⟨ρ,j,hd,M,b,d,f,rfl⟩
theorem Tn{s:St}{a:Act}{w:Wz}{d:D}{x:Vz}(l:SR A s a w)(hx:∀c,VV c d x):aH A (lu A.n0 [.d d] s.H) [.d d,.agg []] (.tuple #[x,.agg #[]]) w:=by
 obtain⟨ρ,S,hd,h,_⟩:=l;have g:∀c,RetAll c [.d d,.agg []] [x,.agg #[]] []:=λc=>⟨x,[.agg #[]],[],[],rfl,rfl,by simp only[TC];exact⟨trivial,(hx c).1⟩,(hx c).2,.agg #[],[],[],[],rfl,rfl,by simp[TC,a9,Value.cells],⟨#[],rfl⟩,rfl,rfl⟩
 have k:A.n0<=s.H.length:=h.cM.1
 have f:∃b,KR A ρ b hd [] {ct:=[],H:=s.H} [] w:=by
  obtain⟨b,e,o⟩:=h.cut (n2:=s.H.length) (dB _) k (.inl rfl);rw[show List.take s.H.length s.wk.H=s.H from hJ]at e
  exact⟨b,e⟩
 unfold lu;split
 .obtain⟨b,e⟩:=f
  exact⟨ρ,b,hd,[],_,e,g _,rfl⟩
 .split
  .rename_i n
   obtain⟨m,i⟩:=n;obtain⟨b,e,o⟩:=h.cut (n2:=A.n0) k (dB _) (.inr (λp j=>List.all_eq_true.1 i p j))
   exact⟨ρ,b,hd,[],_,e,g _,rfl⟩
  .obtain⟨b,e⟩:=f
   exact⟨ρ,b,hd,[],_,e,g _,rfl⟩
theorem J8{G:Nat->U D}(hc:gJ P G call)(t:∀g d,hint.gl g=some d->G g=some d)(H:P.follows .mixedOrders=true)(k:Nat){f:FuncId}{fn:Func}{c:Code}(hf:P.funcs[f]? =some fn)(hb:fn.body=some c){args:Array Vz}(hG:GA G A){s s':St}{y:Ex}{own:Bool}{rs:J T}{E:J Ob}
  (K:SR A s {tmps:=args++Array.replicate (fn.ntmps - args.size) undef,defers:=[]} A.w0) (hk:ef (args++Array.replicate (fn.ntmps - args.size) undef).size c=true) (e1:dZ P call hint k c s=some (y,s')) (r:jD P own fn A.n0 (y,s')=some (rs,E)):
  Calls P f args A.w0 λe w'=>∃v,Ends (fj rs) e v/\aH A E rs v w':=by
 refine km.1 (callsIn_of_wp_marks (F:=FW none) (n:=0) hf hb trivial (iR hc t H k (.inr rfl) c hG e1 K hk λA' L w' x O Q C N B=> ?_))
 obtain⟨l,i,o,m⟩:=N.mks;simp only[gf]at i
 have p:∀b∈l,w'.heap[b]? =some (.deferred (some [])):=λb hb=>by
  obtain⟨ρ,S,hd,h,_⟩:=C
  exact(m b hb).2.now h.fr
 have w:∀a,Shut l w' a->SR A s' L a:=λa j=>SR.upW O C j.os j.tape j.output j.size (λb=>(j.same b).imp id λq=>⟨(m b q).1,(m b q).2.1⟩) j.recs
 cases y with
 |exit id=>simp[jD]at r
 |normal=>
  have u:x=.normal:=B;subst u;show LeavesInM _ _ _ _ _ _ _ _ _;rw[i,<-gf (l.map mkD)];refine AL (by simp) l w' o p λa j=> ?_
  obtain⟨M,v,z,q3⟩:=AN (w a j) (.inl rfl) r
  exact⟨v,z,v,by grind [Ends],q3⟩
 |ret=>
  have u:x=.ret:=B;subst u;show LeavesInM _ _ _ _ _ _ _ _ _;rw[i,<-gf (l.map mkD)];refine AL (by simp) l w' o p λa j=> ?_
  obtain⟨M,v,z,q3⟩:=AN (w a j) (.inr rfl) r
  exact⟨v,z,v,by grind [Ends],q3⟩
 |cO d=>
  obtain⟨v,rfl,I⟩:=B;simp only[jD,xJ,pJ]at r
  obtain⟨rfl,rfl⟩:=r;show LeavesInM _ _ _ _ _ _ _ _ _;rw[i,<-gf (l.map mkD)];refine AL (by simp) l w' o p λa j=> ?_
  exact⟨.tuple #[v,.agg #[]],by grind [Ends,fj],Tn (w a j) I⟩
theorem GZ(ds:J D)(vs:J Vz)(t:Nat){c:Cx}{K:aj->U T}{hd:aj->Vz}(h:bf c ds vs):∀j,SO c K hd ((look ((ds.zipIdx j).map λp=>(p.2,SV.d p.1)) t).getD .dead) ((if j<=t then vs[t - j]? else none).getD undef):=by
 induction ds generalizing vs with
 |nil=>intro j;trivial
 |cons d ds f=>
  intro j;simp only[bf]at h
  obtain⟨v,r,rfl,a,b,h3⟩:=h;simp only[List.zipIdx_cons,eJ,look]
  by_cases e:j=t
  .subst e
   rw[if_pos rfl,if_pos (dB _),re]
   exact(⟨a,b⟩:VV c d v)
  grind
theorem G0{ds:J D}{H:J Ob}{args:Array Vz}{S:aj->J Nat}{hd:aj->Vz}{n:Nat}(h:KR A A.ρ0 S hd [] {ct:=[],H} [] A.w0)(ha:bf (am A H.length A.ρ0 S [] A.w0) ds args.toList):
  SR A (enter ds H) {tmps:=args++Array.replicate (n - args.size) undef,defers:=[]} A.w0:=by
 refine⟨A.ρ0,S,hd,h,λt=> ?_⟩
 have:=GZ (K:=(enter ds H).wk.get) (hd:=hd) ds args.toList t ha 0
 simp only[eD,if_true,Nat.sub_zero]at this
 have b:((args++Array.replicate (n - args.size) undef).getD t undef)=(args.toList[t]?).getD undef:=by
  rw[yM]
  by_cases a:t<args.size
  .simp_all [Array.getElem?_append_left]
  .rw[yB,Array.getElem?_append_right (by omega),Array.getElem?_eq_none (xs:=args) (by omega)]
   by_cases c:t - args.size<n - args.size
   .grind
   grind
 show SO _ _ _ ((look (ds.zipIdx.map λp=>(p.2,SV.d p.1)) t).getD .dead) _
 rw[b];exact this
theorem Tp{b:Bool}{H:J Ob}{args:Array Vz}{S:aj->J Nat}{hd:aj->Vz}{n:Nat}{v:Vz}(h:KR A A.ρ0 S hd [] {ct:=[],H} [] A.w0)(ha:args.toList=[v])(hv:∃a cap,v=.slice a 0 cap/\b=a.isNone):
  SR A (BZ b H) {tmps:=args++Array.replicate (n - args.size) undef,defers:=[]} A.w0:=by
 refine⟨A.ρ0,S,hd,h,λt=> ?_⟩
 have d:args.size=1:=by rw[<-yF,ha];rfl
 show SO _ _ _ ((look [(0,SV.ns b)] t).getD .dead) _
 by_cases c:t=0
 .subst c
  have:((args++Array.replicate (n - args.size) undef).getD 0 undef)=v:=by
   rw[yB,Array.getElem?_append_left (by omega),<-yM,ha];rfl
  rw[this];exact hv
 .have:(look [(0,SV.ns b)] t).getD .dead=.dead:=by
   simp only[look];rw[if_neg λe=>c e.symm];rfl
  rw[this];trivial
theorem Tq{A:Av}{d:J Ob}{c:Bool}{v:Vz}{w':Wz}(h:aH A d [.d (.sl false [])] v w'):aH A d [.d (.sl c [])] v w':=by
 obtain⟨b,i,a,M,g,f,e,h3⟩:=h
 refine⟨b,i,a,M,g,f,?_,h3⟩
 simp only[RetAll]at e |-
 obtain⟨u,r,j,l,k,m,h4,h5,h6⟩:=e
 refine⟨u,r,j,l,k,m,?_,h5,h6⟩
 grind [TC,VC]
theorem G4:∀{H:J Ob},ng H=true->H=List.replicate H.length .lock
 | [],_=>rfl
 |o::H,h=>by
  simp only[ng,kG,xA]at h
  have:=G4 (H:=H) h.2;grind
theorem bf.len{c:Cx}:∀(l:J D) (vs:J Vz),bf c l vs->vs.length=l.length
 | [],vs,h=>by grind [bf]
 |d::a,vs,h=>by
  simp only[bf]at h
  obtain⟨v,r,rfl,_,_,h3⟩:=h;simp[bf.len a r h3]
theorem G7{n m:Nat}(h:n<=m){ops:Array Qz}(hk:ID n ops=true):ID m ops=true:=by
 refine List.all_eq_true.2 λo a=> ?_
 have:=List.all_eq_true.1 hk o a
 grind
theorem fG{n m:Nat}(h:n<=m):∀(c:Code),ef n c=true->ef m c=true
 | .region _ d _,hk=>G7 h hk
 |.seq a b,hk|.cond _ a b,hk=>by simp only[ef,xA]at hk |-;exact⟨fG h a hk.1,fG h b hk.2⟩
 |.block _ c,hk|.loop c,hk|.scope c,hk=>fG h c hk
 | .skip,_=>rfl
 | .rangeFunc _ e a b,hk=>by
  simp only[ef,xA,io,yD]at hk |-
  have:=fG h a hk.1.2;have:=fG h b hk.2;grind
 |.exit _,_|.label _,_|.goto _,_|.ret,_|.refuse _,_=>rfl
end
section
variable{P:Pz}{A A':Av}{ρ:Nat->Nat}{S:aj->J Nat}{hd:aj->Vz}{fl:J Nat}{k k':Wk}{ay:J (SV×Vz)}{w:Wz}{G:Nat->U D}
theorem GA.rebW(hG:GA G A)(h:KR A ρ S hd [] k ay w){w':Wz}(l:w'.heap.size=w.heap.size)(a:∀b,w'.heap[b]? =w.heap[b]? \/∀t,A.F t b):GA G (A.du S [] [] w' k.H.length ρ):=λg d e=>by
 obtain⟨i,j,q3⟩:=hG.now h e;obtain⟨_,_,h3,f,h4,h5⟩:=hG g d e;have q4:w'.heap[g]? =w.heap[g]? :=(a g).resolve_right λq=>h3 true (q true)
 refine⟨by show g<w'.heap.size;rw[l];exact j,i,λt c=>c.elim (h3 t) (by simp),f,h4.same (q4.trans q3),h5⟩
theorem KR.upX(hl:A'.le A)(h:KR A' ρ S hd fl k ay w){X:J Nat}(hn:X.Nodup)(s:∀b∈X,b<w.heap.size/\(∀t,A'.F t b)/\(∀t,¬A.F t b)/\(b<A.w0.heap.size->A.O0 b)){w':Wz}(ho:w'.os=w.os)(ht:w'.tape=w.tape)(hu:w'.output=w.output)(u:w'.heap.size=w.heap.size)(d:∀b,b∉X->w'.heap[b]? =w.heap[b]?)(m:cF w w'):
  KR A ρ S hd (X++fl) k ay w'/\Ext (am A' k.H.length ρ S fl w) (am A k.H.length ρ S (X++fl) w'):=by
 have i:∀b∈X,¬bS S fl b:=λb c q=>(h.bT b q).2.1 true ((s b c).2.1 true)
 have ext:Ext (am A' k.H.length ρ S fl w) (am A k.H.length ρ S (X++fl) w'):=⟨λt b g=>by
  have c:b∉X:=λq=>g.2.1 ((s b q).2.1 t)
  refine⟨⟨λq=> ?_,λq=>g.2.1 (hl.F t b q),by rw[u];exact g.2.2⟩,d b c⟩
  obtain q |q:=q
  .exact g.1 (.inl q)
  .exact(List.mem_append.1 q).elim c (λq=>g.1 (.inr q)),dB _,λ_ _=>rfl⟩
 have f:∀r,∀b∈S r,w'.heap[b]? =w.heap[b]? :=λr b c=>d b λq=>i b q (.inl ⟨r,c⟩)
 have j:=Fr.le hl h.fr
 refine⟨⟨λr t ht=>TC.ext ext _ _ _ (f r) (h.cont r t ht),h.gone,h.obj,λn ob z g=>(h.map n ob z g).ext ext (f _) rfl rfl,⟨h.bz.nd,?_,h.bz.one,λr b c y=> ?_⟩,λb c=> ?_,λp g=> ?_,⟨ho.trans j.os,ht.trans j.tape,hu.trans j.output,by rw[u];exact j.size,λb c v=> ?_,j.recs.trans m⟩,hl.fold,⟨ff hl.n0 h.cM.1,λo ho=>(h.cM.2 o (yA ho hl.n0)).trans (hl.cM o ho)⟩⟩,ext⟩
 .rw[xT]
  exact⟨hn,h.bz.ndF,λa x b c e=>i a x (.inr (e▸c))⟩
 .obtain q |q:=List.mem_append.1 y
  .exact i b q (.inl ⟨r,c⟩)
  .exact h.bz.cq r b c q
 .have:b∈X\/bS S fl b:=by
   obtain q |q:=c
   .exact .inr (.inl q)
   .exact(List.mem_append.1 q).imp id .inr
  obtain q |q:=this
  .grind
  .have:=h.bT b q
   exact⟨by grind,λt q=>this.2.1 t (hl.F t b q),λl=>hl.O0 b l (this.2.2 (yA l hl.fr.size))⟩
 .exact SO.aV ext (λr q=>h.hold (k':=k) (hd':=hd) _ rfl rfl (f r) q) (h.ay p g)
 .rw[d b λq=>v ((s b q).2.2.2 c)]
  exact j.kept b c v
theorem We{rs e:J T}{H:J Ob}{vs:J Vz}(ret:∀c,RetAll c rs vs [])(h:KR A ρ S hd [] {ct:=[],H:=H} [] w):aH A (lu A.n0 e H) rs (SJ vs) w:=by
 have j:A.n0<=H.length:=h.cM.1;have f:∃b,KR A ρ b hd [] {ct:=[],H:=H} [] w:=⟨S,h⟩
 unfold lu;split
 .exact⟨ρ,S,hd,[],_,h,ret _,rfl⟩
 .split
  .rename_i i
   obtain⟨g,a⟩:=i;obtain⟨b,k,m⟩:=h.cut (n2:=A.n0) j (dB _) (.inr (λl d=>List.all_eq_true.1 a l d))
   exact⟨ρ,b,hd,[],_,k,ret _,rfl⟩
  .exact⟨ρ,S,hd,[],_,h,ret _,rfl⟩
theorem SO.loosen{c:Cx}{K:aj->U T}{u:SV}{v:Vz}(h:SO c K hd u v):SO c K hd u.loose v:=by
 cases u with
 |d x=>exact h
 |aG r p o l=>cases r with
  |l n j=>exact h
  |o n=>trivial
 |loc r p i o=>cases r with
  |l n j=>exact h
  |o n=>trivial
 |_=>trivial
theorem Ts{call:dF}(hc:gJ P G call)(hints:FuncId->Hint)(aq:∀f g d,(hints f).gl g=some d->G g=some d)(hm:P.follows .mixedOrders=true)(n:Nat){o:Nat}{ds:J D}{H:J Ob}{rs:J T}{H2:J Ob}(e:rk P call hints n o ds H=some (rs,H2)){args:Array Vz}(hA:A.n0=H.length)(hG:GA G A)(F:KR A A.ρ0 S hd [] {ct:=[],H} [] A.w0)(B:bf (am A H.length A.ρ0 S [] A.w0) ds args.toList):
  ck P A.ρ0 (YB+o) args A.w0 λe w'=>∃v,Ends (fj rs) e v/\aH A H2 rs v w':=by
 unfold rk at e
 split at e
 .rename_i g p x y env ct d ad
  simp only[xB]at e
  obtain⟨⟨e1,s1⟩,c1,e⟩:=e;simp only at e
  split at e
  .simp only[xB]at e
   obtain⟨⟨e2,w⟩,c2,e⟩:=e;simp only at e
   split at e
   .split at e
    .rename_i a7
     simp only[xJ,pJ]at e
     obtain⟨rfl,rfl⟩:=e;obtain⟨M,hM,r,r1,r2,r3,r4,r5,r6,r7,r8⟩:=F.map o _ ad rfl;have aG:o<H.length:=(List.getElem?_eq_some_iff.1 ad).1;subst r5;subst r6;simp only[bf]at B
     obtain⟨v,bl,ba,bk,a4,rfl⟩:=B;have Q:args= #[v]:=Array.toList_inj.1 ba;subst Q;have ay:r.params= #[p]:=Array.toList_inj.1 r4
     have aX:(r.params.zip #[v]).foldl (λtmps (t,a)=>tmps.setIfInBounds t a) r.tmps=r.tmps.setIfInBounds p v:=by
      rw[ay];simp
     have hp:p<r.tmps.size:=r8.1 p (by simp)
     have ak:A.ρ0 o<A.w0.heap.size:=(Array.getElem?_eq_some_iff.1 r1).1;obtain⟨k1,x1⟩:=F.lockMap ad rfl hM;have R:KR A A.ρ0 (upd S (.o o) []) hd ([A.ρ0 o]++(M++[])) {ct:=[],H:=H.set o .lock} [] A.w0:=by simpa using k1
     obtain⟨k2,aS,aQ⟩:=R.du;have G2:=hG.du R
     have E:Ext (am A H.length A.ρ0 S [] A.w0) (am (A.du (upd S (.o o) []) (M++[]) [A.ρ0 o] A.w0 (H.set o .lock).length A.ρ0) (H.set o .lock).length A.ρ0 (upd S (.o o) []) (M++[]) A.w0):=by
      refine Ext.trans ?_ (.of aQ.symm);simp only[oN];exact x1
     have bd:=r7.imp (c':=am (A.du (upd S (.o o) []) (M++[]) [A.ρ0 o] A.w0 (H.set o .lock).length A.ρ0) (H.set o .lock).length A.ρ0 (upd S (.o o) []) (M++[]) A.w0) (λ_ _=>rfl) (λ_ _ _ _ _ q=>VV.ext E q) (λ_ _ _ _ hM q=>TC.ext E _ _ _ (λ_ _=>rfl) q)
     obtain⟨S3,hd3,k3,a5,v3⟩:=k2.ungather bd
     have bj:SR (A.du (upd S (.o o) []) (M++[]) [A.ρ0 o] A.w0 (H.set o .lock).length A.ρ0) {env:=(p,.d d)::env,ct,H:=H.set o .lock} {tmps:=r.tmps.setIfInBounds p v,defers:=[]} A.w0:=by
      refine⟨A.ρ0,S3,hd3,k3,λt=> ?_⟩
      show SO _ _ _ ((look ((p,SV.d d)::env) t).getD .dead) ((r.tmps.setIfInBounds p v).getD t undef);simp only[look]
      by_cases ht:p=t
      .subst ht
       rw[if_pos rfl]
       have:(r.tmps.setIfInBounds p v).getD p undef=v:=by
        rw[yB,Array.getElem?_setIfInBounds_self_of_lt hp];rfl
       rw[this];have q:VV (am A H.length A.ρ0 S [] A.w0) d v:=⟨bk,a4⟩;exact VV.ext (E.trans (.of a5.symm)) q
      .rw[if_neg ht]
       have:(r.tmps.setIfInBounds p v).getD t undef=r.tmps.getD t undef:=by
        rw[yB,Ea ht,yB]
       rw[this];exact v3 t
     unfold ck;rw[if_pos (rc _ _),qX]
     refine⟨r,r1,by rw[ay];rfl,roundIn_of_wpIn trivial ?_⟩
     rw[aX];have U:(r.tmps.setIfInBounds p v).size=r.tmps.size:=by simp
     refine iR (hint:={hints g with nest:=true}) hc (aq g) hm n (ro:=some (A.ρ0 o)) (.inl rfl) r.assign G2 c1 bj (by rw[U];exact r8.2.1) λA2 a1 w1 z l2 G3 g1 g2 g3=> ?_
     have hz:z=.normal:=g3;subst hz;obtain⟨ac,S4,an,N,v4⟩:=g1
     have aC:¬bS (upd S (.o o) []) (M++[]) (A.ρ0 o):=by
      rintro(⟨K,hr⟩ |hr)
      .exact R.bz.cq K _ hr (by simp)
      .have:=R.bz.ndF
       grind
     have av:w1.heap[A.ρ0 o]? =some (.loop r):=((Fr.le l2 N.fr).kept _ ak aC).trans r1;have ao:∀t,A2.F t (A.ρ0 o):=λt=>l2.F t _ (.inr (by simp))
     let I:Wz:=w1.putObj (A.ρ0 o) (.loop {r with state:=.busy})
     have V:A.ρ0 o<w1.heap.size:=(Array.getElem?_eq_some_iff.1 av).1;have s:I.heap.size=w1.heap.size:=by simp[I]
     have bb:I.heap[A.ρ0 o]? =some (.loop {r with state:=.busy}):=World.putObj_heap_same V
     have j:∀b,I.heap[b]? =w1.heap[b]? \/∀t,A2.F t b:=λb=>by
      grind [World.putObj_heap_other]
     have ab:cF w1 I:=λb K k=>by
      by_cases Y:b=A.ρ0 o
      .grind
      .exact⟨K.state,K.pending,(World.putObj_heap_other Y).trans k⟩
     have ax:¬bS S4 [] (A.ρ0 o):=λq=>(N.bT _ q).2.1 true (ao true)
     obtain⟨k5,x5⟩:=N.rebW s j;have G5:=G3.rebW N s j
     refine⟨I,run_beginRound av r2,?_⟩
     have aZ:SR (A2.du S4 [] [] I s1.H.length ac) s1 a1 I:=⟨ac,S4,an,k5,λt=>SO.aV x5 (λK q=>N.hold (k':=s1.wk) (hd':=an) _ rfl rfl (λb k=>(j b).resolve_right λq=>(N.bT b (.inl ⟨K,k⟩)).2.1 true (q true)) q) (v4 t)⟩
     have l:=l2.trans aS;have f1:=Fr.le l N.fr;have a6:A.O0 (A.ρ0 o):=(F.bT _ (.inl ⟨.o o,by rw[hM];simp⟩)).2.2 ak
     have bm:∀t,¬A.F t (A.ρ0 o):=(F.bT _ (.inl ⟨.o o,by rw[hM];simp⟩)).2.1
     have aY:(A2.du S4 [] [] I s1.H.length ac).le A:=⟨λt b q=>.inl (l.F t b q),ff l.n0 N.cM.1,λi hi=>(N.cM.2 i (yA hi l.n0)).trans (l.cM i hi),λb k q=>l.O0 b k ((N.bT b q).2.2 (yA k l.fr.size)),⟨f1.os,f1.tape,f1.output,by show _<=I.heap.size;rw[s];exact f1.size,λb k hO=>by
      have:b≠A.ρ0 o:=λe=>hO (e▸a6)
      exact(World.putObj_heap_other this).trans (f1.kept b k hO),f1.recs.trans ab⟩,F.Fold⟩
     refine iR (hint:={hints g with nest:=true}) hc (aq g) hm n (ro:=some (A.ρ0 o)) (.inl rfl) r.body G5 c2 aZ (by rw[g2.size,U];exact r8.2.2) λA4 a2 w3 z2 l4 G6 p1 p2 p3=> ?_
     have a0:z2=.normal:=p3;subst a0;obtain⟨C,S6,bg,k6,v6⟩:=p1;have ai:w3.heap[A.ρ0 o]? =some (.loop {r with state:=.busy}):=((Fr.le l4 k6.fr).kept _ (by show _<I.heap.size;rw[s];exact V) ax).trans bb
     have aM:A.ρ0 o<w3.heap.size:=(Array.getElem?_eq_some_iff.1 ai).1
     let K:Loop:={r with state:=.ready,pending:=none}
     let W:Wz:=w3.putObj (A.ρ0 o) (.loop K)
     have a8:W.heap[A.ρ0 o]? =some (.loop K):=World.putObj_heap_same aM
     refine⟨.bool true,W,run_endRound (r:={r with state:=.busy}) none ai,.bool true,rfl,?_⟩
     have Z:=l4.trans aY;have aO:∀t,A4.F t (A.ρ0 o):=λt=>l4.F t _ (.inl (ao t))
     have ag:C o=A.ρ0 o:=(k6.cM.2 o (yA (by rw[hA];exact aG) Z.n0)).trans (Z.cM o (by rw[hA];exact aG))
     let m:=(env.map (·.1)).filter λt=> !(p::kB r.assign++kB r.body).contains t
     let h:=m.map λt=>(t,(w.get t).loose)
     let L:=jQ (SV.cg (h.map (·.2)))
     obtain⟨S7,k7,t7⟩:=k6.forget L (ct:=pick w.ct L) (λx=>rE _ x)
     have af:cF w3 W:=λb r0 k=>by
      by_cases Y:b=A.ρ0 o
      .grind
      .exact⟨r0.state,r0.pending,(World.putObj_heap_other Y).trans k⟩
     obtain⟨k8,x8⟩:=k7.upX Z (X:=[A.ρ0 o]) (w':=W) (by simp) (λb k=>by
      grind) rfl rfl rfl (by simp[W]) (λb k=>World.putObj_heap_other (λe=>k (by simp[e]))) af
     obtain⟨k9,a3⟩:=k8.gather;obtain⟨be,aL⟩:=k9.perm (fl':=(A.ρ0 o::ownL S7 (pick w.ct L))++[]) (by simp)
     have hx:Ext (am A4 w.H.length C S7 [] w3) (am A w.H.length C (soO S7) ((A.ρ0 o::ownL S7 (pick w.ct L))++[]) W):=x8.trans ((Ext.of a3.symm).trans (.of aL))
     have al:h.map (λq=>(q.1,q.2.loose))=h:=by
      simp only[h,j3];refine lM λt _=> ?_
      simp[Ds]
     have ah:∀rt,∀b∈S7 rt,W.heap[b]? =w3.heap[b]? :=λrt b k=>World.putObj_heap_other λe=>(k7.bT b (.inl ⟨rt,k⟩)).2.1 true (e▸aO true)
     have aN:=Nk k7 (env:=h) (tmps:=r.tmps) (λt=>by
      have aa:look h t=if t∈m then some ((w.get t).loose)else none:=I2 m (λt=>(w.get t).loose) t
      rw[aa]
      by_cases ht:t∈m
      .rw[if_pos ht]
       have O:t∉p::kB r.assign++kB r.body:=by
        have:=(List.mem_filter.1 ht).2
        simpa using this
       simp only[lN,xY,xD,not_or]at O
       have aT:r.tmps.getD t undef=a2.tmps.getD t undef:=by
        rw[yB,yB,p2.tmps t O.2.2,g2.tmps t O.2.1,Ea (Ne.symm O.1)]
       rw[aT];refine t7 _ _ (λq hq=> ?_) (SO.loosen (v6 t))
       rw[nE];refine rC (u:=(w.get t).loose) ?_ hq
       grind
      .rw[if_neg ht]
       trivial) hx ah
     rw[al]at aN
     have aJ:KR A C (soO S7) bg ((C o::ownL S7 (pick w.ct L))++[]) {ct:=[],H:=w.H} [] W:=by rw[ag];exact be
     obtain⟨bi,_⟩:=aJ.unlockMap (ob:=.frame g [p] r.assign r.body h (pick w.ct L)) rfl a7 ⟨K,by rw[ag];exact a8,rfl,rfl,r4,rfl,rfl,by rw[ag];exact aN,r8⟩
     rw[<-hA];exact We (rs:=[.d (.bool true)]) (vs:=[.bool true]) (λc=>⟨.bool true,[],[],[],rfl,rfl,by simp[TC,VC,Value.cells],rfl,rfl,rfl⟩) bi
    .cases e
   .cases e
  .cases e
 .cases e
theorem Nn{hint:Hint}{dst:Nat}{ty:TypeId}{op:Op}{a:Oz->SV}{r:SV×Wk}(e:dD P rl hint dst ty op a k=some r):opE P hint dst ty op a k=some r\/∃f args cu g first cap ds nm y,op=.call {callee:=.value f,args:=args,argTypes:=cu}/\a f=.d (.fn (.func g) first cap)/\Aw P g=some nm/\SV.bG (args.toList.map a)=some ds/\Sl nm (first++ds++cap)=some y/\r=(.d y,k):=by
 have d:∀(f:FuncId) (ds:J D) (b:bq) (c:Wk),gy rl hint dst f ds b c=none:=λf ds b c=>by
  simp_all [fg,rl,gy]
 unfold dD at e
 split at e
 .grind [xB,xM]
 grind
theorem ael(hG:GA G A){hint:Hint}(n:∀g d,hint.gl g=some d->G g=some d){ops:Array Qz}{o:Qz}{s s':St}{a a0:Act}{ds:J Nat}(C:SR A s a w)(i:Kp a0 ds a)(hd:∀d,o.dst=some d->d∈ds/\d<a0.tmps.size)(e:nQ P rl hint ops.toList o s=some s'):
  ∃v w',SR A s' (a.put o.dst v) w'/\Kp a0 ds (a.put o.dst v)/\((Region.wanted o (yielded ops a.tmps)=true/\((execOp a.eval o).run P w=.ok (.value v) w'\/(v=undef/\(execOp a.eval o).run P w=.ok .skip w')))\/(Region.wanted o (yielded ops a.tmps)=false/\v=undef/\w'=w)):=by
 simp only[nQ,xB]at e
 obtain⟨b,E,e⟩:=e;rw[GK C E];obtain⟨ρ,S,hd0,h,z⟩:=C
 have hk:KR A ρ S hd0 [] s.wk (jE s a o.op.operands.toList) w:=h.dp (λp D=>by
  simp only[jE,xD,j0]at D
  obtain⟨q,_,rfl⟩ |⟨x,_,rfl⟩:=D
  .exact z q.1
  .exact SR.val z x)
 have c:∀t∈s.env.map (·.1),(s.get t,a.tmps.getD t undef)∈jE s a o.op.operands.toList:=λt O=>by
  grind [jE]
 have k:∀d,o.dst=some d->d<a.tmps.size:=λd q=>by rw[i.2.1];grind
 have j:∀d,o.dst=some d->d∈ds:=λd q=>(hd d q).1
 cases b
 .simp only[xH,if_false,xJ]at e |-
  subst e
  exact⟨undef,w,SR.fin (ay:=jE s a o.op.operands.toList) hk ⟨#[],rfl,rfl⟩ c k,i.put j _,.inr ⟨trivial,rfl,rfl⟩⟩
 .simp only[if_true,xM]at e |-
  obtain⟨⟨I,k'⟩,u,rfl⟩:=e
  have l:∀x∈o.op.operands,(s.val x,a.eval x)∈jE s a o.op.operands.toList:=λx M=>by
   grind [jE]
  obtain u |⟨f,B,N,g,first,cap,ds',nm,y,hop,hf,hnm,q1,q2,hr⟩:=Nn u
  case inr=>
   simp only[pJ]at hr
   obtain⟨rfl,rfl⟩:=hr;obtain⟨v,m,r⟩:=IZ hk rfl hop l hf hnm q1 q2
   exact⟨v,w,SR.fin hk r c k,i.put j _,.inl ⟨trivial,.inl m⟩⟩
  obtain⟨L,v,w',H,K,F,m,r,h3,h4⟩:=VL hG hk rfl n (ev:=a.eval) (λ_=>rfl) l u
  obtain rfl |⟨rfl,rfl⟩:=r
  .exact⟨v,w',SR.fin h3 h4 c k,i.put j _,.inl ⟨trivial,.inl m⟩⟩
  .exact⟨undef,w',SR.fin h3 h4 c k,i.put j _,.inl ⟨trivial,.inr ⟨rfl,m⟩⟩⟩
theorem G8(hG:GA G A){hint:Hint}(c:∀g d,hint.gl g=some d->G g=some d){ops:Array Qz}{a0:Act}{ds:J Nat}{cs:J Frame}{Q:Exit->Act->J Frame->Wz->Prop}:∀(l:J Qz) (i:Nat) {s s':St} {a:Act} {w:Wz},(∀j,j<l.length->ops[i+j]? =l[j]?)->SR A s a w->Kp a0 ds a->(∀o∈l,∀d,o.dst=some d->d∈ds/\d<a0.tmps.size)->fh P rl hint ops.toList l s=some s'->
  (∀m w',SR A s' m w'->Kp a0 ds m->Q .normal m cs w')->wpOpsSIn (FW none) 0 P ops Q (List.range' i l.length) a cs w
 | [],i,s,s',a,w,n,h,b,hd,e,k=>by
  simp only[fh,xJ]at e
  subst e;exact k a w h b
 |o::l,i,s,s',a,w,n,h,b,hd,e,k=>by
  simp only[fh,xB]at e
  obtain⟨D,t,C⟩:=e;obtain⟨v,w',u,r,B⟩:=ael hG c h b (hd o (by simp)) t
  have z:ops[i]? =some o:=by have:=n 0 (by simp);simpa using this
  have p:=G8 hG c (cs:=cs) (Q:=Q) l (i+1) (λj E=>by have:=n (j+1) (by simp;omega);grind) u r (λq f=>hd q (by simp[f])) C k
  rw[xZ,v7];simp only[wpOpsSIn,z]
  refine⟨λ_ _=>trivial,?_⟩
  obtain⟨y,x |⟨rfl,x⟩⟩ |⟨y,rfl,rfl⟩:=B
  .grind
  .grind
  grind
def CD(P:Pz)(u b:FrameMode):CallT:=λ_ f a w R=>CallsDIn (FW none) 0 P f a u w λe m w'=>m=b/\R e w'
theorem A?{u b:FrameMode}:CallT.mono (CD P u b):=λ_ _ _ _ _ _ h a=>h.mono λ_ _ _ q=>⟨q.1,a _ _ q.2⟩
structure RecIs(u u':FrameMode)(r:D):Prop where
 run:u≠ .run
 settle:Go.settle u'=.returning
 rcv:∀(c₀:Frame) (cs:List Frame),c₀.mode=u->∃v,(∀c,VV c r v)/\((recoverD (c₀::cs)=none/\u'=u/\v=.nilIface)\/recoverD (c₀::cs)=some (v,{c₀ with mode:=u'}::cs))
theorem Jg:RecIs .returning .returning .bW:=
 ⟨by simp,rfl,λa d b=>⟨.nilIface,λc=>⟨rfl,rfl⟩,.inl ⟨by simp[recoverD,b],rfl,rfl⟩⟩⟩
theorem Tt{d:D}{x:Vz}(hx:∀c,VV c d x):RecIs (.panicking [{v:=x,recovered:=false}]) (.panicking [{v:=x,recovered:=true}]) d:=
 ⟨by simp,rfl,λa e b=>⟨x,hx,.inr (by simp[recoverD,b])⟩⟩
theorem SR.put{s:St}{a:Act}(g:SR A s a w){t:Nat}{d:D}{v:Vz}(ht:t<a.tmps.size)(hv:∀c,VV c d v):SR A {s with env:=(t,.d d)::s.env} (a.put (some t) v) w:=by
 obtain⟨ρ,S,hd,h,f⟩:=g
 refine⟨ρ,S,hd,h,λb=> ?_⟩
 show SO _ _ _ ((look ((t,SV.d d)::s.env) b).getD .dead) ((a.tmps.setIfInBounds t v).getD b undef);simp only[look]
 by_cases e:t=b
 .subst e
  rw[if_pos rfl]
  have:(a.tmps.setIfInBounds t v).getD t undef=v:=by
   rw[yB,Array.getElem?_setIfInBounds_self_of_lt ht];rfl
  rw[this];exact hv _
 .rw[if_neg e]
  have:(a.tmps.setIfInBounds t v).getD b undef=a.tmps.getD b undef:=by
   rw[yB,Ea e,yB]
  rw[this];exact f b
theorem Pq{call:dF}{hints:FuncId->Hint}{n:Nat}{r:D}{g:FuncId}{ds:J D}{H:J Ob}{x:J T×J Ob}(e:mJ P call hints n r g ds H=some x):∃fn,P.funcs[g]? =some fn/\fn.body.isSome=true/\(fn.name== "runtime.NumGoroutine")=false:=by
 simp only[mJ,xB]at e
 grind
theorem Tu{call:dF}(hc:gJ P G call){hints:FuncId->Hint}(N:∀f g d,(hints f).gl g=some d->G g=some d)(hm:P.follows .mixedOrders=true)(n:Nat){u E:FrameMode}{r:D}(hr:RecIs u E r):Ek (CD P u E) G (mJ P call hints n r):=by
 intro g ds H rs H2 e A S hd b hA hG ak B;simp only[mJ,xB]at e
 obtain⟨y,hf,c,hb,e⟩:=e
 split at e
 .rename_i id i L
  split at e
  .rename_i o l k
   split at e
   .rename_i aa cu t O p af
    split at e
    .rename_i hh
     obtain⟨hl,hk,_⟩:=hh;simp only[ef,xA]at hk
     simp only[xB]at e
     obtain⟨s1,e1,⟨ex,s2⟩,e2,U⟩:=e
     have Z:(ex=.normal\/ex=.ret)/\jD P (hints g).own y A.n0 (ex,s2)=some (rs,H2):=by
      rw[hA];simp only at U
      split at U
      .grind
      .grind
      .cases U
     clear U;obtain⟨K,Z⟩:=Z;refine callsDIn_of_wpSIn hf hb trivial λc₀ V hu=> ?_
     obtain⟨rv,al,I⟩:=hr.rcv c₀ V hu;have ah:=G0 (n:=y.ntmps) ak B;have bP:y.ntmps<=(b++Array.replicate (y.ntmps - b.size) undef).size:=by simp;omega
     have s:=G7 bP hk.1;have ag:=GX s o (by rw[k];simp) t p
     have ac:=SR.put ah (a:={tmps:=b++Array.replicate (y.ntmps - b.size) undef,defers:=[]}) ag al
     have F:∃q,q={c₀ with mode:=E}::V/\∀(Q:Exit->Act->J Frame->Wz->Prop) (a:Act) (w:Wz),
       wpOpsSIn (FW none) 0 P i Q (List.range' 1 l.length) (a.put o.dst rv) q w->wpOpsSIn (FW none) 0 P i Q (List.range i.size) a (c₀::V) w:=by
      refine⟨_,rfl,λQ a w h=> ?_⟩
      have C:i.size=l.length+1:=by rw[<-yF,k];rfl
      rw[mY,C,v7];have ho:i[0]? =some o:=by rw[<-yM,k];rfl
      simp only[wpOpsSIn,ho]
      refine⟨λ_ _=>trivial,?_⟩
      rw[if_pos (by simp[Region.wanted,af])]
      have M:(execOp a.eval o).run P w=.ok .recover w:=by
       obtain⟨an,op,av,ao,ai,Y⟩:=o;simp only at O;subst O;simp[execOp,resolve,invoke,builtin,Sem.run_bind,Sem.run_pure,Result.andThen]
      rw[M]
      simp only
      obtain⟨h1,h2,h3⟩ |h1:=I
      .rw[h1]
       simp only
       subst h3
       have:c₀={c₀ with mode:=E}:=by rw[h2,<-hu]
       rw[this];exact h
      .grind
     obtain⟨q,ab,ad⟩:=F;refine wpSIn_seq (wpSIn_region (ad _ _ _ ?_));have z:∀W∈i.toList,∀d,W.dst=some d->d∈i.toList.filterMap (·.dst)/\d<(b++Array.replicate (y.ntmps - b.size) undef).size:=nS s
     rw[p];refine G8 (a0:={tmps:=b++Array.replicate (y.ntmps - b.size) undef,defers:=[]}) (ds:=i.toList.filterMap (·.dst)) hG (N g) l 1 (λj hj=> ?_) ac ((Kp.refl _ _).put (dst:=some t) (λd hd=>(z o (by rw[k];simp) d (by rw[p];exact hd)).1) _) (λW aq=>z W (by grind)) e1 λa1 w1 q1 q2=> ?_
     .rw[<-yM,k,show 1+j=j+1 by omega,oK]
     .refine wpSIn_of_wpIn rfl (iR (hint:={hints g with nest:=true}) hc (N g) hm n (ro:=none) (.inl rfl) L hG e2 (q1.prune _) (by rw[q2.2.1];grind [fG]) λA' X w' x l1 G1 g1 g2 g3=> ?_)
      have R:X.defers=[]:=(g2.nst rfl).trans q2.1;obtain⟨p1,v,p2,p3⟩:=AN (g1.up l1) K Z
      have hx:x=.normal\/x=.ret:=by
       obtain rfl |rfl:=K
       .exact .inl g3
       .exact .inr g3
      have T:X.defers=[]/\∃m,q={c₀ with mode:=m}::V/\∃v,(results y X.tmps).run P w'=.ok v w'/\(m=E/\∃v1,Ends (fj rs) (.returned v) v1/\aH A H2 rs v1 w'):=
       ⟨R,E,ab,v,p2,rfl,v,by grind [Ends],p3⟩
      obtain rfl |rfl:=hx
      .exact T
      .exact T
    .cases e
   .cases e
  .cases e
 .cases e
theorem VV.pin{c c':Cx}(hn:c.nO<=c'.nO)(hr:∀o,o<c.nO->c'.ρ o=c.ρ o){d:D}{v:Vz}(hp:d.pin=true)(h:VV c d v):VV c' d v:=by
 have a:d.flat=true->VV c' d v:=λb=>VV.flat b h
 cases d with
 |ptr o=>
  refine⟨?_,h.2⟩
  have:=h.1
  grind [VC]
 |_=>exact a hp
theorem bf.pin{c c':Cx}(hn:c.nO<=c'.nO)(hr:∀o,o<c.nO->c'.ρ o=c.ρ o):∀(l:J D) (vs:J Vz),l.all D.pin=true->bf c l vs->bf c' l vs
 | [],_,_,h=>by simpa [bf]using h
 |d::l,vs,a,h=>by
  simp only[kG,xA]at a
  simp only[bf]at h |-
  obtain⟨v,r,b,e,h3,h4⟩:=h;have q:=VV.pin hn hr a.1 (⟨e,h3⟩:VV c d v)
  exact⟨v,r,b,q.1,q.2,bf.pin hn hr l r a.2 h4⟩
theorem Dw{call:dF}{hint:Hint}(hc:gJ P G call)(hG:GA G A)(f:∀g d,hint.gl g=some d->G g=some d){ops:Array Qz}{ro:U Nat}{Q:Exit->Act->Wz->Prop}{a0:Act}{ds:J Nat}{b:J Qz}:∀(l:J Qz) {s s':St} {a:Act} {w:Wz},SR A s a w->Kp a0 ds a->(∀o∈l,∀d,o.dst=some d->d∈ds/\d<a0.tmps.size)->fh P call hint ops.toList l s=some s'->
  (∀h w',SR A s' h w'->Kp a0 ds h->wpListIn (FW ro) 0 P ops Q b h w')->wpListIn (FW ro) 0 P ops Q (l++b) a w
 | [],s,s',a,w,i,c,hd,e,j=>by
  grind [fh]
 |o::l,s,s',a,w,i,c,hd,e,j=>by
  simp only[fh,xB]at e
  obtain⟨u,p,t⟩:=e;rw[lN];refine wpListIn_step λK q=>GL hc hG f i c (hd o (by simp)) p λh w' r m=>q _ _ ?_
  exact Dw hc hG f l r m (λk n=>hd k (by simp[n])) t j
theorem SR.du{s:St}{a:Act}(hG:GA G A)(i:SR A s a w):∃(c:Av) (ρ:Nat->Nat) (S:aj->J Nat) (hd:aj->Vz),c=A.du S [] [] w s.H.length ρ/\KR A ρ S hd [] s.wk [] w/\c.le A/\GA G c/\SR c s a w/\∀t,SO (am A s.H.length ρ S [] w) s.wk.get hd (s.get t) (a.tmps.getD t undef):=by
 obtain⟨ρ,S,hd,h,f⟩:=i;obtain⟨j,d,e⟩:=KR.du (X:=[]) (fl:=[]) (by simpa using h)
 have g:=GA.du (X:=[]) (fl:=[]) hG (by simpa using h)
 refine⟨_,ρ,S,hd,rfl,h,d,g,⟨ρ,S,hd,j,λt=> ?_⟩,f⟩
 have b:am (A.du S [] [] w s.H.length ρ) s.H.length ρ S [] w=am A s.H.length ρ S [] w:=e;rw[b];exact f t
theorem A!{call:dF}(hc:gJ P G call){hints:FuncId->Hint}(w:∀f g d,(hints f).gl g=some d->G g=some d)(hm:P.follows .mixedOrders=true)(n:Nat){f:FuncId}{fn:Func}{c:Code}{nt:Nat}(hf:P.funcs[f]? =some fn)(hb:fn.body=some c){args:Array Vz}(hG:GA G A){s s':St}{ex:Ex}{own:Bool}{rs:J T}{H2:J Ob}
  (hs:SR A s {tmps:=args++Array.replicate (fn.ntmps - args.size) undef,defers:=[]} A.w0) (hk:ef (args++Array.replicate (fn.ntmps - args.size) undef).size c=true) (e1:JR P call hints n f c nt s=some (ex,s')) (e2:jD P own fn A.n0 (ex,s')=some (rs,H2)):
  Calls P f args A.w0 λe w'=>∃v,Ends (fj rs) e v/\aH A H2 rs v w':=by
 refine km.1 (callsIn_of_wp_marks (F:=FW none) (n:=0) hf hb trivial ?_);unfold JR at e1
 split at e1
 .rename_i i0 o0 i1 o1 I
  simp only[ef,xA]at hk
  obtain⟨aO,bb,a3⟩:=hk;simp only[xB]at e1
  obtain⟨s1,aG,e1⟩:=e1
  split at e1
  .rename_i o Z
   split at e1
   .rename_i x X cu ax al aQ
    simp only[xB]at e1
    obtain⟨s2,aN,e1⟩:=e1
    split at e1
    .rename_i g ab hx
     split at e1
     .rename_i i
      obtain⟨y,i⟩:=i
      obtain rfl:X= #[]:=Array.size_eq_zero_iff.1 y
      simp only[xB,xM,pJ]at e1
      obtain⟨⟨aT,s3⟩,a6,r,Q,⟨sv,k'⟩,⟨⟨ak,k0⟩,aY,N⟩,rfl,rfl⟩:=e1
      have U:ak=sv/\k0=k'/\ak.bN=false:=by
       unfold jP at N
       split at N
       .cases N
       .grind
      obtain⟨rfl,rfl,U⟩:=U;refine wpIn_seq (Dv hc hG (w f) hs (nS aO) aG λa1 w1 g1 g2=> ?_)
      refine wpIn_seq (wpIn_region ?_);rw[mY,<-yF,wpOpsIn_eq_wpListIn o1.toList 0 (by simp)]
      have E:o1.toList.dropLast++[o]=o1.toList:=by
       obtain⟨ys,a8⟩:=List.getLast?_eq_some_iff.1 Z;rw[a8,List.dropLast_concat]
      have aq:=nS (n:=a1.tmps.size) (ops:=o1) (by rw[g2.2.1];exact bb)
      rw[<-E];refine Dw (a0:=a1) (ds:=o1.toList.filterMap (·.dst)) hc hG (w f) _ (g1.prune _) (.refl _ _) (λo' k=>aq o' (List.dropLast_subset _ k)) aN λY w2 q1 q2=> ?_
      refine wpListIn_plain aQ λK hK=>⟨λ_ _=>trivial,?_⟩
      obtain⟨A1,D,S2,bk,aa,k2,be,G1,aL,v2⟩:=SR.du hG q1;have ao:=SR.val v2 x;rw[hx]at ao
      have L:=VV.inv (c:=am A s2.H.length D S2 [] w2) ao (by simp)
      simp only[VC,xC,and_true]at L
      obtain⟨av,H,aZ,ha,a5⟩:=L
      have aC:av= #[]:=by
       simp only[bf]at ha
       exact Array.toList_eq_nil_iff.1 ha
      subst aC
      have ad:(o.semAt (FW none).round Y.eval).run P w2=.ok (.defer {target:=.fn (.func g) H,args:= #[]}) w2:=by
       rw[show(FW none).round=none from rfl,Oper.semAt_none]
       obtain⟨bg,op,bl,bj,aX,a4⟩:=o;simp only at ax;subst ax;have af:Y.eval x=.func (.func g) #[] H:=aZ;simp[execOp,resolve,af,Deferred.ofValue,Sem.run_bind,Sem.run_pure,Result.andThen]
      rw[ad,Oper.uponIn_defer,al];refine hK _ _ (wpListIn_nil ?_);have ac:Y.defers=[]:=q2.1.trans g2.1;have an:SR A1 (prune ((hints f).live i1) s2) ({Y with defers:={target:=.fn (.func g) H,args:= #[]}::Y.defers}:Act) w2:=aL.prune _
      refine iR (hint:=hints f) hc (w f) hm n (ro:=none) (.inr rfl) I G1 a6 an (by show ef Y.tmps.size I=true;rw[q2.2.1,g2.2.1];exact a3) λA' a' w' z l1 G2 p1 p2 p3=> ?_
      obtain⟨l,ah,aS,R⟩:=p2.mks
      have V:a'.defers=l.map mkD++[{target:=.fn (.func g) H,args:= #[]}]:=by
       rw[ah];show _++(_::Y.defers)=_;rw[ac]
      obtain⟨j,S3,hd3,k3,v3⟩:=p1;have aJ:∀b∈l,w'.heap[b]? =some (.deferred (some [])):=λb hb=>(R b hb).2.now k3.fr
      have bd:=l1.trans be
      have S:∀{u u':FrameMode},RecIs u u' r->LeavesInM (FW none) 0 P fn a'.tmps (λe w'=>∃v,Ends (fj rs) e v/\aH A H2 rs v w') a'.defers u w':=λ{u u'} a=>by
       rw[V];refine AL a.run l w' aS aJ λh sh=>⟨a.run,.inr ⟨λhh=>by simp[FW,Fence.wide]at hh,.func g,H,g, #[]++H,rfl,?_,λ_ _=>trivial,?_⟩⟩
       .grind [fg,xB,Pq,invoke,i7]
       .have ay:∀b,h.heap[b]? =w'.heap[b]? \/(A.w0.heap.size<=b/\∀t,A'.F t b):=λb=>(sh.same b).imp id λq=>⟨ff (by rw[aa];exact k2.fr.size) (R b q).1,(R b q).2.1⟩
        obtain⟨k4,x4⟩:=k3.upW bd sh.os sh.tape sh.output sh.size ay sh.recs;have ag:∀rt,∀b∈S3 rt,h.heap[b]? =w'.heap[b]? :=λrt b hb=>(ay b).resolve_right λq=>(k3.bT b (.inl ⟨rt,hb⟩)).2.1 true (q.2 true)
        have v4:∀t,SO (am A s3.H.length j S3 [] h) s3.wk.get hd3 (s3.get t) (a'.tmps.getD t undef):=λt=>SO.aV x4 (λrt q=>k3.hold (k':=s3.wk) (hd':=hd3) _ rfl rfl (ag rt) q) (v3 t)
        have k5:KR A j S3 hd3 [] s3.wk (jE s3 a' []) h:=k4.dp (λp hp=>by
         simp only[jE,ir,gf,j0]at hp
         obtain⟨q,_,rfl⟩:=hp
         exact v4 q.1)
        have ai:A1.n0=s2.H.length:=by rw[aa];rfl
        have aM:A1.ρ0=D:=by rw[aa];rfl
        have W:bf (am A s3.H.length j S3 [] h) ab H.toList:=bf.pin (c:=am A s2.H.length D S2 [] w2) (by
         show s2.H.length<=s3.H.length;rw[<-ai]
         exact ff l1.n0 k3.cM.1) (λo ho=>by
         have k:o<A1.n0:=by rw[ai];exact ho
         show j o=D o;rw[<-aM]
         exact(k3.cM.2 o (yA k l1.n0)).trans (l1.cM o k)) _ _ i a5
        have M:bf (cxS ({}:bq).sn ({}:bq).lk A s3.H.length j S3 [] h) (canon false ab) (#[]++H).toList:=by
         rw[Array.empty_append];exact bf.canon (JV _ _ _) (bf.ext (rz _ _ _) _ _ W)
        have O:=wo (C:=CD P u u') A? hG (Tu hc w hm n a) k5 M aY;refine CallsDIn.mono O λen m w3 he=> ?_
        obtain⟨rfl,v,B,bi,S6,bm,r1,r2⟩:=he;rw[U]at B
        unfold Ends at B;rw[if_neg (by simp)]at B
        subst B;show LeavesInM _ _ _ _ _ _ [] (Go.settle m) w3;rw[a.settle]
        have ba:SR A (s3.fin none .dead k0) (a'.put none undef) w3:=SR.fin (d:=none) (v:=undef) r1 trivial (λt ht=>by
         grind [jE]) (λt ht=>by cases ht)
        obtain⟨q1,v,q2,q3⟩:=AN ba (.inr rfl) e2
        exact⟨v,q2,v,by grind [Ends],q3⟩
      cases aT with
      |exit id=>cases Q
      |normal=>
       have hz:z=.normal:=p3;subst hz;simp only[Sp,xJ]at Q
       subst Q;exact S Jg
      |ret=>
       have hz:z=.ret:=p3;subst hz;simp only[Sp,xJ]at Q
       subst Q;exact S Jg
      |cO d=>
       obtain⟨xv,rfl,a7⟩:=p3;simp only[Sp,xJ]at Q
       subst Q;exact S (Tt a7)
     .cases e1
    .cases e1
   .cases e1
  .cases e1
 .cases e1
end
section
variable{P:Pz}{A:Av}{G:Nat->U D}
theorem Tv{ds:J D}{es:J T}{v:Vz}{vs:J Vz}{S:aj->J Nat}{hd:aj->Vz}{n:Nat}(h:KR A A.ρ0 S hd [] {ct:=[((0,0),.own es)],H:=[]} [] A.w0)
  (a:SB (am A 0 A.ρ0 S [] A.w0) ({ct:=[((0,0),.own es)],H:=[]}:Wk).get hd (.aG (.l 0 0) [] 0 es.length) v) (ha:bf (am A 0 A.ρ0 S [] A.w0) ds vs):
  SR A (B0 es ds) {tmps:=(v::vs).toArray++Array.replicate (n - (v::vs).toArray.size) undef,defers:=[]} A.w0:=by
 refine⟨A.ρ0,S,hd,h,λt=> ?_⟩
 have e:(((v::vs).toArray++Array.replicate (n - (v::vs).toArray.size) undef).getD t undef)=((v::vs)[t]?).getD undef:=by
  generalize ha:(v::vs).toArray=args;have c:v::vs=args.toList:=by rw[<-ha]
  rw[c,yM]
  by_cases f:t<args.size
  .simp_all [Array.getElem?_append_left]
  .rw[yB,Array.getElem?_append_right (by omega),Array.getElem?_eq_none (xs:=args) (by omega)]
   by_cases g:t - args.size<n - args.size
   .grind
   grind
 have b:(B0 es ds).env=(0,.aG (.l 0 0) [] 0 es.length)::(ds.zipIdx 1).map λp=>(p.2,SV.d p.1):=by
  simp only[B0];rw[List.zipIdx_succ,j3];rfl
 show SO _ _ _ ((look (B0 es ds).env t).getD .dead) _;rw[e,b];simp only[look]
 by_cases d:0=t
 .subst d
  exact a
 grind [GZ,B0]
def Wf(P:Pz)(G:Nat->U D)(f:FuncId)(F:J D->U (J T)):Prop:=
 GF P f/\∀c b (H:J Ob),F c=some b->fj b=false->∀(A:Av) (S:aj->J Nat) (hd:aj->Vz) (a:Array Vz),A.n0=H.length->GA G A->KR A A.ρ0 S hd [] {ct:=[],H} [] A.w0->bf (am A H.length A.ρ0 S [] A.w0) c a.toList->
  ck P A.ρ0 f a A.w0 λe w'=>∃v,Ends false e v/\aH A H b v w'
theorem No(Q:P.follows .mixedOrders=true)(hints:FuncId->Hint)(m:∀f g d,(hints f).gl g=some d->G g=some d)(p:∀f F,(hints f).ext=some F->Wf P G f F):∀n,gJ P G (eN P hints n)
 |0=>⟨λf x H r e=>by simp[eN]at e,λf x H I M e=>by simp[eN]at e,λf x es I M e=>by simp[eN]at e⟩
 |n+1=>by
  have U:=No Q hints m p n
  refine⟨λf x H r e=> ?_,λf x H I M e A S hd i K hG j h=> ?_,λf x es I M e h0 C Z A S hd v vs K hG j hs h=> ?_⟩
  .simp only[eN]at e
   split at e
   .rename_i C;exact .inl C
   split at e
   .rename_i F hF
    exact(p f F hF).1
   .simp only[xB]at e
    obtain⟨E,t,c,w,e⟩:=e
    split at e
    .rename_i B
     exact .inr ⟨E,t,by rw[w];rfl,B.2.2⟩
    .split at e
     .rename_i B
      exact .inr ⟨E,t,by rw[w];rfl,B.2.2⟩
     .cases e
  rotate_left
  .simp only[eN]at e
   rw[if_neg C]at e
   split at e
   .grind [xB]
   .simp only[xB]at e
    obtain⟨E,t,c,w,e⟩:=e;rw[t,xQ,xJ]at Z
    rw[if_neg (λq=>by omega)]at e
    split at e
    .rename_i B
     simp only[Vq,xS,xB]at e
     obtain⟨⟨Y,W⟩,s,l⟩:=e;rw[<-K]at l
     exact J8 U (m f) Q n t w hG (Tv j hs h) (fG (by simp;omega) c B.2.1) s l
    .cases e
  simp only[eN]at e
  split at e
  .rename_i C
   obtain⟨o,rfl⟩:=Nat.exists_eq_add_of_le C;rw[qX]at e
   grind [Ts]
  rename_i C
  split at e
  .rename_i F hF
   simp only[xB]at e
   obtain⟨N,s,e⟩:=e
   split at e
   .cases e
   rename_i V;simp only[xJ,pJ]at e
   obtain⟨rfl,rfl⟩:=e;have O:fj N=false:=by simpa using V
   rw[O]
   exact(p f F hF).2 x N H s O A S hd i K hG j h
  unfold ck;rw[if_neg C];simp only[xB]at e
  obtain⟨E,t,c,w,e⟩:=e
  split at e
  .rename_i B
   obtain⟨hl,hk,ag⟩:=B;have z:ef (i++Array.replicate (E.ntmps - i.size) undef).size c=true:=fG (by simp;omega) c hk
   split at e
   .rename_i ac
    simp only[xB]at e
    obtain⟨⟨Y,W⟩,s,l⟩:=e;rw[<-K]at l
    exact A! U m Q n t w hG (G0 j h) z s l
   by_cases k:(decide ((hints f).nilt≠0)&&iz x)=true
   .rw[if_pos k]at e
    obtain⟨t1,X,H1,H2',ht,q1,q2,l1,l2,m1,m2,hr⟩:=Gc e
    obtain⟨b0,rfl⟩:∃b0,x=[.sl b0 []]:=by
     simp only[xA]at k
     have L:=k.2;unfold iz at L
     grind
    obtain⟨v,ab,a,y,rfl⟩:∃v,i.toList=[v]/\∃a y,v=.slice a 0 y:=by
     simp only[bf]at h
     obtain⟨v,r,h1,L,h3,rfl⟩:=h;have h4:=VV.inv (c:=_) ⟨L,h3⟩ (by simp)
     grind [VC]
    have go:∀(b:Bool) (D:J Ob),b=a.isNone->ng D=true->D.length=H.length->(dZ P (eN P hints n) (hints f) n c (BZ b H)).bind (jD P (hints f).own E H.length)=some ([t1],D)->
      Calls P f i A.w0 λe w'=>∃v,Ends (fj I) e v/\aH A M I v w':=by
     intro b D aa af ad u
     obtain rfl:D=M:=by grind [G4]
     obtain rfl:I=[X]:=congrArg Prod.fst hr
     have R:∀{v w'},aH A D [t1] v w'->aH A D [X] v w':=λq=>by
      obtain⟨rfl,rfl⟩ |⟨rfl,rfl⟩:=ht
      .exact Tq q
      .exact q
     simp only[xB]at u
     obtain⟨⟨Y,W⟩,s,l⟩:=u;rw[<-K]at l
     have V:fj [t1]=false/\fj [X]=false:=by
      rcases ht with⟨rfl,rfl⟩ |⟨rfl,rfl⟩ <;>exact⟨rfl,rfl⟩
     refine Calls.mono (J8 U (m f) Q n t w hG (Tp j ab ⟨a,y,rfl,aa⟩) z s l) λen w' T=> ?_
     obtain⟨v,h1,L⟩:=T;rw[V.1]at h1
     exact⟨v,by rw[V.2];exact h1,R L⟩
    grind
   rw[if_neg k]at e
   simp only[xB]at e
   obtain⟨⟨Y,W⟩,s,l⟩:=e;rw[<-K]at l
   exact J8 U (m f) Q n t w hG (G0 j h) z s l
  .split at e
   .simp only[xB]at e
    obtain⟨es,T,_⟩:=e;unfold Vq at T
    split at T
    .obtain⟨_,_,q⟩:=j.map 0 _ rfl rfl
     exact q.elim
    .cases T
   .cases e
end
end Go.Am
namespace Go.Am
open Go
def ig(c c':dF):Prop:=∀f ds H r,c f ds H=some r->c' f ds H=some r
section
variable{P:Pz}{c c':dF}{h:Hint}
theorem oZ(hc:ig c c'){dst:Nat}{f:FuncId}{ds:J D}{b:bq}{k:Wk}{r:SV×Wk}(e:fg c h dst f ds b k=some r):fg c' h dst f ds b k=some r:=by
 unfold fg at e |-
 split at e
 .rename_i hk
  rw[if_pos hk];simp only[xB]at e |-
  obtain⟨x,a,g⟩:=e
  exact⟨x,hc _ _ _ _ a,g⟩
 rename_i d;rw[if_neg d]
 split at e
 .cases e
 .rename_i hk
  rw[if_neg hk];simp only[xB]at e |-
  obtain⟨x,a,g⟩:=e
  exact⟨x,hc _ _ _ _ a,g⟩
theorem rI(hc:ig c c'){dst:Nat}{f:FuncId}{ds:J D}{b:bq}{k:Wk}{r:SV×Wk}(e:gy c h dst f ds b k=some r):gy c' h dst f ds b k=some r:=by
 grind [gy,xB,oZ]
theorem Pr(hc:ig c c'){dst:Nat}{ty:TypeId}{op:Op}{a:Oz->SV}{k:Wk}{r:SV×Wk}(e:dD P c h dst ty op a k=some r):dD P c' h dst ty op a k=some r:=by
 unfold dD at e |-
 split at e
 .simp only
  split at e
  .grind [xB,rI]
  .grind [xB,rI]
  .cases e
 .exact e
theorem Wg(hc:ig c c'){dst:Nat}{g:FuncId}{xs:J SV}{k:Wk}{r:SV×Wk}(e:mvE P c h dst g xs k=some r):mvE P c' h dst g xs k=some r:=by simp[mvE]at e
theorem G9(hc:ig c c'){dst:Nat}{ty:TypeId}{op:Op}{a:Oz->SV}{k:Wk}{r:U D×SV×Wk}(e:gZ P c h dst ty op a k=some r):gZ P c' h dst ty op a k=some r:=by
 unfold gZ at e |-
 split at e
 .exact e
 .simp only
  split at e
  .grind [xB,Wg,rI]
  .cases e
 .grind [xB,rI]
 .exact e
theorem rJ(hc:ig c c'){ops:J Qz}{o:Qz}{s:St}{r:Bool×SV×Wk}(e:fe P c h ops o s=some r):fe P c' h ops o s=some r:=by
 grind [fe,xB,xM,Pr]
theorem Ps(hc:ig c c'){ops:J Qz}{o:Qz}{s s':St}(e:nQ P c h ops o s=some s'):nQ P c' h ops o s=some s':=by
 grind [mq,xM,rJ]
theorem gM(hc:ig c c'){ops:J Qz}:∀(l:J Qz) {s s':St},fh P c h ops l s=some s'->fh P c' h ops l s=some s'
 | [],s,s',e=>e
 |o::l,s,s',e=>by
  simp only[fh,xB]at e |-
  obtain⟨x,a,b⟩:=e
  exact⟨x,Ps hc a,gM hc l b⟩
theorem Np(hc:ig c c'){ops:J Qz}{o:Qz}{s:Cf}{r:Cf×Fp}(e:ek P c h ops o s=some r):ek P c' h ops o s=some r:=by
 grind [ek,xM,rJ]
theorem kM(hc:ig c c'){ops:J Qz}:∀(l:J Qz) {s:Cf} {r:Cf×J Fp},dV P c h ops l s=some r->dV P c' h ops l s=some r
 | [],s,r,e=>e
 |o::l,s,r,e=>by
  simp only[dV,xB,xM]at e |-
  obtain⟨x,b,y,a,d⟩:=e
  have:=kM hc l a;grind [Np]
theorem kN(hc:ig c c'){ops:J Qz}:∀(l:J Qz) {s:St} {r:U D×St},gH P c h ops l s=some r->gH P c' h ops l s=some r
 | [],s,r,e=>e
 |o::l,s,r,e=>by
  simp only[gH,xB]at e |-
  obtain⟨w,d,b⟩:=e
  refine⟨w,d,?_⟩
  split at b
  .rename_i g
   rw[if_pos g];simp only[xB]at b |-
   obtain⟨⟨t,v,k⟩,f,a⟩:=b
   refine⟨(t,v,k),G9 hc f,?_⟩
   simp only at a |-
   split at a
   .exact a
   .exact kN hc l a
  have:=kN hc l b;grind
theorem lC(hc:ig c c'){live:J Nat}{ops:J Qz}{bs:J Nat}{s:St}:∀(t:OT) (E:J (Nat×Nat)) {r:St},jS P c h live ops bs s t E=some r->jS P c' h live ops bs s t E=some r
 | .leaf,E,r,e=>by
  grind [jS,xB,kM]
 | .node i j a b,E,r,e=>by
  simp only[jS]at e |-
  split at e
  .rename_i d
   rw[if_pos d];simp only[xB]at e |-
   obtain⟨x,f,y,k,g⟩:=e
   exact⟨x,lC hc a _ f,y,lC hc b _ k,g⟩
  .cases e
theorem Dx(hc:ig c c'){f:Oz}{a:J Nat}{x y:Code}{s:St}{r:Ex×St}(e:kJ c h f a x y s=some r):kJ c' h f a x y s=some r:=by
 unfold kJ at e |-
 split at e
 .cases e
 rename_i g;rw[if_neg g]
 split at e
 .simp only
  split at e
  .cases e
  rename_i b;rw[if_neg b];simp only[xB]at e |-
  obtain⟨z,i,d⟩:=e
  exact⟨z,hc _ _ _ _ i,d⟩
 .cases e
theorem lD{f a:St->U (Ex×St)}(hf:∀s r,f s=some r->a s=some r):∀(n m:Nat),n<=m->∀s r,mh f n s=some r->mh a m s=some r
 |0,_,_,_,_,e=>by cases e
 |n+1,0,h,_,_,_=>by omega
 |n+1,m+1,h,s,r,e=>by
  have:=lD hf n m;grind [mh,xB]
theorem dY(hc:ig c c'){n m:Nat}(hn:n<=m):∀(d:Code) (s:St) (r:Ex×St),dZ P c h n d s=some r->dZ P c' h m d s=some r
 |.skip,s,r,e|.label _,s,r,e|.ret,s,r,e|.exit _,s,r,e=>e
 |.goto _,s,r,e|.refuse _,s,r,e=>by cases e
 | .rangeFunc _ _ _ _,s,r,e=>by
  grind [dZ,Dx]
 | .region id g f,s,r,e=>by
  simp only[dZ]at e |-
  cases f with
  |true=>
   simp only[if_true]at e |-
   split at e
   .grind [xB,xM,lC]
   grind [xB,kM]
  |false=>
   grind [xM,kN,gM]
 | .seq a b,s,r,e=>by
  have:=dY hc hn a;have:=dY hc hn b;grind [dZ,xB]
 | .cond o a b,s,r,e=>by
  have:=dY hc hn a;have:=dY hc hn b;grind [dZ]
 | .block id a,s,r,e=>by
  have:=dY hc hn a;grind [dZ,xM]
 | .loop a,s,r,e=>by
  simp only[dZ]at e |-
  exact lD (λs r=>dY hc hn a s r) n m hn s r e
 | .scope a,s,r,e=>by
  have:=dY hc hn a;grind [dZ]
theorem Nq(hc:ig c c'){hints:FuncId->Hint}{n m:Nat}(hn:n<=m){o:Nat}{ds:J D}{H:J Ob}{r:J T×J Ob}(e:rk P c hints n o ds H=some r):rk P c' hints m o ds H=some r:=by
 unfold rk at e |-
 split at e
 .grind [xB,dY]
 .cases e
theorem Dy(hc:ig c c'){hints:FuncId->Hint}{n m:Nat}(hn:n<=m){r:D}:ig (mJ P c hints n r) (mJ P c' hints m r):=λg h H x e=>by
 simp only[mJ,xB]at e |-
 obtain⟨f,a,b,d,e⟩:=e
 refine⟨f,a,b,d,?_⟩
 split at e
 .grind [xB,dY]
 .cases e
theorem Tw(hc:ig c c'){hints:FuncId->Hint}{n m:Nat}(hn:n<=m){f:FuncId}{g:Code}{h:Nat}{s:St}{r:Ex×St}(e:JR P c hints n f g h s=some r):JR P c' hints m f g h s=some r:=by
 unfold JR at e |-
 split at e
 .simp only[xB]at e |-
  obtain⟨t,k,e⟩:=e
  refine⟨t,gM hc _ k,?_⟩
  split at e
  .rename_i B
   split at e
   .rename_i d a b
    simp only[d,a,b,xB]at e |-
    obtain⟨w,x,e⟩:=e
    refine⟨w,gM hc _ x,?_⟩
    split at e
    .rename_i A
     split at e
     .rename_i v
      rw[if_pos v];simp only[xB,xM]at e |-
      obtain⟨y,l,q,u,z,⟨p,j,o⟩,i⟩:=e
      exact⟨y,dY hc hn _ _ _ l,q,u,z,⟨p,oZ (Dy hc hn) j,o⟩,i⟩
     .cases e
    .cases e
   .cases e
  .cases e
 .cases e
theorem Nr{hints:FuncId->Hint}:∀n,ig (eN P hints n) (eN P hints (n+1))
 |0=>λf i H r e=>by cases e
 |n+1=>λf i H r e=>by
  have g:=Nr (hints:=hints) n;rw[eN]at e |-
  by_cases l:YB<=f
  .rw[if_pos l]at e |-
   exact Nq g (na n) e
  rw[if_neg l]at e |-
  split at e
  .exact e
  simp only[xB]at e |-
  obtain⟨h,s,c,u,e⟩:=e
  refine⟨h,s,c,u,?_⟩
  split at e
  .rename_i j
   rw[if_pos j]
   by_cases k:(hints f).rcv=true
   .rw[if_pos k]at e |-
    simp only[xB]at e |-
    obtain⟨x,b,d⟩:=e
    exact⟨x,Tw g (na n) b,d⟩
   rw[if_neg k]at e |-
   by_cases a:(decide ((hints f).nilt≠0)&&iz i)=true
   .rw[if_pos a]at e |-
    obtain⟨t1,F,B,z,D,m,o,A,C,E,w,rfl⟩:=Gc e;simp only[xB]at m o
    obtain⟨x,b,d⟩:=m;obtain⟨y,q,t⟩:=o;show QK H.length (ab2 (hints f) i) ((dZ P (eN P hints (n+1)) (hints f) (n+1) c (BZ true H)).bind (jD P (hints f).own h H.length)) ((dZ P (eN P hints (n+1)) (hints f) (n+1) c (BZ false H)).bind (jD P (hints f).own h H.length))=_;rw[dY g (na n) c _ _ b,dY g (na n) c _ _ q,xS,xS,d,t]
    grind
   rw[if_neg a]at e |-
   simp only[xB]at e |-
   obtain⟨x,b,d⟩:=e
   exact⟨x,dY g (na n) c _ _ b,d⟩
  .rename_i j
   rw[if_neg j]
   split at e
   .rename_i h3
    rw[if_pos h3];simp only[xB]at e |-
    obtain⟨p,v,x,b,d⟩:=e
    exact⟨p,v,x,dY g (na n) c _ _ b,d⟩
   .cases e
theorem eo{hints:FuncId->Hint}{n m:Nat}(h:n<=m):ig (eN P hints n) (eN P hints m):=by
 induction h with
 |refl=>exact λ_ _ _ _ e=>e
 |step _ b=>exact λf a H r e=>Nr _ f a H r (b f a H r e)
end
open Classical in
noncomputable def lim{α:Type}(g:Nat->U α):U α:=if h:∃r,∃n,g n=some r then some (Classical.choose h)else none
theorem QZ{a:Type}{g:Nat->U a}(d:∀n m r,n<=m->g n=some r->g m=some r){r:a}:lim g=some r↔∃n,g n=some r:=by
 unfold lim;constructor
 .intro h
  split at h
  .grind
  .cases h
 .rintro⟨n,b⟩
  have c:∃r,∃n,g n=some r:=⟨r,n,b⟩
  grind
section
variable(P:Pz)(hints:FuncId->Hint)
noncomputable def eG:dF:=λf a H=>lim λn=>eN P hints n f a H
noncomputable def eL(h:Hint)(c:Code)(s:St):U (Ex×St):=lim λn=>dZ P (eN P hints n) h n c s
variable{P hints}
theorem gP{f:FuncId}{ds:J D}{H:J Ob}{r:J T×J Ob}:eG P hints f ds H=some r↔∃n,eN P hints n f ds H=some r:=
 QZ λn m r h e=>eo h f ds H r e
theorem dR{h:Hint}{c:Code}{s:St}{r:Ex×St}:eL P hints h c s=some r↔∃n,dZ P (eN P hints n) h n c s=some r:=
 QZ λn m r a e=>dY (eo a) a c s r e
theorem rK(n:Nat):ig (eN P hints n) (eG P hints):=λf a H r e=>gP.2 ⟨n,e⟩
section
variable{h:Hint}
theorem Ns{dst:Nat}{f:FuncId}{ds:J D}{b:bq}{k:Wk}{r:SV×Wk}(e:fg (eG P hints) h dst f ds b k=some r):∃n,fg (eN P hints n) h dst f ds b k=some r:=by
 grind [fg,xB,gP]
theorem rL{dst:Nat}{f:FuncId}{ds:J D}{b:bq}{k:Wk}{r:SV×Wk}(e:gy (eG P hints) h dst f ds b k=some r):∃n,gy (eN P hints n) h dst f ds b k=some r:=by
 grind [gy,xB,Ns]
theorem Pt{dst:Nat}{ty:TypeId}{op:Op}{a:Oz->SV}{k:Wk}{r:SV×Wk}(e:dD P (eG P hints) h dst ty op a k=some r):∃n,dD P (eN P hints n) h dst ty op a k=some r:=by
 by_cases j:∃f args c,op=.call {callee:=.value f,args:=args,argTypes:=c}
 .obtain⟨f,args,c,rfl⟩:=j
  unfold dD at e |-
  simp only at e |-
  split at e
  .split at e
   .cases e
   rename_i d;simp only[if_neg d]
   split at e
   .exact⟨0,e⟩
   simp only[xB]at e
   obtain⟨x,i,y,b,l⟩:=e;obtain⟨n,g⟩:=rL b
   exact⟨n,by grind⟩
  .simp only[xB]at e
   obtain⟨x,i,y,b,l⟩:=e;obtain⟨n,g⟩:=rL b
   exact⟨n,by grind⟩
  .cases e
 .have:∀call:dF,dD P call h dst ty op a k=opE P h dst ty op a k:=λcall=>by
   unfold dD;split
   .grind
   .rfl
  simp_all
theorem Ha{ops:J Qz}{o:Qz}{s:St}{r:Bool×SV×Wk}(e:fe P (eG P hints) h ops o s=some r):∃n,fe P (eN P hints n) h ops o s=some r:=by
 simp only[fe,xB]at e
 obtain⟨w,b,a⟩:=e
 split at a
 .grind [xM,Pt,fe]
 simp_all [fe]
theorem o4{ops:J Qz}:∀(l:J Qz) {s s':St},fh P (eG P hints) h ops l s=some s'->∃n,fh P (eN P hints n) h ops l s=some s'
 | [],s,s',e=>⟨0,e⟩
 |o::l,s,s',e=>by
  simp only[fh,xB]at e
  obtain⟨x,a,f⟩:=e;rw[mq]at a
  simp only[xM]at a
  obtain⟨y,d,g⟩:=a;obtain⟨n,b⟩:=Ha d;obtain⟨m,c⟩:=o4 l f
  refine⟨max n m,?_⟩
  simp only[fh,xB]
  refine⟨x,?_,gM (eo (kE n m)) l c⟩
  rw[mq,rJ (eo (lQ n m)) b]
  grind
theorem rM{ops:J Qz}:∀(l:J Qz) {s:Cf} {r:Cf×J Fp},dV P (eG P hints) h ops l s=some r->∃n,dV P (eN P hints n) h ops l s=some r
 | [],s,r,e=>⟨0,e⟩
 |o::l,s,r,e=>by
  simp only[dV,xB,xM]at e
  obtain⟨x,a,y,i,g⟩:=e;simp only[ek,xM]at a
  obtain⟨z,f,c⟩:=a;obtain⟨n,b⟩:=Ha f;obtain⟨m,d⟩:=rM l i
  refine⟨max n m,?_⟩
  simp only[dV,xB,xM]
  refine⟨x,?_,y,kM (eo (kE n m)) l d,g⟩
  simp only[ek,rJ (eo (lQ n m)) b,xQ,c]
theorem Wi{dst:Nat}{g:FuncId}{xs:J SV}{k:Wk}{r:SV×Wk}(e:mvE P (eG P hints) h dst g xs k=some r):∃n,mvE P (eN P hints n) h dst g xs k=some r:=by simp[mvE]at e
theorem Pu{dst:Nat}{ty:TypeId}{op:Op}{c:Oz->SV}{k:Wk}{r:U D×SV×Wk}(e:gZ P (eG P hints) h dst ty op c k=some r):∃n,gZ P (eN P hints n) h dst ty op c k=some r:=by
 by_cases i:∃f args b,op=.call {callee:=.value f,args:=args,argTypes:=b}
 .obtain⟨f,args,b,rfl⟩:=i
  unfold gZ at e |-
  simp only at e |-
  split at e
  .grind [xB,Wi,rL]
  .cases e
 .by_cases hd:∃x d args b,op=.call {callee:=.invoke x d,args:=args,argTypes:=b}
  .obtain⟨x,d,args,b,rfl⟩:=hd
   unfold gZ at e |-
   simp only[xB]at e |-
   obtain⟨q,j,e⟩:=e
   split at e
   .cases e
   rename_i l;simp only[xB]at e
   obtain⟨x,o,y,g,p⟩:=e;obtain⟨n,m⟩:=rL g
   exact⟨n,q,j,by grind⟩
  have:∀call a:dF,gZ P call h dst ty op c k=gZ P a h dst ty op c k:=λcall a=>by
   unfold gZ;split
   .rfl
   .grind
   .grind
   .rfl
  exact⟨0,by grind⟩
theorem rN{ops:J Qz}:∀(l:J Qz) {s:St} {r:U D×St},gH P (eG P hints) h ops l s=some r->∃n,gH P (eN P hints n) h ops l s=some r
 | [],s,r,e=>⟨0,e⟩
 |o::l,s,r,e=>by
  simp only[gH,xB]at e
  obtain⟨w,f,a⟩:=e
  split at a
  .rename_i c
   simp only[xB]at a
   obtain⟨⟨t,v,k⟩,i,b⟩:=a;obtain⟨n,d⟩:=Pu i;simp only at b
   split at b
   .grind [gH]
   .obtain⟨m,g⟩:=rN l b
    refine⟨max n m,?_⟩
    simp only[gH,f,xS,c,if_true,G9 (eo (lQ n m)) d];exact kN (eo (kE n m)) l g
  have:=rN l a;grind [gH]
theorem gz{a:Type}{x y:U a}(h:∀r,x=some r↔y=some r):x=y:=Option.ext h
theorem ms{c:Code}{s:St}{x:U (Ex×St)}(hx:∀n,dZ P (eN P hints n) h n c s=x):eL P hints h c s=x:=
 gz λr=>by rw[dR];simp[hx]
theorem Hc{s:St}:eL P hints h .skip s=some (.normal,s):=ms λ_=>rfl
theorem Dz{l:Nat}{s:St}:eL P hints h (.label l) s=some (.normal,s):=ms λ_=>rfl
theorem Jh{s:St}:eL P hints h .ret s=some (.ret,s):=ms λ_=>rfl
theorem Hd{id:Nat}{s:St}:eL P hints h (.exit id) s=some (.exit id,s):=ms λ_=>rfl
theorem AO{id:Nat}{ops:Array Qz}{s:St}(hp:h.cO.contains id=false):eL P hints h (.region id ops false) s=(fh P (eG P hints) h ops.toList ops.toList s).map λs'=>(.normal,prune (h.live id) s'):=
 gz λr=>by
  grind [dR,dZ,xM,gM,rK,o4]
theorem Is{id:Nat}{ops:Array Qz}{s:St}(hp:h.cO.contains id=true):eL P hints h (.region id ops false) s=(gH P (eG P hints) h ops.toList ops.toList s).map λp=>match p.1 with |some d=>(.cO d,p.2) |none=>(.normal,prune (h.live id) p.2):=
 gz λr=>by
  grind [dR,dZ,xM,kN,rK,rN]
theorem He{id:Nat}{ops:Array Qz}{s:St}(hp:h.swp id=none):eL P hints h (.region id ops true) s=(dV P (eG P hints) h ops.toList ops.toList (s,ku s)).bind λ(c,a)=>if ua ops.toList a then some (.normal,prune (h.live id) c.1)else none:=
 gz λr=>by
  grind [dR,dZ,xB,kM,rK,rM]
noncomputable def Ji(P:Pz)(hints:FuncId->Hint)(h:Hint)(b:Code)(r:Ex×St):U (Ex×St):=match r.1 with | .normal=>eL P hints h b r.2 |e=>some (e,r.2)
theorem Tx{a b:Code}{s:St}{p:Cpy}(hc:Ga a b=some p):eL P hints h (.seq a b) s=Mm P p s:=ms λn=>by grind [dZ]
theorem Jj{a b:Code}{s:St}(hc:Ga a b=none):eL P hints h (.seq a b) s=(eL P hints h a s).bind (Ji P hints h b):=
 gz λr=>by
  rw[dR];simp only[dZ,hc,xB,Ji];constructor
  .grind [dR]
  .rintro⟨⟨i,f⟩,e,c⟩
   obtain⟨n,g⟩:=dR.1 e;simp only at c
   split at c
   .obtain⟨m,d⟩:=dR.1 c
    exact⟨max n m,⟨.normal,f⟩,dY (eo (lQ n m)) (lQ n m) a _ _ g,dY (eo (kE n m)) (kE n m) b _ _ d⟩
   grind
theorem Pv{o:Oz}{a b:Code}{s:St}:eL P hints h (.cond o a b) s=match s.val o with | .d (.bool t)=>if t then eL P hints h a s else eL P hints h b s |_=>none:=
 gz λr=>by
  grind [dR,dZ]
theorem Nt{id:Nat}{a:Code}{s:St}:eL P hints h (.block id a) s=(eL P hints h a s).map λr=>(r.1.block id,r.2):=
 gz λr=>by
  grind [dR,dZ,xM]
theorem DA{a:Code}{s:St}:eL P hints h (.scope a) s=eL P hints h a s:=
 gz λr=>by grind [dR,dZ]
theorem Hf{a:Code}{s:St}:eL P hints h (.loop a) s=(eL P hints h a s).bind (Ji P hints h (.loop a)):=
 gz λr=>by
  rw[dR];simp only[xB,Ji];constructor
  .rintro⟨n,e⟩
   simp only[dZ]at e
   cases n with
   |zero=>cases e
   |succ n=>
    have k:=e;simp only[mh,xB]at e
    obtain⟨⟨d,c⟩,f,b⟩:=e
    refine⟨⟨d,c⟩,dR.2 ⟨n+1,f⟩,?_⟩
    simp only at b |-
    cases d with
    |normal=>
     refine dR.2 ⟨n+1,?_⟩;simp only[dZ];exact lD (λ_ _ e=>e) n (n+1) (na n) _ _ b
    |_=>exact b
  .rintro⟨⟨d,c⟩,f,b⟩
   obtain⟨n,i⟩:=dR.1 f;simp only at b
   split at b
   .obtain⟨m,g⟩:=dR.1 b
    simp only[dZ]at g
    refine⟨max n m+1,?_⟩
    simp only[dZ,mh,xB]
    exact⟨⟨.normal,c⟩,dY (eo (by omega)) (by omega) a _ _ i,lD (λs r e=>dY (eo (by omega)) (by omega) a s r e) m (max n m) (kE n m) _ _ g⟩
   .rename_i j
    refine⟨n+1,?_⟩
    simp only[dZ,mh,xB]
    refine⟨⟨d,c⟩,dY (eo (na n)) (na n) a _ _ i,?_⟩
    grind
end
theorem Wj{f:FuncId}{ds:J D}{H:J Ob}{fn:Func}{c:Code}(g:¬YB<=f)(hr:(hints f).rcv=false)(b:(hints f).ext=none)(hf:P.funcs[f]? =some fn)(hb:fn.body=some c)(hl:ds.length=fn.params.size+fn.nfree)(hk:ef fn.ntmps c=true)(hn:(fn.name== "runtime.NumGoroutine")=false)(hx:(decide ((hints f).nilt≠0)&&iz ds)=false):
  eG P hints f ds H=(eL P hints (hints f) c (enter ds H)).bind (jD P (hints f).own fn H.length):=
 gz λr=>by
  rw[gP];simp only[xB];constructor
  .rintro⟨n,e⟩
   cases n with
   |zero=>cases e
   |succ n=>
    grind [eN,xB,dR]
  .rintro⟨x,a,h⟩
   obtain⟨n,d⟩:=dR.1 a
   refine⟨n+1,?_⟩
   grind [eN]
theorem Tz{f:FuncId}{ds:J D}{H:J Ob}{F:J D->U (J T)}(a:¬YB<=f)(hx:(hints f).ext=some F):eG P hints f ds H=(F ds).bind λrs=>if fj rs=true then none else some (rs,H):=
 gz λr=>by
  rw[gP];constructor
  .rintro⟨n,e⟩
   cases n with
   |zero=>cases e
   |succ n=>
    grind [eN]
  .intro e
   refine⟨1,?_⟩
   grind [eN]
end
section
variable{P:Pz}{hints:FuncId->Hint}{call:dF}{h:Hint}
def Q1(id:Nat)(e:Ex):Ex:=e.block id
theorem AP{id:Nat}{a:Code}{s:St}:eL P hints h (.block id a) s=(eL P hints h a s).bind λr=>some (Q1 id r.1,r.2):=by
 rw[Nt,xF];rfl
noncomputable def av0(P:Pz)(hints:FuncId->Hint)(h:Hint)(v:SV)(a b:Code)(s:St):U (Ex×St):=match v with | .d (.bool t)=>if t then eL P hints h a s else eL P hints h b s |_=>none
def AQ(P:Pz)(call:dF)(h:Hint)(d:U Nat)(ty:TypeId)(op:Op)(s:St):U St:=(dD P call h (d.getD 0) ty op s.val s.wk).bind λp=>some (s.fin d p.1 p.2)
theorem DB{ops:J Qz}{d:U Nat}{op:Op}{ty:TypeId}{pos:String}{after:Array Edge}{s:St}:nQ P call h ops {dst:=d,op:=op,type:=ty,pos:=pos,after:=after,guard:=none} s=AQ P call h d ty op s:=by
 show(dD P call h (d.getD 0) ty op s.val s.wk).map _=_
 rw[xF];rfl
def stepG(P:Pz)(call:dF)(h:Hint)(d:U Nat)(ty:TypeId)(op:Op)(want:Bool)(g:SV)(s:St):U St:=
 match g with
 | .d (.bool b)=>if b=want then AQ P call h d ty op s else some (s.fin d (.aS []) s.wk)
 | .aS []=>some (s.fin d (.aS []) s.wk)
 |_=>none
theorem Hg{d:U Nat}{ty:TypeId}{op:Op}{want b:Bool}{s:St}:stepG P call h d ty op want (.d (.bool b)) s=if b=want then AQ P call h d ty op s else some (s.fin d (.aS []) s.wk):=rfl
def Jk(ops:J Qz)(j:Nat):Nat:=((ops[j]?).bind (·.dst)).getD 0
theorem Nu{ops:J Qz}{d:U Nat}{op:Op}{ty:TypeId}{pos:String}{after:Array Edge}{j:Nat}{want:Bool}{s:St}(f:((ops[j]?).bind (·.dst)).isSome=true):
  nQ P call h ops {dst:=d,op:=op,type:=ty,pos:=pos,after:=after,guard:=some (j,want)} s=stepG P call h d ty op want (s.get (Jk ops j)) s:=by
 obtain⟨t,a⟩:=Option.isSome_iff_exists.1 f;have e:Jk ops j=t:=by simp[Jk,a]
 rw[e];simp only[nQ,ik,a];generalize s.get t=g
 have c:∀b:Bool,((some b).bind λw=>if w=true then(dD P call h (d.getD 0) ty op s.val s.wk).map λp=>s.fin d p.1 p.2 else some (s.fin d (.aS []) s.wk))=if b=true then AQ P call h d ty op s else some (s.fin d (.aS []) s.wk):=λb=>by
  cases b
  .rfl
  .simp only[xS,if_true,AQ];rw[xF];rfl
 cases g with
 |d x=>
  cases x with
  |bool b=>
   refine(c (b==want)).trans ?_
   cases b <;>cases want <;>rfl
  |_=>rfl
 |aS l=>
  cases l with
  |nil=>exact c false
  |cons _ _=>rfl
 |_=>rfl
theorem J9{s:St}{t:Nat}:s.val (.tmp t)=s.get t:=rfl
theorem B_{s:St}{k:IntKind}{n:Int}:s.val (.const (.int k n))=.d (.int k n):=rfl
theorem Wl{s:St}{b:Bool}:s.val (.const (.bool b))=.d (.bool b):=rfl
theorem Wm{s:St}:s.val (.const (.slice none 0 0))=.d .aJ:=rfl
theorem Wn{s:St}:s.val (.const (.pointer none))=.d .cQ:=rfl
theorem Wo{s:St}:s.val (.const (.map none))=.d .df:=rfl
theorem Wp{s:St}:s.val (.const .nilFunc)=.d .cX:=rfl
theorem Wq{s:St}:s.val (.const .nilIface)=.d .bW:=rfl
theorem Wr{s:St}{f:FuncId}:s.val (.func f)=.d (.fn (.func f) [] []):=rfl
theorem aem{env:J (Nat×SV)}{ct:J ((Nat×Nat)×T)}{H:J Ob}{t:Nat}:St.get ⟨env,ct,H⟩ t=(look env t).getD .dead:=rfl
theorem Ws{t:Nat}:look ([]:J (Nat×SV)) t=none:=rfl
theorem TA{k t:Nat}{v:SV}{r:J (Nat×SV)}:look ((k,v)::r) t=if k=t then some v else look r t:=rfl
theorem Pw{a b c d:Nat}{v:T}{r:J ((Nat×Nat)×T)}:eZ (((a,b),v)::r) (c,d)=if a=c/\b=d then some v else eZ r (c,d):=by
 simp only[eZ,pJ]
theorem ajd{env:J (Nat×SV)}{ct:J ((Nat×Nat)×T)}{H:J Ob}:St.wk ⟨env,ct,H⟩=⟨ct,H,[]⟩:=rfl
theorem Wt{env:J (Nat×SV)}{ct ct':J ((Nat×Nat)×T)}{H H':J Ob}{d:Nat}{v:SV}{tr:J Tr}:St.fin ⟨env,ct,H⟩ (some d) v ⟨ct',H',tr⟩=⟨(d,v)::trs tr env,ct',H'⟩:=rfl
theorem Wu{env:J (Nat×SV)}{ct ct':J ((Nat×Nat)×T)}{H H':J Ob}{v:SV}{tr:J Tr}:St.fin ⟨env,ct,H⟩ none v ⟨ct',H',tr⟩=⟨trs tr env,ct',H'⟩:=rfl
theorem B?{env:J (Nat×SV)}:trs [] env=env:=rfl
theorem Wv{x:Tr}{r:J Tr}{env:J (Nat×SV)}:trs (x::r) env=trs r (x.env env):=rfl
theorem TB{x:Tr}:x.env []=[]:=rfl
theorem Px{x:Tr}{t:Nat}{v:SV}{r:J (Nat×SV)}:x.env ((t,v)::r)=(t,x.sv v)::x.env r:=rfl
theorem atu{x:Tr}{y:D}:x.sv (.d y)=.d y:=by cases x <;>rfl
theorem aje{x:Tr}{b:Bool}{y:J D}:x.sv (.rp b y)=.rp b y:=by cases x <;>rfl
theorem B!{x:Tr}:x.sv .dead=.dead:=by cases x <;>rfl
theorem aen{x:Tr}{l:J SV}:x.sv (.agg l)=.agg (l.map x.sv):=by
 have:∀l,Tr.bF x l=l.map x.sv:=λl=>by induction l with |nil=>rfl |cons a r b=>simp[Tr.bF,b]
 rw[<-this];cases x <;>rfl
theorem aeo{x:Tr}{l:J SV}:x.sv (.aS l)=.aS (l.map x.sv):=by
 have:∀l,Tr.bF x l=l.map x.sv:=λl=>by induction l with |nil=>rfl |cons a r b=>simp[Tr.bF,b]
 rw[<-this];cases x <;>rfl
theorem C_{v:SV}:aU [] v=v:=rfl
theorem Ww{x:Tr}{r:J Tr}{v:SV}:aU (x::r) v=aU r (x.sv v):=rfl
def xd(s:St):List Nat->List (Nat×SV)
 | []=>[]
 |t::r=>(t,s.get t)::xd s r
theorem Wx{live:J Nat}{s:St}:prune live s=⟨xd s live,pick s.ct (jQ (SV.cg ((xd s live).map (·.2)))),s.H⟩:=by
 have:∀l:J Nat,(l.map λt=>(t,s.get t))=xd s l:=λl=>by induction l with |nil=>rfl |cons a r b=>simp[xd,b]
 simp only[prune,this]
theorem Wy{live:J Nat}{env:J (Nat×SV)}{ct:J ((Nat×Nat)×T)}{H:J Ob}:prune live ⟨env,ct,H⟩=⟨xd ⟨env,ct,H⟩ live,pick ct (jQ (SV.cg ((xd ⟨env,ct,H⟩ live).map (·.2)))),H⟩:=Wx
theorem TG{s:St}:xd s []=[]:=rfl
theorem Py{s:St}{t:Nat}{r:J Nat}:xd s (t::r)=(t,s.get t)::xd s r:=rfl
theorem WA{ds:J D}{H:J Ob}:enter ds H=⟨(ds.zipIdx).map λp=>(p.2,.d p.1),[],H⟩:=rfl
section
variable{dst:Nat}{ty:TypeId}{ρ:Oz->SV}{k:Wk}
theorem C?{x:Oz}:dD P call h dst ty (.move x) ρ k=some (ρ x,k):=rfl
theorem TH{x:Oz}:dD P call h dst ty (.assign x) ρ k=fb dst (elemOf P ty).isSome (ρ x) k:=rfl
theorem C!{c a b:Oz}:dD P call h dst ty (.pick c a b) ρ k=match ρ c with | .d (.bool t)=>some (if t=true then ρ a else ρ b,k) |_=>none:=rfl
theorem WB{e:TypeId}:dD P call h dst ty (.alloc e) ρ k=(dQ P e).bind λz=>F8 h dst (T.cj z) k:=rfl
theorem aep{e:TypeId}{x:Oz}:dD P call h dst ty (.box e x) ρ k=(js h.nv (ρ x) k).bind λp=>if p.1.nc=P.cellsOf e then F8 h dst p.1 p.2 else none:=rfl
theorem WC{t:TypeId}{a:Array (Nat×Oz)}:dD P call h dst ty (.build t a) ρ k=(BT P t (a.toList.map λp=>(p.1,ρ p.2))).bind λv=>some (v,k):=by
 show Option.map _ _=_;rw[xF];rfl
theorem It{t:TypeId}{n:Nat}{a:Array (Nat×Oz)}:dD P call h dst ty (.buildSlice t n a) ρ k=fZ P h.nv dst (h.lits.contains dst) t n (a.toList.map λp=>(p.1,ρ p.2)) k:=rfl
theorem D_{t:TypeId}{x:Nat}:dD P call h dst ty (.load t (.tmp x)) ρ k=if h.lits.contains dst=true then(gY P t (ρ (.tmp x)) k).bind λv=>tW dst v k else(gY P t (ρ (.tmp x)) k).bind λv=>some (v,k):=by
 show(if _ then _ else Option.map _ _)=_;rw[xF];rfl
theorem WE{l:J D}:OX (.agg l)=true:=rfl
theorem WG{t:TypeId}{g:Nat}:dD P call h dst ty (.load t (.global g)) ρ k=(h.gl g).bind λx=>if OX x=true then(gY P t (.rp true x.cells) k).bind λv=>some (v,k)else none:=by
 show(h.gl g).bind (λx=>if OX x=true then Option.map _ _ else none)=_;simp only[xF];rfl
theorem WH{t:TypeId}{a x:Oz}:dD P call h dst ty (.store t a x) ρ k=(mG P h.nv t (ρ a) (ρ x) k).bind λk=>some (.dead,k):=by
 show Option.map _ _=_;rw[xF];rfl
theorem WI{op:BinOp}{t t':TypeId}{x y:Oz}:dD P call h dst ty (.binOp op t x y t') ρ k=(gO P (isConst x || isConst y) op t (ρ x) (ρ y)).bind λy=>some (.d y,k):=by
 show Option.map _ _=_;rw[xF];rfl
theorem D?{op:UnOp}{t:TypeId}{x:Oz}:dD P call h dst ty (.unOp op t x) ρ k=(unE op (ρ x)).bind λy=>some (.d y,k):=by
 show Option.map _ _=_;rw[xF];rfl
theorem PA{s t:TypeId}{x:Oz}:dD P call h dst ty (.convert s t x) ρ k=(F3 P s t (ρ x)).bind λy=>some (.d y,k):=by
 show Option.map _ _=_;rw[xF];rfl
theorem Nv{f:Fn}{a c:Array Oz}:dD P call h dst ty (.makeFunc f a c) ρ k=(SV.bG (a.toList.map ρ)).bind λa=>(SV.bG (c.toList.map ρ)).bind λc=>some (.d (.fn f a c),k):=by
 show Option.bind _ _=_;simp only[xF];rfl
theorem PB{t:TypeId}:dD P call h dst ty (.makeMap t none) ρ k=some (.d (.map k.H.length),{k with H:=k.H++[if h.lits.contains dst=true then .sset []else .map []]}):=rfl
theorem Ka{t:TypeId}{l c:Oz}:dD P call h dst ty (.makeSlice t l c) ρ k=F6 P dst t (ρ l) (ρ c) k:=rfl
theorem WJ{t:TypeId}{x:Oz}{lo hi a:U Oz}:dD P call h dst ty (.slice t x lo hi a) ρ k=(kh P t (ρ x) (lo.map ρ) (hi.map ρ) (a.map ρ) k).bind λv=>some (v,k):=by
 show Option.map _ _=_;rw[xF];rfl
theorem Kb{t:TypeId}{x:Oz}{f:Nat}:dD P call h dst ty (.fieldAddr t x f) ρ k=(eE P t (ρ x) f k).bind λv=>some (v,k):=by
 show Option.map _ _=_;rw[xF];rfl
theorem WK{t:TypeId}{x:Oz}{f:Nat}:dD P call h dst ty (.field t x f) ρ k=(F4 P t (ρ x) f).bind λv=>some (v,k):=by
 show Option.map _ _=_;rw[xF];rfl
theorem Kd{t:TypeId}{x i:Oz}:dD P call h dst ty (.indexAddr t x i) ρ k=(gR P t (ρ x) (ρ i) k).bind λv=>some (v,k):=by
 show Option.map _ _=_;rw[xF];rfl
theorem WL{t:TypeId}{x i:Oz}:dD P call h dst ty (.index t x i) ρ k=(tZ P t (ρ x) (ρ i)).bind λv=>some (v,k):=by
 show Option.map _ _=_;rw[xF];rfl
theorem TI{t:TypeId}{m key:Oz}{a:Bool}:dD P call h dst ty (.lookup t m key a) ρ k=if h.lits.contains dst=true then(if a=true then none else F7 P dst t (ρ m) (ρ key) k)else if h.cB.contains dst=true then(if a=true then none else nN P t (ρ m) (ρ key) k)else(nb P t (ρ m) (ρ key) a k.H).bind λv=>some (v,k):=by
 show(if _ then _ else if _ then _ else Option.map _ _)=_;rw[xF];rfl
theorem Ke{t:TypeId}{m key x:Oz}:dD P call h dst ty (.mapUpdate t m key x) ρ k=(gX P h.nv t (ρ m) (ρ key) (ρ x) k).bind λk=>some (.dead,k):=by
 show Option.map _ _=_;rw[xF];rfl
theorem TJ{t:TypeId}{m key x:Oz}:dD P call h dst ty (.insert t m key x) ρ k=(gX P h.nv t (ρ m) (ρ key) (ρ x) k).bind λk=>some (.dead,k):=by
 show Option.map _ _=_;rw[xF];rfl
theorem Nw{x:Oz}:dD P call h dst ty (.nilCheck x) ρ k=match ρ x with | .loc r p i o=>some (.loc r p i o,k) | .rp b d=>some (.rp b d,k) | .d (.ptr o)=>some (.d (.ptr o),k) | .d (.bQ d)=>some (.d (.bQ d),k) | .d (.fn (.func f) a c)=>some (.d (.fn (.func f) a c),k) |_=>none:=rfl
theorem PC{x:Oz}{n:Nat}:dD P call h dst ty (.extract x n) ρ k=match ρ x with | .aS l=>(l[n]?).bind λv=>some (v,k) |_=>none:=by
 show(match ρ x with | .aS l=>(l[n]?).map (·,k) |_=>none)=_
 cases ρ x <;>simp only[xF] <;>rfl
def Nx(P:Pz)(call:dF)(h:Hint)(dst:Nat)(f:SV)(xs:J SV)(k:Wk):U (SV×Wk):=
 match f with
 | .d (.fn (.func g) first cap)=>if YB<=g then none else match Aw P g with
  |some c=>(SV.bG xs).bind λa=>(Sl c (first++a++cap)).map λy=>(.d y,k)
  |none=>(gS (h.nvAt dst) xs k {}).bind λ(a,k,b)=>(gy call h dst g (canon b.sn (first++a++cap)) b k).bind jP
 | .d (.yld o)=>(gS (h.nvAt dst) xs k {}).bind λ(a,k,b)=>(gy call h dst (YB+o) (canon b.sn a) b k).bind jP
 |_=>none
theorem D!{f:Oz}{args:Array Oz}{cu:Array TypeId}:dD P call h dst ty (.call {callee:=.value f,args:=args,argTypes:=cu}) ρ k=Nx P call h dst (ρ f) (args.toList.map ρ) k:=by
 unfold Nx
 show(match ρ f with | .d (.fn (.func g) first cap)=>_ | .d (.yld o)=>_ |_=>none)=_
 rfl
theorem WM{g:FuncId}{first cap:J D}{xs:J SV}(a:g<1099511627776)(hx:Aw P g=none):Nx P call h dst (.d (.fn (.func g) first cap)) xs k=(gS (h.nvAt dst) xs k {}).bind λp=>(gy call h dst g (canon p.2.2.sn (first++p.1++cap)) p.2.2 p.2.1).bind jP:=by
 unfold Nx;simp only[if_neg (show¬YB<=g from Nat.not_le.2 a),hx]
theorem WN(a:h.emp=[]):h.nvAt dst=h.nv:=by simp[Hint.nvAt,a]
theorem WO{v:SV}:jP (v,k)=if v.bN=true then none else some (v,k):=rfl
theorem E_{x:D}:(SV.d x).bN=false:=rfl
theorem TK{r:aj}{p:dP}{o l:Nat}:(SV.aG r p o l).bN=false:=rfl
theorem WP:(SV.aS []).bN=false:=rfl
theorem WQ{a:SV}{x:D}:(SV.aS [a,.d x]).bN=false:=by cases a <;>rfl
theorem WR{a b c:SV}{l:J SV}:(SV.aS (a::b::c::l)).bN=false:=by
 unfold SV.bN;split
 .rename_i e;simp at e
 .rfl
theorem WT:fj []=false:=rfl
theorem WU{a:T}:fj [a]=false:=by cases a <;>rfl
theorem TM{a:T}{x:D}:fj [a,.d x]=false:=by cases a <;>rfl
theorem WV{a b c:T}{l:J T}:fj (a::b::c::l)=false:=by
 unfold fj;split
 .rename_i e;simp at e
 .rfl
theorem aeq{args:Array Oz}{cu:Array TypeId}:dD P call h dst ty (.call {callee:=.builtin .len,args:=args,argTypes:=cu}) ρ k=match args.toList,cu.toList with | [x],[t]=>(F5 P t k.H (ρ x)).bind λn=>some (.d (.int .i64 n),k) |_,_=>none:=by
 show(match args.toList,cu.toList with | [x],[t]=>(F5 P t k.H (ρ x)).map λn=>(SV.d (.int .i64 n),k) |_,_=>none)=_
 simp only[xF];rfl
theorem aer{args:Array Oz}{cu:Array TypeId}:dD P call h dst ty (.call {callee:=.builtin .min,args:=args,argTypes:=cu}) ρ k=match args.toList with | [x,y]=>(Sj (ρ x) (ρ y)).bind λn=>some (.d n,k) |_=>none:=by
 show(match args.toList with | [x,y]=>(Sj (ρ x) (ρ y)).map λn=>(SV.d n,k) |_=>none)=_
 simp only[xF];rfl
theorem E?{x y:Oz}{t u:TypeId}:dD P call h dst ty (.call {callee:=.builtin .copy,args:= #[x,y],argTypes:= #[t,u]}) ρ k=(nP P t (ρ x) (ρ y) k).bind λp=>some p:=by
 simp only[dD,opE];simp
theorem aes{args:Array Oz}{cu:Array TypeId}:dD P call h dst ty (.call {callee:=.builtin .max,args:=args,argTypes:=cu}) ρ k=match args.toList with | [x,y]=>(Sk (ρ x) (ρ y)).bind λn=>some (.d n,k) |_=>none:=by
 show(match args.toList with | [x,y]=>(Sk (ρ x) (ρ y)).map λn=>(SV.d n,k) |_=>none)=_
 simp only[xF];rfl
theorem TN{args:Array Oz}{cu:Array TypeId}:dD P call h dst ty (.call {callee:=.builtin .append,args:=args,argTypes:=cu}) ρ k=match args.toList,cu.toList with | [x,y],[t,u]=>if t=u then iu P h.nv dst t (ρ x) (ρ y) k else none |_,_=>none:=rfl
end
end
def pK(P:Pz)(own:Bool)(rs:J ResultVar)(n0:Nat)(r:Ex×St):U (J T×J Ob):=
 match r.1 with
 | .exit _=>none
 | .cO d=>some ([.d d,.agg []],lu n0 [.d d] r.2.H)
 |_=>(j5 P r.2 rs).bind λb=>(nf b r.2.wk).bind λp=>(settle own p.1).bind λa=>if fj a=true then none else some (a,lu n0 a p.2.H)
theorem Jl{P:Pz}{own:Bool}{fn:Func}{n0:Nat}:jD P own fn n0=pK P own fn.results.toList n0:=by
 funext ⟨a,s⟩;unfold jD pK
 cases a <;>rfl
theorem PD{P:Pz}{own:Bool}{rs:J ResultVar}{n0:Nat}{s:St}:pK P own rs n0 (.ret,s)=(j5 P s rs).bind λvs=>(nf vs s.wk).bind λp=>(settle own p.1).bind λa=>if fj a=true then none else some (a,lu n0 a p.2.H):=rfl
theorem Ny{P:Pz}{s:St}:j5 P s []=some []:=rfl
theorem Kf{P:Pz}{s:St}{r:ResultVar}{rs:J ResultVar}:j5 P s (r::rs)=(Gb P s r).bind λv=>(j5 P s rs).bind λvs=>some (v::vs):=by
 simp only[j5,xF];rfl
theorem PE{P:Pz}{s:St}{t:Nat}:Gb P s (.tmp t)=some (s.get t):=rfl
theorem Nz{P:Pz}{s:St}{t ty:Nat}:Gb P s (.cell t ty)=gY P ty (s.get t) s.wk:=rfl
theorem TO{k:Wk}:nf [] k=some ([],k):=rfl
theorem TP{v:SV}{k:Wk}:nf [v] k=j6 [v] k:=rfl
theorem TQ{u v:SV}{r:J SV}{k:Wk}:nf (u::v::r) k=if crossing (u::v::r)=true then JQ (u::v::r) k else j6 (u::v::r) k:=rfl
theorem Kg:crossing []=false:=rfl
theorem Iu{u:SV}{r:J SV}:crossing (u::r)=(r.any (wg u) || crossing r):=rfl
theorem TR{x:D}{v:SV}:wg (.d x) v=false:=rfl
theorem PF{u v:SV}(h:v.bp=none):wg u v=false:=by unfold wg;rw[h];cases u.bp <;>rfl
theorem PG{u:SV}{x:D}:wg u (.d x)=false:=PF rfl
theorem NA{k:Wk}:j6 [] k=some ([],k):=rfl
theorem Kh{v:SV}{r:J SV}{k:Wk}:j6 (v::r) k=(fR 0 v k).bind λp=>(j6 r p.2).bind λq=>some (p.1::q.1,q.2):=by
 simp only[j6,xF];rfl
theorem PH{a:J T}:settle true a=some (a.map T.fresh):=rfl
theorem PI{a:J T}:settle false a=(T.aY false a).bind λxs=>some ((canon false xs).map T.d):=by
 simp only[settle,xF];rfl
theorem WW{b:Bool}:T.aY b []=some []:=rfl
theorem TS{b:Bool}{t:T}{r:J T}:T.aY b (t::r)=(T.cP b t).bind λx=>(T.aY b r).bind λxs=>some (x::xs):=by
 simp only[T.aY,xF];rfl
theorem ajf{b:Bool}{x:D}:T.cP b (.d x)=some x.norm:=by simp only[T.cP]
theorem E!{b:Bool}{es:J T}:T.cP b (.own es)=(T.aY b es).bind λxs=>some (.sl b xs):=by simp only[T.cP,xF];rfl
theorem F_{b:Bool}{es:J T}:T.cP b (.agg es)=(T.aY b es).bind λxs=>some (.agg xs):=by simp only[T.cP,xF];rfl
theorem NB{P:Pz}{hints:FuncId->Hint}{f:FuncId}{ds:J D}{H:J Ob}{fn:Func}{c:Code}{rs:J ResultVar}(d:f<1099511627776)(b:(hints f).rcv=false)(a:(hints f).ext=none)(hf:P.funcs[f]? =some fn)(hb:fn.body=some c)(hl:ds.length=fn.params.size+fn.nfree)(hk:ef fn.ntmps c=true)(hn:(fn.name== "runtime.NumGoroutine")=false)(hr:fn.results.toList=rs)(hx:(decide ((hints f).nilt≠0)&&iz ds)=false):
  eG P hints f ds H=(eL P hints (hints f) c (enter ds H)).bind (pK P (hints f).own rs H.length):=by
 rw[Wj (Nat.not_le.2 d) b a hf hb hl hk hn hx,Jl,hr]
attribute [go_sem] Jj AP Hc Jh Hd Dz DA DB J9 B_ Wl Wm Wn Wo Wp Wq Wr aem Ws TA Pw ajd Wt Wu B? Wv TB Px atu aje B! aen aeo C_ Ww Wy TG Py C? TH C! WB aep WC It D_ WG WE WH WI D? PA Nv PB Ka WJ Kb WK Kd WL TI Ke TJ Nw PC D! aeq aer aes TN WM WN WO E_ TK WP WQ WR WT WU TM WV
attribute [go_sem] PD Ny Kf PE Nz TO TP TQ Kg Iu TR PG NA Kh PH PI WW TS ajf E! F_ AQ
attribute [go_sem] xS Option.bind_none Option.getD_some Option.getD_none List.map_cons List.map_nil xQ Option.map_none List.cons_append List.nil_append List.append_nil pJ List.zipIdx_cons List.zipIdx_nil WA
theorem kO{x:Int}(h1:-9223372036854775808<=x)(h2:x<=9223372036854775807):IntKind.i64.wrap x=x:=by
 simp only[IntKind.wrap,IntKind.signed,IntKind.bits];simp;omega
section
variable{P:Pz}{dst nv:Nat}{sl:Bool}{k:Wk}
theorem atv{q:IntKind}{n:Int}:fb dst sl (.d (.int q n)) k=some (.d (.int q n),k):=rfl
theorem asf{b:Bool}:fb dst sl (.d (.bool b)) k=some (.d (.bool b),k):=rfl
theorem atw{s:J UInt8}:fb dst sl (.d (.str s)) k=some (.d (.str s),k):=rfl
theorem av1{b:Bool}{l:J D}:fb dst sl (.d (.sl b l)) k=some (.d (.sl b l),k):=rfl
theorem asg:fb dst sl (.d .cQ) k=some (.d .cQ,k):=rfl
theorem atx{o:Nat}:fb dst sl (.d (.ptr o)) k=some (.d (.ptr o),k):=rfl
theorem ash:fb dst sl (.d .df) k=some (.d .df,k):=rfl
theorem aty{o:Nat}:fb dst sl (.d (.map o)) k=some (.d (.map o),k):=rfl
theorem asi:fb dst sl (.d .cX) k=some (.d .cX,k):=rfl
theorem av2{f:Fn}{a c:J D}:fb dst sl (.d (.fn f a c)) k=some (.d (.fn f a c),k):=rfl
theorem asj:fb dst sl (.d .bW) k=some (.d .bW,k):=rfl
theorem asl:fb dst sl (.d .aJ) k=if sl=true then some (.aG (.l dst 0) [] 0 0,k.new dst 0 (.own []))else some (.d .aJ,k):=rfl
attribute[go_sem]atv asf atw av1 asg atx ash aty asi av2 asj asl
@[go_sem] theorem asm{r:aj}{a:Nat×Nat}{p:dP}{o len:Nat}:fb dst sl (.aG r (a::p) o len) k=some (.aG r (a::p) o len,k):=by cases r <;>cases o <;>rfl
@[go_sem] theorem atz{n j len:Nat}:fb dst sl (.aG (.l n j) [] 0 len) k=if(n,j)=(dst,0)then some (.aG (.l n j) [] 0 len,k)else(k.get (.l n j)).bind λc=>match c with
  | .own a=>if len=a.length then some (.aG (.l dst 0) [] 0 len,({k with ct:=((n,j),.dead)::k.ct}.new dst 0 c).tell (.dm (n,j) (dst,0)))else some (.aG (.l n j) [] 0 len,k)
  |_=>none:=rfl
section
variable{c:Bool}{t:TypeId}{q:IntKind}{a b:Int}
@[go_sem] theorem asn:gO P c .add t (.d (.int q a)) (.d (.int q b))=some (.int q (q.wrap (a+b))):=by simp[gO,me]
@[go_sem] theorem aso:gO P c .sub t (.d (.int q a)) (.d (.int q b))=some (.int q (q.wrap (a - b))):=by simp[gO,me]
@[go_sem] theorem asp:gO P c .mul t (.d (.int q a)) (.d (.int q b))=some (.int q (q.wrap (a * b))):=by simp[gO,me]
@[go_sem] theorem asq:gO P c .quo t (.d (.int q a)) (.d (.int q b))=if b=0 then none else some (.int q (q.wrap (a.tdiv b))):=by simp[gO,me]
@[go_sem] theorem asr:gO P c .rem t (.d (.int q a)) (.d (.int q b))=if b=0 then none else some (.int q (a.tmod b)):=by simp[gO,me]
@[go_sem] theorem ass:gO P c .eql t (.d (.int q a)) (.d (.int q b))=some (.bool (decide (a=b))):=by simp[gO,me];rfl
@[go_sem] theorem ast:gO P c .neq t (.d (.int q a)) (.d (.int q b))=some (.bool (decide (a≠b))):=by simp[gO,me,bne];rfl
@[go_sem] theorem asu:gO P c .lss t (.d (.int q a)) (.d (.int q b))=some (.bool (decide (a<b))):=by simp[gO,me]
@[go_sem] theorem asv:gO P c .leq t (.d (.int q a)) (.d (.int q b))=some (.bool (decide (a<=b))):=by simp[gO,me]
@[go_sem] theorem asw:gO P c .gtr t (.d (.int q a)) (.d (.int q b))=some (.bool (decide (b<a))):=by simp[gO,me]
@[go_sem] theorem asx:gO P c .geq t (.d (.int q a)) (.d (.int q b))=some (.bool (decide (b<=a))):=by simp[gO,me]
@[go_sem] theorem ajg{x y:Bool}:gO P c .eql t (.d (.bool x)) (.d (.bool y))=match P.underlying t with |some .bool=>some (.bool (decide (x=y))) |_=>none:=by
 simp only[gO,eqV]
 cases P.underlying t with
 |none=>rfl
 |some d=>cases d <;>first |rfl |(cases x <;>cases y <;>rfl)
@[go_sem] theorem ajh{x y:Bool}:gO P c .neq t (.d (.bool x)) (.d (.bool y))=match P.underlying t with |some .bool=>some (.bool (decide (x≠y))) |_=>none:=by
 simp only[gO,eqV]
 cases P.underlying t with
 |none=>rfl
 |some d=>cases d <;>first |rfl |(cases x <;>cases y <;>rfl)
@[go_sem] theorem aji{x y:J D}:gO P c .neq t (.d (.agg x)) (.d (.agg y))=(rf P t).bind λks=>(tT ks x y).bind λb=>some (.bool !b):=by
 simp only[gO,eqV]
 cases rf P t with
 |none=>rfl
 |some ks=>simp only[xS];cases tT ks x y <;>rfl
@[go_sem] theorem ajj{x y:J UInt8}:gO P c .eql t (.d (.str x)) (.d (.str y))=some (.bool (decide (x=y))):=by
 have:(x==y)=decide (x=y):=by rw[Bool.eq_iff_iff];simp
 simp only[gO,QH,this]
end
@[go_sem] theorem ajk:tT [] [] []=some true:=rfl
@[go_sem] theorem ajl{ns:J Nat}{q:IntKind}{a b:Int}{r s:J D}:tT (0::ns) (.int q a::r) (.int q b::s)=(tT ns r s).bind λx=>some (decide (a=b)&&x):=by
 simp only[tT,eqK,if_true,xS,xF];rfl
theorem atA{b:Bool}:unE .not (.d (.bool b))=some (.bool !b):=rfl
theorem ajm{s t:TypeId}{q:IntKind}{n:Int}:F3 P s t (.d (.int q n))=match P.underlying s,P.underlying t with |some _,some (.int q)=>some (.int q (q.wrap n)) |_,_=>none:=rfl
theorem av3{q r:IntKind}{a b:Int}:Sj (.d (.int q a)) (.d (.int r b))=some (.int q (if b<a then b else a)):=rfl
theorem av4{q r:IntKind}{a b:Int}:Sk (.d (.int q a)) (.d (.int r b))=some (.int q (if b >a then b else a)):=rfl
theorem atB{t:TypeId}{H:J Ob}{b:Bool}{l:J D}:F5 P t H (.d (.sl b l))=match P.underlying t with |some (.slice _)=>some (l.length:Int) |_=>none:=rfl
theorem asy{t:TypeId}{H:J Ob}{s:J UInt8}:F5 P t H (.d (.str s))=match P.underlying t with |some .string=>some (s.length:Int) |_=>none:=rfl
theorem asz{t:TypeId}{H:J Ob}{r:aj}{p:dP}{o n:Nat}:F5 P t H (.aG r p o n)=match P.underlying t with |some (.slice _)=>some (n:Int) |_=>none:=rfl
attribute[go_sem]atA ajm av3 av4 atB asy asz
@[go_sem] theorem av5{t:TypeId}{b:Bool}{l:J D}{q:IntKind}{n:Int}:gR P t (.d (.sl b l)) (.d (.int q n)) k=match P.underlying t with |some (.slice e)=>if 0<=n then(l[n.toNat]?).bind λy=>if y.nc=P.cellsOf e then some (.rp b y.cells)else none else none |_=>none:=by
 simp only[gR]
 cases P.underlying t with
 |none=>rfl
 |some d=>cases d <;>rfl
@[go_sem] theorem atC{t:TypeId}{r:aj}{p:dP}{o len:Nat}{q:IntKind}{n:Int}:gR P t (.aG r p o len) (.d (.int q n)) k=match P.underlying t with
  |some (.slice e)=>if 0<=n/\n<len then(k.get r).bind λc=>(c.at p).bind λb=>match b with
   | .own a=>(a[o+n.toNat]?).bind λy=>if y.nc=P.cellsOf e then some (.loc r p (o+n.toNat) 0)else none
   |_=>none
   else none
  |_=>none:=by
 simp only[gR]
 cases P.underlying t with
 |none=>rfl
 |some d=>cases d <;>rfl
@[go_sem] theorem av6{t:TypeId}{b:Bool}{cs:J D}:gY P t (.rp b cs) k=(oE P t).bind λa=>if a=true then(if P.cellsOf t<=cs.length then some (.d (.agg (cs.take (P.cellsOf t))))else none)else(cs[0]?).bind D.sv1:=rfl
def NC(P:Pz)(t:TypeId)(r:aj)(p:dP)(i off:Nat)(e:T):U SV:=
 (oE P t).bind λb=>if b=true then
   match e with
   | .d (.agg l)=>if off+P.cellsOf t<=l.length then some (.d (.agg (bw l off (P.cellsOf t))))else none
   | .agg a=>if off+P.cellsOf t<=a.length then(j4 r p i off (bw a off (P.cellsOf t))).map SV.bt else none
   |_=>none
  else(e.cell off).bind (ib r p i off)
@[go_sem] theorem atD{t:TypeId}{r:aj}{p:dP}{i off:Nat}:gY P t (.loc r p i off) k=(k.get r).bind λc=>(c.at p).bind λnd=>match nd with | .own a=>(a[i]?).bind (NC P t r p i off) |_=>none:=by
 simp only[gY,bD]
 cases k.get r with
 |none=>rfl
 |some c=>
  simp only[xS]
  cases c.at p with
  |none=>rfl
  |some nd=>cases nd <;>rfl
@[go_sem] theorem atF{t:TypeId}{n:Nat}:gY P t (.d (.ptr n)) k=gY P t (.loc (.o n) [] 0 0) k:=rfl
@[go_sem] theorem asA{t:TypeId}{r:aj}{p:dP}{i off:Nat}{x:D}:NC P t r p i off (.d x)=(oE P t).bind λa=>if a=true then(match x with | .agg l=>if off+P.cellsOf t<=l.length then some (.d (.agg (bw l off (P.cellsOf t))))else none |_=>none)else(T.cell (.d x) off).bind (ib r p i off):=by
 simp only[NC];cases x <;>rfl
@[go_sem] theorem ahm{t:TypeId}{r:aj}{p:dP}{i off:Nat}{es:J T}:NC P t r p i off (.own es)=(oE P t).bind λa=>if a=true then none else(T.cell (.own es) off).bind (ib r p i off):=rfl
@[go_sem] theorem ahn{t:TypeId}{r:aj}{p:dP}{i off:Nat}{cs:J T}:NC P t r p i off (.agg cs)=(oE P t).bind λa=>if a=true then(if off+P.cellsOf t<=cs.length then(j4 r p i off (bw cs off (P.cellsOf t))).map SV.bt else none)else(T.cell (.agg cs) off).bind (ib r p i off):=rfl
@[go_sem] theorem ajn{l:J T}{o:Nat}:T.cell (.agg l) o=l[o]? :=rfl
@[go_sem] theorem aho{l:J D}{o:Nat}:T.cell (.d (.agg l)) o=(l[o]?).bind λx=>some (.d x):=by
 show(l[o]?).map _=_;rw[xF];rfl
theorem ajo{q:IntKind}{n:Int}:T.cell (.d (.int q n)) 0=some (.d (.int q n)):=rfl
theorem asB{b:Bool}{l:J D}:T.cell (.d (.sl b l)) 0=some (.d (.sl b l)):=rfl
theorem ajp{o:Nat}:T.cell (.d (.ptr o)) 0=some (.d (.ptr o)):=rfl
theorem asC{f:Fn}{a c:J D}:T.cell (.d (.fn f a c)) 0=some (.d (.fn f a c)):=rfl
theorem ajq{es:J T}:T.cell (.own es) 0=some (.own es):=rfl
theorem av7{r:aj}{p:dP}{i o:Nat}{x:D}:ib r p i o (.d x)=x.sv1:=rfl
theorem asD{r:aj}{p:dP}{i o:Nat}{es:J T}:ib r p i o (.own es)=some (.aG r (p++[(i,o)]) 0 es.length):=rfl
theorem asE{q:IntKind}{n:Int}:D.sv1 (.int q n)=some (.d (.int q n)):=rfl
theorem ajr{b:Bool}:D.sv1 (.bool b)=some (.d (.bool b)):=rfl
theorem asF{s:J UInt8}:D.sv1 (.str s)=some (.d (.str s)):=rfl
theorem atG{b:Bool}{l:J D}:D.sv1 (.sl b l)=some (.d (.sl b l)):=rfl
theorem asG{o:Nat}:D.sv1 (.ptr o)=some (.d (.ptr o)):=rfl
theorem asH{o:Nat}:D.sv1 (.map o)=some (.d (.map o)):=rfl
theorem atH{f:Fn}{a c:J D}:D.sv1 (.fn f a c)=some (.d (.fn f a c)):=rfl
theorem ahp{q:IntKind}{n:Int}:D.cells (.int q n)=[.int q n]:=rfl
theorem ahq{s:J UInt8}:D.cells (.str s)=[.str s]:=rfl
theorem ajs{b:Bool}{l:J D}:D.cells (.sl b l)=[.sl b l]:=rfl
theorem ahr{l:J D}:D.cells (.agg l)=l:=rfl
theorem atI{q:IntKind}{n:Int}:D.nc (.int q n)=1:=rfl
theorem asI{b:Bool}:D.nc (.bool b)=1:=rfl
theorem atJ{s:J UInt8}:D.nc (.str s)=1:=rfl
theorem av8{b:Bool}{l:J D}:D.nc (.sl b l)=1:=rfl
theorem atL{l:J D}:D.nc (.agg l)=l.length:=rfl
theorem asJ:D.nc .aJ=1:=rfl
theorem atM{o:Nat}:D.nc (.ptr o)=1:=rfl
theorem atN{o:Nat}:D.nc (.map o)=1:=rfl
theorem av9{f:Fn}{a c:J D}:D.nc (.fn f a c)=1:=rfl
theorem awa{x:D}:T.nc (.d x)=x.nc:=rfl
theorem asK{l:J T}:T.nc (.own l)=1:=rfl
theorem asL{l:J T}:T.nc (.agg l)=l.length:=rfl
theorem awb{t:TypeId}{b:Bool}{cs:J D}{f:Nat}:eE P t (.rp b cs) f k=(dx P t f).bind λp=>if 0<p.2.1 then some (.rp b (cs.drop p.1))else none:=rfl
theorem atO{t:TypeId}{r:aj}{p:dP}{i o f:Nat}:eE P t (.loc r p i o) f k=(dx P t f).bind λq=>if 0<q.2.1 then(if oR k r p i (o+q.1)=true then some (.loc r p i (o+q.1))else none)else none:=rfl
theorem asM{t:TypeId}{cs:J D}{f:Nat}:eE P t (.d (.bQ cs)) f k=eE P t (.rp true cs) f k:=rfl
theorem atP{t:TypeId}{n f:Nat}:eE P t (.d (.ptr n)) f k=eE P t (.loc (.o n) [] 0 0) f k:=rfl
theorem atQ{t:TypeId}{l:J D}{f:Nat}:F4 P t (.d (.agg l)) f=(dx P t f).bind λq=>if q.2.2=true then(if q.1+q.2.1<=l.length then some (.d (.agg (bw l q.1 q.2.1)))else none)else(l[q.1]?).bind D.sv1:=rfl
attribute[go_sem]ajo asB ajp asC ajq av7 asD asE ajr asF atG asG asH atH ahp ahq ajs ahr atI asI atJ av8 atL asJ atM atN av9 awa asK asL awb atO asM atP atQ
@[go_sem] theorem PJ{t:T}:t.at []=some t:=by unfold T.at;rfl
@[go_sem] theorem asN{es:J T}{i o:Nat}{p:dP}:T.at (.own es) ((i,o)::p)=(es[i]?).bind λe=>(e.cell o).bind λc=>c.at p:=by simp only[T.at]
@[go_sem] theorem asO{t x:T}:t.put [] x=some x:=by unfold T.put;rfl
@[go_sem] theorem ajt{es:J T}{i o:Nat}{p:dP}{x:T}:T.put (.own es) ((i,o)::p) x=(es[i]?).bind λe=>(e.cell o).bind λc=>(c.put p x).bind λc'=>some (.own (es.set i (e.aT o c'))):=by simp only[T.put,xF];rfl
theorem awc{ct:J ((Nat×Nat)×T)}{H:J Ob}{tr:J Tr}{n j:Nat}:Wk.get ⟨ct,H,tr⟩ (.l n j)=eZ ct (n,j):=rfl
theorem awd{ct:J ((Nat×Nat)×T)}{H:J Ob}{tr:J Tr}{n:Nat}:Wk.get ⟨ct,H,tr⟩ (.o n)=match H[n]? with |some (.box c)=>some (.own [c]) |_=>none:=rfl
theorem awe{ct:J ((Nat×Nat)×T)}{H:J Ob}{tr:J Tr}{n j:Nat}{t:T}:Wk.set ⟨ct,H,tr⟩ (.l n j) t=some ⟨((n,j),t)::ct,H,tr⟩:=rfl
theorem awf{ct:J ((Nat×Nat)×T)}{H:J Ob}{tr:J Tr}{n:Nat}{c:T}:Wk.set ⟨ct,H,tr⟩ (.o n) (.own [c])=some ⟨ct,H.set n (.box c),tr⟩:=rfl
theorem asP{ct:J ((Nat×Nat)×T)}{H:J Ob}{tr:J Tr}{x:Tr}:Wk.tell ⟨ct,H,tr⟩ x=⟨ct,H,tr++[x]⟩:=rfl
theorem atS{ct:J ((Nat×Nat)×T)}{H:J Ob}{tr:J Tr}{n j:Nat}{t:T}:Wk.new ⟨ct,H,tr⟩ n j t=⟨((n,j),t)::ct,H,tr++[.kill (.l n j) []]⟩:=rfl
theorem atT{h:Hint}{x:T}:F8 h dst x k=if x.nc=0 then none else if h.cB.contains dst=true then some (.d (.ptr k.H.length),{k with H:=k.H++[.box x]})else some (.loc (.l dst 0) [] 0 0,k.new dst 0 (.own [x])):=rfl
attribute[go_sem]awc awd awe awf asP atS atT
attribute [go_sem] MU
@[go_sem] theorem aju{r:aj}{p:dP}{i off:Nat}:oR k r p i off=((k.get r).bind λc=>c.at p).any λnd=>match nd with | .own a=>(a[i]?).any λe=>decide (off<e.nc) |_=>false:=by
 unfold oR
 cases(k.get r).bind λc=>c.at p with
 |none=>rfl
 |some x=>cases x with
  |own a=>simp only[Option.any_some];cases a[i]? <;>rfl
  |_=>rfl
@[go_sem] theorem ajv{a b:Type}{o:U a}{f:a->a->U b}:(o.bind λx=>o.bind λy=>f x y)=o.bind λx=>f x x:=by cases o <;>rfl
@[go_sem] theorem atU{r:aj}{p:dP}{o len:Nat}:fR nv (.aG r p o len) k=dL nv (aU k.tr (.aG r p o len)) k:=rfl
@[go_sem] theorem atV{l:J SV}:fR nv (.agg l) k=(gG nv l k).bind λp=>some (T.bt p.1,p.2):=by show(gG nv l k).map _=_;rw[xF];rfl
@[go_sem] theorem awg{x:D}:dL nv (.d x) k=some (.d x,k):=rfl
@[go_sem] theorem awh{n j o len:Nat}:dL nv (.aG (.l n j) [] o len) k=(k.get (.l n j)).bind λc=>match c with
  | .own a=>if nv<=n/\o=0/\len=a.length then(k.set (.l n j) .dead).bind λ(k:Wk)=>some (.own a,k.tell (.kill (.l n j) []))
   else(T.aY false a).bind λl=>(k.set (.l n j) .dead).bind λ(k:Wk)=>some (.d (.sl false (bw l o len)),k.tell (.cP (.l n j) [] l))
  |_=>none:=by
 simp only[dL]
 cases k.get (.l n j)with
 |none=>rfl
 |some c=>
  simp only[xS,PJ]
  cases c with
  |own a=>simp only[xF];rfl
  |_=>rfl
@[go_sem] theorem asQ:gG nv [] k=some ([],k):=rfl
@[go_sem] theorem ajw{v:SV}{r:J SV}:gG nv (v::r) k=(dL nv (aU k.tr v) k).bind λp=>(gG nv r p.2).bind λq=>some (p.1::q.1,q.2):=by simp only[gG,xF];rfl
@[go_sem] theorem asR{b:bq}:gS nv [] k b=some ([],k,b):=rfl
@[go_sem] theorem ajx{v:SV}{r:J SV}{b:bq}:gS nv (v::r) k b=(wK nv v k b).bind λp=>(gS nv r p.2.1 p.2.2).bind λq=>some (p.1::q.1,q.2.1,q.2.2):=by simp only[gS,xF];rfl
@[go_sem] theorem axG{x:D}{b:bq}:wK nv (.d x) k b=some (if EM<=nv then x else x.norm,k,b):=by simp only[wK,ab3,fE]
theorem atW{r:aj}{p:dP}{o len:Nat}{b:bq}:wK nv (.aG r p o len) k b=fE nv (aU k.tr (.aG r p o len)) k b:=rfl
theorem ajy{q:IntKind}{n:Int}:D.norm (.int q n)=.int q n:=rfl
theorem ahs{l:J D}:D.norm (.bQ l)=.bQ l:=rfl
theorem aht{b:Bool}:D.norm (.bool b)=.bool b:=rfl
theorem ajz{s:J UInt8}:D.norm (.str s)=.str s:=rfl
theorem asS{b:Bool}{l:J D}:D.norm (.sl b l)=.sl b l:=rfl
theorem ahu:D.norm .aJ=.sl false []:=rfl
theorem ajA{o:Nat}:D.norm (.ptr o)=.ptr o:=rfl
theorem ajB{o:Nat}:D.norm (.map o)=.map o:=rfl
theorem asT{f:Fn}{a c:J D}:D.norm (.fn f a c)=.fn f a c:=rfl
theorem ahv{l:J D}:D.norm (.agg l)=.agg (l.map D.br):=rfl
theorem ahw{q:IntKind}{n:Int}:D.br (.int q n)=.int q n:=rfl
theorem aet{b:Bool}:D.br (.bool b)=.bool b:=rfl
theorem ahx{s:J UInt8}:D.br (.str s)=.str s:=rfl
theorem ajC{b:Bool}{l:J D}:D.br (.sl b l)=.sl b l:=rfl
theorem aeu:D.br .aJ=.sl false []:=rfl
theorem ajD{f:Fn}{a c:J D}:D.br (.fn f a c)=.fn f a c:=rfl
theorem ahy{ct:J ((Nat×Nat)×T)}{x:Nat×Nat}{r:J (Nat×Nat)}:pick ct (x::r)=match eZ ct x with |some t=>(x,t)::pick ct r |none=>pick ct r:=rfl
theorem ahz{ct:J ((Nat×Nat)×T)}:pick ct []=[]:=rfl
attribute[go_sem]atW ajy ahs aht ajz asS ahu ajA ajB asT ahv ahw aet ahx ajC aeu ajD ahy ahz
attribute [go_sem] SV.cg SV.roots jQ
end
structure dd where
 d:Option Nat
 ty:TypeId
 op:Op
 g:Option (Nat×Bool)
def jH(ops:J Qz)(o:Qz):dd:=⟨o.dst,o.type,o.op,o.guard.map λp=>(Jk ops p.1,p.2)⟩
def WX(P:Pz)(call:dF)(h:Hint)(o:dd)(s:St):U St:=
 match o.g with
 |none=>AQ P call h o.d o.ty o.op s
 |some (t,want)=>stepG P call h o.d o.ty o.op want (s.get t) s
def rO(P:Program)(call:dF)(h:Hint):List dd->St->Option St
 | [],s=>some s
 |o::r,s=>(WX P call h o s).bind (rO P call h r)
def j8(ops:J Qz)(o:Qz):Bool:=match o.guard with |none=>true |some (j,_)=>((ops[j]?).bind (·.dst)).isSome
section
variable{P:Pz}{hints:FuncId->Hint}{call:dF}{h:Hint}
theorem PK{ops:J Qz}{o:Qz}{s:St}(e:j8 ops o=true):nQ P call h ops o s=WX P call h (jH ops o) s:=by
 obtain⟨d,op,ty,c,b,a⟩:=o
 cases a with
 |none=>exact DB
 |some p=>obtain⟨j,want⟩:=p;exact Nu e
theorem mu{ops:J Qz}:∀(l:J Qz) (s:St),l.all (j8 ops)=true->fh P call h ops l s=rO P call h (l.map (jH ops)) s
 | [],s,_=>rfl
 |o::l,s,a=>by
  simp only[kG,xA]at a
  simp only[fh,eJ,rO,PK a.1];congr 1;funext b;exact mu l b a.2
def slotsApart(ops:J Qz)(x y:Qz):Bool:=
 (match x.dst with |some d=> !(looks ops y).contains d&&y.dst !=some d |none=>true)&&
 (match y.dst with |some d=> !(looks ops x).contains d |none=>true)
def Q2(ops:List Oper)(b:Nat)(y:Oper):Nat->List Oper->Bool
 |_,[]=>true
 |j,x::r=>(b.testBit j || slotsApart ops x y)&&Q2 ops b y (j+1) r
def Q3(ops:List Oper):Nat->List Nat->List Oper->Bool
 |i,b::a,y::r=>Q2 ops b y 0 (ops.take i)&&Q3 ops (i+1) a r
 |_,_,_=>true
def pureR(h:Hint)(ops:J Qz):Bool:=ops.all (λo=> !fU h (o.dst.getD 0) o.op)&&(match BY ops []with |some a=>Q3 ops 0 a ops |none=>false)
def rP(ops:J Qz)(o:Qz)(f:Fp):Prop:=f.sl=looks ops o/\f.dst=o.dst/\f.wr=[]/\f.hw=false/\f.dm=false
theorem DC{ops:J Qz}{o:Qz}{c:Cf}(b:fU h (o.dst.getD 0) o.op=false){s':St}(e:nQ P call h ops o c.1=some s'):∃c' f,ek P call h ops o c=some (c',f)/\c'.1=s'/\rP ops o f:=by
 rw[mq]at e
 simp only[xM]at e
 obtain⟨⟨w,v,k⟩,a,rfl⟩:=e
 refine⟨_,_,hD a,rfl,rfl,rfl,?_,?_,?_⟩
 .have:=(mo a).2 (by simp[b])
  subst this;simp[mg,fW,St.wk]
 .simp[mg,b]
 .have:=(mo a).2 (by simp[b])
  subst this;rfl
theorem AR{ops:J Qz}:∀(l:J Qz) {c:Cf} {s':St},(∀o∈l,fU h (o.dst.getD 0) o.op=false)->fh P call h ops l c.1=some s'->∃c' a,dV P call h ops l c=some (c',a)/\c'.1=s'/\All2 (rP ops) l a
 | [],c,s',_,e=>by simp only[fh,xJ]at e;exact⟨c,[],rfl,e,rfl⟩
 |o::l,c,s',b,e=>by
  simp only[fh,xB]at e
  obtain⟨q,j,p⟩:=e;obtain⟨r,f,k,rfl,m⟩:=DC (b o (by simp)) j
  obtain⟨n,a,d,i,q3⟩:=AR l (λo g=>b o (by simp[g])) p
  exact⟨n,f::a,by simp only[dV,k,xS,d,xQ],i,f,a,rfl,m,q3⟩
theorem zj{ops:J Qz}{x y:Qz}{f g:Fp}(hf:rP ops x f)(d:rP ops y g)(h:slotsApart ops x y=true):apartFp f g=true:=by
 obtain⟨e,c,j,n,l⟩:=hf;obtain⟨m,b,o,i,p⟩:=d
 suffices ri f g=true by simp[apartFp,this]
 simp only[ri,e,c,j,n,l,m,b,o,i,p];simp only[slotsApart,xA]at h
 cases k:x.dst <;>cases a:y.dst <;>simp only[k,a]at h |- <;>simp[Ml] <;>simpa using h
theorem xe{ops:J Qz}{y:Qz}{b:Nat}{g:Fp}(e:rP ops y g):∀(l:J Qz) (a:J Fp) (j:Nat),All2 (rP ops) l a->Q2 ops b y j l=true->jl b g j a=true
 | [],a,j,d,_=>by rw[show a=[]from d];rfl
 |x::l,a,j,d,c=>by
  obtain⟨f,r,rfl,h,i⟩:=d;simp only[Q2,xA,iq]at c
  simp only[jl,xA,iq]
  exact⟨c.1.imp id (zj h e),xe e l r (j+1) i c.2⟩
theorem DD{ops:J Qz}{all:J Fp}(a:All2 (rP ops) ops all):∀(l:J Qz) (c:J Fp) (i:Nat) (bs:J Nat),All2 (rP ops) l c->Q3 ops i bs l=true->rj all i bs c=true
 | [],c,i,bs,d,_=>by rw[show c=[]from d];cases bs <;>rfl
 |y::l,c,i,[],d,_=>by obtain⟨f,r,rfl,_,_⟩:=d;rfl
 |y::l,c,i,b::bs,d,e=>by
  obtain⟨f,r,rfl,g,h⟩:=d;simp only[Q3,xA]at e
  simp only[rj,xA]
  exact⟨xe g _ _ 0 (All2.take i a) e.1,DD a l r (i+1) bs h e.2⟩
def WY(h:Hint)(id:Nat)(ls:J Nat)(c:Code):Bool:=
 match c with
 | .region i a b=>decide (i=id)&&a.toList.all (j8 a.toList)&&(!b || pureR h a.toList)&&decide (h.live id=ls)&& !h.cO.contains id&&(!b || (h.swp id).isNone)
 |_=>false
def opsL(c:Code):J dd:=match c with | .region _ a _=>a.toList.map (jH a.toList) |_=>[]
theorem ajE{c:Code}{id:Nat}{ls:J Nat}{L:J dd}(hk:WY h id ls c=true)(w:opsL c=L)(s:St):eL P hints h c s=(rO P (eG P hints) h L s).bind λs'=>some (.normal,prune ls s'):=by
 unfold WY at hk
 split at hk
 .rename_i i a E
  simp only[xA,yD,iq,q8]at hk
  obtain⟨⟨⟨⟨⟨rfl,z⟩,hd⟩,v⟩,d⟩,t⟩:=hk;subst w
  have b:(eL P hints h (.region i a false) s)=(rO P (eG P hints) h (a.toList.map (jH a.toList)) s).bind λs'=>some (.normal,prune ls s'):=by
   rw[AO d,mu _ _ z,v,xF];rfl
  cases E with
  |false=>exact b
  |true=>
   obtain hd |hd:=hd
   .cases hd
   .refine Eq.trans ?_ b
    have k:h.swp i=none:=by
     obtain q |q:=t
     .cases q
     .simpa using q
    rw[He k,AO d,v];simp only[pureR,xA,io,q8]at hd
    obtain⟨B,p⟩:=hd
    split at p
    .rename_i C n
     refine gz λr=> ?_
     simp only[xB,xM];constructor
     .rintro⟨⟨c',g⟩,m,j⟩
      simp only at j
      split at j
      .refine⟨c'.1,?_,by simpa using j⟩
       have:∀(l:J Qz) (c c':Cf) (g:J Fp),dV P (eG P hints) h a.toList l c=some (c',g)->fh P (eG P hints) h a.toList l c.1=some c'.1:=by
        intro l
        induction l with
        |nil=>intro c c' g e;simp only[dV,xJ,pJ]at e;rw[<-e.1];rfl
        |cons o l x=>
         intro c c' g e;simp only[dV,xB,xM,pJ]at e
         obtain⟨⟨F,f⟩,m,⟨G,y⟩,j,rfl,_⟩:=e;simp only[fh,Ch m,xS];exact x _ _ _ j
       exact this _ _ _ _ m
      .cases j
     .rintro⟨s',m,rfl⟩
      obtain⟨c',g,A,D,q3⟩:=AR a.toList (c:=(s,ku s)) B m
      refine⟨(c',g),A,?_⟩
      have u:ua a.toList g=true:=by
       unfold ua;rw[n];exact DD q3 _ _ 0 C q3 p
      simp only[u,if_true,D]
    .cases p
 .cases hk
@[go_sem] theorem ajF{s:St}:rO P call h [] s=some s:=rfl
def Q4(P:Pz)(call:dF)(h:Hint)(d:U Nat)(r:J dd)(s:St)(v:SV)(k:Wk):U St:=rO P call h r (s.fin d v k)
section
variable{d:U Nat}{ty:TypeId}{op:Op}{r:J dd}{env:J (Nat×SV)}{ct ct':J ((Nat×Nat)×T)}{H H':J Ob}{tr:J Tr}{v:SV}{s:St}{t:Nat}{want b:Bool}
@[go_sem] theorem PL:rO P call h (⟨d,ty,op,none⟩::r) ⟨env,ct,H⟩=(dD P call h (d.getD 0) ty op (St.val ⟨env,ct,H⟩) ⟨ct,H,[]⟩).bind λp=>Q4 P call h d r ⟨env,ct,H⟩ p.1 p.2:=by
 simp only[rO,WX,AQ,xX,xS];rfl
@[go_sem] theorem ajG:Q4 P call h d r s v ⟨ct',H',tr⟩=rO P call h r (s.fin d v ⟨ct',H',tr⟩):=rfl
def uq(P:Pz)(call:dF)(h:Hint)(d:U Nat)(ty:TypeId)(op:Op)(want:Bool)(r:J dd)(s:St)(g:SV):U St:=(stepG P call h d ty op want g s).bind λs'=>rO P call h r s'
@[go_sem] theorem PM:rO P call h (⟨d,ty,op,some (t,want)⟩::r) ⟨env,ct,H⟩=uq P call h d ty op want r ⟨env,ct,H⟩ (St.get ⟨env,ct,H⟩ t):=rfl
@[go_sem] theorem ur:uq P call h d ty op want r ⟨env,ct,H⟩ (.d (.bool b))=if b=want then(dD P call h (d.getD 0) ty op (St.val ⟨env,ct,H⟩) ⟨ct,H,[]⟩).bind λp=>Q4 P call h d r ⟨env,ct,H⟩ p.1 p.2 else rO P call h r (St.fin ⟨env,ct,H⟩ d (.aS []) ⟨ct,H,[]⟩):=by
 by_cases e:b=want
 .simp only[uq,Hg,e,if_true,AQ,xX,xS];rfl
 .simp only[uq,Hg,e,if_false,xS];rfl
@[go_sem] theorem ND:uq P call h d ty op want r ⟨env,ct,H⟩ (.aS [])=rO P call h r (St.fin ⟨env,ct,H⟩ d (.aS []) ⟨ct,H,[]⟩):=rfl
end
end
end Go.Am
