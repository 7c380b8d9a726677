/- A part of the proof: texts of mine, merged by a program (wip/dev/merge.py). -/
import Derived.Test.YteeabnledfmpjaaGreatDoorFn2
import Derived.KernelRfl
import Derived.OrdersIn
import Derived.RangeFuncRecord
import Derived.TacticsIn
set_option linter.unusedSimpArgs false
set_option linter.unusedVariables false
namespace Go.Am
open Go Go.RowKit
mutual
theorem VC.cJ{c c':Cx}(h:∀b g,c.pm b g->c'.pm b g/\c'.w.heap[g]? =c.w.heap[g]?):∀(d:D) (cs:List Value),d.low 0=true->VC c d cs->VC c' d cs
 |.int _ _,_,_,e|.bool _,_,_,e|.str _,_,_,e|.aJ,_,_,e|.cQ,_,_,e|.df,_,_,e|.cX,_,_,e|.bW,_,_,e=>by simpa [VC]using e
 |.ptr o,_,i,_|.map o,_,i,_|.yld o,_,i,_=>by simp[D.low]at i
 | .agg l,cs,i,e=>by have:=aR.cJ h l cs i e;grind [VC]
 | .sl b l,cs,i,e=>by
  have:=VE.cJ h l;grind [VC,D.low]
 | .fn f a b,cs,i,e=>by
  have:=bf.cJ h a;have:=bf.cJ h b;grind [VC,D.low]
 | .iface t x,cs,i,e=>by
  simp only[VC]at e |-
  simp only[D.low]at i
  obtain⟨v,m,n,h3⟩:=e
  exact⟨v,m,VC.cJ h _ _ i n,h3⟩
 | .bQ l,cs,i,e=>by
  have:=aR.cJ h l;grind [VC,D.low,qq,kw]
theorem aR.cJ{c c':Cx}(h:∀b g,c.pm b g->c'.pm b g/\c'.w.heap[g]? =c.w.heap[g]?):∀(l:List D) (cs:List Value),D.aQ 0 l=true->aR c l cs->aR c' l cs
 | [],_,_,e=>by grind [aR]
 |d::j,cs,i,e=>by
  have:=VC.cJ h d;have:=aR.cJ h j;grind [aR,D.aQ]
theorem bf.cJ{c c':Cx}(h:∀b g,c.pm b g->c'.pm b g/\c'.w.heap[g]? =c.w.heap[g]?):∀(l:List D) (cs:List Value),D.aQ 0 l=true->bf c l cs->bf c' l cs
 | [],_,_,e=>by grind [bf]
 |d::j,cs,i,e=>by
  simp only[bf]at e |-
  simp only[D.aQ,xA]at i
  obtain⟨v,r,m,n,h3,h4⟩:=e
  exact⟨v,r,m,VC.cJ h _ _ i.1 n,h3,bf.cJ h j _ i.2 h4⟩
theorem VE.cJ{c c':Cx}(h:∀b g,c.pm b g->c'.pm b g/\c'.w.heap[g]? =c.w.heap[g]?):∀(l:List D) (a:Addr) (o k:Nat),c'.w.heap[a.block]? =c.w.heap[a.block]? ->D.aQ 0 l=true->VE c l a o k->VE c' l a o k
 | [],_,_,_,_,_,_=>by simp[VE]
 |d::j,a,o,k,p,i,e=>by
  have:=VC.cJ h d;have:=VE.cJ h j a;grind [VE,D.aQ,qq,kw]
end
def gT(A:Av)(sn:Bool)(R:aj->Bool)(S:aj->J Nat)(fl:J Nat)(w:Wz)(n:Nat)(ρ:Nat->Nat):Av:=
 {w0:=w,F:=λt b=>A.F t b\/((t=false\/sn=false)/\((∃r,R r=true/\b∈S r)\/b∈fl)),O0:=λb=>∃r,R r=false/\b∈S r,n0:=n,ρ0:=ρ,mono:=λb h=>by
    obtain h |⟨h,q⟩:=h
    .exact .inl (A.mono b h)
    grind}
def qu(R:aj->Bool)(S:aj->J Nat):aj->J Nat:=λr=>if R r then []else S r
section
variable{P:Pz}{A:Av}{ρ:Nat->Nat}{S:aj->J Nat}{hd:aj->Vz}{fl:J Nat}{k k':Wk}{ay:J (SV×Vz)}{w:Wz}
theorem SK(h:KR A ρ S hd fl k ay w)(sn:Bool)(lk:J Nat)(R:aj->Bool)(H:J Ob)(O:∀n j,R (.l n j)=true)(N:∀n∈lk,R (.o n)=true)(G:H.length=k.H.length)
  (h1:∀n,R (.o n)=true->∀ob,H[n]? =some ob->ob=.lock) (h2:∀n,R (.o n)=false->H[n]? =k.H[n]?):
  KR (gT A sn R S fl w H.length ρ) ρ (qu R S) hd [] {ct:=[],H} [] w/\Ext (cxS sn lk A k.H.length ρ S fl w) (am (gT A sn R S fl w H.length ρ) H.length ρ (qu R S) [] w):=by
 have own:∀b,bS (qu R S) [] b->∃r,R r=false/\b∈S r:=λb i=>by
  obtain⟨r,a⟩ |i:=i
  .grind [qu]
  grind
 have ext:Ext (cxS sn lk A k.H.length ρ S fl w) (am (gT A sn R S fl w H.length ρ) H.length ρ (qu R S) [] w):=by
  refine⟨λt b C=>⟨?_,rfl⟩,by show k.H.length<=H.length;omega,λ_ _=>rfl⟩
  obtain⟨v,B,q3⟩ |⟨v,B,q3,q4,q5⟩:=C
  .refine⟨λz=> ?_,λc=> ?_,q3⟩
   .obtain⟨r,_,a⟩:=own b z;exact v (.inl ⟨r,a⟩)
   .obtain c |⟨_,⟨r,_,a⟩ |a⟩:=c
    .exact B c
    .exact v (.inl ⟨r,a⟩)
    .exact v (.inr a)
  .subst v;subst B
   refine⟨λz=> ?_,λc=> ?_,q4⟩
   .obtain⟨r,E,a⟩:=own b z
    cases r with
    |l n j=>grind
    |o n=>grind
   .obtain c |⟨c |c,_⟩:=c
    .exact q3 c
    .cases c
    .cases c
 have g:Ext (am A k.H.length ρ S fl w) (am (gT A sn R S fl w H.length ρ) H.length ρ (qu R S) [] w):=
  ⟨λt b C=>ext.pm t b (.inl C),ext.nO,λ_ _=>rfl⟩
 have q:∀r,R r=false->({ct:=[],H}:Wk).get r=k.get r:=λr a=>by
  cases r with
  |l n j=>grind
  |o n=>grind [Wk.get,Go.Am.cont]
 have I:∀r,R r=true->({ct:=[],H}:Wk).get r=none:=λr a=>by
  cases r with
  |l n j=>rfl
  |o n=>
   grind [Wk.get,Go.Am.cont]
 have y:∀r,R r=false->qu R S r=S r:=λr a=>by simp[qu,a]
 have K:∀r,R r=true->qu R S r=[]:=λr a=>by simp[qu,a]
 have s:∀r b,b∈qu R S r->b∈S r/\R r=false:=λr b i=>by
  grind [qu]
 refine⟨⟨λr t F=> ?_,λr a L=> ?_,h.obj,λn ob x u=> ?_,⟨λr=> ?_,by simp,λr p b i f=>h.bz.one r p b (s r b i).1 (s p b f).1,by simp⟩,λb i=> ?_,by simp,⟨rfl,rfl,rfl,dB _,λ_ _ _=>rfl,.refl _⟩,λt b c=> ?_,⟨dB _,λ_ _=>rfl⟩⟩,ext⟩
 .cases a:R r with
  |true=>grind
  |false=>
   rw[q r a]at F
   rw[y r a];exact TC.ext g _ _ _ (λ_ _=>rfl) (h.cont r t F)
 .cases m:R r with
  |true=>exact K r m
  |false=>
   rw[q r m]at a
   rw[y r m];exact h.gone r a (λn ob e x=>L n ob e (by grind))
 .have a:R (.o n)=false:=by
   cases a:R (.o n)with
   |false=>rfl
   |true=>have:=h1 n a _ x;subst this;cases u
  simp only at x;rw[h2 n a]at x
  exact(h.map n ob x u).ext g (λ_ _=>rfl) (y _ a) rfl
 .unfold qu;split
  .simp
  .exact h.bz.nd r
 .obtain⟨r,E,a⟩:=own b i
  have f:=h.bT b (.inl ⟨r,a⟩)
  refine⟨f.1,λt c=> ?_,λ_=>⟨r,E,a⟩⟩
  obtain c |⟨_,⟨p,D,d⟩ |d⟩:=c
  .exact f.2.1 t c
  .have:=h.bz.one r p b a d;grind
  .exact h.bz.cq r b a d
 .have M:=h.fr.size
  obtain c |⟨_,⟨p,D,d⟩ |d⟩:=c
  .exact yA (h.Fold t b c) M
  .exact(h.bT b (.inl ⟨p,d⟩)).1
  .exact(h.bT b (.inr d)).1
def jT(R:aj->Bool)(n0:Nat):aj->Bool
 | .l n j=>true
 | .o n=>decide (n<n0)&&R (.o n)
def s3(R:aj->Bool)(n0:Nat)(S a:aj->J Nat):aj->J Nat:=λr=>if jT R n0 r then S r else a r
def hd3(R:aj->Bool)(n0:Nat)(hd a:aj->Vz):aj->Vz:=λr=>if jT R n0 r then hd r else a r
def IX:Ob->Bool
 | .box c=>c.cW
 | .map a=>a.all λe=>e.1.cW&&e.2.cW
 |.iter _ _|.bY _=>true
 | .frame _ _ _ _ b d=>b.all (λp=>p.2.cW)&&d.all λp=>p.2.cW
 | .lock=>true
 | .row a=>T.aZ a
 | .sset _=>true
structure LeftCall(A:Av)(ρ:Nat->Nat)(S:aj->List Nat)(hd:aj->Value)(fl:List Nat)(k:Wk)(w:World)(sn:Bool)(R:aj->Bool)(H2:List Ob)(ρ':Nat->Nat)(S2:aj->List Nat)(hd2:aj->Value)(M:List Nat)(w':World)(H3:List Ob)(tr':List Tr):Prop where
 kr:∀vals',(∀p∈vals',SO (am A H3.length ρ' (s3 R k.H.length S S2) (M++fl) w') ({k with H:=H3,tr:=tr'}:Wk).get (hd3 R k.H.length hd hd2) (aU tr' p.1) p.2)->KR A ρ' (s3 R k.H.length S S2) (hd3 R k.H.length hd hd2) (M++fl) {k with H:=H3,tr:=tr'} vals' w'
 ret:∀rs vs,(sn=true->T.aZ rs=true)->RetAll (am (gT A sn R S fl w k.H.length ρ) H2.length ρ' S2 M w') rs vs M->RetAll (am A H3.length ρ' (s3 R k.H.length S S2) (M++fl) w') rs vs M
 ext:Ext (am A k.H.length ρ S fl w) (am A H3.length ρ' (s3 R k.H.length S S2) (M++fl) w')
 hold:∀r q,jT R k.H.length r=true->wN (am A k.H.length ρ S fl w) (am A H3.length ρ' (s3 R k.H.length S S2) (M++fl) w') k.get ({k with H:=H3,tr:=tr'}:Wk).get hd (hd3 R k.H.length hd hd2) r q
 cM:∀o,o<k.H.length->ρ' o=ρ o
theorem SM(h:KR A ρ S hd fl k ay w){sn:Bool}{R:aj->Bool}{G:J Ob}{d:Nat->Nat}{i:aj->J Nat}{I:aj->Vz}{M:J Nat}{w':Wz}(hR:∀n j,R (.l n j)=true)
  (g:KR (gT A sn R S fl w k.H.length ρ) d i I M {ct:=[],H:=G} [] w') (D:J Ob) (ac:J Tr) (ak:D.length=G.length) (h31:∀n,n<k.H.length->R (.o n)=true->D[n]? =k.H[n]?)
  (h32:∀n,¬(n<k.H.length/\R (.o n)=true)->D[n]? =G[n]?) (ao:sn=true->∀n ob,¬(n<k.H.length/\R (.o n)=true)->G[n]? =some ob->IX ob=true):
  LeftCall A ρ S hd fl k w sn R G d i I M w' D ac:=by
 have bP:w.heap.size<=w'.heap.size:=g.fr.size;have F:∀o,o<k.H.length->d o=ρ o:=g.cM.2
 have aq:k.H.length<=G.length:=g.cM.1
 -- who owns what behind the call
 have af:∀b,((∃r,b∈i r)\/b∈M)->b<w.heap.size->∃r,R r=false/\b∈S r:=λb f C=>(g.bT b f).2.2 C
 have own:∀b,bS (s3 R k.H.length S i) (M++fl) b->((∃r,jT R k.H.length r=true/\b∈S r)\/b∈fl)\/((∃r,b∈i r)\/b∈M):=λb f=>by
  obtain⟨r,c⟩ |f:=f
  .grind [s3]
  grind
 have kR:∀r b,jT R k.H.length r=true->b∈S r->R r=true:=λr b hk f=>by
  cases r with
  |l n j=>exact hR n j
  |o n=>grind [jT]
 have ai:∀b,((∃r,jT R k.H.length r=true/\b∈S r)\/b∈fl)->b<w.heap.size/\¬∃r,R r=false/\b∈S r:=λb f=>by
  obtain⟨r,hk,c⟩ |f:=f
  .refine⟨(h.bT b (.inl ⟨r,c⟩)).1,λ⟨r',hf,K⟩=> ?_⟩
   have:=h.bz.one r r' b c K
   grind
  .exact⟨(h.bT b (.inr f)).1,λ⟨r',hf,K⟩=>h.bz.cq r' b K f⟩
 have ad:∀b,((∃r,jT R k.H.length r=true/\b∈S r)\/b∈fl)->¬((∃r,b∈i r)\/b∈M):=λb h1 h2=>(ai b h1).2 (af b h2 (ai b h1).1)
 have U:∀b,b<w.heap.size->(¬∃r,R r=false/\b∈S r)->w'.heap[b]? =w.heap[b]? :=λb C hn=>g.fr.kept b C hn
 have ext:Ext (am A k.H.length ρ S fl w) (am A D.length d (s3 R k.H.length S i) (M++fl) w'):=by
  refine⟨λt b u=>⟨⟨λho=> ?_,u.2.1,yA u.2.2 bP⟩,U b u.2.2 (λ⟨r,_,c⟩=>u.1 (.inl ⟨r,c⟩))⟩,by show k.H.length<=D.length;omega,F⟩
  obtain (⟨r,_,c⟩ |c) |c:=own b ho
  .exact u.1 (.inl ⟨r,c⟩)
  .exact u.1 (.inr c)
  .obtain⟨r,_,c⟩:=af b c u.2.2;exact u.1 (.inl ⟨r,c⟩)
 -- what the callee left,for the caller
 have V:∀t b,(sn=true->t=false)->(am (gT A sn R S fl w k.H.length ρ) G.length d i M w').pm t b->(am A D.length d (s3 R k.H.length S i) (M++fl) w').pm t b:=λt b E u=>by
  refine⟨λho=> ?_,λhF=>u.2.1 (.inl hF),u.2.2⟩
  have ag:t=false\/sn=false:=by cases sn with |true=>exact .inl (E rfl) |false=>exact .inr rfl
  obtain (⟨r,hk,c⟩ |c) |c:=own b ho
  .exact u.2.1 (.inr ⟨ag,.inl ⟨r,kR r b hk c,c⟩⟩)
  .exact u.2.1 (.inr ⟨ag,.inr c⟩)
  .exact u.1 c
 have aa:sn=false->Ext (am (gT A sn R S fl w k.H.length ρ) G.length d i M w') (am A D.length d (s3 R k.H.length S i) (M++fl) w'):=λB=>
  ⟨λt b u=>⟨V t b (λh=>by grind) u,rfl⟩,by show G.length<=D.length;omega,λ_ _=>rfl⟩
 have K?:Ext (am (gT A sn R S fl w k.H.length ρ) G.length d i M w').no (am A D.length d (s3 R k.H.length S i) (M++fl) w'):=
  ⟨λt b u=>⟨V t b (λ_=>u.1) u.2,rfl⟩,by show G.length<=D.length;omega,λ_ _=>rfl⟩
 have tc:∀t cs Sx,(sn=true->t.cW=true)->TC (am (gT A sn R S fl w k.H.length ρ) G.length d i M w') t cs Sx->TC (am A D.length d (s3 R k.H.length S i) (M++fl) w') t cs Sx:=λt cs Sx O E=>by
  cases B:sn with
  |false=>subst B;exact TC.ext (aa rfl) _ _ _ (λ_ _=>rfl) E
  |true=>exact TC.ext K? _ _ _ (λ_ _=>rfl) (TC.no t cs Sx (O B) E)
 have vv:∀x v,(sn=true->x.cW=true)->VV (am (gT A sn R S fl w k.H.length ρ) G.length d i M w') x v->VV (am A D.length d (s3 R k.H.length S i) (M++fl) w') x v:=λx v O hv=>by
  cases B:sn with
  |false=>grind [VV.ext]
  |true=>exact⟨VC.ext K? _ _ (VC.no x _ (O B) hv.1),hv.2⟩
 have L:∀r,jT R k.H.length r=true->∀b∈S r,w'.heap[b]? =w.heap[b]? :=λr hk b f=>by
  grind
 have Y:∀r,jT R k.H.length r=true->({k with H:=D,tr:=ac}:Wk).get r=k.get r:=λr hk=>by
  cases r with
  |l n j=>rfl
  |o n=>
   grind [jT,Wk.get,Go.Am.cont]
 have ab:∀r,jT R k.H.length r=false->∃n,r=.o n/\¬(n<k.H.length/\R (.o n)=true)/\({k with H:=D,tr:=ac}:Wk).get r=({ct:=[],H:=G}:Wk).get r:=λr hk=>by
  cases r with
  |l n j=>cases hk
  |o n=>
   grind [jT,Wk.get,Go.Am.cont]
 refine⟨λvals' hv=>⟨λr t E=> ?_,λr c hm=> ?_,λn=> ?_,λn ob X ah=> ?_,⟨λr=> ?_,?_,λr r' b f z=> ?_,λr b f z=> ?_⟩,λb f=> ?_,hv,?_,h.Fold,?_⟩,λrs vs O c=> ?_,ext,λr q hk=> ?_,F⟩
 .cases hk:jT R k.H.length r with
  |true=>
   rw[Y r hk]at E
   have Q:s3 R k.H.length S i r=S r:=by simp[s3,hk]
   have e2:hd3 R k.H.length hd I r=hd r:=by simp[hd3,hk]
   rw[Q,e2];exact TC.ext ext _ _ _ (L r hk) (h.cont r t E)
  |false=>
   obtain⟨n,rfl,hn,e⟩:=ab r hk;rw[e]at E
   have Q:s3 R k.H.length S i (.o n)=i (.o n):=by simp[s3,hk]
   have e2:hd3 R k.H.length hd I (.o n)=I (.o n):=by simp[hd3,hk]
   rw[Q,e2];refine tc _ _ _ (λB=> ?_) (g.cont _ t E)
   simp only[Wk.get,Go.Am.cont]at E
   split at E
   .grind [IX,T.cW,T.aZ]
   .cases E
 .cases hk:jT R k.H.length r with
  |true=>
   rw[Y r hk]at c
   have Q:s3 R k.H.length S i r=S r:=by simp[s3,hk]
   rw[Q];refine h.gone r c (λn ob e X=>hm n ob e ?_)
   grind [jT]
  |false=>
   obtain⟨n,rfl,hn,e⟩:=ab r hk;rw[e]at c
   have Q:s3 R k.H.length S i (.o n)=i (.o n):=by simp[s3,hk]
   rw[Q];refine g.gone _ c (λm ob e X=>hm m ob e ?_)
   grind
 .unfold hd3
  split
  .rename_i hk
   simp only[jT,xA,yD]at hk
   rw[h.obj,F n hk.1]
  .exact g.obj n
 .cases hk:jT R k.H.length (.o n)with
  |true=>
   have P:=hk;simp only[jT,xA,yD]at P
   simp only at X;rw[h31 n P.1 P.2]at X
   exact(h.map n ob X ah).ext ext (L _ hk) (by simp[s3,hk]) (F n P.1)
  |false=>
   have hn:¬(n<k.H.length/\R (.o n)=true):=λ⟨W,q2⟩=>by grind
   simp only at X;rw[h32 n hn]at X
   have Q:s3 R k.H.length S i (.o n)=i (.o n):=by simp[s3,hk]
   obtain⟨N,m1,m2⟩:=g.map n ob X ah
   refine⟨N,Q.trans m1,?_⟩
   cases ob with
   |map es=>
    obtain⟨en,cl,W,q2,q3⟩:=m2
    have O:∀a∈es,sn=true->a.1.cW=true/\a.2.cW=true:=λa Z B=>by
     grind [IX]
    refine⟨en,cl,W,q2.imp (λa Z b q=>vv _ _ (λB=>(O a Z B).1) q),RetAll.imp _ _ _ (λt E cs M' _ h3=> ?_) q3⟩
    grind
   |iter s p=>exact m2
   |bY m=>
    obtain⟨W,q2,q3⟩:=m2
    exact⟨W,λo e=>by have:=q2 o e;show o<D.length;rw[ak];exact this,q3⟩
   |frame g' ps x y an ct=>
    obtain⟨r,W,q2,q3,q4,q5,q6,q7⟩:=m2
    have O:sn=true->(∀p∈an,p.2.cW=true)/\∀p∈ct,p.2.cW=true:=λB=>by
     grind [IX]
    refine⟨r,W,q2,q3,q4,q5,q6,q7.1.imp (λ_ _=>rfl) (λp u x v e q=>vv _ _ (λB=> ?_) q) (λp u cs M' _ q=>tc _ _ _ (λB=>(O B).2 p u) q),q7.2⟩
    have:=(O B).1 p u
    rw[e]at this
    exact this
   |sset ks=>
    obtain⟨es,en,cl,W,q2,q3,q4⟩:=m2
    refine⟨es,en,cl,W,q2.imp (λa Z b q=>vv _ _ (λB=> ?_) q),RetAll.imp _ _ _ (λt E cs M' _ h3=> ?_) q3,q4⟩
    .obtain⟨s,_,rfl⟩:=q4.1 a Z
     rfl
    .obtain⟨a,Z,rfl⟩:=List.mem_map.1 E
     obtain⟨s,_,rfl⟩:=q4.1 a Z;exact tc _ _ _ (λB=>rfl) h3
   |_=>trivial
 .unfold s3;split
  .exact h.bz.nd r
  .exact g.bz.nd r
 .rw[xT]
  exact⟨g.bz.ndF,h.bz.ndF,λa Z b f al=>ad b (.inr f) (.inr (al▸Z))⟩
 .unfold s3 at f z
  split at f <;>split at z
  .exact h.bz.one r r' b f z
  .grind
  .grind
  .exact g.bz.one r r' b f z
 .unfold s3 at f
  split at f
  .rename_i hk
   obtain q |q:=List.mem_append.1 z
   .grind
   .exact h.bz.cq r b f q
  .obtain q |q:=List.mem_append.1 z
   .exact g.bz.cq r b f q
   grind
 .have hA:=h.fr.size
  obtain (⟨r,_,c⟩ |c) |c:=own b f
  .have:=h.bT b (.inl ⟨r,c⟩);grind
  .have:=h.bT b (.inr c);grind
  .have z:=g.bT b c
   refine⟨z.1,λt hF=>z.2.1 t (.inl hF),λC=> ?_⟩
   obtain⟨r,_,K⟩:=af b c (by omega)
   exact(h.bT b (.inl ⟨r,K⟩)).2.2 C
 .have hA:=h.fr.size
  refine⟨g.fr.os.trans h.fr.os,g.fr.tape.trans h.fr.tape,g.fr.output.trans h.fr.output,by omega,λb C hO=> ?_,h.fr.recs.trans g.fr.recs⟩
  rw[U b (by omega) (λ⟨r,_,c⟩=>hO ((h.bT b (.inl ⟨r,c⟩)).2.2 C))]
  exact h.fr.kept b C hO
 .have:=h.cM
  refine⟨?_,λo ho=> ?_⟩
  .grind
  grind
 .cases B:sn with
  |false=>subst B;exact RetAll.ext (aa rfl) _ _ _ (λ_ _=>rfl) c
  |true=>exact RetAll.ext K? _ _ _ (λ_ _=>rfl) (RetAll.no rs vs M (O B) c)
 .intro t es h1 h2
  refine⟨t,es,by grind,h2,bh.refl _,λh' hn=> ?_⟩
  have e2:hd3 R k.H.length hd I r=hd r:=by simp[hd3,hk]
  rw[e2];exact aI.ext q t _ h' _ (h.cont r t h1) (L r hk) hn
theorem O8(h:KR A ρ S hd fl k ay w)(sn:Bool)(lk:J Nat):
  KR (gT A sn (λ_=>true) S fl w 0 ρ) ρ (λ_=>[]) hd [] {ct:=[],H:=[]} [] w/\
   ∀t g,(cxS sn lk A k.H.length ρ S fl w).pm t g->(am (gT A sn (λ_=>true) S fl w 0 ρ) 0 ρ (λ_=>[]) [] w).pm t g/\w.heap[g]? =w.heap[g]? :=by
 have a:∀b,¬bS (λ_:aj=>([]:J Nat)) [] b:=λb d=>by
  obtain⟨r,i⟩ |d:=d
  .simp at i
  grind
 have p:∀r,({ct:=[],H:=[]}:Wk).get r=none:=λr=>by cases r <;>rfl
 refine⟨⟨λr t v=>(by grind),λr _ _=>rfl,h.obj,λn x u=>(by simp at u),⟨λr=>(by simp),(by simp),λr l b d=>(by simp at d),λr b d=>(by simp at d)⟩,λb d=>absurd d (a b),(by simp),⟨rfl,rfl,rfl,dB _,λ_ _ _=>rfl,.refl _⟩,λt b c=> ?_,⟨dB _,λo s=>by simp[gT]at s⟩⟩,λt g m=>⟨⟨a g,λc=> ?_,?_⟩,rfl⟩⟩
 .have q:=h.fr.size
  obtain c |⟨_,⟨l,_,e⟩ |e⟩:=c
  .exact yA (h.Fold t b c) q
  .exact(h.bT b (.inl ⟨l,e⟩)).1
  .exact(h.bT b (.inr e)).1
 .obtain⟨f,j,q3⟩ |⟨f,j,q3,q4,q5⟩:=m
  .obtain c |⟨_,⟨r,_,i⟩ |i⟩:=c
   .exact j c
   .exact f (.inl ⟨r,i⟩)
   .exact f (.inr i)
  .subst f;subst j
   obtain c |⟨c |c,_⟩:=c
   .exact q3 c
   .cases c
   .cases c
 .obtain⟨f,j,q3⟩ |⟨f,j,q3,q4,q5⟩:=m
  .exact q3
  .exact q4
theorem O9(h:KR A ρ S hd fl k ay w){sn:Bool}{y:J Ob}{i:Nat->Nat}{v:aj->J Nat}{D:aj->Vz}{M:J Nat}{w':Wz}
  (g:KR (gT A sn (λ_=>true) S fl w 0 ρ) i v D M {ct:=[],H:=y} [] w') (h0:y.length=0):
  KR A ρ S hd (M++fl) k ay w'/\∀rs vs,(sn=true->T.aZ rs=true)->RetAll (am (gT A sn (λ_=>true) S fl w 0 ρ) y.length i v M w') rs vs M->RetAll (am A k.H.length ρ S (M++fl) w') rs vs M:=by
 have N:w.heap.size<=w'.heap.size:=g.fr.size;have F:y=[]:=List.length_eq_zero_iff.1 h0;subst F
 have s:∀b,b∈M->w.heap.size<=b:=λb d=>by
  obtain q |q:=gF b w.heap.size
  .obtain⟨r,e,_⟩:=(g.bT b (.inr d)).2.2 q;cases e
  .exact q
 have l:∀b,b<w.heap.size->w'.heap[b]? =w.heap[b]? :=λb C=>g.fr.kept b C (λ⟨r,e,_⟩=>by cases e)
 have own:∀b,bS S (M++fl) b->bS S fl b\/b∈M:=λb d=>by
  obtain d |d:=d
  .exact .inl (.inl d)
  .obtain d |d:=List.mem_append.1 d
   .exact .inr d
   .exact .inl (.inr d)
 have G:WS S fl w S (M++fl) w':=by
  refine⟨g.fr.os,g.fr.tape,g.fr.output,N,λb d _=>l b d,λb d=> ?_,g.fr.recs⟩
  obtain q |q:=own b d
  .exact .inl q
  .exact .inr ⟨s b q,(g.bT b (.inr q)).1⟩
 have ext:Ext (am A k.H.length ρ S fl w) (am A k.H.length ρ S (M++fl) w'):=G.ext (dB _) (λ_ _=>rfl)
 have j:∀r,∀b∈S r,w'.heap[b]? =w.heap[b]? :=λr b d=>l b (h.bT b (.inl ⟨r,d⟩)).1
 refine⟨⟨λr t E=>TC.ext ext _ _ _ (j r) (h.cont r t E),h.gone,h.obj,λn P Q B=> ?_,⟨h.bz.nd,?_,h.bz.one,λr b d z=> ?_⟩,G.bT h,λp f=> ?_,G.frm h,h.Fold,h.cM⟩,λrs vs L e=> ?_⟩
 .exact(h.map n P Q B).ext ext (j (.o n)) rfl rfl
 .rw[xT]
  exact⟨g.bz.ndF,h.bz.ndF,λa K b d R=>by have:=s a K;have:=(h.bT b (.inr d)).1;omega⟩
 .obtain q |q:=List.mem_append.1 z
  .have:=s b q;have:=(h.bT b (.inl ⟨r,d⟩)).1;omega
  .exact h.bz.cq r b d q
 .exact SO.aV ext (λr q=>h.hold _ rfl rfl (j r) q) (h.ay p f)
 .have m:∀t b,(sn=true->t=false)->(am (gT A sn (λ_=>true) S fl w 0 ρ) 0 i v M w').pm t b->(am A k.H.length ρ S (M++fl) w').pm t b:=λt b E f=>by
   refine⟨λx=> ?_,λO=>f.2.1 (.inl O),f.2.2⟩
   have u:t=false\/sn=false:=by cases sn with |true=>exact .inl (E rfl) |false=>exact .inr rfl
   obtain (⟨r,e⟩ |e) |e:=own b x
   .exact f.2.1 (.inr ⟨u,.inl ⟨r,rfl,e⟩⟩)
   .exact f.2.1 (.inr ⟨u,.inr e⟩)
   .exact f.1 (.inr e)
  cases I:sn with
  |false=>
   subst I;exact RetAll.ext (c:=am (gT A false (λ_=>true) S fl w 0 ρ) 0 i v M w') ⟨λt b f=>⟨m t b (λh=>by cases h) f,rfl⟩,eD _,λo x=>absurd x (Nat.not_lt_zero _)⟩ _ _ _ (λ_ _=>rfl) e
  |true=>
   subst I;exact RetAll.ext (c:=(am (gT A true (λ_=>true) S fl w 0 ρ) 0 i v M w').no) ⟨λt b f=>⟨m t b (λ_=>f.1) f.2,rfl⟩,eD _,λo x=>absurd x (Nat.not_lt_zero _)⟩ _ _ _ (λ_ _=>rfl) (RetAll.no rs vs M (L rfl) e)
end
theorem rA:∀(lk:J Nat) (H:J Ob),(fN lk H).length=H.length
 | [],H=>rfl
 |n::lk,H=>by
  show(fN lk (H.set n .lock)).length=_
  rw[rA lk];simp
theorem rB:∀(lk:J Nat) (H:J Ob) (n:Nat),n∉lk->(fN lk H)[n]? =H[n]?
 | [],H,n,_=>rfl
 |m::lk,H,n,h=>by
  show(fN lk (H.set m .lock))[n]? =_
  have:=rB lk;grind
theorem wW:∀(lk:J Nat) (H:J Ob) (n:Nat),H[n]? =some .lock->(fN lk H)[n]? =some .lock
 | [],H,n,h=>h
 |m::lk,H,n,h=>by
  have:=wW lk;grind [fN,yK]
theorem C9:∀(lk:J Nat) (H:J Ob) (n:Nat) (ob:Ob),n∈lk->(fN lk H)[n]? =some ob->ob=.lock
 |m::lk,H,n,ob,h,b=>by
  have a:n<H.length:=by
   have:=(List.getElem?_eq_some_iff.1 b).1
   rwa [rA]at this
  by_cases c:m=n
  .subst c
   have d:(fN lk (H.set m .lock))[m]? =some .lock:=wW lk _ m (yK a)
   grind [fN]
  .have:n∈lk:=by
    obtain h |h:=List.mem_cons.1 h
    .grind
    .exact h
   exact C9 lk (H.set m .lock) n ob this b
theorem GG(a:J Ob):∀(lk:J Nat) (H:J Ob),(jG a lk H).length=H.length
 | [],H=>rfl
 |n::lk,H=>by
  show(jG a lk (match a[n]? with |some x=>H.set n x |none=>H)).length=_
  have:=GG a lk;grind
theorem y6(a:J Ob):∀(lk:J Nat) (H:J Ob) (n:Nat),¬(n<a.length/\n∈lk)->(jG a lk H)[n]? =H[n]?
 | [],H,n,_=>rfl
 |m::lk,H,n,h=>by
  show(jG a lk (match a[m]? with |some x=>H.set m x |none=>H))[n]? =_
  rw[y6 a lk _ n (λ⟨b,c⟩=>h ⟨b,by simp[c]⟩)]
  split
  .grind
  .rfl
theorem Da(a:J Ob):∀(lk:J Nat) (H:J Ob) (n:Nat),n<a.length->H[n]? =a[n]? ->(jG a lk H)[n]? =a[n]?
 | [],H,n,_,h=>h
 |m::lk,H,n,b,h=>by
  show(jG a lk (match a[m]? with |some x=>H.set m x |none=>H))[n]? =_
  refine Da a lk _ n b ?_;split
  .grind
  .exact h
theorem IY(a:J Ob):∀(lk:J Nat) (H:J Ob) (n:Nat),n<a.length->n<H.length->n∈lk->(jG a lk H)[n]? =a[n]?
 |m::lk,H,n,b,c,h=>by
  have:=IY a lk;grind [jG,Da,yK]
theorem Db:∀(H e:J Ob) (n:Nat) (c:T),ec H e=true->H[n]? =some (.box c)->∃c',e[n]? =some (.box c')/\c'.nc=c.nc
 | [],_,n,c,_,h=>by simp at h
 |a::r,e,n,c,d,h=>by
  cases e with
  |nil=>grind [ec]
  |cons b g=>
   cases n with
   |zero=>
    simp only[yE,xJ]at h
    subst h
    cases b with
    |box c'=>grind [ec]
    |_=>simp[ec]at d
   |succ n=>
    have f:ec r g=true:=by cases a <;>cases b <;>simp[ec]at d <;>first |exact d |exact d.2
    have:=Db r g n c f;grind
theorem GI:∀(H:J Ob) (n:Nat) (ob:Ob),gb H=true->H[n]? =some ob->IX ob=true
 | [],n,ob,_,h=>by simp at h
 |a::r,n,ob,b,h=>by
  cases n with
  |zero=>
   simp only[yE,xJ]at h
   subst h
   cases a with
   |box c=>simp only[gb,xA]at b;exact b.1
   |map e=>simp only[gb,xA]at b;exact b.1
   |iter s p=>rfl
   |bY m=>rfl
   |frame g j x y d i=>grind [gb,IX]
   |lock=>rfl
   |row e=>simp only[gb,xA]at b;exact b.1
   |sset f=>rfl
  |succ n=>
   have:gb r=true:=by
    cases a with
    |box c=>grind [gb]
    |map e=>grind [gb]
    |iter s p=>exact b
    |bY m=>exact b
    |frame g j x y d i=>grind [gb]
    |lock=>exact b
    |row e=>grind [gb]
    |sset f=>exact b
   have:=GI r n ob this;grind
section
variable{P:Pz}{A:Av}{ρ:Nat->Nat}{S:aj->J Nat}{hd:aj->Vz}{fl:J Nat}{k k':Wk}{ay:J (SV×Vz)}{w:Wz}
theorem SN(h:KR A ρ S hd fl k ay w){o:Nat}{c:T}(d:k.H[o]? =some (.box c)):
  ∃b S1,S (.o o)=ρ o::S1/\(∀(j:Nat) (u:Vz),b[j]? =some u->w.cell? ((⟨ρ o,0,none⟩:Addr).add j)=some u)/\TC (am A k.H.length ρ S fl w) c b S1:=by
 have f:k.get (.o o)=some (.own [c]):=by simp only[Wk.get,Go.Am.cont,d]
 obtain⟨a,_,k2,_⟩ |⟨g,l,i,e,n,p,k1,k2,v,m,r,q,t,s⟩:=h.cont _ _ f
 .cases k2
 .rw[h.obj]at k1
  grind [TE,fm,World.cell?,am]
theorem VM{H:J Ob}:∀(n:Nat) (x y:D) (v:Vz),roD H n x=some y->wM x v->wM y v
 |0,_,_,_,e,_=>by cases e
 |n+1,x,y,v,e,a=>by
  cases x with
  |ptr o=>
   simp only[roD]at e
   split at e
   .simp only[xB,xM]at e
    obtain⟨_,_,_,_,rfl⟩:=e;exact a
   .cases e
  |agg l=>
   simp only[roD,xM]at e
   obtain⟨_,_,rfl⟩:=e;exact a
  |_=>grind [roD]
theorem VN{c:Cx}{x:D}{cs:J Vz}(h:VC c x cs):aR c x.cells cs:=by
 cases x with
 |agg l=>exact h
 |_=>
  have a:=VC.len _ _ h
  match cs,a with
  | [u],_=>exact⟨u,[],rfl,h,rfl⟩
theorem VO(h:KR A ρ S hd fl k ay w){lk:J Nat}(q:∀n,n<k.H.length->n∈lk):∀(n:Nat) (x y:D) (cs:J Vz),roD k.H n x=some y->VC (cxS true lk A k.H.length ρ S fl w) x cs->VC (cxS true lk A k.H.length ρ S fl w) y cs
 |0,_,_,_,e,_=>by cases e
 |n+1,x,y,cs,e,t=>by
  have i:∀(l s:J D) (cs:J Vz),BW (roD k.H n) l=some s->aR (cxS true lk A k.H.length ρ S fl w) l cs->aR (cxS true lk A k.H.length ρ S fl w) s cs:=by
   intro l
   induction l with
   |nil=>grind [BW]
   |cons a l G=>
    have:=VO h q n a;grind [BW,xB,xM,aR]
  cases x with
  |ptr o=>
   simp only[roD]at e
   split at e
   .rename_i c z
    simp only[xB,xM]at e
    obtain⟨d,C,r,F,rfl⟩:=e;simp only[VC]at t
    obtain⟨H,rfl⟩:=t;obtain⟨j,S1,v,f,E⟩:=SN h z
    have b:∀g∈S (.o o),(cxS true lk A k.H.length ρ S fl w).pm true g:=λg m=>by
     have u:=h.bT g (.inl ⟨.o o,m⟩);refine .inr ⟨rfl,rfl,u.2.1 _,u.1,λn B=> ?_⟩
     have:=h.bz.one _ _ g m B
     grind
    have p:=T.frz_ok (c':=cxS true lk A k.H.length ρ S fl w) (rz _ _ _) true c d j S1 C (λg m=>⟨b g (by rw[v];simp[m]),rfl⟩) E
    simp only[VC]
    exact⟨⟨ρ o,0,none⟩,j,rfl,rfl,b _ (by rw[v];simp),f,i _ _ _ F (VN p)⟩
   .cases e
  |agg l=>
   grind [roD,xM,VC]
  |_=>grind [roD]
theorem VP(h:KR A ρ S hd fl k ay w){lk:J Nat}(f:∀n,n<k.H.length->n∈lk){n:Nat}:∀(l c:J D) (vs:J Vz),BW (roD k.H n) l=some c->bf (cxS true lk A k.H.length ρ S fl w) l vs->bf (cxS true lk A k.H.length ρ S fl w) c vs
 | [],c,vs,e,d=>by grind [BW]
 |a::l,c,vs,e,d=>by
  simp only[BW,xB,xM]at e
  obtain⟨b,i,r,g,rfl⟩:=e;simp only[bf]at d |-
  obtain⟨v,q,rfl,j,h3,h4⟩:=d
  have:=VP h f l r q g h4;grind [VO,VM]
theorem GA.call{G:Nat->U D}(hG:GA G A)(h:KR A ρ S hd fl k ay w)(sn:Bool)(R:aj->Bool)(n:Nat):GA G (gT A sn R S fl w n ρ):=λg d e=>by
 obtain⟨c,i,q3⟩:=hG.now h e;obtain⟨_,_,h3,f,h4,h5⟩:=hG g d e
 refine⟨i,λ⟨r,_,a⟩=>c (.inl ⟨r,a⟩),λt b=> ?_,f,h4.same q3,h5⟩
 .obtain b |⟨_,⟨r,_,a⟩ |a⟩:=b
  .exact h3 t b
  .exact c (.inl ⟨r,a⟩)
  .exact c (.inr a)
theorem wo{C:CallT}(hC:C.mono){G:Nat->U D}(hG:GA G A){call:dF}(hc:Ek C G call){hint:Hint}{dst:Nat}{f:FuncId}{ds:J D}{b:bq}{args:Array Vz}{sv:SV}(h:KR A ρ S hd fl k ay w)(a:bf (cxS b.sn b.lk A k.H.length ρ S fl w) ds args.toList)(e:fg call hint dst f ds b k=some (sv,k')):
  C ρ f args w λe w'=>∃v,Ends sv.bN e v/\∃g Z hd',KR A g Z hd' fl k' ay w'/\SO (am A k'.H.length g Z fl w') k'.get hd' sv v:=by
 unfold fg at e
 split at e
 .rename_i s
  simp only[xA]at s
  simp only[xB]at e
  obtain⟨⟨H,x⟩,K,e⟩:=e;simp only at e
  split at e
  .rename_i N
   obtain⟨X,y⟩:=N;have c2:=hc f ds _ H x K;obtain⟨W,P⟩:=O8 h b.sn b.lk;refine hC _ _ _ _ _ _ (c2 (gT A b.sn (λ_=>true) S fl w 0 ρ) _ hd args rfl (hG.call h _ _ _) W (bf.cJ (c':=am (gT A b.sn (λ_=>true) S fl w 0 ρ) 0 ρ (λ_=>[]) [] w) P _ _ s.2 a)) λen w' F=> ?_
   obtain⟨v,Q,g,S2,B,M,vs,E,I,rfl⟩:=F;obtain⟨kr,ag⟩:=O9 h (sn:=b.sn) E X
   grind [QQ,MJ]
  .cases e
 split at e
 .cases e
 .simp only[xB]at e
  obtain⟨⟨H,x⟩,K,e⟩:=e;simp only at e
  split at e
  .rename_i N
   obtain⟨y,z⟩:=N;have c2:=hc f ds _ H x K;have u:=rA b.lk k.H
   let R:aj->Bool:=λr=>match r with | .l _ _=>true | .o n=>b.lk.contains n
   have af:∀n,R (.o n)=b.lk.contains n:=λn=>rfl
   obtain⟨W,P⟩:=SK h b.sn b.lk R (fN b.lk k.H) (λ_ _=>rfl) (λn m=>by grind) u (λn m Y=>C9 b.lk _ n Y (by grind)) (λn m=>rB b.lk _ n (by grind))
   refine hC _ _ _ _ _ _ (c2 (gT A b.sn R S fl w (fN b.lk k.H).length ρ) _ hd args rfl (hG.call h _ _ _) W (bf.ext P _ _ a)) λen w' F=> ?_
   obtain⟨v,Q,g,S2,B,M,vs,E,I,rfl⟩:=F;rw[u]at E I
   have ah:k.H.length<=x.length:=E.cM.1
   have L:=SM h (sn:=b.sn) (R:=R) (λ_ _=>rfl) E (jG k.H b.lk x) (k.tr++[.bL]) (GG _ _ _) (λn m hr=>IY _ _ _ n m (by omega) (by grind)) (λn m=>y6 _ _ _ n (λ⟨p1,p2⟩=>m ⟨p1,by grind⟩))
    (λV n Y _ F=>GI x n Y (y V).2 F)
   have kr:=L.kr ay (λp hp=>by
    rw[rm];refine SO.bL L.ext (λr q hq=> ?_) (h.ay p hp)
    cases hk:jT R k.H.length r with
    |true=>exact L.hold r q hk
    |false=>
     cases r with
     |l n j=>cases hk
     |o n=>
      have O:=hq n rfl;subst O;intro t es h1 h2;have d:=h1;simp only[Wk.get,Go.Am.cont]at d
      split at d
      .rename_i c ab
       simp only[xJ]at d
       subst d;simp only[T.at,xJ,T.own.injEq]at h2
       subst h2;have aa:n<k.H.length:=(List.getElem?_eq_some_iff.1 ab).1;have ad:n∉b.lk:=λac=>by grind [jT]
       obtain⟨c',d1,d2⟩:=Db _ x n c z (by grind [rB])
       refine⟨.own [c'],[c'],?_,rfl,⟨rfl,λi e he=> ?_⟩,λh' m=> ?_⟩
       .grind [Wk.get,Go.Am.cont,y6]
       .grind
       .simp only[aI]at m |-
        rw[m];have e2:hd3 R k.H.length hd B (.o n)=B (.o n):=by simp[hd3,hk]
        rw[e2,h.obj,E.obj,L.cM n aa]
      grind)
   obtain⟨Z,hd',r1,r2,_⟩:=QQ kr (L.ret H vs (λV=>(y V).1) I) e
   grind [MJ]
  .cases e
theorem SS{G:Nat->U D}{call:dF}(hc:gJ P G call){hint:Hint}{dst:Nat}{f:FuncId}{ds:J D}{b:bq}{r:SV×Wk}(e:gy call hint dst f ds b k=some r):GF P f:=by
 have c:∀(ds:J D) (b:bq),fg call hint dst f ds b k=some r->GF P f:=λds b e=>by
  unfold fg at e
  split at e
  .simp only[xB]at e
   obtain⟨x,a,_⟩:=e;exact hc.1 _ _ _ _ a
  .split at e
   .cases e
   .simp only[xB]at e
    obtain⟨x,a,_⟩:=e;exact hc.1 _ _ _ _ a
 unfold gy at e
 split at e
 .grind [xB]
 grind
theorem MK{C:CallT}(m:C.mono){G:Nat->U D}(hG:GA G A){call:dF}(hc:Ek C G call){hint:Hint}{dst:Nat}{f:FuncId}{ds:J D}{b:bq}{args:Array Vz}{sv:SV}(h:KR A ρ S hd fl k ay w)(a:bf (cxS b.sn b.lk A k.H.length ρ S fl w) ds args.toList)(e:gy call hint dst f ds b k=some (sv,k')):
  C ρ f args w λe w'=>∃v,Ends sv.bN e v/\∃d l hd',KR A d l hd' fl k' ay w'/\SO (am A k'.H.length d l fl w') k'.get hd' sv v:=by
 unfold gy at e
 split at e
 .simp only[xB]at e
  obtain⟨i,o,e⟩:=e;have j:Ext (cxS b.sn b.lk A k.H.length ρ S fl w) (cxS true (List.range k.H.length++b.lk) A k.H.length ρ S fl w):=GB (b:=b) (b':={sn:=true,lk:=List.range k.H.length++b.lk}) (λ_=>rfl) (λn c=>xR _ c) (λ_ _ g=>g)
  have p:=VP h (lk:=List.range k.H.length++b.lk) (λn c=>xL _ (List.mem_range.2 c)) ds i _ o (bf.ext j _ _ a)
  exact wo m hG hc h (b:={sn:=true,lk:=List.range k.H.length++b.lk}) (bf.bX (JV _ _ _) _ _ p) e
 .split at e
  .have j:Ext (cxS b.sn b.lk A k.H.length ρ S fl w) (cxS b.sn (b.lk++yW k.H) A k.H.length ρ S fl w):=GB (b:=b) (b':={sn:=b.sn,lk:=b.lk++yW k.H}) (λg=>g) (λn c=>xL _ c) (λ_ _ g=>g)
   exact wo m hG hc h (b:={sn:=b.sn,lk:=b.lk++yW k.H}) (bf.ext j _ _ a) e
  grind [wo]
end
mutual
theorem TC.cJ{c c':Cx}(h:∀b g,c.pm b g->c'.pm b g/\c'.w.heap[g]? =c.w.heap[g]?):∀(t:T) (cs:List Value) (S:List Nat),Kept c c' S->t.low 0=true->TC c t cs S->TC c' t cs S
 | .d x,cs,S,_,d,a=>by
  grind [TC,T.low,VC.cJ]
 | .dead,cs,S,_,_,a=>by grind [TC]
 | .agg f,cs,S,hk,d,a=>by
  have:=a9.cJ h f cs S hk d a;grind [TC]
 | .own p,cs,S,hk,d,a=>by
  simp only[TC]at a |-
  simp only[T.low]at d
  obtain a |⟨g,n,l,e,i,o,j,k,h3,h4,h5,h6,h7,u⟩:=a
  .exact .inl a
  .subst k
   exact .inr ⟨g,n,l,e,i,o,j,rfl,by rw[hk g (by simp)];exact h3,h4,h5,h6,h7,TE.cJ h p i _ o (λx q=>hk x (by simp[q])) d u⟩
theorem a9.cJ{c c':Cx}(h:∀b g,c.pm b g->c'.pm b g/\c'.w.heap[g]? =c.w.heap[g]?):∀(f:List T) (cs:List Value) (S:List Nat),Kept c c' S->T.aQ 0 f=true->a9 c f cs S->a9 c' f cs S
 | [],_,_,_,_,a=>by grind [a9]
 |t::f,cs,S,hk,d,a=>by
  simp only[a9]at a |-
  simp only[T.aQ,xA]at d
  obtain⟨v,r,S1,m,j,k,h3,h4⟩:=a;subst k
  exact⟨v,r,S1,m,j,rfl,TC.cJ h t _ _ hk.left d.1 h3,a9.cJ h f _ _ hk.right d.2 h4⟩
theorem TE.cJ{c c':Cx}(h:∀b g,c.pm b g->c'.pm b g/\c'.w.heap[g]? =c.w.heap[g]?):∀(f:List T) (i:Nat) (cs:List Value) (S:List Nat),Kept c c' S->T.aQ 0 f=true->TE c f i cs S->TE c' f i cs S
 | [],_,_,_,_,_,a=>by grind [TE]
 |t::f,i,cs,S,hk,d,a=>by
  simp only[TE]at a |-
  simp only[T.aQ,xA]at d
  obtain⟨s,w,S1,m,j,k,h3,h4,h5⟩:=a;subst k
  exact⟨s,w,S1,m,j,rfl,h3,TC.cJ h t _ _ hk.left d.1 h4,TE.cJ h f i _ _ hk.right d.2 h5⟩
end
def ai6(A:Av)(S:aj->J Nat)(fl X:J Nat)(w:Wz)(ρ:Nat->Nat):Av:=
 {w0:=w,F:=λt b=>A.F t b\/(bS S fl b/\b∉X),O0:=λb=>b∈X,n0:=0,ρ0:=ρ,mono:=λb h=>h.imp (A.mono b) id}
def axF(X:J Nat):aj->J Nat:=λr=>if r=.l 0 0 then X else []
def avZ(hd:aj->Vz)(v:Vz):aj->Vz:=λr=>if r=.l 0 0 then v else hd r
section
variable{P:Pz}{A:Av}{ρ:Nat->Nat}{S:aj->J Nat}{hd:aj->Vz}{fl X:J Nat}{k k':Wk}{ay:J (SV×Vz)}{w:Wz}
theorem GA.row{G:Nat->U D}(hG:GA G A)(h:KR A ρ S hd (X++fl) k ay w):GA G (ai6 A S (X++fl) X w ρ):=λg d e=>by
 obtain⟨f,i,q3⟩:=hG.now h e;obtain⟨_,_,h3,c,h4,h5⟩:=hG g d e
 refine⟨i,λb=>f (.inr (by simp[show g∈X from b])),λt a=> ?_,c,h4.same q3,h5⟩
 obtain a |a:=a
 .exact h3 t a
 grind
theorem aej{G:Nat->U D}(hG:GA G A){call:dF}(hc:ab5 P G call){hint:Hint}{dst:Nat}{g:FuncId}(d:¬YB<=g){xs:J SV}{args:J Vz}{sv:SV}(h:KR A ρ S hd fl k ay w)(c:All2 (λu v=>(u,v)∈ay) xs args)(e:mvE P call hint dst g xs k=some (sv,k')):
  Calls P g args.toArray w λe w'=>∃v,Ends sv.bN e v/\∃a b hd',KR A a b hd' fl k' ay w'/\SO (am A k'.H.length a b fl w') k'.get hd' sv v:=by simp[mvE]at e
end
theorem x_{P:Pz}{g:FuncId}{nm:String}{c:Cx}{ds:J D}{vs:J Vz}{d:D}{w:Wz}(hf:Aw P g=some nm)(hv:bf c ds vs)(e:Sl nm ds=some d):∃v,(callFunc g vs.toArray).run P w=.ok (.value v) w/\VV c d v:=by simp[Sl]at e
theorem bf.append{c:Cx}:∀(l:J D) (vs:J Vz) (b:J D) (a:J Vz),bf c l vs->bf c b a->bf c (l++b) (vs++a)
 | [],_,_,_,e,f=>by grind [bf]
 |d::g,vs,b,a,e,f=>by
  simp only[bf]at e
  obtain⟨v,r,rfl,h,h3,h4⟩:=e
  have:=bf.append g r b a h4 f;grind [bf]
section
variable{P:Pz}{A:Av}{ρ:Nat->Nat}{S:aj->J Nat}{hd:aj->Vz}{fl:J Nat}{k k':Wk}{ay:J (SV×Vz)}{w:Wz}
theorem i7{f:FuncId}{fn:Func}{args:Array Vz}(hf:P.funcs[f]? =some fn)(hb:fn.body.isSome=true)(hn:(fn.name== "runtime.NumGoroutine")=false):(callFunc f args).run P w=.ok (.enter f args) w:=by
 obtain⟨c,hb⟩:=Option.isSome_iff_exists.1 hb;simp only[callFunc,Sem.run_bind,run_program,Result.andThen_ok,hf,hn,xH,if_false,hb]
 simp
def FW(ro:U Nat):Fence:={Fence.wide with round:=ro}
theorem km{ro:U Nat}{n:Nat}{f:FuncId}{args:Array Vz}{w:Wz}{R:Ending->Wz->Prop}:CallsIn (FW ro) n P f args w R↔Calls P f args w R:=callsIn_wide (n:=n)
theorem Pa{ro:U Nat}{n l:Nat}{f:FuncId}{tmps:Array Vz}{x y:Code}{w:Wz}{R:Ending->Wz->Prop}(h:RoundIn Fence.wide 0 P l f tmps x y w R):RoundIn (FW ro) n P l f tmps x y w R:=
 ⟨trivial,λc a _=>h.2 c a (room_wide _)⟩
theorem Dc:CallT.mono (ck P):=λ_ _ _ _ _ _ h a=>h.mono a
theorem VV.flat{c c':Cx}{d:D}{v:Vz}(hf:d.flat=true)(h:VV c d v):VV c' d v:=⟨VC.flat _ _ hf h.1,h.2⟩
theorem ML{G:Nat->U D}(hG:GA G A){call:dF}(hc:gJ P G call)(h:KR A ρ S hd fl k ay w){hint:Hint}{nv dst:Nat}{xs:J SV}{l av bv:J Vz}{g:FuncId}{first cap ds:J D}{b:bq}{k1:Wk}{sv:SV}
  (c:All2 (λu v=>(u,v)∈ay) xs l) (ha:bf (am A k.H.length ρ S fl w) first av) (hb:bf (am A k.H.length ρ S fl w) cap bv) (z:¬YB<=g) (e1:gS nv xs k {}=some (ds,k1,b)) (o:gy call hint dst g (canon b.sn (first++ds++cap)) b k1=some (sv,k')):
  (∀vs:Array Vz,(callFunc g vs).run P w=.ok (.enter g vs) w)/\∀vs:Array Vz,vs.toList=av++l++bv->Calls P g vs w λe w'=>∃v,Ends sv.bN e v/\∃d j hd',KR A d j hd' fl k' ay w'/\SO (am A k'.H.length d j fl w') k'.get hd' sv v:=by
 obtain⟨S1,n,r⟩:=GC _ _ ds k k1 S {} b h c e1
 have m:Ext (am A k.H.length ρ S fl w) (cxS b.sn b.lk A k1.H.length ρ S1 fl w):=by
  have q:=n.ext;have p:=rz (A:=A) (ρ:=ρ) (S:=S) (fl:=fl) (w:=w) ({}:bq).sn ({}:bq).lk k.H.length
  exact⟨λt g B=>⟨(q.pm t g (p.pm t g B).1).1,rfl⟩,ff p.nO q.nO,λ_ _=>rfl⟩
 obtain⟨E,x,s,y⟩:=(SS hc o).resolve_left z
 refine⟨λvs=>i7 x s y,λvs i=> ?_⟩
 have a:bf (cxS b.sn b.lk A k1.H.length ρ S1 fl w) (first++ds++cap) vs.toList:=by
  rw[i];exact bf.append _ _ _ _ (bf.append _ _ _ _ (bf.ext m _ _ ha) r) (bf.ext m _ _ hb)
 have f:=MK (C:=ck P) Dc hG hc.2.1 n.kr (bf.canon (JV _ _ _) a) o
 grind [ck]
theorem MM{o:Qz}{args:Array Oz}{c:Oz->SV}{a:Act}(hv:∀x∈o.op.operands,(c x,a.eval x)∈ay)(e:∀x∈args.toList,x∈o.op.operands):All2 (λu v=>(u,v)∈ay) (args.toList.map c) (args.toList.map a.eval):=by
 have b:∀x∈args.toList,(c x,a.eval x)∈ay:=λx h=>hv x (e x h)
 revert b
 generalize args.toList=d
 induction d with
 |nil=>intro _;rfl
 |cons p d g=>intro b;exact⟨_,_,rfl,b p (by simp),g (λq f=>b q (by simp[f]))⟩
theorem MN{G:Nat->U D}(hG:GA G A){call:dF}(hc:gJ P G call)(h:KR A ρ S hd fl k ay w)(l:k.tr=[]){hint:Hint}{nv dst:Nat}{o:Qz}{f:Oz}{args:Array Oz}{cu:Array TypeId}{j:Oz->SV}{a:Act}{g:FuncId}{first cap ds:J D}{b:bq}{k1:Wk}{sv:SV}
  (q:o.op=.call {callee:=.value f,args,argTypes:=cu}) (hv:∀x∈o.op.operands,(j x,a.eval x)∈ay) (hf:j f=.d (.fn (.func g) first cap)) (p:¬YB<=g) (e1:gS nv (args.toList.map j) k {}=some (ds,k1,b)) (t:gy call hint dst g (canon b.sn (first++ds++cap)) b k1=some (sv,k')):
  ∃vs,(execOp a.eval o).run P w=.ok (.enter g vs) w/\Calls P g vs w λe w'=>∃v,Ends sv.bN e v/\∃i m hd',KR A i m hd' fl k' ay w'/\SO (am A k'.H.length i m fl w') k'.get hd' sv v:=by
 have d:=h.ay _ (hv f (by grind [Op.operands,Call.operands]))
 rw[l]at d
 simp only[aU,hf]at d
 have c:=VV.inv d (by simp)
 simp only[VC,xC,and_true]at c
 obtain⟨z,u,s,r,n⟩:=c;obtain⟨y,C⟩:=ML hG hc h (MM hv (args:=args) λx B=>by grind [Op.operands,Call.operands]) r n p e1 t
 simp_all [execOp,resolve,Deferred.ofValue,invoke]
theorem VQ{G:Nat->U D}(hG:GA G A){call:dF}(hc:gJ P G call)(h:KR A ρ S hd fl k ay w)(B:k.tr=[]){hint:Hint}{nv dst:Nat}{o:Qz}{x:Oz}{nm:String}{args:Array Oz}{cu:Array TypeId}{q:Oz->SV}{a:Act}{g:FuncId}{y:D}{ds:J D}{b:bq}{k1:Wk}{sv:SV}
  (j:o.op=.call {callee:=.invoke x nm,args,argTypes:=cu}) (hv:∀x∈o.op.operands,(q x,a.eval x)∈ay) (hf:Mj P nm (q x)=some (g,y)) (M:¬YB<=g) (e1:gS nv (args.toList.map q) k {}=some (ds,k1,b)) (T:gy call hint dst g (canon b.sn (y::ds)) b k1=some (sv,k')):
  ∃vs,(execOp a.eval o).run P w=.ok (.enter g vs) w/\Calls P g vs w λe w'=>∃v,Ends sv.bN e v/\∃i C hd',KR A i C hd' fl k' ay w'/\SO (am A k'.H.length i C fl w') k'.get hd' sv v:=by
 have d:=h.ay _ (hv x (by grind [Op.operands,Call.operands]))
 rw[B]at d
 unfold Mj at hf
 split at hf
 .rename_i t L E
  simp only[xM,pJ]at hf
  obtain⟨W,K,rfl,rfl⟩:=hf;simp only[aU,E]at d
  have c:=VV.inv d (by simp)
  simp only[VC,xC,and_true]at c
  obtain⟨l,z,V,h3⟩:=c;obtain⟨N,R⟩:=ML (first:=[L]) (cap:=[]) (av:=[l]) (bv:=[]) hG hc h (MM hv (args:=args) λx E=>by grind [Op.operands,Call.operands]) (by grind [bf]) (by simp only[bf]) M e1 (by simpa using T)
  refine⟨_,?_,R (#[l]++args.map a.eval) (by simp)⟩
  have f:a.eval x=.iface t l:=z;obtain⟨F,op,H,O,s,p⟩:=o;simp only at j;subst j;have m:=λn=>t_ (w:=w) (v:=l) K n
  have hd:P.types.size+Made.depth=(P.types.size+99)+1:=rfl;have I:∀(u:Vz) (r:Array Vz),(#[u]++r)[0]? =some u:=λu r=>by grind
  have Q:∀(u:Vz) (r:Array Vz),(#[u]++r).extract 1 (#[u]++r).size=r:=λu r=>by
   simp_all
  simp only[execOp,resolve,Sem.run_bind,Sem.run_pure,Result.andThen_ok,invoke,I,Q,callMethod,f,run_program,hd,m];exact N _
 .cases hf
theorem x?{G:Nat->U D}{call:dF}(hc:gJ P G call){hint:Hint}{dst:Nat}{g:FuncId}{xs:J SV}{r:SV×Wk}(e:mvE P call hint dst g xs k=some r):GF P g:=by simp[mvE]at e
theorem SW{G:Nat->U D}(hG:GA G A){call:dF}(hc:gJ P G call)(h:KR A ρ S hd fl k ay w)(r:k.tr=[]){hint:Hint}{dst:Nat}{o:Qz}{f:Oz}{args:Array Oz}{cu:Array TypeId}{n:Oz->SV}{a:Act}{g:FuncId}{first cap:J D}{sv:SV}
  (I:o.op=.call {callee:=.value f,args,argTypes:=cu}) (hv:∀x∈o.op.operands,(n x,a.eval x)∈ay) (hf:n f=.d (.fn (.func g) first cap)) (B:¬YB<=g) (m:(first.isEmpty&&cap.isEmpty)=true) (e1:mvE P call hint dst g (args.toList.map n) k=some (sv,k')):
  ∃vs,(execOp a.eval o).run P w=.ok (.enter g vs) w/\Calls P g vs w λe w'=>∃v,Ends sv.bN e v/\∃l t hd',KR A l t hd' fl k' ay w'/\SO (am A k'.H.length l t fl w') k'.get hd' sv v:=by
 simp only[xA,List.isEmpty_iff]at m
 obtain⟨rfl,rfl⟩:=m;have i:=h.ay _ (hv f (by grind [Op.operands,Call.operands]))
 rw[r]at i
 simp only[aU,hf]at i
 have d:=VV.inv i (by simp)
 simp only[VC,xC,and_true]at d
 obtain⟨F,H,K,s,y⟩:=d;simp only[bf]at s y
 have j:All2 (λu v=>(u,v)∈ay) (args.toList.map n) (args.toList.map a.eval):=by
  have c:∀x∈args.toList,(n x,a.eval x)∈ay:=λx N=>hv x (by grind [Op.operands,Call.operands])
  revert c
  generalize args.toList=z
  induction z with
  |nil=>intro _;rfl
  |cons p z E=>intro c;exact⟨_,_,rfl,c p (by simp),E (λq C=>c q (by simp[C]))⟩
 have b:=aej hG hc.2.2 B h j e1;obtain⟨fn,M,L,O⟩:=(x? hc e1).resolve_left B
 refine⟨(args.toList.map a.eval).toArray,?_,b⟩
 have Q:(F++args.map a.eval)++H=(args.toList.map a.eval).toArray:=by
  apply Array.ext';simp[s,y]
 grind [execOp,resolve,Deferred.ofValue,invoke,i7]
theorem Cc{o:Qz}{f:Oz}{args:Array Oz}{cu:Array TypeId}(a:o.op=.call {callee:=.value f,args,argTypes:=cu}):∀c,o.op≠ .defer c:=λc h=>by grind
theorem IZ(h:KR A ρ S hd fl k ay w)(l:k.tr=[]){o:Qz}{f:Oz}{args:Array Oz}{cu:Array TypeId}{m:Oz->SV}{a:Act}{g:FuncId}{first cap ds:J D}{nm:String}{y:D}
  (j:o.op=.call {callee:=.value f,args,argTypes:=cu}) (hv:∀x∈o.op.operands,(m x,a.eval x)∈ay) (hf:m f=.d (.fn (.func g) first cap)) (n:Aw P g=some nm) (e1:SV.bG (args.toList.map m)=some ds) (N:Sl nm (first++ds++cap)=some y):
  ∃v,(execOp a.eval o).run P w=.ok (.value v) w/\VV (am A k.H.length ρ S fl w) y v:=by
 have e:=h.ay _ (hv f (by grind [Op.operands,Call.operands]))
 rw[l]at e
 simp only[aU,hf]at e
 have c:=VV.inv e (by simp)
 simp only[VC,xC,and_true]at c
 obtain⟨K,M,s,H,L⟩:=c
 have i:All2 (SO (am A k.H.length ρ S fl w) k.get hd) (args.toList.map m) (args.toList.map a.eval):=by
  have b:∀x∈args.toList,(m x,a.eval x)∈ay:=λx O=>hv x (by grind [Op.operands,Call.operands])
  revert b
  generalize args.toList=B
  induction B with
  |nil=>intro _;rfl
  |cons p B I=>
   intro b
   refine⟨_,_,rfl,?_,I (λq G=>b q (by simp[G]))⟩
   have:=h.ay _ (b p (by simp))
   rw[l]at this
   exact this
 have d:bf (am A k.H.length ρ S fl w) (first++ds++cap) ((K++args.map a.eval)++M).toList:=by
  simp only[Array.toList_append,Array.toList_map];exact bf.append _ _ _ _ (bf.append _ _ _ _ H (SV.pures_VVs _ _ _ e1 i)) L
 obtain⟨v,z,u⟩:=x_ (P:=P) (g:=g) (w:=w) n d N
 refine⟨v,?_,u⟩
 obtain⟨C,op,F,E,r,t⟩:=o;simp only at j;subst j;simp only[execOp,resolve,s,Deferred.ofValue,Sem.run_bind,Sem.run_pure,Result.andThen_ok,invoke];rw[Array.toArray_toList]at z
 exact z
theorem MO{G:Nat->U D}(hG:GA G A)(h:KR A ρ S hd fl k ay w)(j:k.tr=[]){hint:Hint}(i:∀g d,hint.gl g=some d->G g=some d){dst:Nat}{ty:TypeId}{o:Qz}{l:Oz->SV}{a:Act}{sv:SV}{ro:U Nat}(hv:∀x∈o.op.operands,(l x,a.eval x)∈ay)(e:opE P hint dst ty o.op l k=some (sv,k'))
  {next:Act->Wz->Prop} {Q:Exit->Act->Wz->Prop} (hn:∀v w' b f hd',KR A b f hd' fl k' ay w'->SO (am A k'.H.length b f fl w') k'.get hd' sv v->next (a.put o.dst v) w'):o.wpIn (FW ro) 0 P a w next Q:=by
 obtain⟨n,v,w',b,f,hd',m,p,h3,h4⟩:=VL hG h j i (ev:=a.eval) (λ_=>rfl) hv e
 refine⟨λ_ _=>trivial,?_⟩
 rw[Oper.semAt_eq _ _ _ (λc q=>by grind [opE]),m]
 obtain rfl |⟨rfl,rfl⟩:=p
 .exact hn v w' b f hd' h3 h4
 .exact hn undef w' b f hd' h3 h4
theorem VR{G:Nat->U D}(hG:GA G A){call:dF}(hc:gJ P G call)(h:KR A ρ S hd fl k ay w)(B:k.tr=[]){hint:Hint}(ac:∀g d,hint.gl g=some d->G g=some d){dst:Nat}{ty:TypeId}{o:Qz}{N:Oz->SV}{a:Act}{sv:SV}{ro:U Nat}(hv:∀x∈o.op.operands,(N x,a.eval x)∈ay)(e:dD P call hint dst ty o.op N k=some (sv,k'))
  {next:Act->Wz->Prop} {Q:Exit->Act->Wz->Prop} (hn:∀v w' H S' hd',KR A H S' hd' fl k' ay w'->SO (am A k'.H.length H S' fl w') k'.get hd' sv v->next (a.put o.dst v) w'):o.wpIn (FW ro) 0 P a w next Q:=by
 have K:∀{r:SV×Wk},jP r=some (sv,k')->r=(sv,k')/\sv.bN=false:=λ{r} e=>by
  grind [jP]
 unfold dD at e
 split at e
 .rename_i f i cu l
  split at e
  .rename_i g first ad M
   split at e
   .cases e
   rename_i hy
   split at e
   .rename_i nm V
    simp only[xB,xM,pJ]at e
    obtain⟨O,I,y,L,rfl,rfl⟩:=e;obtain⟨v,j,T⟩:=IZ h B l hv M V I L
    refine⟨λ_ _=>trivial,?_⟩
    rw[Oper.semAt_eq _ _ _ (Cc l),j,Oper.uponIn_value];exact hn v w ρ S hd h T
   simp only[xB]at e
   obtain⟨⟨O,k1,b⟩,I,r,L,X⟩:=e;obtain⟨rfl,Y⟩:=K X;obtain⟨vs,j,c⟩:=MN hG hc h B l hv M hy I L
   refine⟨λ_ _=>trivial,?_⟩
   grind [Oper.semAt_eq,Oper.uponIn_enter,FW,Fence.wide,km,Calls.mono,Ends]
  .rename_i yo M
   simp only[xB]at e
   obtain⟨⟨O,k1,b⟩,I,r,L,X⟩:=e;obtain⟨rfl,Y⟩:=K X;have z:=h.ay _ (hv f (by grind [Op.operands,Call.operands]))
   rw[B]at z
   simp only[aU,M]at z
   have n:=VV.inv z (by simp)
   simp only[VC,xC,and_true]at n
   obtain⟨ag,Z⟩:=n
   have J:All2 (λu v=>(u,v)∈ay) (i.toList.map N) (i.toList.map a.eval):=by
    have m:∀x∈i.toList,(N x,a.eval x)∈ay:=λx hx=>hv x (by grind [Op.operands,Call.operands])
    revert m
    generalize i.toList=ps
    induction ps with
    |nil=>intro _;rfl
    |cons p ps ih=>intro m;exact⟨_,_,rfl,m p (by simp),ih (λq hq=>m q (by simp[hq]))⟩
   obtain⟨S1,g1,g2⟩:=GC _ _ O k k1 S {} b h J I
   have s:bf (cxS b.sn b.lk A k1.H.length ρ S1 fl w) O (i.map a.eval).toList:=by
    simp only[Array.toList_map];exact g2
   have c:=MK (C:=ck P) Dc hG hc.2.1 g1.kr (bf.canon (JV _ _ _) s) L;unfold ck at c;rw[if_pos (rc _ _),qX]at c
   obtain⟨r,q1,q2,q3⟩:=c
   have j:(execOp a.eval o).run P w=.ok (.round (ρ yo) r.fn ((r.params.zip (i.map a.eval)).foldl (λE (t,a)=>E.setIfInBounds t a) r.tmps) r.assign r.body) w:=by
    obtain⟨aa,op,ab,af,W,R⟩:=o;simp only at l;subst l;have F:a.eval f=.func (.yield (ρ yo)) #[] #[]:=Z;simp only[execOp,resolve,F,Deferred.ofValue,Sem.run_bind,Sem.run_pure,Result.andThen_ok,invoke]
    simpa using run_yield (P:=P) q1 q2
   refine⟨λ_ _=>trivial,?_⟩
   rw[Oper.semAt_eq _ _ _ (Cc l),j,Oper.uponIn_round]
   refine⟨λhh=>by simp[FW,Fence.wide]at hh,Pa (q3.mono λen w' he=> ?_)⟩
   grind [Ends]
  .cases e
 grind [MO]
theorem VS{G:Nat->U D}(hG:GA G A){call:dF}(hc:gJ P G call)(h:KR A ρ S hd fl k ay w)(F:k.tr=[]){hint:Hint}(ac:∀g d,hint.gl g=some d->G g=some d){dst:Nat}{ty:TypeId}{o:Qz}{σ:Oz->SV}{a:Act}{t:U D}{sv:SV}{ro:U Nat}(hv:∀x∈o.op.operands,(σ x,a.eval x)∈ay)(e:gZ P call hint dst ty o.op σ k=some (t,sv,k'))
  {next:Act->Wz->Prop} {Q:Exit->Act->Wz->Prop} (hn:t=none->∀v w' l I hd',KR A l I hd' fl k' ay w'->SO (am A k'.H.length l I fl w') k'.get hd' sv v->next (a.put o.dst v) w')
  (hp:∀d,t=some d->∀x w' l I hd',KR A l I hd' fl k' ay w'->(∀c,VV c d x)->Q (.panic [{v:=x,recovered:=false}]) a w'):o.wpIn (FW ro) 0 P a w next Q:=by
 unfold gZ at e
 split at e
 .rename_i x m
  split at e
  .rename_i tt y hx
   split at e
   .rename_i s
    simp only[xJ,pJ]at e
    obtain⟨rfl,rfl,rfl⟩:=e;have E:=h.ay _ (hv x (by grind [Op.operands]))
    rw[F]at E
    simp only[aU,hx]at E
    have J:(D.iface tt y).flat=true:=by simpa [D.flat]using s
    have K:=VV.inv (c:=am A k.H.length ρ S fl w) E (by simp)
    simp only[VC,xC,and_true]at K
    obtain⟨T,N,_,_⟩:=K
    refine⟨λ_ _=>trivial,?_⟩
    rw[Oper.semAt_eq _ _ _ (λc hc=>by grind)]
    have j:(execOp a.eval o).run P w=.halt (.panic (.iface tt T)) w:=by
     obtain⟨aa,op,ab,af,Z,W⟩:=o;simp only at m;subst m;have q:a.eval x=.iface tt T:=N;simp[execOp,Instr.panic,q,goPanic,Sem.run_bind,Sem.run,Result.andThen]
    rw[j,Oper.uponIn_panic];refine hp _ rfl _ _ ρ S hd h λc=> ?_
    have q:a.eval x=.iface tt T:=N;rw[<-q];exact VV.flat J E
   .cases e
  .cases e
 .rename_i f L cu m
  split at e
  .rename_i g first ad hf
   split at e
   .cases e
   rename_i O
   split at e
   .split at e
    .rename_i V
     simp only[xM,xB,pJ]at e
     obtain⟨⟨v0,k2⟩,⟨⟨v1,k1⟩,M,H⟩,rfl,rfl,rfl⟩:=e;unfold jP at H
     split at H
     .cases H
     rename_i ag;simp only[xJ,pJ]at H
     obtain⟨rfl,rfl⟩:=H;obtain⟨vs,j,i⟩:=SW hG hc h F m hv hf O V M
     refine⟨λ_ _=>trivial,?_⟩
     grind [Oper.semAt_eq,Oper.uponIn_enter,FW,Fence.wide,km,Calls.mono,Ends]
    .cases e
   simp only[xB]at e
   obtain⟨⟨ds,k1,b⟩,M,⟨v0,k2⟩,H,p⟩:=e;obtain⟨vs,j,i⟩:=MN hG hc h F m hv hf O M H
   refine⟨λ_ _=>trivial,?_⟩
   rw[Oper.semAt_eq _ _ _ (Cc m),j,Oper.uponIn_enter]
   refine⟨λhh=>by simp[FW,Fence.wide]at hh,km.2 (Calls.mono i λen w' Y=> ?_)⟩
   obtain⟨v,n,l,I,hd',R,r2⟩:=Y;simp only at p
   split at p
   .rename_i d
    split at p
    .rename_i s
     simp only[xJ,pJ]at p
     obtain⟨rfl,rfl,rfl⟩:=p;unfold Ends at n;rw[if_pos (show SV.bN (.aS [.d d,.agg []])=true from rfl)]at n
     obtain⟨x,rfl,rfl⟩:=n;obtain⟨us,B,z⟩:=r2;simp only[Value.tuple.injEq]at B
     subst B;obtain⟨u,r,C,X,_⟩:=z;simp only[xC]at C
     obtain⟨rfl,_⟩:=C;exact hp d rfl x w' l I hd' R (λc=>VV.flat s X)
    .cases p
   grind [SV.bN,Ends]
  .cases e
 .rename_i x nm L cu m
  simp only[xB]at e
  obtain⟨⟨g,y⟩,e0,e⟩:=e;simp only at e
  split at e
  .cases e
  .rename_i O
   simp only[xB]at e
   obtain⟨⟨ds,k1,b⟩,M,⟨v0,k2⟩,H,p⟩:=e;obtain⟨vs,j,i⟩:=VQ hG hc h F m hv e0 O M H
   refine⟨λ_ _=>trivial,?_⟩
   rw[Oper.semAt_eq _ _ _ (λc hc=>by grind),j,Oper.uponIn_enter]
   refine⟨λhh=>by simp[FW,Fence.wide]at hh,km.2 (Calls.mono i λen w' Y=> ?_)⟩
   obtain⟨v,n,l,I,hd',R,r2⟩:=Y;simp only at p
   split at p
   .rename_i d
    split at p
    .rename_i s
     simp only[xJ,pJ]at p
     obtain⟨rfl,rfl,rfl⟩:=p;unfold Ends at n;rw[if_pos (show SV.bN (.aS [.d d,.agg []])=true from rfl)]at n
     obtain⟨x,rfl,rfl⟩:=n;obtain⟨us,B,z⟩:=r2;simp only[Value.tuple.injEq]at B
     subst B;obtain⟨u,r,C,X,_⟩:=z;simp only[xC]at C
     obtain⟨rfl,_⟩:=C;exact hp d rfl x w' l I hd' R (λc=>VV.flat s X)
    .cases p
   grind [SV.bN,Ends]
 grind [xM,MO]
end
section
variable{P:Pz}{A:Av}{ρ:Nat->Nat}{S:aj->J Nat}{hd:aj->Vz}{fl:J Nat}{k k':Wk}{ay vals':J (SV×Vz)}{w:Wz}
theorem KR.dp(h:KR A ρ S hd fl k ay w)(hv:∀p∈vals',SO (am A k.H.length ρ S fl w) k.get hd (aU k.tr p.1) p.2):KR A ρ S hd fl k vals' w:=
 ⟨h.cont,h.gone,h.obj,h.map,h.bz,h.bT,hv,h.fr,h.Fold,h.cM⟩
theorem KR.hush(h:KR A ρ S hd fl k ay w):KR A ρ S hd fl {ct:=k.ct,H:=k.H} [] w:=
 ⟨h.cont,h.gone,h.obj,h.map,h.bz,h.bT,by simp,h.fr,h.Fold,h.cM⟩
def SR(A:Av)(s:St)(a:Act)(w:Wz):Prop:=
 ∃ρ S hd,KR A ρ S hd [] s.wk [] w/\∀t,SO (am A s.H.length ρ S [] w) s.wk.get hd (s.get t) (a.tmps.getD t undef)
theorem VT(l:J Tr):aU l .dead=.dead:=by
 induction l with
 |nil=>rfl
 |cons x l a=>
  have:x.sv .dead=.dead:=by cases x <;>rfl
  grind [aU]
theorem VU(x:Tr)(env:J (Nat×SV))(t:Nat):look (x.env env) t=(look env t).map x.sv:=by
 induction env with
 |nil=>rfl
 |cons p r a=>
  grind [Tr.env,look]
theorem MP(l:J Tr):∀(env:J (Nat×SV)) (t:Nat),look (trs l env) t=(look env t).map (aU l):=by
 induction l with
 |nil=>simp_all [trs,aU]
 |cons x l a=>
  intro env t;simp only[trs,a,VU,Option.map_map];congr 1
theorem MQ{env:J (Nat×SV)}{t:Nat}{v:SV}(h:look env t=some v):t∈env.map (·.1):=by
 induction env with
 |nil=>cases h
 |cons p r a=>
  grind [look]
theorem GJ{c:Cx}{K:aj->U T}{hd:aj->Vz}{a:Act}{x:Oz}(hx:∀t,x≠ .tmp t):SO c K hd (Mg x) (a.eval x):=by
 cases x with
 |tmp t=>grind
 |const v=>
  simp only[Mg,Act.eval];split
  .rename_i y b;exact mj b
  .trivial
 |global g=>trivial
 |func f=>
  refine VV.one ?_ (by simp)
  simp only[VC]
  exact⟨#[], #[],rfl,rfl,rfl⟩
theorem SR.val{s:St}{a:Act}(b:∀t,SO (am A s.H.length ρ S [] w) s.wk.get hd (s.get t) (a.tmps.getD t undef))(x:Oz):SO (am A s.H.length ρ S [] w) s.wk.get hd (s.val x) (a.eval x):=by
 cases x with
 |tmp t=>exact b t
 |const v=>exact GJ (x:=.const v) (by simp)
 |global g=>exact GJ (x:=.global g) (by simp)
 |func f=>exact GJ (x:=.func f) (by simp)
theorem SR.fin{s:St}{a:Act}{d:U Nat}{sv:SV}{v:Vz}{k':Wk}{ay:J (SV×Vz)}{b:Nat->Nat}{f:aj->J Nat}{hd':aj->Vz}{w':Wz}
  (h:KR A b f hd' [] k' ay w') (hv:SO (am A k'.H.length b f [] w') k'.get hd' sv v) (e:∀t∈s.env.map (·.1),(s.get t,a.tmps.getD t undef)∈ay) (hd:∀t,d=some t->t<a.tmps.size):SR A (s.fin d sv k') (a.put d v) w':=by
 refine⟨b,f,hd',h.hush,λt=> ?_⟩
 have c:SO (am A k'.H.length b f [] w') k'.get hd' ((look (trs k'.tr s.env) t).getD .dead) (a.tmps.getD t undef):=by
  rw[MP]
  cases j:look s.env t with
  |none=>trivial
  |some u=>
   have:=h.ay _ (e t (MQ j))
   grind [St.get]
 cases d with
 |none=>exact c
 |some d=>
  have g:=hd d rfl;show SO _ _ _ ((look ((d,sv)::trs k'.tr s.env) t).getD .dead) ((a.tmps.setIfInBounds d v).getD t undef);simp only[look]
  by_cases i:d=t
  .subst i
   rw[if_pos rfl]
   have:(a.tmps.setIfInBounds d v).getD d undef=v:=by simp[g]
   rw[this];exact hv
  .rw[if_neg i]
   have:(a.tmps.setIfInBounds d v).getD t undef=a.tmps.getD t undef:=by
    simp[yB,Ea i]
   rw[this];exact c
theorem ml(a:Act)(d:U Nat)(v:Vz):(a.put d v).tmps.size=a.tmps.size:=by cases d <;>simp[Act.put]
theorem MR(a:Act)(d:U Nat)(v:Vz):(a.put d v).defers=a.defers:=by cases d <;>rfl
theorem GK{s:St}{a:Act}{ops:Array Qz}{o:Qz}{b:Bool}(h:SR A s a w)(e:ik ops.toList s o=some b):Region.wanted o (yielded ops a.tmps)=b:=by
 obtain⟨ρ,S,hd,_,l⟩:=h;unfold ik at e;unfold Region.wanted
 split at e
 .grind
 .rename_i j g i
  rw[i]
  simp only
  split at e
  .rename_i t f
   rw[yM]at f
   have c:=l t
   split at e
   .rename_i r d
    simp only[xJ]at e
    rw[d]at c
    have c:=VV.of_bool c
    have m:t<a.tmps.size:=by
     obtain q |q:=gF t a.tmps.size
     .exact q
     .grind [undef]
    simp_all [yielded]
   .rename_i d
    simp only[xJ]at e
    rw[d]at c
    obtain⟨n,k,_⟩:=c
    have:yielded ops a.tmps j=none:=by
     unfold yielded;rw[f];simp only[xS]
     cases p:a.tmps[t]? with
     |none=>rfl
     |some x=>
      simp_all
    rw[this,<-e];rfl
   .cases e
  .cases e
def jE(s:St)(a:Act)(xs:J Oz):J (SV×Vz):=s.env.map (λp=>(s.get p.1,a.tmps.getD p.1 undef))++xs.map λx=>(s.val x,a.eval x)
def Kp(a0:Act)(ds:J Nat)(a:Act):Prop:=a.defers=a0.defers/\a.tmps.size=a0.tmps.size/\∀t,t∉ds->a.tmps[t]? =a0.tmps[t]?
theorem Kp.refl(a:Act)(ds:J Nat):Kp a ds a:=⟨rfl,rfl,λ_ _=>rfl⟩
theorem Kp.trans{a b c:Act}{ds es:J Nat}(x:Kp a ds b)(y:Kp b es c):Kp a (ds++es) c:=
 ⟨y.1.trans x.1,y.2.1.trans x.2.1,λt d=>by simp only[xD,not_or]at d;exact(y.2.2 t d.2).trans (x.2.2 t d.1)⟩
theorem Kp.more{a b:Act}{ds es:J Nat}(x:Kp a ds b)(h:∀t∈ds,t∈es):Kp a es b:=⟨x.1,x.2.1,λt ht=>x.2.2 t (λq=>ht (h t q))⟩
theorem Kp.put{a0 a:Act}{ds:J Nat}(x:Kp a0 ds a){dst:U Nat}(hd:∀d,dst=some d->d∈ds)(v:Vz):Kp a0 ds (a.put dst v):=by
 refine⟨(MR _ _ _).trans x.1,(ml _ _ _).trans x.2.1,λt b=> ?_⟩
 rw[<-x.2.2 t b]
 cases dst with
 |none=>rfl
 |some d=>
  grind [Act.put]
theorem GL{G:Nat->U D}{call:dF}(hc:gJ P G call)(hG:GA G A){hint:Hint}(l:∀g d,hint.gl g=some d->G g=some d){ops:Array Qz}{o:Qz}{s s':St}{a a0:Act}{ds:J Nat}{ro:U Nat}(r:SR A s a w)(i:Kp a0 ds a)(hd:∀d,o.dst=some d->d∈ds/\d<a0.tmps.size)(e:nQ P call hint ops.toList o s=some s')
  {K:Act->Wz->Prop} {Q:Exit->Act->Wz->Prop} (u:∀m w',SR A s' m w'->Kp a0 ds m->K m w'):
  if Region.wanted o (yielded ops a.tmps)then o.wpIn (FW ro) 0 P a w K Q else(∀f,o.about P w a.eval=some f->(FW ro).fn f)/\K (a.put o.dst undef) w:=by
 simp only[nQ,xB]at e
 obtain⟨b,E,e⟩:=e;rw[GK r E];obtain⟨ρ,S,hd0,h,n⟩:=r
 have hk:KR A ρ S hd0 [] s.wk (jE s a o.op.operands.toList) w:=h.dp (λp y=>by
  simp only[jE,xD,j0]at y
  obtain⟨q,_,rfl⟩ |⟨x,_,rfl⟩:=y
  .exact n q.1
  .exact SR.val n x)
 have c:∀t∈s.env.map (·.1),(s.get t,a.tmps.getD t undef)∈jE s a o.op.operands.toList:=λt M=>by
  grind [jE]
 have k:∀d,o.dst=some d->d<a.tmps.size:=λd q=>by rw[i.2.1];grind
 have j:∀d,o.dst=some d->d∈ds:=λd q=>(hd d q).1
 cases b
 .simp only[xH,if_false,xJ]at e |-
  subst e
  refine⟨λ_ _=>trivial,u _ _ ?_ (i.put j _)⟩
  exact SR.fin (ay:=jE s a o.op.operands.toList) hk ⟨#[],rfl,rfl⟩ c k
 .simp only[if_true,xM]at e |-
  obtain⟨⟨H,k'⟩,F,rfl⟩:=e;refine VR hG hc hk rfl l (λx L=> ?_) F (λv w' B I hd' z C=> ?_)
  .grind [jE]
  .exact u _ _ (SR.fin z C c k) (i.put j _)
theorem y7{G:Nat->U D}{call:dF}(hc:gJ P G call)(hG:GA G A){hint:Hint}(k:∀g d,hint.gl g=some d->G g=some d){ops:Array Qz}{a0:Act}{ds:J Nat}{ro:U Nat}{Q:Exit->Act->Wz->Prop}:∀(l:J Qz) {s s':St} {t:U D} {a:Act} {w:Wz},SR A s a w->Kp a0 ds a->(∀o∈l,∀d,o.dst=some d->d∈ds/\d<a0.tmps.size)->gH P call hint ops.toList l s=some (t,s')->
  (t=none->∀m w',SR A s' m w'->Kp a0 ds m->Q .normal m w')->(∀d,t=some d->∀x m w',SR A s' m w'->Kp a0 ds m->(∀c,VV c d x)->Q (.panic [{v:=x,recovered:=false}]) m w')->wpListIn (FW ro) 0 P ops Q l a w
 | [],s,s',t,a,w,y,f,hd,e,z,hP=>by
  simp only[gH,xJ,pJ]at e
  obtain⟨rfl,rfl⟩:=e;exact z rfl a w y f
 |o::l,s,s',t,a,w,y,f,hd,e,z,hP=>by
  simp only[gH,xB]at e
  obtain⟨b,N,e⟩:=e;refine wpListIn_step λK L=> ?_
  rw[GK y N];obtain⟨ρ,S,hd0,h,I⟩:=y
  have hk:KR A ρ S hd0 [] s.wk (jE s a o.op.operands.toList) w:=h.dp (λp M=>by
   simp only[jE,xD,j0]at M
   obtain⟨q,_,rfl⟩ |⟨x,_,rfl⟩:=M
   .exact I q.1
   .exact SR.val I x)
  have i:∀t∈s.env.map (·.1),(s.get t,a.tmps.getD t undef)∈jE s a o.op.operands.toList:=λt n=>by
   grind [jE]
  have u:∀d,o.dst=some d->d<a.tmps.size:=λd q=>by rw[f.2.1];simp_all
  have r:∀d,o.dst=some d->d∈ds:=λd q=>(hd o (by simp) d q).1
  have j:∀B∈l,∀d,B.dst=some d->d∈ds/\d<a0.tmps.size:=λB E=>hd B (by simp[E])
  cases b
  .simp only[xH,if_false]at e |-
   refine⟨λ_ _=>trivial,L _ _ ?_⟩
   exact y7 hc hG k l (SR.fin (sv:=.aS []) (v:=undef) (ay:=jE s a o.op.operands.toList) hk ⟨#[],rfl,rfl⟩ i u) (f.put r _) j e z hP
  .simp only[if_true,xB]at e |-
   obtain⟨⟨t1,sv,k'⟩,R,e⟩:=e;refine VS hG hc hk rfl k (λx T=> ?_) R (λn v w' H O hd' F C=> ?_) (λd n x w' H O hd' F C=> ?_)
   .grind [jE]
   .subst n
    exact L _ _ (y7 hc hG k l (SR.fin F C i u) (f.put r _) j e z hP)
   .subst n
    simp only[xJ,pJ]at e
    obtain⟨rfl,rfl⟩:=e;exact hP d rfl x a w' (SR.fin (d:=none) (v:=undef) F trivial i (λt n=>by cases n)) f C
end
theorem rC{l:J SV}{u:SV}(hu:u∈l){p:Nat×Nat}(hp:p∈u.roots):p∈SV.cg l:=by
 induction l with
 |nil=>cases hu
 |cons a r b=>
  grind [SV.cg]
theorem rE{ct:J ((Nat×Nat)×T)}:∀(l:J (Nat×Nat)) (x:Nat×Nat),eZ (pick ct l) x=if x∈l then eZ ct x else none
 | [],x=>by simp[pick,eZ]
 |a::r,x=>by
  simp only[pick];split
  .rename_i t b
   simp only[eZ]
   by_cases h:a=x
   .subst h;simp[b]
   .rw[if_neg h,rE r x]
    grind
  .rename_i b
   rw[rE r x]
   by_cases h:a=x
   .subst h;simp[b]
   grind
section
variable{c c':Cx}{K K':aj->U T}{hd hd':aj->Vz}
theorem SO.on(hx:Ext c c')(G:aj->Prop)(B:∀r q,G r->wN c c' K K' hd hd' r q)(C:∀n,G (.o n)){u:SV}{v:Vz}(f:∀p∈u.roots,G (.l p.1 p.2))(h:SO c K hd u v):SO c' K' hd' u v:=by
 have F:∀(u:SV) (v:Vz),(∀p∈u.roots,G (.l p.1 p.2))->SB c K hd u v->SB c' K' hd' u v:=λu v f h=>by
  cases u with
  |aG r p m H=>exact SB.bR (B r p (by cases r with |l n j=>simp_all [SV.roots] |o n=>exact C n)) h
  |loc r p i m=>exact SB.bM (B r p (by cases r with |l n j=>simp_all [SV.roots] |o n=>exact C n)) h
  |_=>exact SB.bH hx (by simp) (by simp) h
 have D:∀(u:SV) (v:Vz),(∀p∈u.roots,G (.l p.1 p.2))->CO c K hd u v->CO c' K' hd' u v:=λu v f h=>by
  by_cases A:∃y,u=.d y
  .obtain⟨y,rfl⟩:=A
   exact VC.ext hx y _ h
  .have w:∀y,u≠ .d y:=λy e=>A ⟨y,e⟩
   have g:=F u v f (CO.to_SB w h)
   cases u <;>first |grind |exact g
 have E:∀(u:SV) (v:Vz),(∀p∈u.roots,G (.l p.1 p.2))->S1 c K hd u v->S1 c' K' hd' u v:=λu v f h=>by
  by_cases x:∃l,u=.agg l
  .obtain⟨l,rfl⟩:=x
   obtain⟨s,k,g⟩:=h
   exact⟨s,k,g.imp (λa t b d=>D a b (λp z=>f p (rC t z)) d)⟩
  grind [S1.of_SB,S1.to_SB]
 by_cases x:∃l,u=.aS l
 .obtain⟨l,rfl⟩:=x
  obtain⟨s,k,g⟩:=h
  exact⟨s,k,g.imp (λa t b d=>E a b (λp z=>f p (rC t z)) d)⟩
 grind [SO.of_S1,SO.to_S1]
end
section
variable{P:Pz}{A:Av}{ρ:Nat->Nat}{S:aj->J Nat}{hd:aj->Vz}{fl:J Nat}{k k':Wk}{ay vals':J (SV×Vz)}{w:Wz}
theorem KR.forget(h:KR A ρ S hd fl k ay w)(L:J (Nat×Nat)){ct:J ((Nat×Nat)×T)}(C:∀x,eZ ct x=if x∈L then eZ k.ct x else none):
  ∃a,KR A ρ a hd fl {ct,H:=k.H} [] w/\∀u v,(∀p∈u.roots,p∈L)->SO (am A k.H.length ρ S fl w) k.get hd u v->SO (am A k.H.length ρ a fl w) ({ct,H:=k.H}:Wk).get hd u v:=by
 let G:aj->Bool:=λr=>match r with | .l n j=>decide ((n,j)∈L) | .o _=>true
 let a:aj->J Nat:=λr=>if G r then S r else []
 have c:∀r b,b∈a r->b∈S r:=λr b e=>by
  grind
 have own:∀b,bS a fl b->bS S fl b:=λb e=>e.imp (λ⟨r,f⟩=>⟨r,c r b f⟩) id
 have s:WS S fl w a fl w:=WS.stay own;have ext:Ext (am A k.H.length ρ S fl w) (am A k.H.length ρ a fl w):=s.ext (dB _) (λ_ _=>rfl)
 have get:∀r,G r=true->({ct,H:=k.H}:Wk).get r=k.get r:=λr f=>by
  grind [Wk.get,Go.Am.cont]
 have y:∀r,G r=false->({ct,H:=k.H}:Wk).get r=none/\∀n,r≠ .o n:=λr f=>by
  grind [Wk.get,Go.Am.cont]
 refine⟨a,⟨λr t m=> ?_,λr f z=> ?_,h.obj,λn ob D i=> ?_,⟨λr=> ?_,h.bz.ndF,λr l b e g=>h.bz.one r l b (c r b e) (c l b g),λr b e=>h.bz.cq r b (c r b e)⟩,s.bT h,by simp,h.fr,h.Fold,h.cM⟩,λu v E B=> ?_⟩
 .cases d:G r with
  |true=>
   rw[get r d]at m
   have:a r=S r:=by simp[a,d]
   rw[this];exact TC.ext ext _ _ _ (λ_ _=>rfl) (h.cont r t m)
  |false=>grind
 .cases d:G r with
  |true=>
   rw[get r d]at f
   have:a r=S r:=by simp[a,d]
   rw[this];exact h.gone r f z
  |false=>simp[a,d]
 .exact(h.map n ob D i).ext ext (λ_ _=>rfl) (by simp[a,G]) rfl
 .simp only[a];split
  .exact h.bz.nd r
  .simp
 .refine SO.on ext (λr=>G r=true) (λr q d=>h.hold _ (get r d) rfl (λ_ _=>rfl) q) (λn=>rfl) (λp I=> ?_) B
  grind
theorem I2(live:J Nat)(f:Nat->SV)(t:Nat):look (live.map λt=>(t,f t)) t=if t∈live then some (f t)else none:=by
 induction live with
 |nil=>simp[look]
 |cons a r b=>
  grind [look]
theorem SR.prune{s:St}{a:Act}(e:SR A s a w)(live:J Nat):SR A (Go.Am.prune live s) a w:=by
 obtain⟨ρ,S,hd,h,d⟩:=e;obtain⟨c,g,f⟩:=h.forget (jQ (SV.cg ((live.map λt=>(t,s.get t)).map (·.2)))) (ct:=pick s.ct (jQ (SV.cg ((live.map λt=>(t,s.get t)).map (·.2))))) (λx=>rE _ x)
 refine⟨ρ,c,hd,g,λt=> ?_⟩
 have b:(Go.Am.prune live s).get t=if t∈live then s.get t else .dead:=by
  show(look (live.map λt=>(t,s.get t)) t).getD .dead=_
  rw[I2]
  split <;>rfl
 rw[b];split
 .rename_i j
  refine f _ _ (λp i=> ?_) (d t)
  rw[nE];refine rC (u:=s.get t) ?_ i
  grind
 .trivial
end
theorem TC.lo'{A:Av}{ρ:Nat->Nat}{S:aj->J Nat}{fl:J Nat}{w:Wz}{n n2:Nat}{t:T}{cs:J Vz}{M:J Nat}(hl:n2=n\/t.low n2=true)(h:TC (am A n ρ S fl w) t cs M):TC ((am A n ρ S fl w).lo n2) t cs M:=by
 obtain rfl |hl:=hl
 .exact h
 grind [TC.lo]
theorem VV.lo'{A:Av}{ρ:Nat->Nat}{S:aj->J Nat}{fl:J Nat}{w:Wz}{n n2:Nat}{x:D}{v:Vz}(hl:n2=n\/x.low n2=true)(h:VV (am A n ρ S fl w) x v):VV ((am A n ρ S fl w).lo n2) x v:=by
 obtain rfl |hl:=hl
 .exact h
 .exact⟨VC.lo _ _ hl h.1,h.2⟩
section
variable{P:Pz}{A:Av}{ρ:Nat->Nat}{S:aj->J Nat}{hd:aj->Vz}{fl:J Nat}{k k':Wk}{ay:J (SV×Vz)}{w:Wz}
theorem KR.cut(h:KR A ρ S hd fl k ay w){n2:Nat}(hn:n2<=k.H.length)(hA:A.n0<=n2)(hl:n2=k.H.length\/∀ob∈k.H.take n2,ob.low n2=true):
  ∃f,KR A ρ f hd fl {ct:=[],H:=k.H.take n2} [] w/\Ext ((am A k.H.length ρ S fl w).lo n2) (am A n2 ρ f fl w):=by
 let G:aj->Bool:=λr=>match r with | .l _ _=>false | .o n=>decide (n<n2)
 let f:aj->J Nat:=λr=>if G r then S r else []
 have z:(k.H.take n2).length=n2:=by simp;omega
 have B:∀r b,b∈f r->b∈S r:=λr b O=>by
  grind
 have own:∀b,bS f fl b->bS S fl b:=λb O=>O.imp (λ⟨r,hr⟩=>⟨r,B r b hr⟩) id
 have ext:Ext ((am A k.H.length ρ S fl w).lo n2) (am A n2 ρ f fl w):=⟨λt g K=>⟨⟨λho=>K.1 (own g ho),K.2.1,K.2.2⟩,rfl⟩,dB _,λ_ _=>rfl⟩
 have d:∀n ob,n<n2->k.H[n]? =some ob->n2=k.H.length\/ob.low n2=true:=λn ob aa R=>hl.imp id (λhl=>hl ob (yS (i:=n) (by grind)))
 have Q:∀n ob,(k.H.take n2)[n]? =some ob->n<n2/\k.H[n]? =some ob:=λn ob R=>by
  grind
 have ws:WS S fl w f fl w:=WS.stay own
 refine⟨f,⟨λr t C=> ?_,λr hr hm=> ?_,h.obj,λn ob R X=> ?_,⟨λr=> ?_,h.bz.ndF,λr r' b O U=>h.bz.one r r' b (B r b O) (B r' b U),λr b O=>h.bz.cq r b (B r b O)⟩,ws.bT h,by simp,h.fr,h.Fold,⟨by rw[z];exact hA,h.cM.2⟩⟩,ext⟩
 .rw[z]
  cases r with
  |l n j=>cases C
  |o n=>
   simp only[Wk.get,Go.Am.cont]at C
   split at C
   .rename_i c hc
    obtain⟨L,I⟩:=Q n _ hc;have hk:k.get (.o n)=some t:=by simp only[Wk.get,Go.Am.cont,I];exact C
    have:f (.o n)=S (.o n):=by simp[f,G,L]
    rw[this];refine TC.ext ext _ _ _ (λ_ _=>rfl) (TC.lo' ?_ (h.cont _ t hk))
    obtain q |q:=d n _ L I
    .exact .inl q
    grind [T.low,T.aQ,Ob.low]
   .cases C
 .simp only[f]
  split
  .rename_i hg
   cases r with
   |l n j=>cases hg
   |o n=>
    simp only[G,yD]at hg
    refine h.gone _ ?_ (λn' ob e R=> ?_)
    .grind [Wk.get,Go.Am.cont]
    grind
  .rfl
 .rw[z]
  obtain⟨L,I⟩:=Q n _ R;have hS:f (.o n)=S (.o n):=by simp[f,G,L]
  obtain⟨N,m1,P⟩:=h.map n ob I X
  refine⟨N,hS.trans m1,?_⟩
  cases ob with
  |map V=>
   obtain⟨Y,W,E,M,q3⟩:=P
   have u:∀a∈V,n2=k.H.length\/(a.1.low n2=true/\a.2.low n2=true):=λa D=>(d n _ L I).imp id (λq=>by
    grind [Ob.low])
   refine⟨Y,W,E,M.imp (λa D b q=>VV.ext ext (VV.lo' ((u a D).imp id (·.1)) q)),RetAll.imp _ _ _ (λt C cs M' _ h3=> ?_) q3⟩
   obtain⟨a,D,rfl⟩:=List.mem_map.1 C;exact TC.ext ext _ _ _ (λ_ _=>rfl) (TC.lo' ((u a D).imp id (·.2)) h3)
  |iter s p=>exact P
  |bY m=>
   obtain⟨E,M,q3⟩:=P
   refine⟨E,λo e=> ?_,q3⟩
   obtain q |q:=d n _ L I
   .show o<n2
    rw[q];exact M o e
   .subst e
    show o<n2
    grind [Ob.low]
  |frame g ps x y Z ct=>
   obtain⟨r,E,M,q3,q4,q5,q6,q7⟩:=P
   have u:n2=k.H.length\/((∀p∈Z,p.2.low n2=true)/\∀p∈ct,p.2.low n2=true):=(d n _ L I).imp id (λq=>by
    grind [Ob.low])
   refine⟨r,E,M,q3,q4,q5,q6,q7.1.imp (λ_ _=>rfl) (λp K x v e q=>VV.ext ext (VV.lo' (u.imp id (λh=> ?_)) q)) (λp K cs M' _ q=>TC.ext ext _ _ _ (λ_ _=>rfl) (TC.lo' (u.imp id (λh=>h.2 p K)) q)),q7.2⟩
   have:=h.1 p K
   rw[e]at this
   exact this
  |sset ks=>
   obtain⟨V,Y,W,E,M,q3,q4⟩:=P
   refine⟨V,Y,W,E,M.imp (λa D b q=>VV.ext ext (VV.lo' (.inr ?_) q)),RetAll.imp _ _ _ (λt C cs M' _ h3=> ?_) q3,q4⟩
   .obtain⟨s,_,rfl⟩:=q4.1 a D
    rfl
   .obtain⟨a,D,rfl⟩:=List.mem_map.1 C
    obtain⟨s,_,rfl⟩:=q4.1 a D;exact TC.ext ext _ _ _ (λ_ _=>rfl) (TC.lo' (.inr rfl) h3)
  |_=>trivial
 .simp only[f];split
  .exact h.bz.nd r
  .simp
theorem Pb(a:J T)(cs:Array Vz):qr (T.bt a) (.agg cs):=by
 unfold T.bt;split
 .exact⟨cs,rfl⟩
 .exact⟨cs,rfl⟩
theorem JW{c:Cx}{K:aj->U T}{nv:Nat}{v:SV}{val:Vz}{t:T}(hv:SO c K hd (aU k.tr v) val)(e:fR nv v k=some (t,k')):qr t val:=by
 by_cases f:∃l,v=.agg l
 .obtain⟨l,rfl⟩:=f
  simp only[fR,xM]at e
  obtain⟨⟨j,k1⟩,y,i⟩:=e;simp only[pJ]at i
  obtain⟨rfl,rfl⟩:=i;rw[Eg]at hv
  obtain⟨n,rfl,_⟩:=hv;exact Pb j n
 .have g:∀l,v≠ .agg l:=λl q=>f ⟨l,q⟩
  have a:dL nv (aU k.tr v) k=some (t,k'):=by
   revert e g
   cases v <;>intro e g <;>first |exact e |grind
  revert hv a
  generalize aU k.tr v=u;intro hv a
  cases u with
  |d x=>
   simp only[dL,xJ,pJ]at a
   obtain⟨rfl,rfl⟩:=a;exact hv.2
  |clip b l=>
   simp only[dL,xJ,pJ]at a
   obtain⟨rfl,rfl⟩:=a;exact VC.one _ _ hv.1
  |ns b=>
   simp only[dL,xJ,pJ]at a
   obtain⟨rfl,rfl⟩:=a;exact VC.one (c:=c) _ _ (QM hv)
  |aG r p o s=>
   have h:val.oneCell'=true:=by
    obtain⟨_,_,z,_,_,_,_,w⟩:=hv;obtain⟨_,_,_,_,_,_,rfl,_⟩:=w;rfl
   have m:(∀l,t≠ .d (.agg l))/\(∀l,t≠ .agg l):=by
    simp only[dL,xB]at a
    obtain⟨c0,_,A,_,a⟩:=a
    split at a
    .grind [xM,xB]
    .cases a
   cases t with
   |d x=>cases x <;>first |exact h |grind
   |agg l=>grind
   |_=>exact h
  |_=>simp[dL]at a
theorem y8:∀(l:J SV) (vs:J Vz) (j:J T) (k k':Wk) (S:aj->J Nat) (fl:J Nat),KR A ρ S hd fl k ay w->All2 (λu v=>(u,v)∈ay) l vs->j6 l k=some (j,k')->
  ∃n M,KR A ρ n hd (M++fl) k' ay w/\Ext (am A k.H.length ρ S fl w) (am A k'.H.length ρ n (M++fl) w)/\RetAll (am A k'.H.length ρ n (M++fl) w) j vs M/\k'.H.length=k.H.length
 | [],vs,j,k,k',S,fl,h,a,e=>by
  simp only[j6,xJ,pJ]at e
  obtain⟨rfl,rfl⟩:=e;rw[show vs=[]from a]
  exact⟨S,[],by simpa using h,by simpa using(⟨λ_ _ s=>⟨s,rfl⟩,dB _,λ_ _=>rfl⟩:Ext _ _),⟨rfl,rfl⟩,rfl⟩
 |u::l,vs,j,k,k',S,fl,h,a,e=>by
  simp only[j6,xB,xM]at e
  obtain⟨⟨t,k1⟩,y,⟨q,k2⟩,O,C⟩:=e;simp only[pJ]at C
  obtain⟨rfl,rfl⟩:=C;obtain⟨v,r,rfl,z,E⟩:=a;obtain⟨S1,d,F,x,N,D⟩:=nF h z y;have G:=JW (h.ay _ z) y;obtain⟨H,f,I,i,B,L⟩:=y8 l r q k1 k2 S1 (d++fl) F E O
  have c:(f++(d++fl)).Perm ((d++f)++fl):=by
   rw[xK];exact Eb f d fl
  obtain⟨m,p⟩:=I.perm c;rw[p]at i B
  refine⟨H,d++f,m,⟨λb g s=> ?_,ff x.nO i.nO,λo P=>rfl⟩,⟨v,r,d,f,rfl,rfl,TC.ext i _ _ _ (λ_ _=>rfl) N,G,B⟩,L.trans D⟩
  have K:=x.pm b g s;have Q:=i.pm b g K.1
  grind
theorem All2.tail1{c d:Type}{p:c->d->Prop}:∀(l:J c) (r:J d) (a:c) (b:d),All2 p l r->p a b->All2 p (l++[a]) (r++[b])
 | [],r,a,b,h,e=>by rw[show r=[]from h];exact⟨b,[],rfl,e,rfl⟩
 |x::l,r,a,b,h,e=>by
  obtain⟨y,q,rfl,f,g⟩:=h
  exact⟨y,_,rfl,f,All2.tail1 l q a b g e⟩
theorem All2.turned{a b:Type}{p:a->b->Prop}:∀(l:J a) (r:J b),All2 p l r->All2 p l.reverse r.reverse
 | [],r,h=>by rw[show r=[]from h];rfl
 |x::l,r,h=>by
  obtain⟨y,q,rfl,c,d⟩:=h;rw[List.reverse_cons,List.reverse_cons];exact All2.tail1 _ _ _ _ (All2.turned l q d) c
theorem RetAll.tail1{c:Cx}{t:T}{v:Vz}{N:J Nat}(h1:TC c t v.cells.toList N)(h2:qr t v):∀(a:J T) (vs:J Vz) (M:J Nat),RetAll c a vs M->RetAll c (a++[t]) (vs++[v]) (M++N)
 | [],vs,M,h=>by
  obtain⟨rfl,rfl⟩:=h
  exact⟨v,[],N,[],rfl,by simp,h1,h2,rfl,rfl⟩
 |u::a,vs,M,h=>by
  obtain⟨x,r,f,b,rfl,rfl,d,e,q3⟩:=h
  exact⟨x,_,f,b++N,rfl,by grind,d,e,RetAll.tail1 h1 h2 a r b q3⟩
theorem RetAll.turned{c:Cx}:∀(a:J T) (vs:J Vz) (M:J Nat),RetAll c a vs M->∃M',M.Perm M'/\RetAll c a.reverse vs.reverse M'
 | [],vs,M,h=>by
  obtain⟨rfl,rfl⟩:=h
  exact⟨[],List.Perm.refl _,rfl,rfl⟩
 |u::a,vs,M,h=>by
  obtain⟨x,r,b,e,rfl,rfl,g,i,q3⟩:=h;obtain⟨M',d,f⟩:=RetAll.turned a r e q3
  refine⟨M'++b,List.perm_append_comm.trans (d.append_right b),?_⟩
  grind [RetAll.tail1]
theorem Pc(l:J SV)(vs:J Vz)(c:J T)(k k':Wk)(S:aj->J Nat)(fl:J Nat)(h:KR A ρ S hd fl k ay w)(a:All2 (λu v=>(u,v)∈ay) l vs)(e:nf l k=some (c,k')):
  ∃b M,KR A ρ b hd (M++fl) k' ay w/\Ext (am A k.H.length ρ S fl w) (am A k'.H.length ρ b (M++fl) w)/\RetAll (am A k'.H.length ρ b (M++fl) w) c vs M/\k'.H.length=k.H.length:=by
 unfold nf at e
 split at e
 .unfold JQ at e
  simp only[xM,pJ]at e
  obtain⟨⟨g,k1⟩,f,rfl,rfl⟩:=e;obtain⟨b,M,i,n,m,o⟩:=y8 l.reverse vs.reverse g k k1 S fl h (All2.turned _ _ a) f;obtain⟨p,j,d⟩:=RetAll.turned _ _ _ m;rw[List.reverse_reverse]at d
  obtain⟨q,r⟩:=i.perm (j.append_right fl)
  grind
 grind [y8]
theorem VW{v:Vz}{t:TypeId}{val:Vz}(h:(Instr.loadAt t v).run P w=.ok val w):((do loadVar t (<-asAddr v)):Sem Vz).run P w=.ok val w:=by
 cases v with
 |pointer a=>
  cases a with
  |some a=>exact h
  |none=>simp_all [Instr.loadAt,Instr.sureAddr]
 |_=>simp_all [Instr.loadAt,Instr.sureAddr]
end
end Go.Am
namespace Go.Am
open Go
theorem rF{r x:SV×Wk}(e:jP r=some x):r=x/\x.1.bN=false:=by
 grind [jP]
theorem rG{l:J Oz}{a τ:Oz->SV}(h:∀x∈l,a x=τ x):l.map a=l.map τ:=lM h
theorem Dd{l:J (Nat×Oz)}{a τ:Oz->SV}(h:∀x∈l.map (·.2),a x=τ x):l.map (λp=>(p.1,a p.2))=l.map (λp=>(p.1,τ p.2)):=
 lM λp b=>by grind
section
variable{P:Pz}{call:dF}{h:Hint}{dst:Nat}{ty:TypeId}
theorem SX(op:Op){g τ:Oz->SV}(k:Wk)(hx:∀x∈op.operands,g x=τ x):opE P h dst ty op g k=opE P h dst ty op τ k:=by
 unfold opE
 cases op <;>simp only[Op.operands]at hx <;>simp only
 case build t ps=>rw[Dd λx f=>hx x (by simpa using f)]
 case buildSlice t n ps=>rw[Dd λx f=>hx x (by simpa using f)]
 case makeFunc fn a c=>grind [rG]
 case makeMap t r=>grind
 case slice t x lo hi mx=>cases lo <;>cases hi <;>cases mx <;>simp_all
 case load t a=>
  have:=hx a (by simp)
  cases a <;>simp_all
 case call c=>
  obtain⟨d,e,j⟩:=c;have i:e.toList.map g=e.toList.map τ:=rG λx f=>hx x (by grind [Call.operands])
  cases d with
  |builtin b=>
   cases b <;>simp only
   all_goals
    grind
  |_=>rfl
 all_goals grind
theorem nG{u:SV}:(bD u).ba=u.ba:=by
 unfold bD;split
 .rfl
 .rfl
 .rfl
theorem AE{t:TypeId}{u:SV}{k k2:Wk}(hr:∀r∈u.ba,k2.get r=k.get r):gY P t u k2=gY P t u k:=by
 grind [nG,gY,SV.ba]
theorem MT{k k2:Wk}{r:aj}{p:dP}{i off:Nat}(hr:k2.get r=k.get r):oR k2 r p i off=oR k r p i off:=by
 grind [oR]
theorem VX{n:Nat}{k k2:Wk}{r:aj}{p:dP}{o m:Nat}(hr:k2.get r=k.get r):tn n r p o m k2=tn n r p o m k:=by
 grind [tn]
theorem Io{t:TypeId}{u:SV}{f:Nat}{k k2:Wk}(hr:∀r∈u.ba,k2.get r=k.get r):eE P t u f k2=eE P t u f k:=by
 grind [nG,eE,MT,SV.ba]
theorem Ip{t:TypeId}{u i:SV}{k k2:Wk}(hr:∀r∈u.ba,k2.get r=k.get r):gR P t u i k2=gR P t u i k:=by
 unfold gR;split
 .split
  .grind [SV.ba]
  .grind [nG,MT,SV.ba]
  .rfl
 .rfl
theorem S5{t:TypeId}{u:SV}{lo hi a:U SV}{k k2:Wk}(hr:∀r∈u.ba,k2.get r=k.get r):kh P t u lo hi a k2=kh P t u lo hi a k:=by
 unfold kh;split
 .rfl
 .rfl
 .rfl
 .rename_i r p b c
  have:∀n o m,tn n r p o m k2=tn n r p o m k:=λn o m=>VX (hr r (by simp[SV.ba]))
  simp_all
 .rfl
theorem Pd{t:TypeId}{m key:SV}{a:Bool}{H b:J Ob}(hr:b=H\/m.ba.any aj.cD=false):nb P t m key a b=nb P t m key a H:=by
 grind [nb,SV.ba,aj.cD]
theorem x!{t:TypeId}{u:SV}{H a:J Ob}(hr:a=H\/u.ba.any aj.cD=false):F5 P t a u=F5 P t H u:=by
 obtain rfl |hr:=hr
 .rfl
 .unfold F5
  grind [SV.ba,aj.cD]
theorem MU{nv:Nat}{x:D}{k:Wk}:fR nv (.d x) k=some (.d x,k):=by
 simp only[fR,ab3,dL]
theorem I3{nv:Nat}:∀(l:J (Nat×SV)) (k:Wk),l.all (λp=>isD p.2)=true->∃a,∀k,gg nv l k=some (a,k)
 | [],k,_=>⟨[],λ_=>rfl⟩
 |(i,v)::l,k,h=>by
  simp only[kG,xA]at h
  obtain⟨a,b⟩:=I3 (nv:=nv) l k h.2
  cases v with
  |d x=>exact⟨(i,.d x)::a,λk=>by grind [gg,MU]⟩
  |_=>simp[isD]at h
theorem GM{op:Op}{u:Oz->SV}{k k':Wk}{v:SV}(hc:∀c,op=.call c->∃b,c.callee=.builtin b)(j:fU h dst op=false)(e:opE P h dst ty op u k=some (v,k')):
  k'=k/\∀k2:Wk,(reads op=true->∀x∈op.operands,∀r∈(u x).ba,k2.get r=k.get r)->(reads op=true->k2.H=k.H\/∀x∈op.operands,(u x).ba.any aj.cD=false)->opE P h dst ty op u k2=some (v,k2):=by
 unfold opE at e |-
 cases op <;>simp only[fU,Bool.true_eq_false]at j <;>simp only[Op.operands]at e |-
 case move x=>grind
 case pick c a b=>split at e <;>simp only[xJ,pJ,reduceCtorEq]at e;grind
 case build t ps=>grind [xM]
 case buildSlice t n ps=>
  simp only[Bool.not_eq_false']at j
  rw[j]at e |-
  simp only[fZ,xB]at e |-
  obtain⟨ty,D,z,F,⟨K,k1⟩,h3,e⟩:=e
  split at e
  .rename_i s
   simp only[xB,if_true]at e
   obtain⟨G,E,e⟩:=e
   split at e
   .rename_i o
    obtain⟨A,y⟩:=I3 (nv:=h.nv) _ k o;rw[y k]at h3
    simp only[xJ,pJ]at h3
    obtain⟨rfl,rfl⟩:=h3;simp only[xM,pJ]at e
    obtain⟨I,C,rfl,rfl⟩:=e
    refine⟨rfl,λk2 _ _=>⟨ty,D,z,F,(A,k2),y k2,?_⟩⟩
    grind
   .cases e
  .cases e
 case load t a=>
  cases a with
  |global g=>
   simp only[xB]at e
   grind [xM,AE,SV.ba]
  |_=>
   simp only[j,xH,if_false]at e |-
   simp only[xM,pJ]at e;obtain⟨_,d,rfl,rfl⟩:=e
   exact⟨rfl,λk2 l _=>by rw[AE (l rfl _ (by simp)),d];rfl⟩
 case nilCheck x=>split at e <;>simp only[xJ,pJ,reduceCtorEq]at e <;>(grind)
 case binOp=>grind [xM]
 case unOp=>grind [xM]
 case convert=>grind [xM]
 case makeFunc f a c=>
  grind [xB,xM]
 case slice t x lo hi mx=>
  simp only[xM,pJ]at e;obtain⟨_,d,rfl,rfl⟩:=e
  exact⟨rfl,λk2 l _=>by rw[S5 (l rfl x (by simp)),d];rfl⟩
 case fieldAddr t x f=>
  simp only[xM,pJ]at e;obtain⟨_,d,rfl,rfl⟩:=e
  exact⟨rfl,λk2 l _=>by rw[Io (l rfl x (by simp)),d];rfl⟩
 case field=>grind [xM]
 case indexAddr t x i=>
  simp only[xM,pJ]at e;obtain⟨_,d,rfl,rfl⟩:=e
  exact⟨rfl,λk2 l _=>by rw[Ip (l rfl x (by simp)),d];rfl⟩
 case index=>grind [xM]
 case lookup t m key ok=>
  simp only[qY]at j
  simp only[j.1,j.2,xH,if_false]at e |-
  simp only[xM,pJ]at e;obtain⟨_,d,rfl,rfl⟩:=e
  exact⟨rfl,λk2 _ s=>by rw[Pd ((s rfl).imp id λq=>q m (by simp)),d];rfl⟩
 case extract x n=>
  split at e
  .grind [xM]
  .cases e
 case call c=>
  obtain⟨b,w⟩:=hc c rfl;obtain⟨callee,p,H⟩:=c;simp only at w;subst w
  cases b <;>simp only[fU,Bool.true_eq_false]at j
  case len=>
   simp only at e |-
   split at e
   .rename_i x t B J
    simp only[xM,pJ]at e
    obtain⟨n,d,rfl,rfl⟩:=e
    refine⟨rfl,λk2 _ s=> ?_⟩
    rw[x! ((s rfl).imp id λq=>q x ?_),d]
    .rfl
    .have:x∈p:=by rw[<-qZ,B];simp
     simp[Call.operands,this]
   .cases e
  case min=>
   simp only at e |-
   split at e
   .grind [xM]
   .cases e
  case max=>
   simp only at e |-
   split at e
   .grind [xM]
   .cases e
end
structure Grown(b:Prop)(k k':Wk):Prop where
 ct:∃pre,k'.ct=pre++k.ct
 H:b->k'.H=k.H
theorem Grown.refl(b:Prop)(k:Wk):Grown b k k:=⟨⟨[],rfl⟩,λ_=>rfl⟩
theorem Grown.trans{b:Prop}{k k1 k2:Wk}(x:Grown b k k1)(y:Grown b k1 k2):Grown b k k2:=by
 obtain⟨p,c⟩:=x.ct;obtain⟨q,a⟩:=y.ct
 exact⟨⟨q++p,by grind⟩,λh=>(y.H h).trans (x.H h)⟩
theorem Grown.tell{b:Prop}{k k':Wk}(h:Grown b k k')(x:Tr):Grown b k (k'.tell x):=⟨h.ct,h.H⟩
theorem Grown.new{b:Prop}{k k':Wk}(h:Grown b k k')(n j:Nat)(t:T):Grown b k (k'.new n j t):=by
 obtain⟨p,a⟩:=h.ct
 exact⟨⟨((n,j),t)::p,by simp[Wk.new,a]⟩,h.H⟩
theorem Grown.imp{b c:Prop}{k k':Wk}(h:Grown b k k')(f:c->b):Grown c k k':=⟨h.ct,λhc=>h.H (f hc)⟩
theorem Grown.set{k k':Wk}{r:aj}{t:T}(h:k.set r t=some k'):Grown (r.cD=false) k k':=by
 cases r with
 |l n j=>simp only[Wk.set,xJ]at h;subst h;exact⟨⟨[((n,j),t)],rfl⟩,λ_=>rfl⟩
 |o n=>
  simp only[Wk.set]at h
  split at h
  .simp only[xJ]at h;subst h;exact⟨⟨[],rfl⟩,λh=>by cases h⟩
  .cases h
abbrev dh(v:SV):Prop:=v.ba.any aj.cD=false
theorem dh.aG{r:aj}{p:dP}{o l:Nat}:dh (.aG r p o l)↔r.cD=false:=by simp[dh,SV.ba]
theorem dh.loc{r:aj}{p:dP}{i o:Nat}:dh (.loc r p i o)↔r.cD=false:=by simp[dh,SV.ba]
theorem MV{f:aj->Bool}:∀(l:J SV),(SV.rtss l).any f=false↔∀v∈l,v.ba.any f=false
 | []=>by simp[SV.rtss]
 |v::l=>by simp only[SV.rtss,List.any_append,qY,MV l,List.forall_mem_cons]
mutual
theorem Tr.noO(x:Tr):∀(v:SV),dh v->dh (x.sv v)
 | .d y,h=>by cases x <;>exact h
 | .aG r p o l,h=>by
  rw[dh.aG]at h
  cases x <;>simp only[Tr.sv] <;>(repeat' split) <;>first |(simp[dh,SV.ba,aj.cD];done) |(rw[dh.aG];exact h)
 | .loc r p i o,h=>by
  rw[dh.loc]at h
  cases x <;>simp only[Tr.sv] <;>(repeat' split) <;>first |(simp[dh,SV.ba,aj.cD];done) |(rw[dh.loc];exact h) |simp_all
 |.rp _ _,h|.clip _ _,h|.ns _,h|.dead,h=>by cases x <;>exact h
 | .agg l,h=>by
  have:x.sv (.agg l)=.agg (Tr.bF x l):=by cases x <;>rfl
  rw[this];exact Tr.noOs x l h
 | .aS l,h=>by
  have:x.sv (.aS l)=.aS (Tr.bF x l):=by cases x <;>rfl
  rw[this];exact Tr.noOs x l h
theorem Tr.noOs(x:Tr):∀(l:List SV),(SV.rtss l).any aj.cD=false->(SV.rtss (Tr.bF x l)).any aj.cD=false
 | [],h=>h
 |v::l,h=>by
  simp only[SV.rtss,Tr.bF,List.any_append,qY]at h |-
  exact⟨Tr.noO x v h.1,Tr.noOs x l h.2⟩
end
theorem AF:∀(a:J Tr) (v:SV),dh v->dh (aU a v)
 | [],_,h=>h
 |x::a,v,h=>AF a _ (Tr.noO x v h)
theorem wX{nv:Nat}{v:SV}{k k':Wk}{t:T}(e:dL nv v k=some (t,k')):Grown (dh v) k k':=by
 cases v with
 |d x=>simp only[dL,xJ,pJ]at e;rw[<-e.2];exact .refl _ _
 |clip b l=>simp only[dL,xJ,pJ]at e;rw[<-e.2];exact .refl _ _
 |ns b=>simp only[dL,xJ,pJ]at e;rw[<-e.2];exact .refl _ _
 |aG r p f g=>
  simp only[dL,xB]at e
  obtain⟨c,_,h,_,e⟩:=e
  split at e
  .split at e
   .split at e
    .simp only[xM,pJ]at e
     obtain⟨k1,a,_,rfl⟩:=e
     exact((Grown.set a).tell _).imp dh.aG.1
    .simp only[xB,xM,pJ]at e
     obtain⟨_,_,k1,a,_,rfl⟩:=e
     exact((Grown.set a).tell _).imp dh.aG.1
   .simp only[xB,xM,pJ]at e
    obtain⟨_,_,_,_,k1,a,_,rfl⟩:=e
    exact((Grown.set a).tell _).imp dh.aG.1
  .cases e
 |_=>simp[dL]at e
theorem wY{nv:Nat}:∀(l:J SV) {k k':Wk} {a:J T},gG nv l k=some (a,k')->Grown (∀v∈l,dh v) k k'
 | [],k,k',a,e=>by simp only[gG,xJ,pJ]at e;rw[<-e.2];exact .refl _ _
 |v::l,k,k',a,e=>by
  simp only[gG,xB,xM,pJ]at e
  obtain⟨⟨t,k1⟩,b,⟨c,k2⟩,f,_,rfl⟩:=e
  exact((wX b).imp λh=>AF _ _ (h v (by simp))).trans ((wY l f).imp λh u d=>h u (by simp[d]))
theorem hU{nv:Nat}{v:SV}{k k':Wk}{t:T}(e:fR nv v k=some (t,k')):Grown (dh v) k k':=by
 by_cases a:∃l,v=.agg l
 .obtain⟨l,rfl⟩:=a
  simp only[fR,xM,pJ]at e
  obtain⟨⟨d,k1⟩,b,_,rfl⟩:=e
  exact(wY l b).imp λh=>(MV l).1 h
 .have c:dL nv (aU k.tr v) k=some (t,k'):=by
   revert e a
   cases v <;>intro e a <;>first |exact e |grind
  exact(wX c).imp (AF _ _)
theorem wZ{nv:Nat}:∀(l:J (Nat×SV)) {k k':Wk} {a:J (Nat×T)},gg nv l k=some (a,k')->Grown (∀v∈l,dh v.2) k k'
 | [],k,k',a,e=>by simp only[gg,xJ,pJ]at e;rw[<-e.2];exact .refl _ _
 |(i,v)::l,k,k',a,e=>by
  simp only[gg,xB,xM,pJ]at e
  obtain⟨⟨t,k1⟩,b,⟨c,k2⟩,f,_,rfl⟩:=e
  exact((hU b).imp λh=>h (i,v) (by simp)).trans ((wZ l f).imp λh u d=>h u (by simp[d]))
theorem w5{nv:Nat}{v:SV}{k k':Wk}{t:T}(e:js nv v k=some (t,k')):Grown (dh v) k k':=by
 grind [js,xM,hU]
theorem S8{v:SV}(h:dh v):dh (bD v):=by grind [nG]
section
variable{P:Pz}{h:Hint}{dst:Nat}{ty:TypeId}
theorem JX{nv:Nat}{t:TypeId}{a v:SV}{k k':Wk}(e:mG P nv t a v k=some k'):Grown (dh a/\dh v) k k':=by
 simp only[mG,xB]at e
 obtain⟨⟨x,k1⟩,f,e⟩:=e;have j:=(w5 f).imp (c:=dh a/\dh v) (·.2);simp only at e
 split at e
 .rename_i r p i d m
  split at e
  .simp only[xB]at e
   obtain⟨c,_,n,_,e⟩:=e
   split at e
   .simp only[xB]at e
    obtain⟨l,_,e⟩:=e
    split at e
    .simp only[xB,xM]at e
     obtain⟨c',_,k2,h,rfl⟩:=e
     have g:dh a/\dh v->r.cD=false:=λq=>by
      grind [S8,AF,dh.loc]
     have b:=j.trans ((Grown.set h).imp g);split
     .exact b.tell _
     .exact b
    .cases e
   .cases e
  .cases e
 .cases e
theorem JY{r:aj}{p:dP}{off:Nat}{xs:J D}{k k':Wk}(e:lx r p off xs k=some k'):Grown (r.cD=false) k k':=by
 unfold lx at e
 split at e
 .simp only[xJ]at e;rw[<-e];exact .refl _ _
 grind [xB,Grown.set]
theorem MW{t:TypeId}{a b v:SV}{k k':Wk}(e:nP P t a b k=some (v,k')):Grown (dh a) k k':=by
 unfold nP at e
 split at e
 .grind [xB,xM,JY,dh.aG]
 .cases e
theorem MY{nv:Nat}{v:SV}{k k':Wk}{l:J T}(e:fY nv v k=some (l,k')):Grown True k k':=by
 cases v with
 |d x=>cases x <;>simp only[fY,xJ,pJ,reduceCtorEq]at e <;>(rw[<-e.2];exact .refl _ _)
 |clip b l=>simp only[fY,xJ,pJ]at e;rw[<-e.2];exact .refl _ _
 |ns b=>simp only[fY,xJ,pJ]at e;rw[<-e.2];exact .refl _ _
 |aG r p f g=>
  simp only[fY,xB]at e
  obtain⟨c,_,h,_,e⟩:=e
  split at e
  .split at e
   .split at e
    .simp only[xM,pJ]at e
     obtain⟨k1,a,_,rfl⟩:=e
     exact((Grown.set a).imp λ_=>rfl).tell _
    .split at e
     .simp only[xJ,pJ]at e;rw[<-e.2];exact .refl _ _
     .cases e
   .split at e
    .simp only[xJ,pJ]at e;rw[<-e.2];exact .refl _ _
    .cases e
  .cases e
 |_=>simp[fY]at e
theorem Iq{nv:Nat}{t:TypeId}{s x v:SV}{k k':Wk}(e:iu P nv dst t s x k=some (v,k')):Grown (dh s) k k':=by
 simp only[iu,qn,xB]at e
 obtain⟨l,_,z,_,⟨b,k1⟩,i,e⟩:=e;have j:=(MY i).imp (c:=dh s) λ_=>trivial
 split at e
 .simp only[xB]at e
  obtain⟨⟨d,k2⟩,a,e⟩:=e
  have f:Grown (dh s) k1 k2:=by
   split at a
   .simp only[xJ,pJ]at a;rw[<-a.2];exact .refl _ _
   .simp only[xJ,pJ]at a;rw[<-a.2];exact .refl _ _
   .rename_i r p g h m
    split at a
    .simp only[xB]at a
     obtain⟨c,_,n,_,a⟩:=a
     split at a
     .split at a
      .simp only[xB,xM,pJ]at a
       obtain⟨c',_,o,h3,_,rfl⟩:=a
       refine((Grown.set h3).imp λq=> ?_).tell _
       grind [AF,dh.aG]
      .cases a
     .cases a
    .cases a
   .cases a
  simp only at e
  split at e
  .simp only[xJ,pJ]at e
   rw[<-e.2]
   exact(j.trans f).new _ _ _
  .cases e
 .cases e
theorem VY{t:TypeId}{m x v:SV}{k k':Wk}(e:F7 P dst t m x k=some (v,k')):∃a,k'.ct=a++k.ct:=by simp[F7]at e
theorem MZ{t:TypeId}{m x v:SV}{k k':Wk}(e:nN P t m x k=some (v,k')):k'.ct=k.ct:=by simp[nN]at e
theorem VZ{v u:SV}{k k':Wk}(e:tW dst v k=some (u,k')):∃a,k'.ct=a++k.ct:=by
 unfold tW at e
 split at e
 .simp only[xB]at e
  obtain⟨c,_,f,_,e⟩:=e
  split at e
  .split at e
   .simp only[xB,xM,pJ]at e
    obtain⟨c',_,k1,b,_,rfl⟩:=e;obtain⟨a,d⟩:=(Grown.set b).ct
    exact⟨_::a,congrArg (List.cons _) d⟩
   .cases e
  .cases e
 .cases e
theorem w6{b:Bool}{x:SV}{k k':Wk}{v:SV}(e:fb dst b x k=some (v,k')):Grown True k k':=by
 unfold fb at e
 split at e
 .split at e <;>simp only[xJ,pJ]at e <;>rw[<-e.2]
  .exact(Grown.refl _ _).new _ _ _
  .exact .refl _ _
 .split at e
  .simp only[xJ,pJ]at e;rw[<-e.2];exact .refl _ _
  .simp only[xB]at e
   obtain⟨c,_,e⟩:=e
   split at e
   .split at e <;>simp only[xJ,pJ]at e <;>rw[<-e.2]
    .refine(Grown.new ?_ _ _ _).tell _
     exact⟨⟨[_],rfl⟩,λ_=>rfl⟩
    .exact .refl _ _
   .cases e
 .simp only[xJ,pJ]at e;rw[<-e.2];exact .refl _ _
theorem S9{op:Op}{B:Oz->SV}{k k':Wk}{v:SV}(e:opE P h dst ty op B k=some (v,k')):Grown (hOf h dst op=false/\∀x∈op.operands,dh (B x)) k k':=by
 unfold opE at e
 cases op <;>simp only at e
 case move x=>simp only[xJ,pJ]at e;rw[<-e.2];exact .refl _ _
 case assign x=>exact(w6 e).imp λ_=>trivial
 case pick c a b=>split at e <;>simp only[xJ,pJ,reduceCtorEq]at e;rw[<-e.2];exact .refl _ _
 case alloc t=>
  simp only[xB]at e
  obtain⟨z,_,e⟩:=e;unfold F8 at e
  split at e
  .cases e
  .split at e <;>simp only[xJ,pJ]at e <;>rw[<-e.2]
   .rename_i s;exact⟨⟨[],rfl⟩,λq=>by simp[hOf,s]at q;exact absurd s (by simp[q.1])⟩
   .exact(Grown.refl _ _).new _ _ _
 case box t x=>
  simp only[xB]at e
  obtain⟨⟨y,k1⟩,d,e⟩:=e;have w:=w5 d;simp only at e
  split at e
  .unfold F8 at e
   split at e
   .cases e
   .split at e <;>simp only[xJ,pJ]at e <;>rw[<-e.2]
    .rename_i s;exact⟨w.ct,λq=>by simp[hOf,s]at q;exact absurd s (by simp[q.1])⟩
    .exact(w.imp λq=>q.2 x (by simp[Op.operands])).new _ _ _
  .cases e
 case build t ps=>simp only[xM,pJ]at e;obtain⟨_,_,_,rfl⟩:=e;exact .refl _ _
 case buildSlice t n ps=>
  simp only[fZ,xB]at e
  obtain⟨F,_,z,_,⟨I,k1⟩,h3,e⟩:=e
  have w:=(wZ _ h3).imp (c:=hOf h dst (.buildSlice t n ps)=false/\∀x∈(Op.buildSlice t n ps).operands,dh (B x)) (λq u C=>by
   simp only[j0]at C
   obtain⟨p,G,rfl⟩:=C
   exact q.2 p.2 (by simp only[Op.operands,List.mem_toArray,j0];exact⟨p,G,rfl⟩))
  split at e
  .simp only[xB]at e
   obtain⟨J,_,e⟩:=e
   split at e
   .split at e
    .simp only[xM,pJ]at e;obtain⟨_,_,_,rfl⟩:=e;exact w
    .cases e
   .simp only[xJ,pJ]at e;rw[<-e.2];exact w.new _ _ _
  .cases e
 case load t a=>
  cases a with
  |global g=>
   simp only[xB]at e
   obtain⟨_,_,e⟩:=e
   split at e
   .simp only[xM,pJ]at e
    obtain⟨_,_,_,rfl⟩:=e;exact .refl _ _
   .cases e
  |_=>
   simp only at e
   split at e
   .simp only[xB]at e
    obtain⟨u,_,e⟩:=e
    exact⟨VZ e,λq=>by simp[hOf]at q⟩
   .simp only[xM,pJ]at e;obtain⟨_,_,_,rfl⟩:=e;exact .refl _ _
 case range t x=>
  refine⟨?_,λq=>by simp[hOf]at q⟩
  unfold t5 at e
  split at e
  .simp only[xJ,pJ]at e;rw[<-e.2];exact⟨[],rfl⟩
  .simp only[xJ,pJ]at e;rw[<-e.2];exact⟨[],rfl⟩
  .split at e
   .simp only[xJ,pJ]at e;rw[<-e.2];exact⟨[],rfl⟩
   .cases e
  .cases e
 case next x E=>
  refine⟨?_,λq=>by simp[hOf]at q⟩
  unfold CZ at e
  split at e
  .split at e
   .split at e
    .simp only[xJ,pJ]at e;rw[<-e.2];exact⟨[],rfl⟩
    .simp only[xJ,pJ]at e;rw[<-e.2];exact⟨[],rfl⟩
   .simp only[xJ,pJ]at e;rw[<-e.2];exact⟨[],rfl⟩
   .split at e
    .simp only[xJ,pJ]at e;rw[<-e.2];exact⟨[],rfl⟩
    .cases e
   .cases e
  .cases e
 case store t a x=>
  simp only[xM,pJ]at e
  obtain⟨k1,d,_,rfl⟩:=e
  exact(JX d).imp λq=>⟨q.2 a (by simp[Op.operands]),q.2 x (by simp[Op.operands])⟩
 case nilCheck x=>split at e <;>simp only[xJ,pJ,reduceCtorEq]at e <;>(rw[<-e.2];exact .refl _ _)
 case makeMap t r=>
  cases r with
  |none=>simp only[xJ,pJ]at e;rw[<-e.2];exact⟨⟨[],rfl⟩,λq=>by simp[hOf]at q⟩
  |some n=>
   simp only at e
   split at e
   .simp only[xJ,pJ]at e;rw[<-e.2];exact⟨⟨[],rfl⟩,λq=>by simp[hOf]at q⟩
   .cases e
 case makeSlice t l c=>
  unfold F6 at e
  split at e
  .simp only[xB]at e
   obtain⟨_,_,_,_,e⟩:=e
   split at e
   .simp only[xJ,pJ]at e;rw[<-e.2];exact(Grown.refl _ _).new _ _ _
   .cases e
  .cases e
 case makeFunc f a c=>
  simp only[xB,xM,pJ]at e
  obtain⟨_,_,_,_,_,rfl⟩:=e;exact .refl _ _
 case extract x n=>
  split at e
  .simp only[xM,pJ]at e;obtain⟨_,_,_,rfl⟩:=e;exact .refl _ _
  .cases e
 case lookup t m key ok=>
  refine⟨?_,λq=>by simp[hOf]at q⟩
  split at e
  .split at e
   .cases e
   .exact VY e
  split at e
  .split at e
   .cases e
   .exact⟨[],by simpa using MZ e⟩
  simp only[xM,pJ]at e
  obtain⟨_,_,_,rfl⟩:=e
  exact⟨[],rfl⟩
 case mapUpdate t m key x=>
  simp only[xM,pJ]at e
  obtain⟨k1,d,_,rfl⟩:=e;simp only[gX,xB]at d
  obtain⟨⟨H,_⟩,_,d⟩:=d
  refine⟨?_,λq=>by simp[hOf]at q⟩
  simp only at d
  split at d
  .split at d
   .simp only[xB]at d
    obtain⟨⟨y,k2⟩,o,d⟩:=d;simp only at d
    split at d
    .simp only[xM]at d
     obtain⟨_,_,rfl⟩:=d
     exact(hU o).ct
    .simp only[xM]at d
     obtain⟨_,_,rfl⟩:=d
     exact(hU o).ct
    .simp only[xM]at d
     obtain⟨_,_,rfl⟩:=d
     exact(hU o).ct
    .cases d
   .cases d
  .cases d
 case insert t m key x=>
  simp only[xM,pJ]at e
  obtain⟨k1,d,_,rfl⟩:=e;simp only[gX,xB]at d
  obtain⟨⟨H,_⟩,_,d⟩:=d
  refine⟨?_,λq=>by simp[hOf]at q⟩
  simp only at d
  split at d
  .split at d
   .simp only[xB]at d
    obtain⟨⟨y,k2⟩,o,d⟩:=d;simp only at d
    split at d
    .simp only[xM]at d
     obtain⟨_,_,rfl⟩:=d
     exact(hU o).ct
    .simp only[xM]at d
     obtain⟨_,_,rfl⟩:=d
     exact(hU o).ct
    .simp only[xM]at d
     obtain⟨_,_,rfl⟩:=d
     exact(hU o).ct
    .cases d
   .cases d
  .cases d
 case call c=>
  obtain⟨i,j,K⟩:=c
  cases i with
  |builtin b=>
   cases b <;>simp only[reduceCtorEq]at e
   case len=>
    split at e
    .simp only[xM,pJ]at e;obtain⟨_,_,_,rfl⟩:=e;exact .refl _ _
    .cases e
   case min=>
    split at e
    .simp only[xM,pJ]at e;obtain⟨_,_,_,rfl⟩:=e;exact .refl _ _
    .cases e
   case max=>
    split at e
    .simp only[xM,pJ]at e;obtain⟨_,_,_,rfl⟩:=e;exact .refl _ _
    .cases e
   case copy=>
    split at e
    .rename_i x y t u A D
     refine(MW e).imp λq=>q.2 x ?_
     have:x∈j:=by rw[<-qZ,A];simp
     simp[Op.operands,Call.operands,this]
    .cases e
   case append=>
    split at e
    .rename_i x y t u A D
     split at e
     .refine(Iq e).imp λq=>q.2 x ?_
      have:x∈j:=by rw[<-qZ,A];simp
      simp[Op.operands,Call.operands,this]
     .cases e
    .cases e
  |_=>simp at e
 all_goals first |(cases e;done) |(simp only[xM,pJ]at e;obtain⟨_,_,_,rfl⟩:=e;exact .refl _ _)
theorem De{nv:Nat}{v:SV}{k k':Wk}{b b':bq}{x:D}(e:fE nv v k b=some (x,k',b')):Grown True k k':=by
 cases v with
 |d x=>simp only[fE,xJ,pJ]at e;rw[<-e.2.1];exact .refl _ _
 |clip t l=>simp only[fE,xJ,pJ]at e;rw[<-e.2.1];exact .refl _ _
 |ns b=>simp only[fE,xJ,pJ]at e;rw[<-e.2.1];exact .refl _ _
 |aG r p f g=>
  simp only[fE,xB]at e
  obtain⟨c,_,h,_,e⟩:=e
  split at e
  .split at e
   .simp only[xJ,pJ]at e;rw[<-e.2.1];exact .refl _ _
   split at e
   .split at e
    .simp only[xB,xM,pJ]at e
     obtain⟨l,_,k1,a,_,rfl,_⟩:=e
     exact((Grown.set a).imp λ_=>rfl).tell _
    .simp only[xM,pJ]at e;obtain⟨_,_,_,rfl,_⟩:=e;exact .refl _ _
   .simp only[xM,pJ]at e;obtain⟨_,_,_,rfl,_⟩:=e;exact .refl _ _
   .simp only[xM,pJ]at e;obtain⟨_,_,_,rfl,_⟩:=e;exact .refl _ _
  .cases e
 |_=>simp[fE]at e
theorem Df{nv:Nat}:∀(l:J SV) {k k':Wk} {b b':bq} {xs:J D},lr nv l k b=some (xs,k',b')->Grown True k k'
 | [],k,k',b,b',xs,e=>by simp only[lr,xJ,pJ]at e;rw[<-e.2.1];exact .refl _ _
 |v::l,k,k',b,b',xs,e=>by
  simp only[lr,xB,xM,pJ]at e
  obtain⟨⟨x,k1,g⟩,a,⟨d,k2,f⟩,c,_,rfl,_⟩:=e
  exact(De a).trans (Df l c)
theorem Pe{nv:Nat}{v:SV}{k k':Wk}{b b':bq}{x:D}(e:wK nv v k b=some (x,k',b')):Grown True k k':=by
 by_cases a:∃l,v=.agg l
 .grind [wK,xM,Df]
 .have c:fE nv (aU k.tr v) k b=some (x,k',b'):=by
   revert e a
   cases v <;>intro e a <;>first |exact e |grind
  exact De c
theorem ui{nv:Nat}:∀(l:J SV) {k k':Wk} {b b':bq} {xs:J D},gS nv l k b=some (xs,k',b')->Grown True k k'
 | [],k,k',b,b',xs,e=>by simp only[gS,xJ,pJ]at e;rw[<-e.2.1];exact .refl _ _
 |v::l,k,k',b,b',xs,e=>by
  simp only[gS,xB,xM,pJ]at e
  obtain⟨⟨x,k1,g⟩,a,⟨d,k2,f⟩,c,_,rfl,_⟩:=e
  exact(Pe a).trans (ui l c)
theorem pH{j a:Nat}{t:T}{k k':Wk}{v:SV}(e:gh dst j t k=some (v,a,k')):Grown True k k':=by
 cases t <;>simp only[gh,xJ,pJ,reduceCtorEq]at e <;>rw[<-e.2.2]
 .exact .refl _ _
 .exact(Grown.refl _ _).new _ _ _
theorem uj:∀(l:J T) {j a:Nat} {k k':Wk} {vs:J SV},ga dst j l k=some (vs,a,k')->Grown True k k'
 | [],j,a,k,k',vs,e=>by simp only[ga,xJ,pJ]at e;rw[<-e.2.2];exact .refl _ _
 |t::l,j,a,k,k',vs,e=>by
  simp only[ga,xB,xM,pJ]at e
  obtain⟨⟨v,g,k1⟩,b,⟨d,f,k2⟩,c,_,_,rfl⟩:=e
  exact(pH b).trans (uj l c)
theorem Pf{j a:Nat}{t:T}{k k':Wk}{v:SV}(e:ln dst j t k=some (v,a,k')):Grown True k k':=by
 cases t with
 |agg c=>
  grind [ln,xM,uj]
 |d x=>exact pH (dst:=dst) (t:=.d x) e
 |own b=>exact pH (dst:=dst) (t:=.own b) e
 |dead=>simp[ln,gh]at e
theorem AG:∀(l:J T) {j:Nat} {k k':Wk} {vs:J SV},ic dst j l k=some (vs,k')->Grown True k k'
 | [],j,k,k',vs,e=>by simp only[ic,xJ,pJ]at e;rw[<-e.2];exact .refl _ _
 |t::l,j,k,k',vs,e=>by
  simp only[ic,xB,xM,pJ]at e
  obtain⟨⟨v,d,k1⟩,a,⟨c,k2⟩,b,_,rfl⟩:=e
  exact(Pf a).trans (AG l b)
theorem GN{rs:J T}{k k':Wk}{v:SV}(e:pF dst rs k=some (v,k')):Grown True k k':=by
 grind [pF,xM,AG]
theorem JZ{call:dF}{f:FuncId}{ds:J D}{b:bq}{k k':Wk}{v:SV}(e:fg call h dst f ds b k=some (v,k')):Grown (h.aV.contains dst=true) k k':=by
 unfold fg at e
 split at e
 .grind [xB,GN]
 split at e
 .cases e
 .rename_i hk
  simp only[xB]at e
  obtain⟨⟨c,a⟩,_,e⟩:=e;simp only at e
  split at e
  .exact⟨(GN e).ct,λq=>absurd q hk⟩
  .cases e
theorem Dg{call:dF}{f:FuncId}{ds:J D}{b:bq}{k k':Wk}{v:SV}(e:gy call h dst f ds b k=some (v,k')):Grown (h.aV.contains dst=true) k k':=by
 grind [gy,xB,JZ]
theorem M3{call:dF}{op:Op}{g:Oz->SV}{k k':Wk}{v:SV}(e:dD P call h dst ty op g k=some (v,k')):Grown (hOf h dst op=false/\(yX op=true->∀x∈op.operands,dh (g x))) k k':=by
 unfold dD at e
 split at e
 .rename_i f i n
  split at e
  .split at e
   .cases e
   split at e
   .simp only[xB,xM,pJ]at e
    obtain⟨_,_,_,_,_,rfl⟩:=e;exact .refl _ _
   simp only[xB]at e
   obtain⟨⟨j,k1,b⟩,c,r,a,d⟩:=e;obtain⟨rfl,_⟩:=rF d
   refine((ui _ c).imp λ_=>trivial).trans ((Dg a).imp λq=> ?_)
   grind [hOf]
  .simp only[xB]at e
   obtain⟨⟨j,k1,b⟩,c,r,a,d⟩:=e;obtain⟨rfl,_⟩:=rF d
   refine((ui _ c).imp λ_=>trivial).trans ((Dg a).imp λq=> ?_)
   grind [hOf]
  .cases e
 .rename_i m
  by_cases l:∃x,op=.assign x
  .obtain⟨x,rfl⟩:=l
   exact(w6 e).imp λ_=>trivial
  refine(S9 e).imp λq=>⟨q.1,q.2 ?_⟩
  unfold yX
  grind
end
structure Sm(Z:aj->Prop)(b:Bool)(k k':Wk):Prop where
 get:∀r,¬Z r->k'.get r=k.get r
 H:b=true->k'.H=k.H
 tr:k'.tr=k.tr
 nr:k.tr.any Tr.bK=false
 obj:b=false->∀n,Z (.o n)
structure cT(b:Bool)(k k' k1 k1':Wk):Prop where
 ct:∃pre,k1.ct=pre++k.ct/\k1'.ct=pre++k'.ct
 H:b=true->k1'.H=k1.H
 Hs:b=false->k1.H=k.H/\k1'.H=k'.H
 tr:k1'.tr=k1.tr
section
variable{Z:aj->Prop}{b:Bool}{k k' k1 k1' k2 k2':Wk}
theorem cT.refl(s:Sm Z b k k'):cT b k k' k k':=⟨⟨[],rfl,rfl⟩,s.H,λ_=>⟨rfl,rfl⟩,s.tr⟩
theorem cT.trans(x:cT b k k' k1 k1')(y:cT b k1 k1' k2 k2'):cT b k k' k2 k2':=by
 obtain⟨p,a,c⟩:=x.ct;obtain⟨q,h3,h4⟩:=y.ct
 exact⟨⟨q++p,by grind,by grind⟩,y.H,λh=>⟨(y.Hs h).1.trans (x.Hs h).1,(y.Hs h).2.trans (x.Hs h).2⟩,y.tr⟩
theorem kx(p l:J ((Nat×Nat)×T))(x:Nat×Nat):eZ (p++l) x=(eZ p x).or (eZ l x):=by
 induction p with
 |nil=>simp[eZ]
 |cons a p b=>grind [eZ]
theorem Sm.next(s:Sm Z b k k')(p:cT b k k' k1 k1')(hn:k1.tr.any Tr.bK=false):Sm Z b k1 k1':=by
 obtain⟨c,d,e⟩:=p.ct
 refine⟨λr a=> ?_,p.H,p.tr,hn,s.obj⟩
 cases r with
 |l n j=>
  have:=s.get _ a
  grind [Wk.get,Go.Am.cont,kx]
 |o n=>
  cases b with
  |true=>simp only[Wk.get,Go.Am.cont,p.H rfl]
  |false=>exact absurd (s.obj rfl n) a
theorem cT.tell(p:cT b k k' k1 k1')(x:Tr):cT b k k' (k1.tell x) (k1'.tell x):=⟨p.ct,p.H,p.Hs,by simp[Wk.tell,p.tr]⟩
theorem cT.new(p:cT b k k' k1 k1')(n j:Nat)(t:T):cT b k k' (k1.new n j t) (k1'.new n j t):=by
 obtain⟨pre,a,c⟩:=p.ct
 exact⟨⟨((n,j),t)::pre,by simp[Wk.new,a],by simp[Wk.new,c]⟩,p.H,p.Hs,by simp[Wk.new,p.tr]⟩
theorem QS(s:Sm Z b k k'){r:aj}(hr:¬Z r){t:T}(e:k.set r t=some k1):∃k1',k'.set r t=some k1'/\cT b k k' k1 k1'/\k1.tr=k.tr:=by
 cases r with
 |l n j=>
  simp only[Wk.set,xJ]at e
  subst e
  exact⟨_,rfl,⟨⟨[((n,j),t)],rfl,rfl⟩,s.H,λ_=>⟨rfl,rfl⟩,s.tr⟩,rfl⟩
 |o n=>
  cases b with
  |false=>exact absurd (s.obj rfl n) hr
  |true=>
   simp only[Wk.set]at e |-
   split at e
   .simp only[xJ]at e
    subst e
    exact⟨_,rfl,⟨⟨[],rfl,rfl⟩,λ_=>by simp[s.H rfl],by simp,s.tr⟩,rfl⟩
   .cases e
mutual
theorem Tr.rts_le(x:Tr)(hx:x.bK=false):∀(v:SV),∀r∈(x.sv v).ba,r∈v.ba
 | .d y,r,c=>by cases x <;>exact c
 |.rp _ _,r,c|.clip _ _,r,c|.ns _,r,c|.dead,r,c=>by cases x <;>exact c
 | .aG q p o m,r,c=>by
  cases x with
  |dm a b=>simp[Tr.bK]at hx
  |_=>simp only[Tr.sv]at c;(repeat' split at c) <;>simp[SV.ba]at c |- <;>exact c
 | .loc q p i o,r,c=>by
  cases x with
  |dm a b=>simp[Tr.bK]at hx
  |_=>simp only[Tr.sv]at c;(repeat' split at c) <;>simp[SV.ba]at c |- <;>exact c
 | .agg l,r,c=>by
  have e:x.sv (.agg l)=.agg (Tr.bF x l):=by cases x <;>rfl
  rw[e]at c
  exact Tr.rtss_le x hx l r c
 | .aS l,r,c=>by
  have e:x.sv (.aS l)=.aS (Tr.bF x l):=by cases x <;>rfl
  rw[e]at c
  exact Tr.rtss_le x hx l r c
theorem Tr.rtss_le(x:Tr)(hx:x.bK=false):∀(l:List SV),∀r∈SV.rtss (Tr.bF x l),r∈SV.rtss l
 | [],r,c=>c
 |v::l,r,c=>by
  simp only[Tr.bF,SV.rtss,xD]at c |-
  obtain c |c:=c
  .exact .inl (Tr.rts_le x hx v r c)
  .exact .inr (Tr.rtss_le x hx l r c)
end
theorem GO:∀(a:J Tr),a.any Tr.bK=false->∀(v:SV),∀r∈(aU a v).ba,r∈v.ba
 | [],_,_,_,b=>b
 |x::a,h,v,r,b=>by
  simp only[List.any_cons,qY]at h
  exact Tr.rts_le x h.1 v r (GO a h.2 _ r b)
abbrev Off(Z:aj->Prop)(v:SV):Prop:=∀r∈v.ba,¬Z r
theorem Off.aU{v:SV}(h:Off Z v){a:J Tr}(ha:a.any Tr.bK=false):Off Z (aU a v):=λr b=>h r (GO a ha v r b)
theorem Off.aG{r:aj}{p:dP}{o l:Nat}(h:Off Z (.aG r p o l)):¬Z r:=h r (by simp[SV.ba])
theorem Off.loc{r:aj}{p:dP}{i o:Nat}(h:Off Z (.loc r p i o)):¬Z r:=h r (by simp[SV.ba])
theorem Off.bD{v:SV}(h:Off Z v):Off Z (bD v):=by grind [nG]
theorem Off.mem{l:J SV}(h:Off Z (.agg l)){v:SV}(hv:v∈l):Off Z v:=λr b=>h r (by
 show r∈SV.rtss l
 induction l with
 |nil=>cases hv
 |cons a l c=>
  simp only[SV.rtss,xD]
  obtain rfl |hv:=List.mem_cons.1 hv
  .exact .inl b
  .exact .inr (c (λr b=>h r (by show r∈SV.rtss (a::l);simp only[SV.rtss,xD];exact .inr b)) hv))
def bC(Z:aj->Prop)(b:Bool)(k k' k1 k1':Wk):Prop:=cT b k k' k1 k1'/\k1.tr.any Tr.bK=false
theorem bC.refl(s:Sm Z b k k'):bC Z b k k' k k':=⟨cT.refl s,s.nr⟩
theorem bC.trans(x:bC Z b k k' k1 k1')(y:bC Z b k1 k1' k2 k2'):bC Z b k k' k2 k2':=⟨x.1.trans y.1,y.2⟩
theorem Sm.step(s:Sm Z b k k')(x:bC Z b k k' k1 k1'):Sm Z b k1 k1':=s.next x.1 x.2
theorem bC.tell(x:bC Z b k k' k1 k1'){t:Tr}(ht:t.bK=false):bC Z b k k' (k1.tell t) (k1'.tell t):=⟨x.1.tell t,by simp[Wk.tell,x.2,ht]⟩
theorem bC.new(x:bC Z b k k' k1 k1')(n j:Nat)(t:T):bC Z b k k' (k1.new n j t) (k1'.new n j t):=⟨x.1.new n j t,by simp[Wk.new,x.2,Tr.bK]⟩
theorem M4(s:Sm Z b k k'){r:aj}(hr:¬Z r){t:T}(e:k.set r t=some k1):∃k1',k'.set r t=some k1'/\bC Z b k k' k1 k1':=by
 obtain⟨k1',a,c,h3⟩:=QS s hr e
 exact⟨k1',a,c,by rw[h3];exact s.nr⟩
theorem Dh(s:Sm Z b k k'){nv:Nat}{v:SV}{t:T}(ho:Off Z v)(e:dL nv v k=some (t,k1)):∃k1',dL nv v k'=some (t,k1')/\bC Z b k k' k1 k1':=by
 cases v with
 |d x=>simp only[dL,xJ,pJ]at e |-;obtain⟨rfl,rfl⟩:=e;exact⟨k',⟨rfl,rfl⟩,.refl s⟩
 |clip c l=>simp only[dL,xJ,pJ]at e |-;obtain⟨rfl,rfl⟩:=e;exact⟨k',⟨rfl,rfl⟩,.refl s⟩
 |ns b=>simp only[dL,xJ,pJ]at e |-;obtain⟨rfl,rfl⟩:=e;exact⟨k',⟨rfl,rfl⟩,.refl s⟩
 |aG r p o u=>
  simp only[dL,s.get r ho.aG,xB]at e |-
  obtain⟨c,h,B,f,e⟩:=e
  split at e
  .rename_i z
   split at e
   .split at e
    .rename_i n j a
     simp only[xM,pJ]at e
     obtain⟨k2,g,rfl,rfl⟩:=e;obtain⟨k2',i,h3⟩:=M4 s ho.aG g
     exact⟨_,⟨c,h,_,f,by grind⟩,h3.tell rfl⟩
    .rename_i n j a
     simp only[xB,xM,pJ]at e
     obtain⟨l,q,k2,g,rfl,rfl⟩:=e;obtain⟨k2',i,h3⟩:=M4 s ho.aG g
     exact⟨_,⟨c,h,_,f,by grind⟩,h3.tell rfl⟩
   .rename_i A y w
    simp only[xB,xM,pJ]at e
    obtain⟨l,q,c',m,k2,g,rfl,rfl⟩:=e;obtain⟨k2',i,h3⟩:=M4 s ho.aG g
    refine⟨_,⟨c,h,_,f,?_⟩,h3.tell rfl⟩
    grind
  .cases e
 |_=>simp[dL]at e
theorem Di{nv:Nat}:∀(l:J SV) {k k' k1:Wk} {a:J T},Sm Z b k k'->(∀v∈l,Off Z v)->gG nv l k=some (a,k1)->∃k1',gG nv l k'=some (a,k1')/\bC Z b k k' k1 k1'
 | [],k,k',k1,a,s,_,e=>by simp only[gG,xJ,pJ]at e |-;obtain⟨rfl,rfl⟩:=e;exact⟨k',⟨rfl,rfl⟩,.refl s⟩
 |v::l,k,k',k1,a,s,d,e=>by
  simp only[gG,xB,xM,pJ]at e
  obtain⟨⟨t,k2⟩,g,⟨i,n⟩,m,rfl,rfl⟩:=e;obtain⟨k2',h,f⟩:=Dh s ((d v (by simp)).aU s.nr) g
  obtain⟨c,h3,h4⟩:=Di l (s.step f) (λu j=>d u (by simp[j])) m
  exact⟨c,by simp only[gG,s.tr,h,xS,h3,xQ],f.trans h4⟩
theorem rH(s:Sm Z b k k'){nv:Nat}{v:SV}{t:T}(ho:Off Z v)(e:fR nv v k=some (t,k1)):∃k1',fR nv v k'=some (t,k1')/\bC Z b k k' k1 k1':=by
 by_cases a:∃l,v=.agg l
 .obtain⟨l,rfl⟩:=a
  simp only[fR,xM,pJ]at e
  obtain⟨⟨h,k2⟩,d,rfl,rfl⟩:=e;obtain⟨k2',f,g⟩:=Di l s (λv a=>ho.mem a) d
  grind [fR]
 .have c:∀k:Wk,fR nv v k=dL nv (aU k.tr v) k:=λk=>by
   cases v <;>first |rfl |grind
  rw[c]at e
  rw[c,s.tr];exact Dh s (ho.aU s.nr) e
theorem Dj{nv:Nat}:∀(l:J (Nat×SV)) {k k' k1:Wk} {a:J (Nat×T)},Sm Z b k k'->(∀v∈l,Off Z v.2)->gg nv l k=some (a,k1)->∃k1',gg nv l k'=some (a,k1')/\bC Z b k k' k1 k1'
 | [],k,k',k1,a,s,_,e=>by simp only[gg,xJ,pJ]at e |-;obtain⟨rfl,rfl⟩:=e;exact⟨k',⟨rfl,rfl⟩,.refl s⟩
 |(i,v)::l,k,k',k1,a,s,d,e=>by
  simp only[gg,xB,xM,pJ]at e
  obtain⟨⟨t,k2⟩,g,⟨h,o⟩,m,rfl,rfl⟩:=e;obtain⟨k2',n,f⟩:=rH s (d (i,v) (by simp)) g
  obtain⟨c,h3,h4⟩:=Dj l (s.step f) (λu j=>d u (by simp[j])) m
  exact⟨c,by grind [gg],f.trans h4⟩
variable{P:Pz}{h:Hint}{dst:Nat}{ty:TypeId}
theorem Dk(s:Sm Z b k k'){nv:Nat}{v:SV}{t:T}(ho:Off Z v)(e:js nv v k=some (t,k1)):∃k1',js nv v k'=some (t,k1')/\bC Z b k k' k1 k1':=by
 grind [js,xM,rH]
theorem Pg(s:Sm Z b k k'){nv:Nat}{t:TypeId}{a v:SV}(ha:Off Z a)(hv:Off Z v)(e:mG P nv t a v k=some k1):∃k1',mG P nv t a v k'=some k1'/\bC Z b k k' k1 k1':=by
 simp only[mG,xB]at e
 obtain⟨⟨x,k2⟩,n,e⟩:=e;obtain⟨k2',w,g⟩:=Dk s hv n;have f:=s.step g;simp only at e
 split at e
 .rename_i r p i l j
  have h:¬Z r:=by
   have:=(ha.aU f.nr).bD
   rw[j]at this
   exact this.loc
  split at e
  .rename_i o
   simp only[xB]at e
   obtain⟨c,m,z,B,e⟩:=e
   split at e
   .rename_i y
    simp only[xB]at e
    obtain⟨q,q3,e⟩:=e
    split at e
    .rename_i u
     simp only[xB,xM]at e
     obtain⟨c',q4,A,q5,rfl⟩:=e;obtain⟨d,h3,h4⟩:=M4 f h q5
     refine⟨if tm q then d.tell (.cG r (p.length+1))else d,?_,?_⟩
     .simp only[mG,w,xS,f.tr,j]
      rw[if_pos o,f.get r h,m]
      grind
     .split
      .exact g.trans (h4.tell rfl)
      .exact g.trans h4
    .cases e
   .cases e
  .cases e
 .cases e
theorem I4(s:Sm Z b k k'){nv:Nat}{v:SV}{l:J T}(ho:Off Z v)(e:fY nv v k=some (l,k1)):∃k1',fY nv v k'=some (l,k1')/\bC Z b k k' k1 k1':=by
 cases v with
 |d x=>cases x <;>simp only[fY,xJ,pJ,reduceCtorEq]at e |- <;>(obtain⟨rfl,rfl⟩:=e;exact⟨k',⟨rfl,rfl⟩,.refl s⟩)
 |clip c l=>simp only[fY,xJ,pJ]at e |-;obtain⟨rfl,rfl⟩:=e;exact⟨k',⟨rfl,rfl⟩,.refl s⟩
 |ns b=>simp only[fY,xJ,pJ]at e |-;obtain⟨rfl,rfl⟩:=e;exact⟨k',⟨rfl,rfl⟩,.refl s⟩
 |aG r p i m=>
  simp only[fY,s.get r ho.aG,xB]at e |-
  obtain⟨c,g,u,f,e⟩:=e
  split at e
  .split at e
   .rename_i q n j
    split at e
    .rename_i a
     simp only[xM,pJ]at e
     obtain⟨k2,h,rfl,rfl⟩:=e;obtain⟨k2',t,h3⟩:=M4 s ho.aG h
     exact⟨_,⟨c,g,_,f,by grind⟩,h3.tell rfl⟩
    .rename_i a
     split at e
     .rename_i o
      simp only[xJ,pJ]at e
      obtain⟨rfl,rfl⟩:=e
      exact⟨k',⟨c,g,_,f,by grind⟩,.refl s⟩
     .cases e
   .split at e
    .rename_i o
     simp only[xJ,pJ]at e
     obtain⟨rfl,rfl⟩:=e
     exact⟨k',⟨c,g,_,f,by grind⟩,.refl s⟩
    .cases e
  .cases e
 |_=>simp[fY]at e
theorem Ta(s:Sm Z b k k'){n:Nat}{d a:J T}{v:SV}(ho:Off Z v)(e:qn n d v k=some (a,k1)):∃k1',qn n d v k'=some (a,k1')/\bC Z b k k' k1 k1':=by
 unfold qn at e
 split at e
 .simp only[xJ,pJ]at e;obtain⟨rfl,rfl⟩:=e;exact⟨k',rfl,.refl s⟩
 .simp only[xJ,pJ]at e;obtain⟨rfl,rfl⟩:=e;exact⟨k',rfl,.refl s⟩
 .rename_i r p g h
  split at e
  .rename_i f
   simp only[xB]at e
   obtain⟨c,i,q,o,e⟩:=e
   split at e
   .split at e
    .rename_i j
     simp only[xB,xM,pJ]at e
     obtain⟨c',q3,m,q4,rfl,rfl⟩:=e;obtain⟨l,h3,h4⟩:=M4 s ho.aG q4
     refine⟨_,?_,h4.tell rfl⟩
     unfold qn
     simp only
     rw[if_pos f,s.get r ho.aG,i]
     grind
    .cases e
   .cases e
  .cases e
 .cases e
theorem Tb(s:Sm Z b k k'){v:SV}{l:J T}(ho:Off Z v)(e:qp v k=some l):qp v k'=some l:=by
 unfold qp at e |-
 split at e
 .grind [xM,I4]
 .exact e
 .exact e
 .exact e
 .exact e
 .cases e
theorem Tc(s:Sm Z b k k'){t:TypeId}{x y v:SV}(hx:Off Z x)(j:Off Z y)(e:nP P t x y k=some (v,k1)):∃k1',nP P t x y k'=some (v,k1')/\cT b k k' k1 k1':=by
 unfold nP at e |-
 split at e
 .rename_i r p a d
  simp only[xB]at e
  obtain⟨C,n,f,z,g,u,e⟩:=e
  split at e
  .rename_i w
   simp only[xM,pJ]at e
   obtain⟨k2,e,rfl,rfl⟩:=e
   have h:∃k2',lx r p a (g.take (Nat.min g.length d)) k'=some k2'/\cT b k k' k2 k2':=by
    unfold lx at e |-
    split at e
    .grind [cT.refl]
    .rename_i i
     rw[if_neg i,s.get r hx.aG];simp only[xB]at e
     obtain⟨c,o,B,q,e⟩:=e
     split at e
     .split at e
      .rename_i m
       simp only[xB]at e
       obtain⟨c',q3,q4⟩:=e;obtain⟨k2',l,A,_⟩:=QS s hx.aG q4
       grind
      .cases e
     .cases e
   grind [Tb]
  .cases e
 .cases e
theorem M5(s:Sm Z b k k'){nv:Nat}{t:TypeId}{x y v:SV}(hx:Off Z x)(n:Off Z y)(e:iu P nv dst t x y k=some (v,k1)):∃k1',iu P nv dst t x y k'=some (v,k1')/\bC Z b k k' k1 k1':=by
 simp only[iu,xB]at e
 obtain⟨m,i,z,l,⟨c,k2⟩,j,e⟩:=e;obtain⟨k2',o,h⟩:=I4 s n j;have g:=s.step h
 split at e
 .rename_i a
  simp only[xB]at e
  obtain⟨⟨d,r⟩,p,e⟩:=e;obtain⟨f,h3,h4⟩:=Ta g (hx.aU g.nr) p;simp only at e
  split at e
  .rename_i q
   simp only[xJ,pJ]at e
   obtain⟨rfl,rfl⟩:=e
   refine⟨f.new dst 0 (.own (d++c)),?_,(h.trans h4).new _ _ _⟩
   simp only[iu,i,l,xS,o];rw[if_pos a,g.tr,h3]
   grind
  .cases e
 .cases e
theorem M6(s:Sm Z b k k'){sl:Bool}{u v:SV}(ho:Off Z u)(e:fb dst sl u k=some (v,k1)):∃k1',fb dst sl u k'=some (v,k1')/\cT b k k' k1 k1':=by
 have plain:(∀k:Wk,fb dst sl u k=some (u,k))->∃k1',fb dst sl u k'=some (v,k1')/\cT b k k' k1 k1':=λt=>by
  grind [cT.refl]
 cases u with
 |d x=>
  cases x with
  |aJ=>
   simp only[fb]at e |-
   split at e <;>simp only[xJ,pJ]at e <;>obtain⟨rfl,rfl⟩:=e
   .rename_i f;exact⟨_,by rw[if_pos f],(cT.refl s).new _ _ _⟩
   grind [cT.refl]
  |_=>exact plain λ_=>rfl
 |aG r p a g=>
  cases r with
  |o n=>exact plain λ_=>rfl
  |l n j=>
   cases p with
   |cons _ _=>exact plain λ_=>rfl
   |nil=>
    cases a with
    |succ _=>exact plain λ_=>rfl
    |zero=>
     simp only[fb]at e |-
     split at e
     .grind [cT.refl]
     .rename_i q
      simp only[xB]at e
      obtain⟨c,h,e⟩:=e;rw[if_neg q,s.get _ ho.aG,h];simp only[xS]
      split at e
      .split at e <;>simp only[xJ,pJ]at e <;>obtain⟨rfl,rfl⟩:=e
       .rename_i m i
        exact⟨_,if_pos i,⟨⟨[((dst,0),.own m),((n,j),.dead)],rfl,rfl⟩,s.H,λ_=>⟨rfl,rfl⟩,by simp[Wk.tell,Wk.new,s.tr]⟩⟩
       grind [cT.refl]
      .cases e
 |_=>exact plain λ_=>rfl
theorem Td{t:TypeId}{u:SV}{r:aj}{p:dP}{o len:Nat}(e:gY P t u k=some (.aG r p o len)):r∈u.ba:=by
 have mk:∀l:J SV,SV.bt l≠ .aG r p o len:=λl=>by grind [SV.bt]
 rw[<-nG];unfold gY at e
 split at e
 .rename_i j m i f h
  rw[h];simp only[xB]at e
  obtain⟨c,_,n,_,e⟩:=e
  split at e
  .simp only[xB]at e
   obtain⟨q,_,b,_,e⟩:=e
   split at e
   .grind [xM]
   .simp only[xB]at e
    obtain⟨g,_,e⟩:=e
    cases g with
    |d x=>cases x <;>simp[ib,D.sv1]at e
    |own a=>
     grind [ib,SV.ba]
    |_=>simp[ib]at e
  .cases e
 .simp only[xB]at e
  obtain⟨b,_,e⟩:=e
  split at e
  .grind
  .simp only[xB]at e
   obtain⟨x,_,e⟩:=e
   cases x <;>simp[D.sv1]at e
 .cases e
theorem Te(s:Sm Z b k k'){u v:SV}(ho:∀r p o len,u=.aG r p o len->¬Z r)(e:tW dst u k=some (v,k1)):∃k1',tW dst u k'=some (v,k1')/\cT b k k' k1 k1':=by
 unfold tW at e |-
 split at e
 .rename_i r p len
  have a:=ho _ _ _ _ rfl;simp only[xB]at e |-
  obtain⟨c,d,n,h,e⟩:=e
  split at e
  .rename_i i
   split at e
   .rename_i j
    simp only[xB,xM,pJ]at e
    obtain⟨c',l,k2,f,rfl,rfl⟩:=e;obtain⟨k2',m,g⟩:=M4 s a f
    exact⟨_,⟨c,by rw[s.get r a];exact d,_,h,by grind⟩,((g.1.tell _).new _ _ _)⟩
   .cases e
  .cases e
 .cases e
theorem y_(s:Sm Z b k k'){op:Op}{R:Oz->SV}{v:SV}(hh:b=false->wL h dst op=false)(ho:∀x∈op.operands,Off Z (R x))(e:opE P h dst ty op R k=some (v,k1)):∃k1',opE P h dst ty op R k'=some (v,k1')/\cT b k k' k1 k1':=by
 have pt:b=true\/∀n,Z (.o n):=by cases b with |true=>exact .inl rfl |false=>exact .inr (s.obj rfl)
 -- what lies in a map,of an operand
 have I:∀{x:Oz} {o:Nat},x∈op.operands->R x=.d (.map o)->b=true:=λ{x o} J L=>by
  obtain q |q:=pt
  .exact q
  .exact absurd (q o) (ho x J _ (by grind [SV.ba]))
 by_cases G:fU h dst op=false/\∀c,op=.call c->∃b,c.callee=.builtin b
 .obtain⟨rfl,hr⟩:=GM G.2 G.1 e
  refine⟨k',hr k' (λ_ x J r ad=>s.get r (ho x J r ad)) (λ_=> ?_),cT.refl s⟩
  obtain q |q:=pt
  .exact .inl (s.H q)
  .right
   intro x J;refine List.any_eq_false.2 λr hr=> ?_
   cases r with
   |l n j=>simp[aj.cD]
   |o n=>grind
 unfold opE at e |-
 cases op <;>simp only at e |- <;>simp only[Op.operands]at ho <;>try (exact absurd ⟨rfl,by simp⟩ G)
 case assign x=>grind [M6]
 case alloc t=>
  simp only[xB]at e |-
  obtain⟨z,hz,e⟩:=e;unfold F8 at e |-
  split at e
  .cases e
  .rename_i hn
   split at e <;>simp only[xJ,pJ]at e <;>obtain⟨rfl,rfl⟩:=e
   .rename_i C
    have B:b=true:=by cases b with |true=>rfl |false=>grind [wL]
    have i:=s.H B
    refine⟨{k' with H:=k'.H++[.box (T.cj z)]},⟨z,hz,by grind⟩,⟨⟨[],rfl,rfl⟩,λ_=>by simp[i],(λq=>by grind),s.tr⟩⟩
   .rename_i C;exact⟨_,⟨z,hz,by grind⟩,(cT.refl s).new _ _ _⟩
 case box t x=>
  simp only[xB]at e |-
  obtain⟨⟨y,k2⟩,d,e⟩:=e;obtain⟨k2',D,f⟩:=Dk s (ho x (by simp)) d
  simp only at e
  split at e
  .rename_i ak
   unfold F8 at e |-
   split at e
   .cases e
   .rename_i hn
    split at e <;>simp only[xJ,pJ]at e <;>obtain⟨rfl,rfl⟩:=e
    .rename_i C
     have B:b=true:=by cases b with |true=>rfl |false=>grind [wL]
     have i:=f.1.H B
     exact⟨{k2' with H:=k2'.H++[.box y]},⟨_,D,by grind⟩,⟨f.1.ct,λ_=>by simp[i],(λq=>by grind),f.1.tr⟩⟩
    .rename_i C;exact⟨_,⟨_,D,by grind⟩,f.1.new _ _ _⟩
  .cases e
 case buildSlice t n ps=>
  simp only[fZ,xB]at e
  obtain⟨aa,K,z,F,⟨p1,k2⟩,d,e⟩:=e
  obtain⟨k2',D,f⟩:=Dj _ s (λu hu=>by
   grind) d
  split at e
  .rename_i af
   simp only[xB]at e
   obtain⟨N,u3,e⟩:=e
   have W:∀r:U (SV×Wk),(∃w1,(if(h.lits.contains dst)=true then(if(ps.toList.map λp=>(p.1,R p.2)).all (λp=>isD p.2)=true then(T.aY false N).map λds=>(.d (.sl false ds),k2')else none)else some (.aG (.l dst 0) [] 0 n,k2'.new dst 0 (.own N)))=some (v,w1)/\cT b k k' k1 w1)->
     ∃k1',fZ P h.nv dst (h.lits.contains dst) t n (ps.toList.map λp=>(p.1,R p.2)) k'=some (v,k1')/\cT b k k' k1 k1':=λ_ ⟨w1,q1,q2⟩=>by
    grind [fZ]
   refine W none ?_
   split at e
   .rename_i O
    split at e
    .rename_i ah
     simp only[xM,pJ]at e
     obtain⟨ds,u4,rfl,rfl⟩:=e
     exact⟨k2',by grind,f.1⟩
    .cases e
   .rename_i O
    simp only[xJ,pJ]at e
    obtain⟨rfl,rfl⟩:=e
    exact⟨_,by rw[if_neg O],f.1.new _ _ _⟩
  .cases e
 case load t a=>
  by_cases O:h.lits.contains dst=true
  .have V:Off Z (R a):=ho a (by simp)
   cases a with
   |global g=>
    grind [xB,xM,AE,SV.ba,cT.refl]
   |_=>
    simp only[O,if_true,xB]at e |-
    obtain⟨u,d,e2⟩:=e;obtain⟨k1',D,f⟩:=Te s (λr p o len hu=>V r (by grind [Td])) e2
    exact⟨k1',⟨u,by rw[AE (k:=k) (λr hr=>s.get r (V r hr)),d],D⟩,f⟩
  grind [fU]
 case range t x=>
  have B:b=true:=by cases b with |true=>rfl |false=>grind [wL]
  have i:=s.H B;unfold t5 at e |-
  rw[i];have ac:∀Q,cT b k k' {k with H:=k.H++[Q]} {k' with H:=k.H++[Q]}:=λQ=>⟨⟨[],rfl,rfl⟩,λ_=>rfl,(λq=>by grind),s.tr⟩
  grind
 case next x al=>
  have B:b=true:=by cases b with |true=>rfl |false=>grind [wL]
  have i:=s.H B;unfold CZ at e |-
  rw[i];have ac:∀n Q,cT b k k' {k with H:=k.H.set n Q} {k' with H:=k.H.set n Q}:=λn Q=>⟨⟨[],rfl,rfl⟩,λ_=>rfl,(λq=>by grind),s.tr⟩
  split at e
  .grind [cT.refl]
  .cases e
 case makeInterface t x=>
  grind [xM,cT.refl]
 case typeAssert x xt u ok=>
  grind [xM,cT.refl]
 case store t a x=>
  simp only[xM,pJ]at e |-
  obtain⟨k2,d,rfl,rfl⟩:=e;obtain⟨k2',D,f⟩:=Pg s (ho a (by simp)) (ho x (by simp)) d
  exact⟨k2',⟨k2',D,rfl,rfl⟩,f.1⟩
 case makeMap t r=>
  have B:b=true:=by cases b with |true=>rfl |false=>grind [wL]
  have i:=s.H B
  cases r with
  |none=>
   simp only[xJ,pJ]at e |-
   obtain⟨rfl,rfl⟩:=e
   exact⟨_,⟨by rw[i],rfl⟩,⟨⟨[],rfl,rfl⟩,λ_=>by simp[i],(λq=>by grind),s.tr⟩⟩
  |some n=>
   simp only at e |-
   split at e
   .simp only[xJ,pJ]at e
    obtain⟨rfl,rfl⟩:=e
    exact⟨{k' with H:=k'.H++[.map []]},by rw[i],⟨⟨[],rfl,rfl⟩,λ_=>by simp[i],(λq=>by grind),s.tr⟩⟩
   .cases e
 case makeSlice t l c=>
  unfold F6 at e |-
  split at e
  .simp only[xB]at e |-
   obtain⟨aa,K,z,F,e⟩:=e
   split at e
   .rename_i C
    simp only[xJ,pJ]at e
    obtain⟨rfl,rfl⟩:=e
    exact⟨_,⟨aa,K,z,F,by rw[if_pos C]⟩,(cT.refl s).new _ _ _⟩
   .cases e
  .cases e
 case lookup t m key ok=>
  split at e
  .rename_i O
   rw[if_pos O]
   split at e
   .cases e
   .rename_i S
    rw[if_neg S];simp[F7]at e
  .rename_i O
   rw[if_neg O]
   split at e
   .rename_i ag
    rw[if_pos ag]
    split at e
    .cases e
    .rename_i S
     rw[if_neg S];simp[nN]at e
   grind [fU]
 case mapUpdate t m key x=>
  simp only[xM,pJ]at e |-
  obtain⟨k2,d,rfl,rfl⟩:=e;simp only[gX,xB]at d
  obtain⟨⟨kt,et⟩,K,d⟩:=d;simp only at d
  split at d
  .rename_i o kd L hk
   have B:=I (x:=m) (by simp[Op.operands]) L
   split at d
   .rename_i C
    simp only[xB]at d
    obtain⟨⟨y,k3⟩,e2,d⟩:=d;obtain⟨k3',D,f⟩:=rH s (ho x (by simp)) e2
    have i:=f.1.H B;simp only at d
    split at d
    .rename_i Y N A
     simp only[xM]at d
     obtain⟨w,F,rfl⟩:=d
     refine⟨_,⟨{k3' with H:=k3'.H.set o (.map w)},?_,rfl,rfl⟩,⟨f.1.ct,λ_=>by simp[i],(λq=>by rw[B]at q;cases q),f.1.tr⟩⟩
     simp only[gX,K,xS];rw[L,hk]
     simp only
     rw[if_pos C,D];simp only[xS,i,A,F,xQ]
    .rename_i Y N A
     simp only[xM]at d
     obtain⟨w,F,rfl⟩:=d
     refine⟨_,⟨{k3' with H:=k3'.H.set o (.map w)},?_,rfl,rfl⟩,⟨f.1.ct,λ_=>by simp[i],(λq=>by rw[B]at q;cases q),f.1.tr⟩⟩
     simp only[gX,K,xS];rw[L,hk]
     simp only
     rw[if_pos C,D];simp only[xS,i,A,F,xQ]
    .rename_i Y N A
     simp only[xM]at d
     obtain⟨w,F,rfl⟩:=d
     refine⟨_,⟨{k3' with H:=k3'.H.set o (.sset w)},?_,rfl,rfl⟩,⟨f.1.ct,λ_=>by simp[i],(λq=>by rw[B]at q;cases q),f.1.tr⟩⟩
     simp only[gX,K,xS];rw[L,hk]
     simp only
     rw[if_pos C,D];simp only[xS,i,A,F,xQ]
    .cases d
   .cases d
  .cases d
 case insert t m key x=>
  simp only[xM,pJ]at e |-
  obtain⟨k2,d,rfl,rfl⟩:=e;simp only[gX,xB]at d
  obtain⟨⟨kt,et⟩,K,d⟩:=d;simp only at d
  split at d
  .rename_i o kd L hk
   have B:=I (x:=m) (by simp[Op.operands]) L
   split at d
   .rename_i C
    simp only[xB]at d
    obtain⟨⟨y,k3⟩,e2,d⟩:=d;obtain⟨k3',D,f⟩:=rH s (ho x (by simp)) e2
    have i:=f.1.H B;simp only at d
    split at d
    .rename_i Y N A
     simp only[xM]at d
     obtain⟨w,F,rfl⟩:=d
     refine⟨_,⟨{k3' with H:=k3'.H.set o (.map w)},?_,rfl,rfl⟩,⟨f.1.ct,λ_=>by simp[i],(λq=>by grind),f.1.tr⟩⟩
     grind [gX]
    .rename_i Y N A
     simp only[xM]at d
     obtain⟨w,F,rfl⟩:=d
     refine⟨_,⟨{k3' with H:=k3'.H.set o (.map w)},?_,rfl,rfl⟩,⟨f.1.ct,λ_=>by simp[i],(λq=>by rw[B]at q;cases q),f.1.tr⟩⟩
     simp only[gX,K,xS];rw[L,hk]
     simp only
     rw[if_pos C,D];simp only[xS,i,A,F,xQ]
    .rename_i Y N A
     simp only[xM]at d
     obtain⟨w,F,rfl⟩:=d
     refine⟨_,⟨{k3' with H:=k3'.H.set o (.sset w)},?_,rfl,rfl⟩,⟨f.1.ct,λ_=>by simp[i],(λq=>by rw[B]at q;cases q),f.1.tr⟩⟩
     simp only[gX,K,xS];rw[L,hk]
     simp only
     rw[if_pos C,D];simp only[xS,i,A,F,xQ]
    .cases d
   .cases d
  .cases d
 case call c=>
  obtain⟨M,E,cu⟩:=c
  cases M with
  |builtin bi=>
   cases bi <;>simp only[reduceCtorEq]at e |-
   case len=>exact absurd ⟨rfl,λc C=>by grind⟩ G
   case min=>exact absurd ⟨rfl,λc C=>by grind⟩ G
   case max=>exact absurd ⟨rfl,λc C=>by grind⟩ G
   case copy=>
    split at e
    .rename_i x y t u J ht
     have ab:x∈E:=by rw[<-qZ,J];simp
     have X:y∈E:=by rw[<-qZ,J];simp
     grind [Tc,Call.operands]
    .cases e
   case append=>
    split at e
    .rename_i x y t u J ht
     have ab:x∈E:=by rw[<-qZ,J];simp
     have X:y∈E:=by rw[<-qZ,J];simp
     split at e
     .rename_i ai
      obtain⟨k1',D,f⟩:=M5 s (ho x (by simp[Call.operands,ab])) (ho y (by simp[Call.operands,X])) e
      exact⟨k1',by grind,f.1⟩
     .cases e
    .cases e
  |_=>simp at e
 all_goals (cases e)
theorem I5(s:Sm Z b k k'){nv:Nat}{v:SV}{l m:bq}{x:D}(ho:Off Z v)(e:fE nv v k l=some (x,k1,m)):∃k1',fE nv v k' l=some (x,k1',m)/\bC Z b k k' k1 k1':=by
 cases v with
 |d y=>simp only[fE,xJ,pJ]at e |-;obtain⟨rfl,rfl,rfl⟩:=e;exact⟨k',⟨rfl,rfl,rfl⟩,.refl s⟩
 |clip c y=>simp only[fE,xJ,pJ]at e |-;obtain⟨rfl,rfl,rfl⟩:=e;exact⟨k',⟨rfl,rfl,rfl⟩,.refl s⟩
 |ns b=>simp only[fE,xJ,pJ]at e |-;obtain⟨rfl,rfl,rfl⟩:=e;exact⟨k',⟨rfl,rfl,rfl⟩,.refl s⟩
 |aG r p t u=>
  simp only[fE,s.get r ho.aG,xB]at e |-
  obtain⟨c,g,A,a,e⟩:=e
  split at e
  .split at e
   .rename_i i
    simp only[xJ,pJ]at e
    obtain⟨rfl,rfl,rfl⟩:=e
    exact⟨k',⟨c,g,_,a,by grind⟩,.refl s⟩
   rename_i i
   split at e
   .rename_i o n j
    split at e
    .rename_i f
     simp only[xB,xM,pJ]at e
     obtain⟨y,h,k2,q,rfl,rfl,rfl⟩:=e;obtain⟨k2',z,h3⟩:=M4 s ho.aG q
     exact⟨_,⟨c,g,_,a,by grind⟩,h3.tell rfl⟩
    .rename_i f
     simp only[xM,pJ]at e
     obtain⟨y,h,rfl,rfl,rfl⟩:=e
     exact⟨k',⟨c,g,_,a,by grind⟩,.refl s⟩
   .rename_i o n j w
    simp only[xM,pJ]at e
    obtain⟨y,h,rfl,rfl,rfl⟩:=e
    refine⟨k',⟨c,g,_,a,?_⟩,.refl s⟩
    grind
   .rename_i o n
    simp only[xM,pJ]at e
    obtain⟨y,h,rfl,rfl,rfl⟩:=e
    exact⟨k',⟨c,g,_,a,by grind⟩,.refl s⟩
  .cases e
 |_=>simp[fE]at e
theorem I6{nv:Nat}:∀(l:J SV) {k k' k1:Wk} {d a:bq} {xs:J D},Sm Z b k k'->(∀v∈l,Off Z v)->lr nv l k d=some (xs,k1,a)->∃k1',lr nv l k' d=some (xs,k1',a)/\bC Z b k k' k1 k1'
 | [],k,k',k1,d,a,xs,s,_,e=>by simp only[lr,xJ,pJ]at e |-;obtain⟨rfl,rfl,rfl⟩:=e;exact⟨k',⟨rfl,rfl,rfl⟩,.refl s⟩
 |v::l,k,k',k1,d,a,xs,s,f,e=>by
  simp only[lr,xB,xM,pJ]at e
  obtain⟨⟨x,k2,n⟩,h,⟨o,q,p⟩,m,rfl,rfl,rfl⟩:=e;obtain⟨k2',i,g⟩:=I5 s ((f v (by simp)).aU s.nr) h
  obtain⟨c,h3,h4⟩:=I6 l (s.step g) (λu j=>f u (by simp[j])) m
  exact⟨c,by simp only[lr,s.tr,i,xS,h3,xQ],g.trans h4⟩
theorem V2(s:Sm Z b k k'){nv:Nat}{v:SV}{d c:bq}{x:D}(ho:Off Z v)(e:wK nv v k d=some (x,k1,c)):∃k1',wK nv v k' d=some (x,k1',c)/\bC Z b k k' k1 k1':=by
 by_cases a:∃l,v=.agg l
 .obtain⟨l,rfl⟩:=a
  simp only[wK,xM,pJ]at e
  obtain⟨⟨j,k2,i⟩,g,rfl,rfl,rfl⟩:=e;obtain⟨k2',h,m⟩:=I6 l s (λv a=>ho.mem a) g
  grind [wK]
 .have f:∀k:Wk,wK nv v k d=fE nv (aU k.tr v) k d:=λk=>by
   cases v <;>first |rfl |grind
  rw[f]at e
  rw[f,s.tr];exact I5 s (ho.aU s.nr) e
theorem Cd{nv:Nat}:∀(l:J SV) {k k' k1:Wk} {d a:bq} {xs:J D},Sm Z b k k'->(∀v∈l,Off Z v)->gS nv l k d=some (xs,k1,a)->∃k1',gS nv l k' d=some (xs,k1',a)/\bC Z b k k' k1 k1'
 | [],k,k',k1,d,a,xs,s,_,e=>by simp only[gS,xJ,pJ]at e |-;obtain⟨rfl,rfl,rfl⟩:=e;exact⟨k',⟨rfl,rfl,rfl⟩,.refl s⟩
 |v::l,k,k',k1,d,a,xs,s,f,e=>by
  simp only[gS,xB,xM,pJ]at e
  obtain⟨⟨x,k2,m⟩,h,⟨n,q,o⟩,j,rfl,rfl,rfl⟩:=e;obtain⟨k2',p,g⟩:=V2 s (f v (by simp)) h
  obtain⟨c,h3,h4⟩:=Cd l (s.step g) (λu i=>f u (by simp[i])) j
  exact⟨c,by grind [gS],g.trans h4⟩
theorem uk(s:Sm Z b k k'){j a:Nat}{t:T}{v:SV}(e:gh dst j t k=some (v,a,k1)):∃k1',gh dst j t k'=some (v,a,k1')/\bC Z b k k' k1 k1':=by
 cases t <;>simp only[gh,xJ,pJ,reduceCtorEq]at e |- <;>obtain⟨rfl,rfl,rfl⟩:=e
 .exact⟨k',⟨rfl,rfl,rfl⟩,.refl s⟩
 .exact⟨_,⟨rfl,rfl,rfl⟩,(bC.refl s).new _ _ _⟩
theorem AH:∀(l:J T) {j a:Nat} {k k' k1:Wk} {vs:J SV},Sm Z b k k'->ga dst j l k=some (vs,a,k1)->∃k1',ga dst j l k'=some (vs,a,k1')/\bC Z b k k' k1 k1'
 | [],j,a,k,k',k1,vs,s,e=>by simp only[ga,xJ,pJ]at e |-;obtain⟨rfl,rfl,rfl⟩:=e;exact⟨k',⟨rfl,rfl,rfl⟩,.refl s⟩
 |t::l,j,a,k,k',k1,vs,s,e=>by
  simp only[ga,xB,xM,pJ]at e
  obtain⟨⟨v,o,k2⟩,f,⟨m,i,n⟩,g,rfl,rfl,rfl⟩:=e;obtain⟨k2',h,d⟩:=uk s f;obtain⟨c,h3,h4⟩:=AH l (s.step d) g
  exact⟨c,by grind [ga],d.trans h4⟩
theorem V3(s:Sm Z b k k'){j a:Nat}{t:T}{v:SV}(e:ln dst j t k=some (v,a,k1)):∃k1',ln dst j t k'=some (v,a,k1')/\bC Z b k k' k1 k1':=by
 cases t with
 |agg f=>
  grind [ln,xM,AH]
 |d x=>exact uk (dst:=dst) (t:=.d x) s e
 |own c=>exact uk (dst:=dst) (t:=.own c) s e
 |dead=>simp[ln,gh]at e
theorem GP:∀(l:J T) {j:Nat} {k k' k1:Wk} {vs:J SV},Sm Z b k k'->ic dst j l k=some (vs,k1)->∃k1',ic dst j l k'=some (vs,k1')/\bC Z b k k' k1 k1'
 | [],j,k,k',k1,vs,s,e=>by simp only[ic,xJ,pJ]at e |-;obtain⟨rfl,rfl⟩:=e;exact⟨k',⟨rfl,rfl⟩,.refl s⟩
 |t::l,j,k,k',k1,vs,s,e=>by
  simp only[ic,xB,xM,pJ]at e
  obtain⟨⟨v,m,k2⟩,d,⟨h,i⟩,f,rfl,rfl⟩:=e;obtain⟨k2',g,c⟩:=V3 s d;obtain⟨a,h3,h4⟩:=GP l (s.step c) f
  exact⟨a,by grind [ic],c.trans h4⟩
theorem M7(s:Sm Z b k k'){rs:J T}{v:SV}(e:pF dst rs k=some (v,k1)):∃k1',pF dst rs k'=some (v,k1')/\bC Z b k k' k1 k1':=by
 grind [pF,xM,GP]
theorem y9(s:Sm Z b k k')(hb:b=false->h.aV.contains dst=true){call:dF}{f:FuncId}{ds:J D}{d:bq}{v:SV}(e:fg call h dst f ds d k=some (v,k1)):∃k1',fg call h dst f ds d k'=some (v,k1')/\cT b k k' k1 k1':=by
 unfold fg at e |-
 split at e
 .rename_i hk
  rw[if_pos hk];simp only[xB]at e |-
  obtain⟨⟨A,g⟩,i,e⟩:=e;simp only at e
  split at e
  .rename_i y
   obtain⟨k1',w,a⟩:=M7 s e
   exact⟨k1',⟨_,i,by grind⟩,a.1⟩
  .cases e
 rename_i p;rw[if_neg p]
 split at e
 .cases e
 .rename_i hk
  have m:b=true:=by
   cases b with
   |true=>rfl
   |false=>grind
  subst m;rw[if_neg hk,s.H rfl];simp only[xB]at e |-
  obtain⟨⟨A,g⟩,i,e⟩:=e;simp only at e
  split at e
  .rename_i y
   have z:Sm (λr=>Z r\/r.cD=true) true {k with H:=jG k.H d.lk g,tr:=k.tr++[.bL]} {k' with H:=jG k.H d.lk g,tr:=k'.tr++[.bL]}:=by
    refine⟨λr q=> ?_,λ_=>rfl,by simp[s.tr],by simp[s.nr,Tr.bK],by simp⟩
    cases r with
    |l n j=>exact s.get (.l n j) (λu=>q (.inl u))
    |o n=>exact absurd (.inr rfl) q
   obtain⟨k1',w,a⟩:=M7 z e;obtain⟨c,x,t⟩:=a.1.ct
   exact⟨k1',⟨_,i,by grind⟩,⟨⟨c,x,t⟩,a.1.H,by simp,a.1.tr⟩⟩
  .cases e
theorem I7(s:Sm Z b k k')(hb:b=false->(h.aV.contains dst=true/\h.ro.contains dst=false)/\h.lkn.contains dst=false){call:dF}{f:FuncId}{ds:J D}{d:bq}{v:SV}(e:gy call h dst f ds d k=some (v,k1)):∃k1',gy call h dst f ds d k'=some (v,k1')/\cT b k k' k1 k1':=by
 unfold gy at e |-
 split at e
 .rename_i a
  simp only[xB]at e
  obtain⟨j,m,e⟩:=e
  have c:b=true:=by
   cases b with
   |true=>rfl
   |false=>grind
  subst c;obtain⟨k1',g,i⟩:=y9 s (λq=>by cases q) e
  exact⟨k1',by rw[if_pos a,s.H rfl,m];exact g,i⟩
 .rename_i a
  rw[if_neg a]
  split at e
  .rename_i l
   have c:b=true:=by
    cases b with
    |true=>rfl
    |false=>grind
   subst c;obtain⟨k1',g,i⟩:=y9 s (λq=>by cases q) e
   exact⟨k1',by rw[if_pos l,s.H rfl];exact g,i⟩
  grind [y9]
theorem Tf(s:Sm Z b k k'){call:dF}{op:Op}{c:Oz->SV}{v:SV}(z:b=false->wL h dst op=false)(ho:∀x∈op.operands,Off Z (c x))(e:dD P call h dst ty op c k=some (v,k1)):∃k1',dD P call h dst ty op c k'=some (v,k1')/\cT b k k' k1 k1':=by
 have plain:opE P h dst ty op c k=some (v,k1)->∃k1',opE P h dst ty op c k'=some (v,k1')/\cT b k k' k1 k1':=λe=>y_ s z ho e
 unfold dD at e |-
 split at e
 .rename_i f p C
  have o:b=false->(h.aV.contains dst=true/\h.ro.contains dst=false)/\h.lkn.contains dst=false:=λq=>by
   grind [wL]
  simp only
  split at e
  .rename_i g first A t
   split at e
   .cases e
   rename_i w;rw[if_neg w]
   split at e
   .grind [xB,xM,cT.refl]
   simp only[xB]at e |-
   obtain⟨⟨y,k2,d⟩,i,r,m,j⟩:=e;obtain⟨rfl,n⟩:=rF j
   obtain⟨k2',l,a⟩:=Cd _ s (λu B=>by
    grind [Op.operands,Call.operands]) i
   obtain⟨k1',h3,h4⟩:=I7 (s.step a) o m
   exact⟨k1',⟨_,l,_,h3,by grind [jP]⟩,a.1.trans h4⟩
  .rename_i D t
   simp only[xB]at e |-
   obtain⟨⟨y,k2,d⟩,i,r,m,j⟩:=e;obtain⟨rfl,n⟩:=rF j
   obtain⟨k2',l,a⟩:=Cd _ s (λu B=>by
    grind [Op.operands,Call.operands]) i
   obtain⟨k1',h3,h4⟩:=I7 (s.step a) o m
   exact⟨k1',⟨_,l,_,h3,by grind [jP]⟩,a.1.trans h4⟩
  .cases e
 grind
end
theorem M8{a b:Type}(f:a->b)(l:J (Nat×a))(t:Nat):look (l.map λp=>(p.1,f p.2)) t=(look l t).map f:=by
 induction l with
 |nil=>rfl
 |cons p r c=>grind [look]
theorem gi(s:St)(d:U Nat)(v:SV)(k:Wk)(t:Nat):(s.fin d v k).get t=if d=some t then v else aU k.tr (s.get t):=by
 have a:(look (trs k.tr s.env) t).getD .dead=aU k.tr (s.get t):=by
  rw[MP];unfold St.get
  cases look s.env t with
  |none=>simp[VT]
  |some u=>rfl
 cases d with
 |none=>grind [St.fin,St.get]
 |some d=>
  grind [St.fin,St.get,look]
theorem GQ:∀(a:J Tr),gc a []=[]
 | []=>rfl
 |x::a=>by
  have:x.cK []=[]:=by cases x <;>simp[Tr.cK]
  simp only[gc,this,GQ a]
theorem fw(hi:pG)(tr:J Tr)(d:U Nat)(L:J aj)(t:Nat):eV (dT hi tr d L) t=if d=some t then L else gc tr (eV hi t):=by
 have a:(look (hi.map λp=>(p.1,gc tr p.2)) t).getD []=gc tr (eV hi t):=by
  rw[M8];unfold eV
  cases look hi t with
  |none=>simp[GQ]
  |some u=>rfl
 cases d with
 |none=>grind [dT,eV]
 |some d=>
  grind [dT,eV,look]
theorem Tr.hist_sub(x:Tr)(l:J aj):∀r∈l,r∈x.cK l:=λr a=>by
 cases x <;>simp only[Tr.cK] <;>first |exact a |grind
theorem GR:∀(a:J Tr) (l:J aj),∀r∈l,r∈gc a l
 | [],_,r,b=>b
 |x::a,l,r,b=>GR a _ r (Tr.hist_sub x l r b)
theorem Tr.hist_id(x:Tr)(l:J aj)(h:∀r∈l,r∉x.ba):x.cK l=l:=by
 cases x <;>simp only[Tr.cK] <;>try rfl
 grind [Tr.ba]
theorem I8:∀(a:J Tr) (l:J aj),(∀r∈l,r∉a.flatMap Tr.ba)->gc a l=l
 | [],_,_=>rfl
 |x::a,l,h=>by
  have:=I8 a l;grind [gc,Tr.hist_id]
mutual
theorem Tr.dg(x:Tr):∀(v:SV) (L:List aj),(∀r∈v.aX,r∈L)->∀r∈(x.sv v).aX,r∈x.cK L
 | .d y,L,h,r,c=>by grind [Tr.sv,SV.aX]
 |.rp _ _,L,h,r,c|.clip _ _,L,h,r,c|.ns _,L,h,r,c|.dead,L,h,r,c=>by grind [Tr.sv,SV.aX]
 | .aG q p o n,L,h,r,c=>by
  have d:q∈L:=h q (by simp[SV.aX])
  cases x with
  |dm a b=>
   grind [Tr.sv,Tr.cK,SV.aX]
  |_=>
   simp only[Tr.sv,Tr.cK]at c |-
   (repeat' split at c) <;>simp[SV.aX]at c <;>(subst c;exact d)
 | .loc q p i o,L,h,r,c=>by
  have d:q∈L:=h q (by simp[SV.aX])
  cases x with
  |dm a b=>
   grind [Tr.sv,Tr.cK,SV.aX]
  |_=>
   simp only[Tr.sv,Tr.cK]at c |-
   (repeat' split at c) <;>simp[SV.aX]at c <;>(subst c;exact d)
 | .agg l,L,h,r,c=>by
  have:=Tr.rtss_sub x l L h r c;grind
 | .aS l,L,h,r,c=>by
  have:=Tr.rtss_sub x l L h r c;grind
theorem Tr.rtss_sub(x:Tr):∀(l:List SV) (L:List aj),(∀r∈SV.srtss l,r∈L)->∀r∈SV.srtss (Tr.bF x l),r∈x.cK L
 | [],L,h,r,c=>by simp[Tr.bF,SV.srtss]at c
 |v::l,L,h,r,c=>by
  have:=Tr.dg x v L;have:=Tr.rtss_sub x l L;grind [Tr.bF,SV.srtss]
end
theorem Dl:∀(a:J Tr) (v:SV) (L:J aj),(∀r∈v.aX,r∈L)->∀r∈(aU a v).aX,r∈gc a L
 | [],_,_,h=>h
 |x::a,v,L,h=>Dl a _ _ (Tr.dg x v L h)
mutual
theorem Tr.c9(x:Tr):∀(v:SV),(∀r∈v.aX,r∉x.ba)->(x.aN=true->v.aX.any aj.cD=false)->x.sv v=v
 |.d _,_,_|.rp _ _,_,_|.clip _ _,_,_|.ns _,_,_|.dead,_,_=>by cases x <;>rfl
 | .aG q p o n,h,hk=>by
  have d:=h q (by simp[SV.aX])
  cases x with
  |bL=>
   have:q.cD=false:=by simpa [SV.aX]using hk rfl
   cases q with
   |l n j=>rfl
   |o n=>cases this
  |dm a b=>grind [Tr.ba,Tr.sv]
  |kill r c=>grind [Tr.ba,Tr.sv]
  |cG r m=>grind [Tr.ba,Tr.sv]
  |cP r c l=>grind [Tr.ba,Tr.sv]
 | .loc q p i o,h,hk=>by
  have d:=h q (by simp[SV.aX])
  cases x with
  |bL=>
   have:q.cD=false:=by simpa [SV.aX]using hk rfl
   cases q with
   |l n j=>cases p <;>rfl
   |o n=>cases this
  |dm a b=>grind [Tr.ba,Tr.sv]
  |kill r c=>grind [Tr.ba,Tr.sv]
  |cG r m=>grind [Tr.ba,Tr.sv]
  |cP r c l=>grind [Tr.ba,Tr.sv]
 | .agg l,h,hk=>by
  have:x.sv (.agg l)=.agg (Tr.bF x l):=by cases x <;>rfl
  rw[this,Tr.svs_id x l h hk]
 | .aS l,h,hk=>by
  have:x.sv (.aS l)=.aS (Tr.bF x l):=by cases x <;>rfl
  rw[this,Tr.svs_id x l h hk]
theorem Tr.svs_id(x:Tr):∀(l:List SV),(∀r∈SV.srtss l,r∉x.ba)->(x.aN=true->(SV.srtss l).any aj.cD=false)->Tr.bF x l=l
 | [],_,_=>rfl
 |v::l,h,hk=>by
  have:=Tr.c9 x v;have:=Tr.svs_id x l;grind [SV.srtss,Tr.bF]
end
theorem V4:∀(a:J Tr) (v:SV),(∀r∈v.aX,r∉a.flatMap Tr.ba)->(a.any Tr.aN=true->v.aX.any aj.cD=false)->aU a v=v
 | [],_,_,_=>rfl
 |x::a,v,h,hk=>by
  have:=V4 a v;grind [aU,Tr.c9]
theorem Ph{v:Vz}{x:D}(h:D.ofCell v=some x):SV.ba (.d x)=[]:=by
 unfold D.ofCell at h
 split at h <;>simp only[xJ,reduceCtorEq]at h <;>subst h <;>rfl
theorem I9(x:Oz):(Mg x).ba=[]:=by
 unfold Mg;split
 .rename_i v
  cases a:D.ofVal v with
  |none=>rfl
  |some x=>
   simp only
   unfold D.ofVal at a
   split at a
   .simp only[xM]at a
    obtain⟨l,_,rfl⟩:=a;rfl
   .exact Ph a
 .rfl
 .rfl
theorem J0{op:Op}{t:Nat}(h: .tmp t∈op.operands):t∈mI op:=by
 simp only[mI,List.mem_filterMap]
 exact⟨.tmp t,by simpa using h,rfl⟩
section
variable{P:Pz}{call:dF}{h:Hint}{ops:J Qz}
theorem oV{dst:Nat}{ty:TypeId}(op:Op){e τ:Oz->SV}(k:Wk)(hx:∀x∈op.operands,e x=τ x):dD P call h dst ty op e k=dD P call h dst ty op τ k:=by
 have d:=SX (P:=P) (h:=h) (dst:=dst) (ty:=ty) op k hx;unfold dD
 cases op with
 |call c=>
  obtain⟨a,b,i⟩:=c
  cases a with
  |value f=>
   simp only
   rw[hx f (by simp[Op.operands,Call.operands]),rG (l:=b.toList) λx g=>hx x (by grind [Op.operands,Call.operands])]
  |_=>exact d
 |_=>exact d
theorem nH{s s2:St}{op:Op}(hx:∀t∈mI op,s2.get t=s.get t):∀x∈op.operands,s2.val x=s.val x:=λx a=>by
 cases x with
 |tmp t=>exact hx t (J0 a)
 |_=>rfl
theorem gj{o:Qz}{t:Nat}(ht:t∈mI o.op):t∈looks ops o:=xL _ ht
theorem oW{s s2:St}{o:Qz}(hx:∀t∈looks ops o,s2.get t=s.get t):ik ops s2 o=ik ops s o:=by
 grind [ik,looks]
theorem oX{s s2:St}{o:Qz}(hx:∀t∈looks ops o,s2.get t=s.get t)(hc:s2.ct=s.ct)(a:s2.H=s.H):fe P call h ops o s2=fe P call h ops o s:=by
 grind [fe,St.wk,oW,oV,nH,gj]
theorem M9{h:Hint}{dst:Nat}{op:Op}(hr:reads op=false):fU h dst op=false/\∀c,op≠ .call c:=by
 cases op <;>simp[reads]at hr <;>simp[fU]
theorem Dm{dst:Nat}{ty:TypeId}{op:Op}(hc:∀c,op=.call c->∃b,c.callee=.builtin b)(a:Oz->SV)(k:Wk):dD P call h dst ty op a k=opE P h dst ty op a k:=by
 unfold dD
 grind
theorem Ce{Z:aj->Prop}{b:Bool}{s s2:St}{o:Qz}{w:Bool}{v:SV}{k:Wk}(f:Sm Z b s.wk s2.wk)(n:∀t∈looks ops o,s2.get t=s.get t)(m:b=false->w=true->wL h (o.dst.getD 0) o.op=false)(ho:reads o.op=true->w=true->∀t∈looks ops o,Off Z (s.get t))
  (e:fe P call h ops o s=some (w,v,k)):∃k2,fe P call h ops o s2=some (w,v,k2)/\cT b s.wk s2.wk k k2:=by
 simp only[fe,xB]at e
 obtain⟨r,B,e⟩:=e;have p:=nH (s:=s) (s2:=s2) (op:=o.op) λt j=>n t (gj j)
 split at e
 .rename_i c
  subst c;simp only[xM,pJ]at e
  obtain⟨⟨d,k'⟩,g,rfl,rfl,rfl⟩:=e
  have l:∀k2,dD P call h (o.dst.getD 0) o.type o.op s.val s2.wk=some (d,k2)->fe P call h ops o s2=some (true,d,k2):=λk2 q=>by
   grind [fe,oW,oV]
  cases a:reads o.op with
  |true=>
   obtain⟨k2,u,A⟩:=Tf f (λq=>m q rfl) (λx i=>by
    cases x with
    |tmp t=>exact ho a rfl t (gj (J0 i))
    |_=>grind [St.val,I9]) g
   grind
  |false=>
   obtain⟨y,z⟩:=M9 (h:=h) (dst:=o.dst.getD 0) a
   grind [Dm,GM,cT.refl]
 grind [fe,oW,cT.refl]
theorem mo{s:St}{o:Qz}{w:Bool}{v:SV}{k:Wk}(e:fe P call h ops o s=some (w,v,k)):Grown (hOf h (o.dst.getD 0) o.op=false/\(yX o.op=true->∀t∈looks ops o,dh (s.get t))) s.wk k/\((w&&fU h (o.dst.getD 0) o.op)=false->k=s.wk):=by
 simp only[fe,xB]at e
 obtain⟨z,A,e⟩:=e
 split at e
 .rename_i j
  subst j;simp only[xM,pJ]at e
  obtain⟨⟨u,k'⟩,n,rfl,_,rfl⟩:=e
  refine⟨(M3 n).imp λq=>⟨q.1,λi x p=> ?_⟩,λd=> ?_⟩
  .cases x with
   |tmp t=>exact q.2 i t (gj (J0 p))
   |_=>grind [St.val,I9]
  .simp only[m9]at d
   have y:∀c,o.op=.call c->∃b,c.callee=.builtin b:=λc g=>by
    obtain⟨a,l,B⟩:=c;rw[g]at d
    cases a with
    |builtin b=>exact⟨b,rfl⟩
    |value f=>simp[fU]at d
    |invoke r m=>simp[fU]at d
   grind [Dm,GM]
 .simp only[xJ,pJ]at e
  rw[<-e.2.2]
  exact⟨.refl _ _,λ_=>rfl⟩
end
mutual
theorem Tr.comm(x y:Tr)(hd:∀r∈x.ba,r∉y.ba)(hx:x.aN=true->y.ba.any aj.cD=false)(g:y.aN=true->x.ba.any aj.cD=false):∀v:SV,x.sv (y.sv v)=y.sv (x.sv v)
 |.d _|.rp _ _|.clip _ _|.ns _|.dead=>by cases x <;>cases y <;>rfl
 | .agg l=>by
  have t:∀l,x.sv (.agg l)=.agg (Tr.bF x l):=λl=>by cases x <;>rfl
  have k:∀l,y.sv (.agg l)=.agg (Tr.bF y l):=λl=>by cases y <;>rfl
  rw[t,k,t,k,Tr.comms x y hd hx g l]
 | .aS l=>by
  have t:∀l,x.sv (.aS l)=.aS (Tr.bF x l):=λl=>by cases x <;>rfl
  have k:∀l,y.sv (.aS l)=.aS (Tr.bF y l):=λl=>by cases y <;>rfl
  rw[t,k,t,k,Tr.comms x y hd hx g l]
 | .aG r p o n=>by
  by_cases s:r∈x.ba
  .have C:r∉y.ba:=hd r s
   have B:y.aN=true->r.cD=false:=λq=>List.any_eq_false.1 (g q) r s |>λz=>by simpa using z
   have f:y.sv (.aG r p o n)=.aG r p o n:=Tr.c9 y _ (by grind [SV.aX]) (λq=>by grind [SV.aX])
   rw[f]
   refine(Tr.c9 y _ (λq e=> ?_) (λhk=> ?_)).symm
   .have:=Tr.dg x (.aG r p o n) x.ba (λq e=>by grind [SV.aX]) q e
    cases x <;>simp only[Tr.cK]at this <;>first |exact hd q this |grind [Tr.ba]
   .have w:=g hk
    refine List.any_eq_false.2 λq e=> ?_
    have:=Tr.dg x (.aG r p o n) x.ba (λq e=>by grind [SV.aX]) q e
    have h:q∈x.ba:=by
     cases x <;>simp only[Tr.cK]at this <;>first |exact this |grind [Tr.ba]
    grind
  .by_cases hk:x.aN=true
   .cases x with
    |bL=>
     cases r with
     |l a b=>
      have f:Tr.bL.sv (.aG (.l a b) p o n)=.aG (.l a b) p o n:=rfl;rw[f];refine Tr.c9 .bL _ (by simp[Tr.ba]) (λ_=>List.any_eq_false.2 λq e=> ?_)
      cases y with
      |dm c d=>grind [Tr.sv,SV.aX,aj.cD]
      |_=>grind [Tr.sv,SV.aX,aj.cD]
     |o m=>
      have A:aj.o m∉y.ba:=λe=>by grind [aj.cD]
      by_cases j:y.aN=true
      .grind [Tr.aN]
      .have f:y.sv (.aG (.o m) p o n)=.aG (.o m) p o n:=Tr.c9 y _ (by grind [SV.aX]) (λq=>absurd q j)
       rw[f];have u:Tr.bL.sv (.aG (.o m) p o n)=.dead:=rfl;rw[u]
       cases y <;>rfl
    |_=>simp[Tr.aN]at hk
   .have f:x.sv (.aG r p o n)=.aG r p o n:=Tr.c9 x _ (by grind [SV.aX]) (λq=>absurd q hk)
    rw[f];refine Tr.c9 x _ (λq e h=> ?_) (λq=>absurd q hk)
    have:=Tr.dg y (.aG r p o n) [r] (λq e=>by grind [SV.aX]) q e
    cases y with
    |dm c d=>
     grind [Tr.cK,Tr.ba]
    |_=>grind [Tr.cK]
 | .loc r p i o=>by
  by_cases s:r∈x.ba
  .have C:r∉y.ba:=hd r s
   have B:y.aN=true->r.cD=false:=λq=>List.any_eq_false.1 (g q) r s |>λz=>by simpa using z
   have f:y.sv (.loc r p i o)=.loc r p i o:=Tr.c9 y _ (by grind [SV.aX]) (λq=>by grind [SV.aX])
   rw[f]
   refine(Tr.c9 y _ (λq e=> ?_) (λhk=> ?_)).symm
   .have:=Tr.dg x (.loc r p i o) x.ba (λq e=>by grind [SV.aX]) q e
    cases x <;>simp only[Tr.cK]at this <;>first |exact hd q this |grind [Tr.ba]
   .have w:=g hk
    refine List.any_eq_false.2 λq e=> ?_
    have:=Tr.dg x (.loc r p i o) x.ba (λq e=>by grind [SV.aX]) q e
    have h:q∈x.ba:=by
     cases x <;>simp only[Tr.cK]at this <;>first |exact this |grind [Tr.ba]
    grind
  .by_cases hk:x.aN=true
   .cases x with
    |bL=>
     cases r with
     |l a b=>
      have f:Tr.bL.sv (.loc (.l a b) p i o)=.loc (.l a b) p i o:=by cases p <;>rfl
      rw[f];refine Tr.c9 .bL _ (by simp[Tr.ba]) (λ_=>List.any_eq_false.2 λq e=> ?_)
      cases y with
      |dm c d=>grind [Tr.sv,SV.aX,aj.cD]
      |_=>grind [Tr.sv,SV.aX,aj.cD]
     |o m=>
      have A:aj.o m∉y.ba:=λe=>by grind [aj.cD]
      by_cases j:y.aN=true
      .grind [Tr.aN]
      .have f:y.sv (.loc (.o m) p i o)=.loc (.o m) p i o:=Tr.c9 y _ (by grind [SV.aX]) (λq=>absurd q j)
       rw[f]
       cases p with
       |nil=>exact f.symm
       |cons a p=>
        have u:Tr.bL.sv (.loc (.o m) (a::p) i o)=.dead:=rfl;rw[u]
        cases y <;>rfl
    |_=>simp[Tr.aN]at hk
   .have f:x.sv (.loc r p i o)=.loc r p i o:=Tr.c9 x _ (by grind [SV.aX]) (λq=>absurd q hk)
    rw[f];refine Tr.c9 x _ (λq e h=> ?_) (λq=>absurd q hk)
    have:=Tr.dg y (.loc r p i o) [r] (λq e=>by grind [SV.aX]) q e
    cases y with
    |dm c d=>
     grind [Tr.cK,Tr.ba]
    |_=>grind [Tr.cK]
theorem Tr.comms(x y:Tr)(hd:∀r∈x.ba,r∉y.ba)(hx:x.aN=true->y.ba.any aj.cD=false)(g:y.aN=true->x.ba.any aj.cD=false):∀l:List SV,Tr.bF x (Tr.bF y l)=Tr.bF y (Tr.bF x l)
 | []=>rfl
 |v::l=>by simp only[Tr.bF,Tr.comm x y hd hx g v,Tr.comms x y hd hx g l]
end
theorem V5(x:Tr):∀(a:J Tr) (v:SV),(∀y∈a,(∀r∈x.ba,r∉y.ba)/\(x.aN=true->y.ba.any aj.cD=false)/\(y.aN=true->x.ba.any aj.cD=false))->x.sv (aU a v)=aU a (x.sv v)
 | [],_,_=>rfl
 |y::a,v,h=>by
  have:=V5 x a;grind [aU,Tr.comm]
theorem Na:∀(a b:J Tr) (v:SV),(∀x∈a,∀y∈b,(∀r∈x.ba,r∉y.ba)/\(x.aN=true->y.ba.any aj.cD=false)/\(y.aN=true->x.ba.any aj.cD=false))->aU a (aU b v)=aU b (aU a v)
 | [],_,_,_=>rfl
 |x::a,b,v,h=>by
  simp only[aU];rw[V5 x b v (h x (by simp)),Na a b _ (λz c=>h z (by simp[c]))]
theorem ju:∀(a:J Tr) (l:J aj),a.any Tr.bK=false->gc a l=l
 | [],_,_=>rfl
 |x::a,l,h=>by
  simp only[List.any_cons,qY]at h
  have:x.cK l=l:=by cases x <;>first |rfl |simp[Tr.bK]at h
  simp only[gc,this,ju a l h.2]
theorem Nb(a b:J Tr)(l:J aj)(h:a.any Tr.bK=false\/b.any Tr.bK=false):gc a (gc b l)=gc b (gc a l):=by
 grind [ju]
theorem T.cell_iff{e:T}{off:Nat}:(∃x,e.cell off=some x)↔off<e.nc:=by
 constructor
 .simp_all [T.bV]
 .intro h
  cases e with
  |agg b=>simp_all [T.cell,T.nc]
  |d x=>
   cases x with
   |agg l=>simp_all [T.cell,T.nc,D.nc]
   |_=>
    simp only[T.nc,D.nc]at h;obtain rfl:off=0:=by omega
    exact⟨_,rfl⟩
  |own a=>
   simp only[T.nc]at h;obtain rfl:off=0:=by omega
   exact⟨_,rfl⟩
  |dead=>
   simp only[T.nc]at h;obtain rfl:off=0:=by omega
   exact⟨_,rfl⟩
def RelT(kd off:Nat)(e a:T):Prop:=a.nc=e.nc/\(kd=0->a.cell off=e.cell off)/\(kd=1->a.cell off=e.cell off\/∃l b,e.cell off=some (.own l)/\a.cell off=some (.own b)/\b.length=l.length)
def ats(kd i off:Nat)(es es':J T):Prop:=(es[i]? =none/\es'[i]? =none)\/∃e a,es[i]? =some e/\es'[i]? =some a/\RelT kd off e a
def RelN(kd i off:Nat)(a b:U T):Prop:=a=b\/∃es es',a=some (.own es)/\b=some (.own es')/\ats kd i off es es'
theorem RelT.symm{kd off:Nat}{e a:T}(h:RelT kd off e a):RelT kd off a e:=
 ⟨h.1.symm,λq=>(h.2.1 q).symm,λq=>(h.2.2 q).imp Eq.symm λ⟨l,b,c,d,h3⟩=>⟨b,l,d,c,h3.symm⟩⟩
theorem RelN.symm{kd i off:Nat}{a b:U T}(h:RelN kd i off a b):RelN kd i off b a:=by
 obtain h |⟨k,c,g,l,h3⟩:=h
 .exact .inl h.symm
 .refine .inr ⟨c,k,l,g,?_⟩
  obtain⟨d,f⟩ |⟨e,j,d,f,q3⟩:=h3
  .exact .inl ⟨f,d⟩
  .exact .inr ⟨j,e,f,d,q3.symm⟩
theorem El{c c' x:T}{s:Nat×Nat}{q:dP}(h:c.put (s::q) x=some c'):∃es e b a,c=.own es/\es[s.1]? =some e/\e.cell s.2=some b/\b.put q x=some a/\c'=.own (es.set s.1 (e.aT s.2 a)):=by
 obtain⟨i,o⟩:=s
 cases c with
 |own es=>
  simp only[T.put,xB,xM]at h
  grind
 |_=>simp[T.put]at h
theorem QT{c c':T}{q:dP}(h:c.put q .dead=some c'):c'.nc=1/\(∀l,c'≠ .agg l)/\(∀l,c'≠ .d (.agg l)):=by
 cases q with
 |nil=>grind [T.put,T.nc]
 |cons s q=>grind [El,T.nc]
theorem QU{kd off i:Nat}:∀(p:dP) (c c':T) (q:dP),c.put q .dead=some c'->sepL kd p i off q=true->RelN kd i off (c.at p) (c'.at p)
 |p,c,c',[],h,k=>by grind [sepL]
 | [],c,c',s::q,h,k=>by
  obtain⟨g,e,B,a,rfl,o,v,h3,rfl⟩:=El h;obtain⟨l,d⟩:=s;obtain⟨u,D,F⟩:=QT h3;refine .inr ⟨g,_,rfl,rfl,?_⟩;have j:l<g.length:=(List.getElem?_eq_some_iff.1 o).1
  by_cases y:l=i
  .subst y
   refine .inr ⟨e,_,o,yK j,T.cY v u,λhk=> ?_,λhk=> ?_⟩
   .by_cases z:d=off
    .simp_all [sepL]
    .obtain f |w:=gF off e.nc
     .grind [T.cell_iff,T.cI]
     .have r:e.cell off=none:=by
       cases b:e.cell off with
       |none=>rfl
       |some x=>have:=T.bV b;omega
      have t:(e.aT d a).cell off=none:=by
       cases b:(e.aT d a).cell off with
       |none=>rfl
       |some x=>have:=T.bV b;rw[T.cY v u]at this;omega
      rw[r,t]
   .by_cases z:d=off
    .subst z;subst hk
     simp only[sepL,and_self,if_true]at k
     cases q with
     |nil=>simp at k
     |cons G q=>
      grind [El,T.cV]
    .left
     obtain f |w:=gF off e.nc
     .grind [T.cell_iff,T.cI]
     .have r:e.cell off=none:=by
       cases b:e.cell off with
       |none=>rfl
       |some x=>have:=T.bV b;omega
      have t:(e.aT d a).cell off=none:=by
       cases b:(e.aT d a).cell off with
       |none=>rfl
       |some x=>have:=T.bV b;rw[T.cY v u]at this;omega
      rw[r,t]
  .have C:(g.set l (e.aT d a))[i]? =g[i]? :=vW y
   cases b:g[i]? with
   |none=>exact .inl ⟨b,by rw[C,b]⟩
   |some x=>exact .inr ⟨x,x,b,by rw[C,b],rfl,λ_=>rfl,λ_=>.inl rfl⟩
 |E::p,c,c',s::q,h,k=>by
  obtain⟨g,e,B,a,rfl,o,v,h3,rfl⟩:=El h;obtain⟨u,D,F⟩:=QT h3;obtain⟨A,m⟩:=E;obtain⟨l,d⟩:=s;have j:l<g.length:=(List.getElem?_eq_some_iff.1 o).1;simp only[sepL]at k
  by_cases n:(A,m)=(l,d)
  .rw[if_pos n]at k
   have:=QU p B a q h3 k;grind [T.at,T.cV]
  .left
   simp only[T.at]
   by_cases y:l=A
   .subst y
    have z:m≠d:=λe=>n (by rw[e])
    rw[o,yK j];simp only[xS];congr 1
    obtain f |w:=gF m e.nc
    .grind [T.cell_iff,T.cI]
    .have r:e.cell m=none:=by
      cases b:e.cell m with
      |none=>rfl
      |some x=>have:=T.bV b;omega
     have t:(e.aT d a).cell m=none:=by
      cases b:(e.aT d a).cell m with
      |none=>rfl
      |some x=>have:=T.bV b;rw[T.cY v u]at this;omega
     rw[r,t]
   grind
def QV(kd:Nat)(r:aj)(p:dP)(i off:Nat)(k k':Wk):Prop:=RelN kd i off ((k.get r).bind (·.at p)) ((k'.get r).bind (·.at p))
section
variable{P:Pz}{call:dF}{h:Hint}{dst:Nat}{ty:TypeId}
theorem za{t:TypeId}{a:Oz}{b:Oz->SV}{k:Wk}(hl:h.lits.contains dst=false)(c:∀g,a=.global g->False):dD P call h dst ty (.load t a) b k=(gY P t (b a) k).map (·,k):=by
 grind [dD,opE]
theorem ab6{op:Op}{d:Oz->SV}{k k':Wk}{v:SV}{r:aj}{p:dP}{i off kd:Nat}(hx:t8 (fU h dst op) op d v=some (r,p,i,off,kd))(B:QV kd r p i off k k')(e:dD P call h dst ty op d k=some (v,k)):dD P call h dst ty op d k'=some (v,k'):=by
 unfold t8 at hx
 split at hx
 .cases hx
 .rename_i t a O
  split at hx
  .cases hx
  rename_i m;have m:=Bool.eq_false_iff.2 m
  have s:gY P t (d a) k=some v:=by
   have E:(gY P t (d a) k).map (·,k)=some (v,k):=by rw[<-za m O];exact e
   simp only[xM,pJ]at E
   obtain⟨u,w,rfl,_⟩:=E;exact w
  suffices gY P t (d a) k'=some v by
   rw[za m O,this];rfl
  have S:∀r p i off kd,bD (d a)=.loc r p i off->((kd=1/\∃z A o n,v=.aG z A o n)\/(kd=0/\∃x,v=.d x/\∀l,x≠ .agg l))->QV kd r p i off k k'->gY P t (d a) k'=some v:=by
   intro r p i off kd m H B
   have bb:∀(k:Wk),gY P t (d a) k=(((k.get r).bind (·.at p)).bind λnd=>match nd with
     | .own I=>(I[i]?).bind λe=>(oE P t).bind λG=>
      if G then
       match e with
       | .d (.agg l)=>if off+P.cellsOf t<=l.length then some (.d (.agg (bw l off (P.cellsOf t))))else none
       | .agg N=>if off+P.cellsOf t<=N.length then(j4 r p i off (bw N off (P.cellsOf t))).map SV.bt else none
       |_=>none
      else(e.cell off).bind (ib r p i off)
     |_=>none):=λk=>by
    unfold gY;rw[m];simp only[xX];rfl
   rw[bb]at s |-
   obtain B |⟨I,K,w,h2,h3⟩:=B
   .grind
   .rw[w]at s
    rw[h2];simp only[xS]at s |-
    obtain⟨C,F⟩ |⟨X,J,C,F,q3⟩:=h3
    .grind
    .rw[C]at s
     rw[F];simp only[xS,xB]at s |-
     obtain⟨G,U,y⟩:=s
     refine⟨G,U,?_⟩
     cases G with
     |true=>
      exfalso;simp only[if_true]at y
      split at y
      .grind
      .grind [xM,SV.bt]
      .cases y
     |false=>
      simp only[xH,if_false,xB]at y |-
      obtain⟨ce,Z,c2⟩:=y
      obtain⟨rfl,z,A,o,n,H⟩ |⟨rfl,x,H,hx⟩:=H
      .obtain q |⟨l,l',L,M,R⟩:=q3.2.2 rfl
       .grind
       grind [ib]
      .exact⟨ce,by rw[q3.2.1 rfl];exact Z,c2⟩
  split at hx
  .grind
  .cases hx
  .grind
  .cases hx
 .rename_i t a f
  split at hx
  .rename_i z A Q j
   simp only[xJ,pJ]at hx
   obtain⟨rfl,rfl,rfl,rfl,rfl⟩:=hx;have E:(eE P t (d a) f k).map (·,k)=some (.loc z A Q j,k):=e;simp only[xM,pJ]at E
   obtain⟨u,w,rfl,_⟩:=E
   show(eE P t (d a) f k').map (·,k')=_
   suffices eE P t (d a) f k'=some (.loc z A Q j)by rw[this];rfl
   simp only[eE,xB]at w |-
   obtain⟨⟨o,n,b⟩,W,g⟩:=w
   refine⟨_,W,?_⟩
   simp only at g |-
   split at g
   .rename_i V
    rw[if_pos V]
    split at g
    .rename_i r2 T Y D m
     split at g
     .rename_i c
      simp only[xJ,SV.loc.injEq]at g
      obtain⟨rfl,rfl,rfl,rfl⟩:=g
      have:oR k' r2 T Y (D+o)=true:=by
       unfold oR at c |-
       obtain B |⟨I,K,L,M,R⟩:=B
       .grind
       .rw[L]at c
        rw[M];simp only at c |-
        obtain⟨C,F⟩ |⟨X,J,C,F,q3⟩:=R
        .grind
        .rw[C]at c
         rw[F];simp only[yD]at c |-
         rw[q3.1];exact c
      grind
     .cases g
    .cases g
    .cases g
   .cases g
  .cases hx
 .cases hx
theorem Tg{nv:Nat}{v:SV}{k k':Wk}{l:J T}(a:k.tr=[])(e:fY nv v k=some (l,k')):k'=k\/∃n j,k'.tr=[.kill (.l n j) []]/\(∀r,r≠ .l n j->k'.get r=k.get r)/\k'.get (.l n j)=some .dead/\k'.H=k.H:=by
 unfold fY at e
 split at e
 .grind
 .grind
 .grind
 .grind
 .simp only[xB]at e
  obtain⟨c,d,g,f,e⟩:=e
  split at e
  .split at e
   .rename_i n j
    split at e
    .simp only[xM,pJ]at e
     obtain⟨k2,h3,_,rfl⟩:=e;simp only[Wk.set,xJ]at h3
     subst h3;refine .inr ⟨n,j,by simp[Wk.tell,a],λr b=> ?_,?_,rfl⟩
     .show Go.Am.cont (((n,j),T.dead)::k.ct) k.H r=_
      rw[jm,if_neg b];rfl
     .show Go.Am.cont (((n,j),T.dead)::k.ct) k.H (.l n j)=_
      grind [jm]
    grind
   grind
  .cases e
 .cases e
theorem Pi{nv:Nat}{t:TypeId}{r:aj}{q:dP}{o len:Nat}{x v:SV}{k k':Wk}(p:k.tr=[])(e:iu P nv dst t (.aG r q o len) x k=some (v,k')):
  ∃(B:J Tr) (c c':T),k.get r=some c/\c.put q .dead=some c'/\k'.tr=B++[.kill r q,.kill (.l dst 0) []]/\(∀y∈B,∃n j,y=.kill (.l n j) []/\ .l n j≠r)/\
   ∀b,b≠ .l dst 0->b∉B.flatMap Tr.ba->k'.get b=if b=r then some c' else k.get b:=by
 simp only[iu,xB]at e
 obtain⟨D,_,z,_,⟨i,k1⟩,C,e⟩:=e;simp only at e
 split at e
 .simp only[xB]at e
  obtain⟨⟨l,k2⟩,a,e⟩:=e;simp only at e
  split at e
  .simp only[xJ,pJ]at e
   obtain⟨_,rfl⟩:=e
   have m:∀(k1 k2:Wk),qn (P.cellsOf D) i (.aG r q o len) k1=some (l,k2)->∃c c',k1.get r=some c/\c.put q .dead=some c'/\k2.tr=k1.tr++[.kill r q]/\∀b,k2.get b=if b=r then some c' else k1.get b:=by
    intro k1 k2 a;simp only[qn]at a
    split at a
    .simp only[xB]at a
     obtain⟨c,f,H,u,a⟩:=a
     split at a
     .split at a
      .simp only[xB,xM,pJ]at a
       obtain⟨c',h3,I,h4,_,rfl⟩:=a;obtain⟨A,_,E,_⟩:=Wk.db h4 ⟨c,f,λ_ _=>trivial⟩
       exact⟨c,c',f,h3,by simp[Wk.tell,E],λb=>A b⟩
      .cases a
     .cases a
    .cases a
   obtain rfl |⟨n,j,t1,A,g2,_⟩:=Tg p C
   .rw[p]at a
    obtain⟨c,c',f,u,h3,h4⟩:=m _ _ a
    refine⟨[],c,c',f,u,by grind [Wk.new],by simp,λb w _=> ?_⟩
    show Go.Am.cont (((dst,0),_)::k2.ct) k2.H b=_;rw[jm,if_neg w];exact h4 b
   .by_cases d:(aj.l n j)=r
    .exfalso
     subst d;rw[t1]at a
     have:aU [Tr.kill (.l n j) []] (.aG (.l n j) q o len)=.dead:=by
      show Tr.sv (.kill (.l n j) []) (.aG (.l n j) q o len)=_
      cases q with
      |nil=>simp[Tr.sv]
      |cons s q=>simp[Tr.sv]
     rw[this]at a
     simp[qn]at a
    .rw[t1]at a
     have:aU [Tr.kill (.l n j) []] (.aG r q o len)=.aG r q o len:=by
      show Tr.sv (.kill (.l n j) []) (.aG r q o len)=_;have g:r≠ .l n j:=λh=>d h.symm
      simp[Tr.sv,g]
     rw[this]at a
     obtain⟨c,c',f,u,h3,h4⟩:=m _ _ a;rw[A r (λh=>d h.symm)]at f
     refine⟨[.kill (.l n j) []],c,c',f,u,by grind [Wk.new],λy G=> ?_,λb w g=> ?_⟩
     .grind
     .have F:b≠ .l n j:=λh=>g (by simp[Tr.ba,h])
      show Go.Am.cont (((dst,0),_)::k2.ct) k2.H b=_;rw[jm,if_neg w];show k2.get b=_
      grind
  .cases e
 .cases e
end
mutual
theorem Ja{r:aj}{q:dP}:∀(u:SV),u.dv r q=true->(Tr.kill r q).sv u=u
 | .aG a p o n,h=>by
  grind [SV.dv,Tr.sv]
 | .loc a p i o,h=>by
  grind [SV.dv,Tr.sv]
 |.agg l,h|.aS l,h=>by have:=zb l h;grind [Tr.sv]
 |.d _,_|.rp _ _,_|.clip _ _,_|.ns _,_|.dead,_=>rfl
theorem zb{r:aj}{q:dP}:∀(l:List SV),SV.unhurts r q l=true->Tr.bF (Tr.kill r q) l=l
 | [],_=>rfl
 |v::l,h=>by
  simp only[SV.unhurts,xA]at h
  simp only[Tr.bF,Ja v h.1,zb l h.2]
end
structure Eqv(c d:Cf):Prop where
 get:∀t,d.1.get t=c.1.get t
 ct:∀x,eZ d.1.ct x=eZ c.1.ct x
 H:d.1.H=c.1.H
 hi:∀t,eV d.2 t=eV c.2 t
theorem Eqv.refl(c:Cf):Eqv c c:=⟨λ_=>rfl,λ_=>rfl,rfl,λ_=>rfl⟩
theorem Eqv.trans{a b c:Cf}(x:Eqv a b)(y:Eqv b c):Eqv a c:=⟨λt=>(y.get t).trans (x.get t),λt=>(y.ct t).trans (x.ct t),y.H.trans x.H,λt=>(y.hi t).trans (x.hi t)⟩
def Inv(c:Cf):Prop:=∀t,∀r∈(c.1.get t).aX,r∈eV c.2 t
theorem Nc{a b:J aj}(h:Ml a b=false):∀r∈b,r∉a:=λr c d=>by
 grind [Ml]
theorem oY{k k':Wk}{a:J ((Nat×Nat)×T)}(hp:k'.ct=a++k.ct):fW k k'=a.map λp=>aj.l p.1.1 p.1.2:=by
 simp_all [fW]
theorem zd{a:J ((Nat×Nat)×T)}{n j:Nat}(h:aj.l n j∉a.map λp=>aj.l p.1.1 p.1.2):eZ a (n,j)=none:=by
 induction a with
 |nil=>rfl
 |cons p a b=>
  grind [eZ]
theorem Dn{k k':Wk}(b:∃a,k'.ct=a++k.ct)(n j:Nat)(h:aj.l n j∉fW k k'):eZ k'.ct (n,j)=eZ k.ct (n,j):=by
 grind [oY,kx,zd]
section
variable{P:Pz}{call:dF}{h:Hint}{ops:J Qz}
theorem fx{o:Qz}{c d:Cf}{f:Fp}(e:ek P call h ops o c=some (d,f)):
  ∃w v k,fe P call h ops o c.1=some (w,v,k)/\d=(c.1.fin o.dst v k,dT c.2 k.tr o.dst (fV o.op c.2 v))/\f=mg h ops o c.2 c.1 w v k:=by
 grind [ek,xM]
theorem hD{o:Qz}{c:Cf}{w:Bool}{v:SV}{k:Wk}(e:fe P call h ops o c.1=some (w,v,k)):
  ek P call h ops o c=some ((c.1.fin o.dst v k,dT c.2 k.tr o.dst (fV o.op c.2 v)),mg h ops o c.2 c.1 w v k):=by
 grind [ek]
theorem Pj{a:Bool}{op:Op}{b τ:Oz->SV}(v:SV)(hx:∀x∈op.operands,b x=τ x):t8 a op b v=t8 a op τ v:=by
 unfold t8;split
 .rfl
 .grind [Op.operands]
 .rfl
 .rfl
theorem GS{op:Op}{a τ:Oz->SV}(hx:∀x∈op.operands,a x=τ x):yY op a=yY op τ:=by
 unfold yY;split
 .grind [Op.operands,Call.operands]
 .rfl
theorem iP{o:Qz}{c d:Cf}{w:Bool}{v:SV}{k k':Wk}(e:∀t∈looks ops o,d.1.get t=c.1.get t)(g:∀t∈looks ops o,eV d.2 t=eV c.2 t)(h1:fW d.1.wk k'=fW c.1.wk k)(h2:k'.tr=k.tr):mg h ops o d.2 d.1 w v k'=mg h ops o c.2 c.1 w v k:=by
 unfold mg
 have:(looks ops o).flatMap (eV d.2)=(looks ops o).flatMap (eV c.2):=by
  simp only[List.flatMap_def];rw[lM g]
 have a:((looks ops o).flatMap λt=>(d.1.get t).ba)=(looks ops o).flatMap λt=>(c.1.get t).ba:=by
  simp only[List.flatMap_def];rw[lM λt b=>by rw[e t b]]
 have f:=nH (s:=c.1) (s2:=d.1) (op:=o.op) λt b=>e t (gj b)
 have i:((looks ops o).map λt=>d.1.get t)=(looks ops o).map λt=>c.1.get t:=lM e
 rw[this,a,h1,h2,Pj v f,GS f,i]
theorem Eqv.sm{c d:Cf}(q:Eqv c d):Sm (λ_=>False) true c.1.wk d.1.wk:=by
 refine⟨λr _=> ?_,λ_=>q.H,rfl,rfl,by simp⟩
 cases r with
 |l n j=>simp only[Wk.get,Go.Am.cont,St.wk,q.ct]
 |o n=>simp only[Wk.get,Go.Am.cont,St.wk,q.H]
theorem cT.keys{b:Bool}{k k' k1 k1':Wk}(p:cT b k k' k1 k1'):fW k' k1'=fW k k1:=by
 obtain⟨pre,a,c⟩:=p.ct
 simp_all [oY]
theorem Nd{op:Op}{a b:pG}{v:SV}(h:∀t,eV a t=eV b t):fV op a v=fV op b v:=by
 simp_all [fV]
theorem J1{o:Qz}{c d b:Cf}{f:Fp}(q:Eqv c d)(e:ek P call h ops o c=some (b,f)):∃d1,ek P call h ops o d=some (d1,f)/\Eqv b d1:=by
 obtain⟨w,v,k,i,rfl,rfl⟩:=fx e;obtain⟨k2,l,p⟩:=Ce q.sm (λt _=>q.get t) (λh=>by cases h) (λ_ _ t _ r _ h=>h) i
 refine⟨(d.1.fin o.dst v k2,dT d.2 k2.tr o.dst (fV o.op d.2 v)),by rw[hD l,iP (c:=c) (λt _=>q.get t) (λt _=>q.hi t) p.keys p.tr],λt=> ?_,λx=> ?_,p.H rfl,λt=> ?_⟩
 .simp only[gi,q.get,p.tr]
 .obtain⟨a,g,j⟩:=p.ct
  show eZ k2.ct x=eZ k.ct x;rw[g,j,kx,kx];show _=(eZ a x).or (eZ c.1.ct x);rw[<-q.ct];rfl
 .simp only[fw,q.hi,p.tr]
  rw[Nd q.hi]
theorem w7:∀(l:J Qz) {c d b:Cf} {a:J Fp},Eqv c d->dV P call h ops l c=some (b,a)->∃d1,dV P call h ops l d=some (d1,a)/\Eqv b d1
 | [],c,d,b,a,q,e=>by
  grind [dV]
 |o::l,c,d,b,a,q,e=>by
  simp only[dV,xB,xM,pJ]at e
  obtain⟨⟨r,f⟩,g,⟨p,j⟩,k,rfl,rfl⟩:=e;obtain⟨m,n,i⟩:=J1 q g
  have:=w7 l i k;grind [dV]
theorem nR{s:St}{o:Qz}{t:Nat}{w:Bool}{v:SV}{k:Wk}(ho:o.op=.move (.tmp t)):fe P call h ops o s=some (w,v,k)↔ik ops s o=some w/\v=(if w=true then s.get t else .aS [])/\k=s.wk:=by
 have e:dD P call h (o.dst.getD 0) o.type (.move (.tmp t)) s.val s.wk=some (s.get t,s.wk):=rfl;simp only[fe,ho,e]
 cases ik ops s o with
 |none=>simp
 |some x=>
  grind
theorem lB{op:Op}(h:iO op=true):∃t,op=.move (.tmp t):=by
 unfold iO at h
 split at h
 .exact⟨_,rfl⟩
 .cases h
theorem gd{op:Op}{hi:pG}{v:SV}(h:iO op=false):fV op hi v=v.aX:=by
 unfold fV;split
 .cases h
 .rfl
theorem Th{o:Qz}{c:Cf}{w:Bool}{v:SV}{k:Wk}(hi:Inv c)(e:fe P call h ops o c.1=some (w,v,k)):∀r∈v.aX,r∈fV o.op c.2 v:=λr f=>by
 cases d:iO o.op with
 |false=>grind [gd]
 |true=>
  obtain⟨t,a⟩:=lB d;obtain⟨_,b,_⟩:=(nR a).1 e;rw[a];show r∈eV c.2 t
  cases w with
  |true=>rw[if_pos rfl]at b;exact hi t r (b▸f)
  |false=>grind [SV.aX,SV.srtss]
theorem Inv.step{o:Qz}{c d:Cf}{f:Fp}(hi:Inv c)(e:ek P call h ops o c=some (d,f)):Inv d:=by
 obtain⟨w,v,k,b,rfl,rfl⟩:=fx e;intro t r a;simp only[gi,fw]at a |-
 split at a
 .grind [Th]
 .rw[if_neg ‹_›];exact Dl _ _ _ (hi t) r a
theorem V6{w:Bool}{v:SV}{k:Wk}{o:Qz}{c:Cf}(e:fe P call h ops o c.1=some (w,v,k)){L:J aj}
  (f:∀r∈L,r∉(mg h ops o c.2 c.1 w v k).wr) (x:(mg h ops o c.2 c.1 w v k).hw=true->L.any aj.cD=false):
  (∀u:SV,(∀r∈u.aX,r∈L)->aU k.tr u=u)/\(∀M:J aj,(∀r∈M,r∈L)->gc k.tr M=M)/\((mg h ops o c.2 c.1 w v k).hw=false->k.H=c.1.H/\k.tr.any Tr.aN=false):=by
 have d:(mg h ops o c.2 c.1 w v k).wr=fW c.1.wk k++k.tr.flatMap Tr.ba:=rfl;have b:(mg h ops o c.2 c.1 w v k).hw=((w&&fU h (o.dst.getD 0) o.op)&&(hOf h (o.dst.getD 0) o.op || (yX o.op&&((looks ops o).flatMap λt=>(c.1.get t).ba).any aj.cD) || k.tr.any Tr.aN)):=rfl
 rw[d]at f
 have q:∀r∈L,r∉k.tr.flatMap Tr.ba:=λr l m=>f r l (xR _ m)
 obtain⟨g,j⟩:=mo e
 have p:(mg h ops o c.2 c.1 w v k).hw=false->k.H=c.1.H/\k.tr.any Tr.aN=false:=λa=>by
  cases i:(w&&fU h (o.dst.getD 0) o.op)with
  |false=>rw[j i];exact⟨rfl,rfl⟩
  |true=>
   rw[b,i]at a
   simp only[m9,qY]at a
   refine⟨g.H ⟨a.1.1,λn t s=> ?_⟩,a.2⟩
   grind
 grind [V4,I8]
theorem ze{x y:Fp}(hp:ri x y=true):(∀d,x.dst=some d->d∉y.sl)/\(∀d,x.dst=some d->y.dst≠some d)/\(∀d,y.dst=some d->d∉x.sl)/\(∀r∈y.rd,r∉x.wr)/\(∀r∈y.wr,r∉x.wr)/\(∀r∈x.rd,r∉y.wr)/\(x.hw=true->y.hr=false/\y.hw=false)/\(y.hw=true->x.hr=false)/\(x.dm=false\/y.dm=false):=by
 grind [ri,Nc]
theorem ai7{a i:Qz}{c c1 c2:Cf}{fa fi:Fp}(R:iO a.op=false)(J:iO i.op=false)(hi:Inv c)(ea:ek P call h ops a c=some (c1,fa))(ei:ek P call h ops i c1=some (c2,fi))(hp:ri fa fi=true):
  ∃d1 d2,ek P call h ops i c=some (d1,fi)/\ek P call h ops a d1=some (d2,fa)/\Eqv c2 d2:=by
 obtain⟨wa,w,k,I,rfl,m⟩:=fx ea;obtain⟨wi,v,B,U,rfl,s⟩:=fx ei;rw[gd R]at s |-
 rw[gd J];obtain⟨s1,s2,s3,m1,m2,m3,w1,w2,rn⟩:=ze hp;have da:fa.dst=a.dst:=by rw[m];rfl
 have di:fi.dst=i.dst:=by rw[s];rfl
 have la:fa.sl=looks ops a:=by rw[m];rfl
 have li:fi.sl=looks ops i:=by rw[s];rfl
 have V:∀t∈looks ops i,a.dst≠some t:=λt f e=>s1 t (da.trans e) (by rw[li];exact f)
 have S:∀t∈looks ops a,i.dst≠some t:=λt f e=>s3 t (di.trans e) (by rw[la];exact f)
 have Y:∀t,a.dst=some t->i.dst≠some t:=λt e q=>s2 t (da.trans e) (di.trans q)
 simp only at U
 -- what i leans on
 have aJ:fi.rd=(looks ops i).flatMap (eV (dT c.2 k.tr a.dst w.aX))++v.aX++(if reads i.op then(looks ops i).flatMap λt=>((c.1.fin a.dst w k).get t).ba else []):=by rw[s];simp only[mg,J,xH,if_false]
 have aC:fa.rd=(looks ops a).flatMap (eV c.2)++w.aX++(if reads a.op then(looks ops a).flatMap λt=>(c.1.get t).ba else []):=by rw[m];simp only[mg,R,xH,if_false]
 have W:∀t∈looks ops i,∀r∈eV c.2 t,r∈fi.rd:=λt f r g=>by
  grind [fw,GR]
 have aa:∀r∈v.aX,r∈fi.rd:=λr g=>by grind
 have av:reads i.op=true->∀t∈looks ops i,∀r∈((c.1.fin a.dst w k).get t).ba,r∈fi.rd:=λN t f r g=>by grind
 have ab:∀t∈looks ops a,∀r∈eV c.2 t,r∈fa.rd:=λt f r g=>by grind
 have H:∀r∈w.aX,r∈fa.rd:=λr g=>by grind
 have ax:reads a.op=true->∀t∈looks ops a,∀r∈(c.1.get t).ba,r∈fa.rd:=λN t f r g=>by grind
 -- of shared objects
 have al:fi.hw=true->(wa=true->wL h (a.dst.getD 0) a.op=false)/\fa.rd.any aj.cD=false/\fa.wr.any aj.cD=false/\k.tr.any Tr.aN=false:=λq=>by
  have e:fa.hr=((wa&&wL h (a.dst.getD 0) a.op) || fa.rd.any aj.cD || fa.wr.any aj.cD || k.tr.any Tr.aN):=by rw[m];rfl
  grind
 have ag:fa.hw=true->(wi=true->wL h (i.dst.getD 0) i.op=false)/\fi.rd.any aj.cD=false/\fi.wr.any aj.cD=false/\B.tr.any Tr.aN=false:=λq=>by
  have e:fi.hr=((wi&&wL h (i.dst.getD 0) i.op) || fi.rd.any aj.cD || fi.wr.any aj.cD || B.tr.any Tr.aN):=by rw[s];rfl
  grind
 have an:fa.wr=fW c.1.wk k++k.tr.flatMap Tr.ba:=by rw[m];rfl
 have aL:fi.wr=fW (c.1.fin a.dst w k).wk B++B.tr.flatMap Tr.ba:=by rw[s];rfl
 -- i ahead of a
 have T:=V6 (L:=fi.rd) I (λr g=>by grind) (λq=>by grind)
 rw[<-m]at T
 obtain⟨t1,t2,t3⟩:=T
 have D:∀t∈looks ops i,(c.1.fin a.dst w k).get t=c.1.get t:=λt f=>by
  rw[gi,if_neg (V t f)];exact t1 _ (λr g=>W t f r (hi t r g))
 have gA:=(mo I).1.ct
 have ad:Sm (λr=>r∈fa.wr\/(fa.hw=true/\r.cD=true)) (!fa.hw) (c.1.fin a.dst w k).wk c.1.wk:=by
  refine⟨λr g=> ?_,λq=> ?_,rfl,rfl,λq n=>.inr ⟨by simpa using q,rfl⟩⟩
  .cases r with
   |l n j=>
    have:aj.l n j∉fW c.1.wk k:=λhx=>g (.inl (by grind))
    simp only[Wk.get,Go.Am.cont]
    exact(Dn gA n j this).symm
   |o n=>
    have:fa.hw=false:=by cases G:fa.hw with |false=>rfl |true=>exact absurd (.inr ⟨G,rfl⟩) g
    simp only[Wk.get,Go.Am.cont,St.wk,St.fin,(t3 this).1]
  .exact(t3 (by simpa using q)).1.symm
 obtain⟨b,Q,A⟩:=Ce ad (λt f=>(D t f).symm) (λq=>(ag (by simpa using q)).1) (λN _ t f r g hz=>by
  grind) U
 have O:mg h ops i c.2 c.1 wi v b=fi:=by
  rw[s];exact iP (c:=(c.1.fin a.dst w k,dT c.2 k.tr a.dst w.aX)) (d:=c) (λt f=>(D t f).symm) (λt f=>by simp only;rw[fw,if_neg (V t f),t2 _ (W t f)]) A.keys A.tr
 -- a behind it
 have Z:=V6 (L:=fa.rd) Q (λr g=>by grind) (λq=>by grind)
 rw[O]at Z
 obtain⟨u1,u2,u3⟩:=Z
 have F:∀t∈looks ops a,(c.1.fin i.dst v b).get t=c.1.get t:=λt f=>by
  rw[gi,if_neg (S t f)];exact u1 _ (λr g=>ab t f r (hi t r g))
 have gI:=(mo Q).1.ct;have aq:fi.wr=fW c.1.wk b++b.tr.flatMap Tr.ba:=by rw[<-O];rfl
 have ak:Sm (λr=>r∈fi.wr\/(fi.hw=true/\r.cD=true)) (!fi.hw) c.1.wk (c.1.fin i.dst v b).wk:=by
  refine⟨λr g=> ?_,λq=> ?_,rfl,rfl,λq n=>.inr ⟨by simpa using q,rfl⟩⟩
  .cases r with
   |l n j=>
    have:aj.l n j∉fW c.1.wk b:=λhx=>g (.inl (by grind))
    simp only[Wk.get,Go.Am.cont];exact Dn gI n j this
   |o n=>
    have:fi.hw=false:=by cases G:fi.hw with |false=>rfl |true=>exact absurd (.inr ⟨G,rfl⟩) g
    simp only[Wk.get,Go.Am.cont,St.wk,St.fin,(u3 this).1]
  .exact(u3 (by simpa using q)).1
 obtain⟨K,ao,E⟩:=Ce ak F (λq=>(al (by simpa using q)).1) (λN _ t f r g hz=>by
  grind) I
 have ai:mg h ops a (dT c.2 b.tr i.dst v.aX) (c.1.fin i.dst v b) wa w K=fa:=by
  rw[m];exact iP (c:=c) (d:=(c.1.fin i.dst v b,dT c.2 b.tr i.dst v.aX)) F (λt f=>by simp only;rw[fw,if_neg (S t f),u2 _ (ab t f)]) E.keys E.tr
 -- what is X
 have aG:aU k.tr v=v:=t1 _ aa;have af:aU b.tr w=w:=u1 _ H
 have X:∀x∈B.tr,∀y∈k.tr,(∀r∈x.ba,r∉y.ba)/\(x.aN=true->y.ba.any aj.cD=false)/\(y.aN=true->x.ba.any aj.cD=false):=λx hx y hy=>by
  have ac:∀r∈x.ba,r∈fi.wr:=λr g=>by grind
  have ah:∀r∈y.ba,r∈fa.wr:=λr g=>by grind
  refine⟨λr u h2=>m2 r (ac r u) (ah r h2),λq=> ?_,λq=> ?_⟩
  .have G:fi.hw=true:=by
    cases G:fi.hw with
    |true=>rfl
    |false=>
     have:=(u3 G).2
     rw[A.tr]at this
     grind
   grind
  .have G:fa.hw=true:=by
    cases G:fa.hw with
    |true=>rfl
    |false=>
     grind
   grind
 have ay:k.tr.any Tr.bK=false\/B.tr.any Tr.bK=false:=by
  have e1:fa.dm=k.tr.any Tr.bK:=by rw[m];rfl
  have e2:fi.dm=B.tr.any Tr.bK:=by rw[s];rfl
  rw[<-e1,<-e2];exact rn
 refine⟨_,_,(hD Q).trans (congrArg some (kI (by rw[gd J]) O)),(hD (c:=(c.1.fin i.dst v b,dT c.2 b.tr i.dst v.aX)) ao).trans (congrArg some (kI (by rw[gd R]) ai)),λt=> ?_,λx=> ?_,?_,λt=> ?_⟩
 .simp only[gi,A.tr,E.tr]
  by_cases u:a.dst=some t
  .rw[if_pos u,if_neg (Y t u),if_pos u,<-A.tr,af]
  grind [Na]
 .obtain⟨pi,q1,q2⟩:=A.ct
  obtain⟨pa,q3,q4⟩:=E.ct;show eZ K.ct x=eZ B.ct x;rw[q1,q4];show eZ (pa++b.ct) x=eZ (pi++k.ct) x;rw[q2,q3,kx,kx,kx,kx];obtain⟨n,j⟩:=x
  by_cases hk:aj.l n j∈pa.map λp=>aj.l p.1.1 p.1.2
  .have u:aj.l n j∈fa.wr:=by rw[an,oY q3];exact xL _ hk
   have h2:aj.l n j∉pi.map λp=>aj.l p.1.1 p.1.2:=λhx=>m2 _ (by grind [oY]) u
   rw[zd h2];simp
  grind [zd]
 .show K.H=B.H
  cases C:fa.hw with
  |true=>
   have hb:(!fa.hw)=false:=by rw[C];rfl
   have z:(!fi.hw)=true:=by rw[(w1 C).2];rfl
   rw[E.H z]
   exact(A.Hs hb).1.symm
  |false=>
   have hb:(!fa.hw)=true:=by rw[C];rfl
   have u:=A.H hb
   cases M:fi.hw with
   |true=>
    have z:(!fi.hw)=false:=by rw[M];rfl
    rw[(E.Hs z).2];exact u
   |false=>
    have z:(!fi.hw)=true:=by rw[M];rfl
    rw[E.H z,<-u,(t3 C).1,(u3 M).1]
 .simp only[fw,A.tr,E.tr]
  by_cases u:a.dst=some t
  .rw[if_pos u,if_neg (Y t u),if_pos u,<-A.tr,u2 _ H]
  grind [Nb]
theorem Nf(x:Tr){y:D}:x.sv (.d y)=.d y:=by cases x <;>rfl
theorem Em(x:Tr):x.sv (.aS [])=.aS []:=by cases x <;>rfl
theorem J2(x:Tr){u:SV}{b:Bool}(h:x.sv u=.d (.bool b)):u=.d (.bool b):=by
 cases u with
 |d y=>grind [Nf]
 |aG r p o l=>
  cases x <;>simp only[Tr.sv]at h <;>(repeat' split at h) <;>cases h
 |loc r p i o=>
  cases x <;>simp only[Tr.sv]at h <;>(repeat' split at h) <;>cases h
 |_=>grind [Tr.sv]
theorem Ng(x:Tr){u:SV}(h:x.sv u=.aS []):u=.aS []:=by
 cases u with
 |d y=>grind [Nf]
 |aG r p o l=>
  cases x <;>simp only[Tr.sv]at h <;>(repeat' split at h) <;>cases h
 |loc r p i o=>
  cases x <;>simp only[Tr.sv]at h <;>(repeat' split at h) <;>cases h
 |aS l=>
  have:x.sv (.aS l)=.aS (Tr.bF x l):=by cases x <;>rfl
  rw[this]at h
  cases l with
  |nil=>rfl
  |cons a r=>simp[Tr.bF]at h
 |_=>grind [Tr.sv]
theorem w8:∀(l:J Tr) {u:SV} {b:Bool},aU l u=.d (.bool b)->u=.d (.bool b)
 | [],_,_,h=>h
 |x::l,_,_,h=>J2 x (w8 l h)
theorem AI:∀(l:J Tr) {u:SV},aU l u=.aS []->u=.aS []
 | [],_,h=>h
 |x::l,_,h=>Ng x (AI l h)
theorem GT{s:St}{o:Qz}{w:Bool}{d:U Nat}{v:SV}{k:Wk}(e:ik ops (s.fin d v k) o=some w)(hd:∀t∈looks ops o,d≠some t):ik ops s o=some w:=by
 unfold ik looks at *
 cases a:o.guard with
 |none=>grind
 |some p=>
  grind [gi,w8,AI]
theorem Ti{s:St}{o:Qz}{w:Bool}{d:U Nat}{v:SV}{k:Wk}(e:ik ops s o=some w)(hd:∀t∈looks ops o,d≠some t):ik ops (s.fin d v k) o=some w:=by
 unfold ik looks at *
 cases a:o.guard with
 |none=>grind
 |some p=>
  obtain⟨j,f⟩:=p
  try rw[a]at e
  try rw[a]at hd
  try rw[a]
  simp only at e hd |-
  cases c:(ops[j]?).bind (·.dst)with
  |none=>grind
  |some t=>
   try rw[c]at e
   try rw[c]at hd
   simp only at e |-
   have h:(s.fin d v k).get t=aU k.tr (s.get t):=by rw[gi,if_neg (hd t (by simp))]
   have i:∀(l:J Tr) (b:Bool),aU l (.d (.bool b))=.d (.bool b):=λl b=>by induction l with |nil=>rfl |cons x l g=>grind [aU,Nf]
   have m:∀(l:J Tr),aU l (.aS [])=.aS []:=λl=>by induction l with |nil=>rfl |cons x l g=>grind [aU,Em]
   grind
theorem QW{o:Qz}{hi:pG}{s:St}{w:Bool}{v:SV}(a:iO o.op=true):mg h ops o hi s w v s.wk=⟨looks ops o,o.dst,[],[],false,false,false,none,[],none,[]⟩:=by
 obtain⟨t,b⟩:=lB a
 simp_all [mg,fW,St.wk,wL,fU,t8,yY,So,F9]
theorem ai8{a i:Qz}{c I M:Cf}{fa fi:Fp}(B:iO a.op=true)(V:ek P call h ops a c=some (I,fa))(S:ek P call h ops i I=some (M,fi))(hp:ri fa fi=true):
  ∃d1 d2,ek P call h ops i c=some (d1,fi)/\ek P call h ops a d1=some (d2,fa)/\Eqv M d2:=by
 obtain⟨v,o,Z,w,rfl,p⟩:=fx V;obtain⟨G,f,b,r,rfl,g⟩:=fx S;obtain⟨T,X,s3,_⟩:=ze hp;have H:fa.dst=a.dst:=by rw[p];rfl
 have K:fi.dst=i.dst:=by rw[g];rfl
 have W:fa.sl=looks ops a:=by rw[p];rfl
 have R:fi.sl=looks ops i:=by rw[g];rfl
 have n:∀t∈looks ops i,a.dst≠some t:=λt m e=>T t (H.trans e) (by rw[R];exact m)
 have y:∀t∈looks ops a,i.dst≠some t:=λt m e=>s3 t (K.trans e) (by rw[W];exact m)
 have C:∀t,a.dst=some t->i.dst≠some t:=λt e q=>X t (H.trans e) (K.trans q)
 obtain⟨t0,k⟩:=lB B;obtain⟨U,Q,rfl⟩:=(nR k).1 w;have A:t0∈looks ops a:=gj (by grind [mI,Op.operands,we])
 have Y:∀t,aU ([]:J Tr) t=t:=λ_=>rfl
 simp only at r g;have N:∀t∈looks ops i,c.1.get t=(c.1.fin a.dst o c.1.wk).get t:=λt m=>by rw[gi,if_neg (n t m)];rfl
 have z:fe P call h ops i c.1=some (G,f,b):=by
  rw[<-r];exact oX N rfl rfl
 have s:mg h ops i c.2 c.1 G f b=fi:=by
  rw[g];exact iP (c:=(c.1.fin a.dst o c.1.wk,dT c.2 c.1.wk.tr a.dst (fV a.op c.2 o))) (d:=c) N (λt m=>by simp only;rw[fw,if_neg (n t m)];rfl) rfl rfl
 have F:fV i.op (dT c.2 c.1.wk.tr a.dst (fV a.op c.2 o)) f=fV i.op c.2 f:=by
  cases O:iO i.op with
  |false=>grind [gd]
  |true=>
   obtain⟨u,L⟩:=lB O;rw[L];show eV _ u=eV _ u;rw[fw,if_neg (n u (gj (by grind [mI,Op.operands,we])))];rfl
 have E:(if v=true then(c.1.fin i.dst f b).get t0 else .aS [])=aU b.tr o:=by
  rw[Q]
  cases v with
  |true=>grind [gi]
  |false=>
   have L:∀(l:J Tr),aU l (.aS [])=.aS []:=λl=>by induction l with |nil=>rfl |cons x l ih=>grind [aU,Em]
   grind
 have D:fe P call h ops a (c.1.fin i.dst f b)=some (v,aU b.tr o,(c.1.fin i.dst f b).wk):=(nR k).2 ⟨Ti U y,E.symm,rfl⟩
 refine⟨_,_,(hD z).trans (congrArg some (kI rfl s)),(hD (c:=(c.1.fin i.dst f b,dT c.2 b.tr i.dst (fV i.op c.2 f))) D).trans (congrArg some (kI rfl ?_)),λt=> ?_,λx=>rfl,rfl,λt=> ?_⟩
 .grind [QW]
 .simp only[gi]
  by_cases j:a.dst=some t
  .grind
  .rw[if_neg j,if_neg j];rfl
 .simp only[fw,F]
  by_cases j:a.dst=some t
  .rw[if_pos j,if_neg (C t j),if_pos j,k]
   show eV _ t0=gc b.tr (eV c.2 t0)
   grind [fw]
  .rw[if_neg j,if_neg j];rfl
theorem ai9{a i:Qz}{c I N:Cf}{fa fi:Fp}(D:iO i.op=true)(Y:ek P call h ops a c=some (I,fa))(V:ek P call h ops i I=some (N,fi))(hp:ri fa fi=true):
  ∃d1 d2,ek P call h ops i c=some (d1,fi)/\ek P call h ops a d1=some (d2,fa)/\Eqv N d2:=by
 obtain⟨O,F,A,z,rfl,m⟩:=fx Y;obtain⟨p,U,ki,v,rfl,n⟩:=fx V;obtain⟨W,s2,s3,_⟩:=ze hp;have H:fa.dst=a.dst:=by rw[m];rfl
 have K:fi.dst=i.dst:=by rw[n];rfl
 have Z:fa.sl=looks ops a:=by rw[m];rfl
 have T:fi.sl=looks ops i:=by rw[n];rfl
 have G:∀t∈looks ops i,a.dst≠some t:=λt k e=>W t (H.trans e) (by rw[T];exact k)
 have j:∀t∈looks ops a,i.dst≠some t:=λt k e=>s3 t (K.trans e) (by rw[Z];exact k)
 have s:∀t,a.dst=some t->i.dst≠some t:=λt e q=>s2 t (H.trans e) (K.trans q)
 obtain⟨t0,g⟩:=lB D;simp only at v n;obtain⟨X,S,rfl⟩:=(nR g).1 v;have B:t0∈looks ops i:=gj (by grind [mI,Op.operands,we])
 have hb:∀(l:J Tr) (b:Bool),aU l (.d (.bool b))=.d (.bool b):=λl b=>by induction l with |nil=>rfl |cons x l Q=>grind [aU,Nf]
 have M:∀(l:J Tr),aU l (.aS [])=.aS []:=λl=>by induction l with |nil=>rfl |cons x l Q=>grind [aU,Em]
 have C:ik ops c.1 i=some p:=GT X G;have r:fe P call h ops i c.1=some (p,(if p=true then c.1.get t0 else .aS []),c.1.wk):=(nR g).2 ⟨C,rfl,rfl⟩
 have w:U=aU A.tr (if p=true then c.1.get t0 else .aS []):=by
  rw[S]
  cases p with
  |true=>grind [gi]
  |false=>grind
 generalize (if p=true then c.1.get t0 else .aS [])=v0 at r w
 subst w;have L:∀t∈looks ops a,(c.1.fin i.dst v0 c.1.wk).get t=c.1.get t:=λt k=>by rw[gi,if_neg (j t k)];rfl
 have E:fe P call h ops a (c.1.fin i.dst v0 c.1.wk)=some (O,F,A):=by
  rw[<-z];exact oX L rfl rfl
 have y:fV a.op (dT c.2 c.1.wk.tr i.dst (fV i.op c.2 v0)) F=fV a.op c.2 F:=by
  cases R:iO a.op with
  |false=>grind [gd]
  |true=>
   obtain⟨u,M⟩:=lB R;rw[M];show eV _ u=eV _ u;rw[fw,if_neg (j u (gj (by grind [mI,Op.operands,we])))];rfl
 refine⟨_,_,(hD r).trans (congrArg some (kI rfl ?_)),(hD (c:=(c.1.fin i.dst v0 c.1.wk,dT c.2 c.1.wk.tr i.dst (fV i.op c.2 v0))) E).trans (congrArg some (kI rfl ?_)),λt=> ?_,λx=>rfl,rfl,λt=> ?_⟩
 .grind [QW]
 .rw[m]
  exact iP (c:=c) (d:=(c.1.fin i.dst v0 c.1.wk,dT c.2 c.1.wk.tr i.dst (fV i.op c.2 v0))) L (λt k=>by simp only;rw[fw,if_neg (j t k)];rfl) rfl rfl
 .simp only[gi]
  by_cases f:a.dst=some t
  .rw[if_pos f,if_neg (s t f),if_pos f];rfl
  .rw[if_neg f,if_neg f]
   by_cases o:i.dst=some t
   .grind
   .rw[if_neg o,if_neg o];rfl
 .simp only[fw,y]
  by_cases f:a.dst=some t
  .rw[if_pos f,if_neg (s t f),if_pos f];rfl
  .rw[if_neg f,if_neg f]
   by_cases o:i.dst=some t
   .rw[if_pos o,if_pos o,g]
    show gc A.tr (eV c.2 t0)=eV _ t0
    grind [fw]
   .rw[if_neg o,if_neg o];rfl
theorem Jb{r:aj}{q:dP}:∀(tr:J Tr) (u:SV),u.dv r q=true->(∀x∈tr,x=.kill r q\/(∀a∈x.ba,a∉u.aX)/\x.aN=false)->aU tr u=u
 | [],_,_,_=>rfl
 |x::tr,u,b,c=>by
  have:=Jb tr u b;grind [Ja,Tr.c9,aU]
theorem Ir{r:aj}{p:dP}{v:SV}{f:aj}{b:dP}{a c:Nat}(h:bD ((Tr.kill r p).sv v)=.loc f b a c):v=(Tr.kill r p).sv v:=by
 cases v with
 |aG d e o n=>
  grind [Tr.sv,bD]
 |loc d e i o=>
  grind [Tr.sv,bD]
 |agg l=>simp[Tr.sv,bD]at h
 |aS l=>simp[Tr.sv,bD]at h
 |_=>rfl
theorem ul:∀(tr:J Tr) {v:SV} {c:aj} {a:dP} {b d:Nat},(∀x∈tr,∃r p,x=.kill r p)->bD (aU tr v)=.loc c a b d->v=aU tr v
 | [],_,_,_,_,_,_,_=>rfl
 |x::tr,v,c,a,b,d,hk,h=>by
  obtain⟨r,p,rfl⟩:=hk x (by simp)
  have f:=ul tr (v:=(Tr.kill r p).sv v) (λy e=>hk y (Ap _ e)) h
  grind [Ir,aU]
theorem Pk{op:Op}{t:Nat}(ht:t∈mI op): .tmp t∈op.operands:=by
 simp only[mI,List.mem_filterMap]at ht
 obtain⟨x,b,a⟩:=ht
 cases x <;>simp only[we,xJ,reduceCtorEq]at a
 grind
theorem ab7{op:Op}{c:Oz->SV}{v:SV}{R:aj×dP×Nat×Nat×Nat}{dst:Nat}(hx:t8 (fU h dst op) op c v=some R){ty:TypeId}{k k':Wk}(e:dD P call h dst ty op c k=some (v,k')):k'=k/\iO op=false/\∃a,(∀x∈op.operands,x=a)/\∃r p i o,bD (c a)=.loc r p i o:=by
 unfold t8 at hx
 split at hx
 .cases hx
 .rename_i t a g
  split at hx
  .cases hx
  rename_i j;have b:(gY P t (c a) k).map (·,k)=some (v,k'):=by rw[<-za (Bool.eq_false_iff.2 j) g];exact e
  simp only[xM,pJ]at b
  obtain⟨u,d,_,rfl⟩:=b
  refine⟨rfl,rfl,a,by simp[Op.operands],?_⟩
  grind
 .rename_i t a f
  have b:(eE P t (c a) f k).map (·,k)=some (v,k'):=e;simp only[xM,pJ]at b
  obtain⟨u,d,l,rfl⟩:=b
  refine⟨rfl,rfl,a,by simp[Op.operands],?_⟩
  split at hx
  .grind [eE,xB]
  .cases hx
 .cases hx
theorem ab8{op:Op}{b:Oz->SV}{r:aj}{q:dP}(hx:yY op b=some (r,q)){v:SV}{dst:Nat}{ty:TypeId}{k k':Wk}(e:dD P call h dst ty op b k=some (v,k')):iO op=false/\∃t o n x,iu P h.nv dst t (.aG r q o n) x k=some (v,k'):=by
 unfold yY at hx
 split at hx
 .rename_i a f
  split at hx
  .rename_i x y i
   split at hx
   .rename_i c d o n g
    simp only[xJ,pJ]at hx
    obtain⟨rfl,rfl⟩:=hx
    refine⟨rfl,?_⟩
    grind [dD,opE]
   .cases hx
  .cases hx
 .cases hx
theorem QX{k k':Wk}{r:aj}{q:dP}{t:TypeId}{nv dst o n:Nat}{x v:SV}(l:k.tr=[])(e:iu P nv dst t (.aG r q o n) x k=some (v,k')){f:aj}{p:dP}{i off kd:Nat}(D:f=r->sepL kd p i off q=true)(ho:f∉F9 (some (r,q)) k'.tr):
  QV kd f p i off k k'/\(∀x∈k'.tr,∃r p,x=.kill r p)/\∀u:SV,u.dv r q=true->(∀d∈u.aX,d∉F9 (some (r,q)) k'.tr)->aU k'.tr u=u:=by
 obtain⟨z,c,c',G,E,h3,h4,h5⟩:=Pi l e
 have hk:∀x∈k'.tr,∃r p,x=.kill r p:=λy g=>by
  grind
 have h:∀x∈k'.tr,x=.kill r q\/∀d∈x.ba,d∈F9 (some (r,q)) k'.tr:=λy g=>by
  obtain⟨m,s,rfl⟩:=hk y g
  by_cases a:m=r/\s=q
  .grind
  .refine .inr λd b=> ?_
   refine List.mem_flatMap.2 ⟨_,List.mem_filter.2 ⟨g,?_⟩,b⟩
   grind [Tr.killAt]
 refine⟨?_,hk,λu A w=>Jb _ u A λy g=> ?_⟩
 .have C:f≠ .l dst 0:=by
   rintro rfl
   rcases h (.kill (.l dst 0) []) (by rw[h3];simp)with a |a
   .grind [sepL]
   .grind [Tr.ba]
  have B:f∉z.flatMap Tr.ba:=λF=>by
   grind
  unfold QV;rw[h5 f C B]
  by_cases a:f=r
  .grind [QU]
  .rw[if_neg a];exact .inl rfl
 .obtain a |a:=h y g
  .exact .inl a
  .refine .inr ⟨λd b j=>w d j (a d b),?_⟩
   obtain⟨m,s,rfl⟩:=hk y g;rfl
theorem Do{x y:Fp}(hp:apartX x y=true):(∀d,x.dst=some d->d∉y.sl)/\(∀d,x.dst=some d->y.dst≠some d)/\(∀d,y.dst=some d->d∉x.sl)/\y.dm=false/\
  ∃a p i off kd r q,x.rx=some (a,p,i,off,kd)/\y.wx=some (r,q)/\(a=r->sepL kd p i off q=true)/\a∉y.ox/\∀u∈x.sx,u.dv r q=true/\∀b∈u.aX,b∉y.ox:=by
 grind [apartX,Nc]
theorem Jc{s s2:St}{o:Qz}{w:Bool}{tr:J Tr}(e:ik ops s o=some w)(d:∀t∈looks ops o,s2.get t=aU tr (s.get t))(ht:∀t∈mI o.op,aU tr (s.get t)=s.get t):∀t∈looks ops o,s2.get t=s.get t:=λt a=>by
 have g:∀(l:J Tr) (b:Bool),aU l (.d (.bool b))=.d (.bool b):=λl b=>by induction l with |nil=>rfl |cons x l f=>grind [aU,Nf]
 have h:∀(l:J Tr),aU l (.aS [])=.aS []:=λl=>by induction l with |nil=>rfl |cons x l f=>grind [aU,Em]
 rw[d t a]
 obtain c |c:=List.mem_append.1 a
 .exact ht t c
 grind [ik]
theorem aja{a i:Qz}{c c1 c2:Cf}{fa fi:Fp}(ea:ek P call h ops a c=some (c1,fa))(ei:ek P call h ops i c1=some (c2,fi))(hp:apartX fa fi=true):
  ∃d1 d2,ek P call h ops i c=some (d1,fi)/\ek P call h ops a d1=some (d2,fa)/\Eqv c2 d2:=by
 obtain⟨M,m,ka,N,rfl,w⟩:=fx ea;obtain⟨R,j,b,D,rfl,g⟩:=fx ei;obtain⟨s1,s2,s3,rn,r0,p,ix,ad,kd,r,q,hx,hy,F,ab,Z⟩:=Do hp;have da:fa.dst=a.dst:=by rw[w];rfl
 have di:fi.dst=i.dst:=by rw[g];rfl
 have la:fa.sl=looks ops a:=by rw[w];rfl
 have li:fi.sl=looks ops i:=by rw[g];rfl
 have E:∀t∈looks ops i,a.dst≠some t:=λt f e=>s1 t (da.trans e) (by rw[li];exact f)
 have ac:∀t∈looks ops a,i.dst≠some t:=λt f e=>s3 t (di.trans e) (by rw[la];exact f)
 have ag:∀t,a.dst=some t->i.dst≠some t:=λt e q=>s2 t (da.trans e) (di.trans q)
 have l:fa.rx=if M=true then t8 (fU h (a.dst.getD 0) a.op) a.op c.1.val m else none:=by rw[w];rfl
 have n:fi.wx=if R=true then yY i.op (c.1.fin a.dst m ka).val else none:=by rw[g];rfl
 rw[hx]at l
 rw[hy]at n
 have U:M=true:=by cases M with |true=>rfl |false=>simp at l
 have T:R=true:=by cases R with |true=>rfl |false=>simp at n
 subst U;subst T;rw[if_pos rfl]at l n
 have B:∀{s:St} {o:Qz} {v:SV} {k:Wk},fe P call h ops o s=some (true,v,k)->ik ops s o=some true/\dD P call h (o.dst.getD 0) o.type o.op s.val s.wk=some (v,k):=λ{s o v k} e=>by
  simp only[fe,xB]at e
  grind [xM]
 obtain⟨y,z⟩:=B N;obtain⟨rfl,X,x0,ak,_⟩:=ab7 l.symm z;simp only at D g;have Q:∀t∈looks ops i,c.1.get t=(c.1.fin a.dst m c.1.wk).get t:=λt f=>by rw[gi,if_neg (E t f)];rfl
 have K:fe P call h ops i c.1=some (true,j,b):=by
  rw[<-D];exact oX Q rfl rfl
 have H:mg h ops i c.2 c.1 true j b=fi:=by
  rw[g];exact iP (c:=(c.1.fin a.dst m c.1.wk,dT c.2 c.1.wk.tr a.dst (fV a.op c.2 m))) (d:=c) Q (λt f=>by simp only;rw[fw,if_neg (E t f)];rfl) rfl rfl
 obtain⟨V,C⟩:=B K;rw[<-GS (nH (s:=(c.1.fin a.dst m c.1.wk)) (s2:=c.1) λt f=>Q t (gj f))]at n
 obtain⟨O,tt,oo,nn,xx,G⟩:=ab8 n.symm C
 have aa:fi.ox=F9 (some (r,q)) b.tr:=by
  rw[<-H];show F9 (if true=true then yY i.op c.1.val else none) _=_
  rw[if_pos rfl,<-n]
 have J:fa.sx=m::(looks ops a).map λt=>c.1.get t:=by
  rw[w];show So (if true=true then t8 (fU h (a.dst.getD 0) a.op) a.op c.1.val m else none) _=_
  rw[if_pos rfl,<-l];rfl
 obtain⟨sm,ah,Y⟩:=QX (k:=c.1.wk) rfl G F (by grind)
 have ai:b.tr.any Tr.bK=false:=by
  have S:fi.dm=b.tr.any Tr.bK:=by rw[g];rfl
  rw[<-S];exact rn
 have aV:∀u∈fa.sx,aU b.tr u=u:=λu hu=>Y u (Z u hu).1 (by grind)
 have af:aU b.tr m=m:=aV m (by rw[J];simp)
 have A:∀t∈looks ops a,(c.1.fin i.dst j b).get t=c.1.get t:=Jc y (λt f=>by grind [gi]) (λt f=>aV _ (by grind [gj]))
 have I:=nH (s:=c.1) (s2:=c.1.fin i.dst j b) (op:=a.op) λt f=>A t (gj f)
 have W:fe P call h ops a (c.1.fin i.dst j b)=some (true,m,(c.1.fin i.dst j b).wk):=by
  have S:dD P call h (a.dst.getD 0) a.type a.op (c.1.fin i.dst j b).val (c.1.fin i.dst j b).wk=some (m,(c.1.fin i.dst j b).wk):=by
   rw[oV a.op _ I];exact ab6 l.symm sm z
  simp only[fe,oW A,y,xS,if_true,S,xQ]
 refine⟨_,_,(hD K).trans (congrArg some (kI rfl H)),(hD (c:=(c.1.fin i.dst j b,dT c.2 b.tr i.dst (fV i.op c.2 j))) W).trans (congrArg some (kI rfl ?_)),λt=> ?_,λx=>rfl,rfl,λt=> ?_⟩
 .rw[w]
  exact iP (c:=c) (d:=(c.1.fin i.dst j b,dT c.2 b.tr i.dst (fV i.op c.2 j))) A (λt f=>by grind [fw,ju]) (by simp[fW]) rfl
 .simp only[gi]
  by_cases L:a.dst=some t
  .grind
  .rw[if_neg L,if_neg L];rfl
 .simp only[fw,gd X,gd O]
  by_cases L:a.dst=some t
  .grind [ju]
  .rw[if_neg L,if_neg L];rfl
theorem ajb{a i:Qz}{c c1 c2:Cf}{fa fi:Fp}(ea:ek P call h ops a c=some (c1,fa))(ei:ek P call h ops i c1=some (c2,fi))(hp:apartX fi fa=true):
  ∃d1 d2,ek P call h ops i c=some (d1,fi)/\ek P call h ops a d1=some (d2,fa)/\Eqv c2 d2:=by
 obtain⟨R,z,b,G,rfl,m⟩:=fx ea;obtain⟨T,g,ki,I,rfl,n⟩:=fx ei;obtain⟨s1,s2,s3,rn,r0,p,ix,ah,kd,r,q,hx,hy,K,ag,ac⟩:=Do hp;have da:fa.dst=a.dst:=by rw[m];rfl
 have di:fi.dst=i.dst:=by rw[n];rfl
 have la:fa.sl=looks ops a:=by rw[m];rfl
 have li:fi.sl=looks ops i:=by rw[n];rfl
 have D:∀t∈looks ops i,a.dst≠some t:=λt f e=>s3 t (da.trans e) (by rw[li];exact f)
 have H:∀t∈looks ops a,i.dst≠some t:=λt f e=>s1 t (di.trans e) (by rw[la];exact f)
 have N:∀t,a.dst=some t->i.dst≠some t:=λt e q=>s2 t (di.trans q) (da.trans e)
 simp only at I n;have l:fi.rx=if T=true then t8 (fU h (i.dst.getD 0) i.op) i.op (c.1.fin a.dst z b).val g else none:=by rw[n];rfl
 have u:fa.wx=if R=true then yY a.op c.1.val else none:=by rw[m];rfl
 rw[hx]at l
 rw[hy]at u
 have V:R=true:=by cases R with |true=>rfl |false=>simp at u
 have U:T=true:=by cases T with |true=>rfl |false=>simp at l
 subst V;subst U;rw[if_pos rfl]at l u
 have B:∀{s:St} {o:Qz} {v:SV} {k:Wk},fe P call h ops o s=some (true,v,k)->ik ops s o=some true/\dD P call h (o.dst.getD 0) o.type o.op s.val s.wk=some (v,k):=λ{s o v k} e=>by
  simp only[fe,xB]at e
  grind [xM]
 obtain⟨W,F⟩:=B G;obtain⟨aa,tt,oo,nn,xx,L⟩:=ab8 u.symm F;obtain⟨E,w⟩:=B I;obtain⟨rfl,S,x0,ad,r9,p9,i9,o9,C⟩:=ab7 l.symm w
 have af:fa.ox=F9 (some (r,q)) b.tr:=by
  rw[m];show F9 (if true=true then yY a.op c.1.val else none) _=_
  rw[if_pos rfl,<-u]
 have Q:fi.sx=g::(looks ops i).map λt=>(c.1.fin a.dst z b).get t:=by
  rw[n];show So (if true=true then t8 (fU h (i.dst.getD 0) i.op) i.op (c.1.fin a.dst z b).val g else none) _=_
  rw[if_pos rfl,<-l];rfl
 obtain⟨sm,ak,ab⟩:=QX (k:=c.1.wk) rfl L K (by grind)
 have al:b.tr.any Tr.bK=false:=by
  have M:fa.dm=b.tr.any Tr.bK:=by rw[m];rfl
  rw[<-M];exact rn
 have ai:aU b.tr g=g:=ab g (ac g (by rw[Q];simp)).1 (by grind)
 have j:ik ops c.1 i=some true:=GT E D
 have A:∀t∈looks ops i,(c.1.fin a.dst z b).get t=c.1.get t:=Jc j (λt f=>by rw[gi,if_neg (D t f)]) (λt f=>by
  have hm:=Pk f
  have:=ad _ hm
  rw[<-this]at C
  have hl:bD (aU b.tr (c.1.get t))=.loc r9 p9 i9 o9:=by
   have M:(c.1.fin a.dst z b).val (.tmp t)=aU b.tr (c.1.get t):=by
    show(c.1.fin a.dst z b).get t=_
    rw[gi,if_neg (D t (gj f))]
   rw[<-M];exact C
  grind [ul])
 have O:=nH (s:=c.1) (s2:=c.1.fin a.dst z b) (op:=i.op) λt f=>A t (gj f)
 have Z:fe P call h ops i c.1=some (true,g,c.1.wk):=by
  have M:dD P call h (i.dst.getD 0) i.type i.op c.1.val c.1.wk=some (g,c.1.wk):=by
   rw[<-oV i.op _ O];exact ab6 (k:=(c.1.fin a.dst z b).wk) l.symm (RelN.symm sm) w
  simp only[fe,j,xS,if_true,M,xQ]
 have X:mg h ops i c.2 c.1 true g c.1.wk=fi:=by
  rw[n];exact iP (c:=(c.1.fin a.dst z b,dT c.2 b.tr a.dst (fV a.op c.2 z))) (d:=c) (λt f=>(A t f).symm) (λt f=>by grind [fw,ju]) (by simp[fW]) rfl
 have gA:∀t∈looks ops a,(c.1.fin i.dst g c.1.wk).get t=c.1.get t:=λt f=>by rw[gi,if_neg (H t f)];rfl
 have Y:fe P call h ops a (c.1.fin i.dst g c.1.wk)=some (true,z,b):=by
  rw[<-G];exact oX gA rfl rfl
 refine⟨_,_,(hD Z).trans (congrArg some (kI rfl X)),(hD (c:=(c.1.fin i.dst g c.1.wk,dT c.2 c.1.wk.tr i.dst (fV i.op c.2 g))) Y).trans (congrArg some (kI rfl ?_)),λt=> ?_,λx=>rfl,rfl,λt=> ?_⟩
 .rw[m]
  exact iP (c:=c) (d:=(c.1.fin i.dst g c.1.wk,dT c.2 c.1.wk.tr i.dst (fV i.op c.2 g))) gA (λt f=>by simp only;rw[fw,if_neg (H t f)];rfl) rfl rfl
 .simp only[gi]
  by_cases y:a.dst=some t
  .rw[if_pos y,if_neg (N t y),if_pos y];rfl
  .rw[if_neg y,if_neg y]
   by_cases J:i.dst=some t
   .grind
   .rw[if_neg J,if_neg J];rfl
 .simp only[fw,gd aa,gd S]
  by_cases y:a.dst=some t
  .rw[if_pos y,if_neg (N t y),if_pos y];rfl
  .rw[if_neg y,if_neg y]
   by_cases J:i.dst=some t
   .grind [ju]
   .rw[if_neg J,if_neg J];rfl
theorem att{a i:Qz}{c b d:Cf}{fa fi:Fp}(hi:Inv c)(f:ek P call h ops a c=some (b,fa))(e:ek P call h ops i b=some (d,fi))(hp:apartFp fa fi=true):
  ∃d1 d2,ek P call h ops i c=some (d1,fi)/\ek P call h ops a d1=some (d2,fa)/\Eqv d d2:=by
 simp only[apartFp,iq]at hp
 obtain (hp |hp) |hp:=hp
 .cases j:iO a.op with
  |true=>grind [ai8]
  |false=>
   cases g:iO i.op with
   |true=>grind [ai9]
   |false=>grind [ai7]
 .grind [aja]
 grind [ajb]
theorem ab9:∀(A:J Qz) (i:Qz) (B:J Qz) {c c':Cf} {b:J Fp},Inv c->dV P call h ops (A++i::B) c=some (c',b)->(∀fi,b[A.length]? =some fi->∀f∈b.take A.length,apartFp f fi=true)->
  ∃g d fi,b[A.length]? =some fi/\ek P call h ops i c=some (g,fi)/\dV P call h ops (A++B) g=some (d,b.take A.length++b.drop (A.length+1))/\Eqv c' d
 | [],i,B,c,c',b,m,e,o=>by
  simp only[gD,dV,xB,xM,pJ]at e
  obtain⟨⟨g,f⟩,j,⟨r,n⟩,k,rfl,rfl⟩:=e
  exact⟨g,r,f,rfl,j,by simpa using k,.refl _⟩
 |a::A,i,B,c,c',b,m,e,o=>by
  simp only[lN,dV,xB,xM,pJ]at e
  obtain⟨⟨H,t⟩,j,⟨r,n⟩,k,rfl,rfl⟩:=e;simp only at k;obtain⟨g,d,fi,p,s,D,u⟩:=ab9 A i B (m.step j) k (λfi q f w=>o fi (by simpa using q) f (by simp[w]))
  have l:=o fi (by simpa using p) t (by simp)
  obtain⟨y,G,C,F,v⟩:=att m j s l;obtain⟨x,E,z⟩:=w7 _ v D
  refine⟨y,x,fi,by simpa using p,C,?_,u.trans z⟩
  grind [dV]
end
end Go.Am
