/- A part of the proof: texts of mine, merged by a program (wip/dev/merge.py). -/
import Derived.Test.YteeabnledfmpjaaGreatDoorFr2
import Derived.KernelRfl
import Derived.OrdersIn
import Derived.RangeFuncRecord
import Derived.TacticsIn
set_option linter.unusedSimpArgs false
set_option linter.unusedVariables false
namespace Go.Am
open Go Go.RowKit
mutual
theorem VC.cM{c c':Cx}(h:∀b g,c.pm b g->c'.pm b g/\c'.w.heap[g]? =c.w.heap[g]?):∀(d:D) (cs:List Value),d.low 0=true->VC c d cs->VC c' d cs
 |.int _ _,_,_,e|.bool _,_,_,e|.str _,_,_,e|.aJ,_,_,e|.cU,_,_,e|.de,_,_,e|.cZ,_,_,e|.bX,_,_,e=>by simpa [VC]using e
 |.ptr o,_,i,_|.map o,_,i,_|.yld o,_,i,_=>by simp[D.low]at i
 | .agg l,cs,i,e=>by have:=aR.cM h l cs i e;grind [VC]
 | .sl b l,cs,i,e=>by
  have:=VE.cM h l;grind [VC,D.low]
 | .fn f a b,cs,i,e=>by
  have:=bf.cM h a;have:=bf.cM h b;grind [VC,D.low]
 | .iface t x,cs,i,e=>by
  simp only[VC]at e |-
  simp only[D.low]at i
  obtain⟨v,m,k,h3⟩:=e
  exact⟨v,m,VC.cM h _ _ i k,h3⟩
 | .bR l,cs,i,e=>by
  have:=aR.cM h l;grind [VC,D.low,qv,kF]
theorem aR.cM{c c':Cx}(h:∀b g,c.pm b g->c'.pm b g/\c'.w.heap[g]? =c.w.heap[g]?):∀(l:List D) (cs:List Value),D.aQ 0 l=true->aR c l cs->aR c' l cs
 | [],_,_,e=>by grind [aR]
 |d::j,cs,i,e=>by
  have:=VC.cM h d;have:=aR.cM h j;grind [aR,D.aQ]
theorem bf.cM{c c':Cx}(h:∀b g,c.pm b g->c'.pm b g/\c'.w.heap[g]? =c.w.heap[g]?):∀(l:List D) (cs:List Value),D.aQ 0 l=true->bf c l cs->bf c' l cs
 | [],_,_,e=>by grind [bf]
 |d::j,cs,i,e=>by
  simp only[bf]at e |-
  simp only[D.aQ,xA]at i
  obtain⟨v,r,m,k,h3,h4⟩:=e
  exact⟨v,r,m,VC.cM h _ _ i.1 k,h3,bf.cM h j _ i.2 h4⟩
theorem VE.cM{c c':Cx}(h:∀b g,c.pm b g->c'.pm b g/\c'.w.heap[g]? =c.w.heap[g]?):∀(l:List D) (a:Addr) (o n:Nat),c'.w.heap[a.block]? =c.w.heap[a.block]? ->D.aQ 0 l=true->VE c l a o n->VE c' l a o n
 | [],_,_,_,_,_,_=>by simp[VE]
 |d::j,a,o,n,p,i,e=>by
  have:=VC.cM h d;have:=VE.cM h j a;grind [VE,D.aQ,qv,kF]
end
def gW(A:Av)(sn:Bool)(R:aj->Bool)(S:aj->J Nat)(fl:J Nat)(w:Wz)(n:Nat)(ρ:Nat->Nat):Av:=
 {w0:=w,F:=λt b=>A.F t b\/((t=false\/sn=false)/\((∃r,R r=true/\b∈S r)\/b∈fl)),O0:=λb=>∃r,R r=false/\b∈S r,n0:=n,ρ0:=ρ,mono:=λb h=>by
    obtain h |⟨h,q⟩:=h
    .exact .inl (A.mono b h)
    grind}
def qz(R:aj->Bool)(S:aj->J Nat):aj->J Nat:=λr=>if R r then []else S r
section
variable{P:Pz}{A:Av}{ρ:Nat->Nat}{S:aj->J Nat}{hd:aj->Vz}{fl:J Nat}{k k':Wk}{ay:J (SV×Vz)}{w:Wz}
theorem Tl(h:KR A ρ S hd fl k ay w)(sn:Bool)(lk:J Nat)(R:aj->Bool)(H:J Ob)(O:∀n j,R (.l n j)=true)(N:∀n∈lk,R (.o n)=true)(G:H.length=k.H.length)
  (h1:∀n,R (.o n)=true->∀ob,H[n]? =some ob->ob=.lock) (h2:∀n,R (.o n)=false->H[n]? =k.H[n]?):
  KR (gW A sn R S fl w H.length ρ) ρ (qz R S) hd [] {ct:=[],H} [] w/\Ext (cxS sn lk A k.H.length ρ S fl w) (am (gW A sn R S fl w H.length ρ) H.length ρ (qz R S) [] w):=by
 have own:∀b,bT (qz R S) [] b->∃r,R r=false/\b∈S r:=λb m=>by
  obtain⟨r,a⟩ |m:=m
  .grind [qz]
  grind
 have ext:Ext (cxS sn lk A k.H.length ρ S fl w) (am (gW A sn R S fl w H.length ρ) H.length ρ (qz R S) [] w):=by
  refine⟨λt b z=>⟨?_,rfl⟩,by show k.H.length<=H.length;omega,λ_ _=>rfl⟩
  obtain⟨s,B,q3⟩ |⟨s,B,q3,q4,q5⟩:=z
  .refine⟨λy=> ?_,λc=> ?_,q3⟩
   .obtain⟨r,_,a⟩:=own b y;exact s (.inl ⟨r,a⟩)
   .obtain c |⟨_,⟨r,_,a⟩ |a⟩:=c
    .exact B c
    .exact s (.inl ⟨r,a⟩)
    .exact s (.inr a)
  .subst s;subst B
   refine⟨λy=> ?_,λc=> ?_,q4⟩
   .obtain⟨r,I,a⟩:=own b y
    cases r with
    |l n j=>grind
    |o n=>grind
   .obtain c |⟨c |c,_⟩:=c
    .exact q3 c
    .cases c
    .cases c
 have g:Ext (am A k.H.length ρ S fl w) (am (gW A sn R S fl w H.length ρ) H.length ρ (qz R S) [] w):=
  ⟨λt b z=>ext.pm t b (.inl z),ext.nO,λ_ _=>rfl⟩
 have u:∀r,R r=false->({ct:=[],H}:Wk).get r=k.get r:=λr a=>by
  cases r with
  |l n j=>grind
  |o n=>grind [Wk.get,Go.Am.cont]
 have F:∀r,R r=true->({ct:=[],H}:Wk).get r=none:=λr a=>by
  cases r with
  |l n j=>rfl
  |o n=>
   grind [Wk.get,Go.Am.cont]
 have D:∀r,R r=false->qz R S r=S r:=λr a=>by simp[qz,a]
 have M:∀r,R r=true->qz R S r=[]:=λr a=>by simp[qz,a]
 have x:∀r b,b∈qz R S r->b∈S r/\R r=false:=λr b m=>by
  grind [qz]
 refine⟨⟨λr t E=> ?_,λr a K=> ?_,h.obj,λn ob q v=> ?_,⟨λr=> ?_,by simp,λr p b m f=>h.bw.one r p b (x r b m).1 (x p b f).1,by simp⟩,λb m=> ?_,by simp,⟨rfl,rfl,rfl,dC _,λ_ _ _=>rfl,.refl _⟩,λt b c=> ?_,⟨dC _,λ_ _=>rfl⟩⟩,ext⟩
 .cases a:R r with
  |true=>grind
  |false=>
   rw[u r a]at E
   rw[D r a];exact TC.ext g _ _ _ (λ_ _=>rfl) (h.cont r t E)
 .cases i:R r with
  |true=>exact M r i
  |false=>
   rw[u r i]at a
   rw[D r i];exact h.gone r a (λn ob e q=>K n ob e (by grind))
 .have a:R (.o n)=false:=by
   cases a:R (.o n)with
   |false=>rfl
   |true=>have:=h1 n a _ q;subst this;cases v
  simp only at q;rw[h2 n a]at q
  exact(h.map n ob q v).ext g (λ_ _=>rfl) (D _ a) rfl
 .unfold qz;split
  .simp
  .exact h.bw.nd r
 .obtain⟨r,I,a⟩:=own b m
  have f:=h.bU b (.inl ⟨r,a⟩)
  refine⟨f.1,λt c=> ?_,λ_=>⟨r,I,a⟩⟩
  obtain c |⟨_,⟨p,C,d⟩ |d⟩:=c
  .exact f.2.1 t c
  .have:=h.bw.one r p b a d;grind
  .exact h.bw.cq r b a d
 .have L:=h.fr.size
  obtain c |⟨_,⟨p,C,d⟩ |d⟩:=c
  .exact yA (h.Fold t b c) L
  .exact(h.bU b (.inl ⟨p,d⟩)).1
  .exact(h.bU b (.inr d)).1
def j4(R:aj->Bool)(n0:Nat):aj->Bool
 | .l n j=>true
 | .o n=>decide (n<n0)&&R (.o n)
def s3(R:aj->Bool)(n0:Nat)(S a:aj->J Nat):aj->J Nat:=λr=>if j4 R n0 r then S r else a r
def hd3(R:aj->Bool)(n0:Nat)(hd a:aj->Vz):aj->Vz:=λr=>if j4 R n0 r then hd r else a r
def I7:Ob->Bool
 | .box c=>c.cX
 | .map a=>a.all λe=>e.1.cX&&e.2.cX
 |.iter _ _|.bY _=>true
 | .frame _ _ _ _ b d=>b.all (λp=>p.2.cX)&&d.all λp=>p.2.cX
 | .lock=>true
 | .row a=>T.aY a
 | .sset _=>true
structure LeftCall(A:Av)(ρ:Nat->Nat)(S:aj->List Nat)(hd:aj->Value)(fl:List Nat)(k:Wk)(w:World)(sn:Bool)(R:aj->Bool)(H2:List Ob)(ρ':Nat->Nat)(S2:aj->List Nat)(hd2:aj->Value)(M:List Nat)(w':World)(H3:List Ob)(tr':List Tr):Prop where
 kr:∀vals',(∀p∈vals',SO (am A H3.length ρ' (s3 R k.H.length S S2) (M++fl) w') ({k with H:=H3,tr:=tr'}:Wk).get (hd3 R k.H.length hd hd2) (aU tr' p.1) p.2)->KR A ρ' (s3 R k.H.length S S2) (hd3 R k.H.length hd hd2) (M++fl) {k with H:=H3,tr:=tr'} vals' w'
 ret:∀rs vs,(sn=true->T.aY rs=true)->RetAll (am (gW A sn R S fl w k.H.length ρ) H2.length ρ' S2 M w') rs vs M->RetAll (am A H3.length ρ' (s3 R k.H.length S S2) (M++fl) w') rs vs M
 ext:Ext (am A k.H.length ρ S fl w) (am A H3.length ρ' (s3 R k.H.length S S2) (M++fl) w')
 hold:∀r q,j4 R k.H.length r=true->wV (am A k.H.length ρ S fl w) (am A H3.length ρ' (s3 R k.H.length S S2) (M++fl) w') k.get ({k with H:=H3,tr:=tr'}:Wk).get hd (hd3 R k.H.length hd hd2) r q
 cP:∀o,o<k.H.length->ρ' o=ρ o
theorem Tm(h:KR A ρ S hd fl k ay w){sn:Bool}{R:aj->Bool}{F:J Ob}{d:Nat->Nat}{f:aj->J Nat}{I:aj->Vz}{M:J Nat}{w':Wz}(hR:∀n j,R (.l n j)=true)
  (g:KR (gW A sn R S fl w k.H.length ρ) d f I M {ct:=[],H:=F} [] w') (D:J Ob) (af:J Tr) (ai:D.length=F.length) (h31:∀n,n<k.H.length->R (.o n)=true->D[n]? =k.H[n]?)
  (h32:∀n,¬(n<k.H.length/\R (.o n)=true)->D[n]? =F[n]?) (aq:sn=true->∀n ob,¬(n<k.H.length/\R (.o n)=true)->F[n]? =some ob->I7 ob=true):
  LeftCall A ρ S hd fl k w sn R F d f I M w' D af:=by
 have bP:w.heap.size<=w'.heap.size:=g.fr.size;have G:∀o,o<k.H.length->d o=ρ o:=g.cP.2
 have av:k.H.length<=F.length:=g.cP.1
 -- who owns what behind the call
 have ag:∀b,((∃r,b∈f r)\/b∈M)->b<w.heap.size->∃r,R r=false/\b∈S r:=λb i C=>(g.bU b i).2.2 C
 have own:∀b,bT (s3 R k.H.length S f) (M++fl) b->((∃r,j4 R k.H.length r=true/\b∈S r)\/b∈fl)\/((∃r,b∈f r)\/b∈M):=λb i=>by
  obtain⟨r,c⟩ |i:=i
  .grind [s3]
  grind
 have kR:∀r b,j4 R k.H.length r=true->b∈S r->R r=true:=λr b hk i=>by
  cases r with
  |l n j=>exact hR n j
  |o n=>grind [j4]
 have ak:∀b,((∃r,j4 R k.H.length r=true/\b∈S r)\/b∈fl)->b<w.heap.size/\¬∃r,R r=false/\b∈S r:=λb i=>by
  obtain⟨r,hk,c⟩ |i:=i
  .refine⟨(h.bU b (.inl ⟨r,c⟩)).1,λ⟨r',hf,K⟩=> ?_⟩
   have:=h.bw.one r r' b c K
   grind
  .exact⟨(h.bU b (.inr i)).1,λ⟨r',hf,K⟩=>h.bw.cq r' b K i⟩
 have ad:∀b,((∃r,j4 R k.H.length r=true/\b∈S r)\/b∈fl)->¬((∃r,b∈f r)\/b∈M):=λb h1 h2=>(ak b h1).2 (ag b h2 (ak b h1).1)
 have ab:∀b,b<w.heap.size->(¬∃r,R r=false/\b∈S r)->w'.heap[b]? =w.heap[b]? :=λb C hn=>g.fr.kept b C hn
 have ext:Ext (am A k.H.length ρ S fl w) (am A D.length d (s3 R k.H.length S f) (M++fl) w'):=by
  refine⟨λt b u=>⟨⟨λho=> ?_,u.2.1,yA u.2.2 bP⟩,ab b u.2.2 (λ⟨r,_,c⟩=>u.1 (.inl ⟨r,c⟩))⟩,by show k.H.length<=D.length;omega,G⟩
  obtain (⟨r,_,c⟩ |c) |c:=own b ho
  .exact u.1 (.inl ⟨r,c⟩)
  .exact u.1 (.inr c)
  .obtain⟨r,_,c⟩:=ag b c u.2.2;exact u.1 (.inl ⟨r,c⟩)
 -- what the callee left,for the caller
 have aa:∀t b,(sn=true->t=false)->(am (gW A sn R S fl w k.H.length ρ) F.length d f M w').pm t b->(am A D.length d (s3 R k.H.length S f) (M++fl) w').pm t b:=λt b E u=>by
  refine⟨λho=> ?_,λhF=>u.2.1 (.inl hF),u.2.2⟩
  have al:t=false\/sn=false:=by cases sn with |true=>exact .inl (E rfl) |false=>exact .inr rfl
  obtain (⟨r,hk,c⟩ |c) |c:=own b ho
  .exact u.2.1 (.inr ⟨al,.inl ⟨r,kR r b hk c,c⟩⟩)
  .exact u.2.1 (.inr ⟨al,.inr c⟩)
  .exact u.1 c
 have Z:sn=false->Ext (am (gW A sn R S fl w k.H.length ρ) F.length d f M w') (am A D.length d (s3 R k.H.length S f) (M++fl) w'):=λB=>
  ⟨λt b u=>⟨aa t b (λh=>by grind) u,rfl⟩,by show F.length<=D.length;omega,λ_ _=>rfl⟩
 have P!:Ext (am (gW A sn R S fl w k.H.length ρ) F.length d f M w').no (am A D.length d (s3 R k.H.length S f) (M++fl) w'):=
  ⟨λt b u=>⟨aa t b (λ_=>u.1) u.2,rfl⟩,by show F.length<=D.length;omega,λ_ _=>rfl⟩
 have tc:∀t cs Sx,(sn=true->t.cX=true)->TC (am (gW A sn R S fl w k.H.length ρ) F.length d f M w') t cs Sx->TC (am A D.length d (s3 R k.H.length S f) (M++fl) w') t cs Sx:=λt cs Sx O E=>by
  cases B:sn with
  |false=>subst B;exact TC.ext (Z rfl) _ _ _ (λ_ _=>rfl) E
  |true=>exact TC.ext P! _ _ _ (λ_ _=>rfl) (TC.no t cs Sx (O B) E)
 have vv:∀x v,(sn=true->x.cX=true)->VV (am (gW A sn R S fl w k.H.length ρ) F.length d f M w') x v->VV (am A D.length d (s3 R k.H.length S f) (M++fl) w') x v:=λx v O hv=>by
  cases B:sn with
  |false=>grind [VV.ext]
  |true=>exact⟨VC.ext P! _ _ (VC.no x _ (O B) hv.1),hv.2⟩
 have L:∀r,j4 R k.H.length r=true->∀b∈S r,w'.heap[b]? =w.heap[b]? :=λr hk b i=>by
  grind
 have ac:∀r,j4 R k.H.length r=true->({k with H:=D,tr:=af}:Wk).get r=k.get r:=λr hk=>by
  cases r with
  |l n j=>rfl
  |o n=>
   grind [j4,Wk.get,Go.Am.cont]
 have Y:∀r,j4 R k.H.length r=false->∃n,r=.o n/\¬(n<k.H.length/\R (.o n)=true)/\({k with H:=D,tr:=af}:Wk).get r=({ct:=[],H:=F}:Wk).get r:=λr hk=>by
  cases r with
  |l n j=>cases hk
  |o n=>
   grind [j4,Wk.get,Go.Am.cont]
 refine⟨λvals' hv=>⟨λr t E=> ?_,λr c hm=> ?_,λn=> ?_,λn ob U ah=> ?_,⟨λr=> ?_,?_,λr r' b i z=> ?_,λr b i z=> ?_⟩,λb i=> ?_,hv,?_,h.Fold,?_⟩,λrs vs O c=> ?_,ext,λr q hk=> ?_,G⟩
 .cases hk:j4 R k.H.length r with
  |true=>
   rw[ac r hk]at E
   have Q:s3 R k.H.length S f r=S r:=by simp[s3,hk]
   have e2:hd3 R k.H.length hd I r=hd r:=by simp[hd3,hk]
   rw[Q,e2];exact TC.ext ext _ _ _ (L r hk) (h.cont r t E)
  |false=>
   obtain⟨n,rfl,hn,e⟩:=Y r hk;rw[e]at E
   have Q:s3 R k.H.length S f (.o n)=f (.o n):=by simp[s3,hk]
   have e2:hd3 R k.H.length hd I (.o n)=I (.o n):=by simp[hd3,hk]
   rw[Q,e2];refine tc _ _ _ (λB=> ?_) (g.cont _ t E)
   simp only[Wk.get,Go.Am.cont]at E
   split at E
   .grind [I7,T.cX,T.aY]
   .cases E
 .cases hk:j4 R k.H.length r with
  |true=>
   rw[ac r hk]at c
   have Q:s3 R k.H.length S f r=S r:=by simp[s3,hk]
   rw[Q];refine h.gone r c (λn ob e U=>hm n ob e ?_)
   grind [j4]
  |false=>
   obtain⟨n,rfl,hn,e⟩:=Y r hk;rw[e]at c
   have Q:s3 R k.H.length S f (.o n)=f (.o n):=by simp[s3,hk]
   rw[Q];refine g.gone _ c (λm ob e U=>hm m ob e ?_)
   grind
 .unfold hd3
  split
  .rename_i hk
   simp only[j4,xA,yD]at hk
   rw[h.obj,G n hk.1]
  .exact g.obj n
 .cases hk:j4 R k.H.length (.o n)with
  |true=>
   have P:=hk;simp only[j4,xA,yD]at P
   simp only at U;rw[h31 n P.1 P.2]at U
   exact(h.map n ob U ah).ext ext (L _ hk) (by simp[s3,hk]) (G n P.1)
  |false=>
   have hn:¬(n<k.H.length/\R (.o n)=true):=λ⟨V,X⟩=>by grind
   simp only at U;rw[h32 n hn]at U
   have Q:s3 R k.H.length S f (.o n)=f (.o n):=by simp[s3,hk]
   obtain⟨N,m1,m2⟩:=g.map n ob U ah
   refine⟨N,Q.trans m1,?_⟩
   cases ob with
   |map es=>
    obtain⟨en,cl,V,X,q3⟩:=m2
    have O:∀a∈es,sn=true->a.1.cX=true/\a.2.cX=true:=λa W B=>by
     grind [I7]
    refine⟨en,cl,V,X.imp (λa W b q=>vv _ _ (λB=>(O a W B).1) q),RetAll.imp _ _ _ (λt E cs M' _ h3=> ?_) q3⟩
    grind
   |iter s p=>exact m2
   |bY m=>
    obtain⟨V,X,q3⟩:=m2
    exact⟨V,λo e=>by have:=X o e;show o<D.length;rw[ai];exact this,q3⟩
   |frame g' ps x y an ct=>
    obtain⟨r,V,X,q3,q4,q5,q6,q7⟩:=m2
    have O:sn=true->(∀p∈an,p.2.cX=true)/\∀p∈ct,p.2.cX=true:=λB=>by
     grind [I7]
    refine⟨r,V,X,q3,q4,q5,q6,q7.1.imp (λ_ _=>rfl) (λp u x v e q=>vv _ _ (λB=> ?_) q) (λp u cs M' _ q=>tc _ _ _ (λB=>(O B).2 p u) q),q7.2⟩
    have:=(O B).1 p u
    rw[e]at this
    exact this
   |sset ks=>
    obtain⟨es,en,cl,V,X,q3,q4⟩:=m2
    refine⟨es,en,cl,V,X.imp (λa W b q=>vv _ _ (λB=> ?_) q),RetAll.imp _ _ _ (λt E cs M' _ h3=> ?_) q3,q4⟩
    .obtain⟨s,_,rfl⟩:=q4.1 a W
     rfl
    .obtain⟨a,W,rfl⟩:=List.mem_map.1 E
     obtain⟨s,_,rfl⟩:=q4.1 a W;exact tc _ _ _ (λB=>rfl) h3
   |_=>trivial
 .unfold s3;split
  .exact h.bw.nd r
  .exact g.bw.nd r
 .rw[xT]
  exact⟨g.bw.ndF,h.bw.ndF,λa W b i ao=>ad b (.inr i) (.inr (ao▸W))⟩
 .unfold s3 at i z
  split at i <;>split at z
  .exact h.bw.one r r' b i z
  .grind
  .grind
  .exact g.bw.one r r' b i z
 .unfold s3 at i
  split at i
  .rename_i hk
   obtain q |q:=List.mem_append.1 z
   .grind
   .exact h.bw.cq r b i q
  .obtain q |q:=List.mem_append.1 z
   .exact g.bw.cq r b i q
   grind
 .have hA:=h.fr.size
  obtain (⟨r,_,c⟩ |c) |c:=own b i
  .have:=h.bU b (.inl ⟨r,c⟩);grind
  .have:=h.bU b (.inr c);grind
  .have z:=g.bU b c
   refine⟨z.1,λt hF=>z.2.1 t (.inl hF),λC=> ?_⟩
   obtain⟨r,_,K⟩:=ag b c (by omega)
   exact(h.bU b (.inl ⟨r,K⟩)).2.2 C
 .have hA:=h.fr.size
  refine⟨g.fr.os.trans h.fr.os,g.fr.tape.trans h.fr.tape,g.fr.output.trans h.fr.output,by omega,λb C hO=> ?_,h.fr.recs.trans g.fr.recs⟩
  rw[ab b (by omega) (λ⟨r,_,c⟩=>hO ((h.bU b (.inl ⟨r,c⟩)).2.2 C))]
  exact h.fr.kept b C hO
 .have:=h.cP
  refine⟨?_,λo ho=> ?_⟩
  .grind
  grind
 .cases B:sn with
  |false=>subst B;exact RetAll.ext (Z rfl) _ _ _ (λ_ _=>rfl) c
  |true=>exact RetAll.ext P! _ _ _ (λ_ _=>rfl) (RetAll.no rs vs M (O B) c)
 .intro t es h1 h2
  refine⟨t,es,by grind,h2,bg.refl _,λh' hn=> ?_⟩
  have e2:hd3 R k.H.length hd I r=hd r:=by simp[hd3,hk]
  rw[e2];exact aI.ext q t _ h' _ (h.cont r t h1) (L r hk) hn
theorem Pp(h:KR A ρ S hd fl k ay w)(sn:Bool)(lk:J Nat):
  KR (gW A sn (λ_=>true) S fl w 0 ρ) ρ (λ_=>[]) hd [] {ct:=[],H:=[]} [] w/\
   ∀t g,(cxS sn lk A k.H.length ρ S fl w).pm t g->(am (gW A sn (λ_=>true) S fl w 0 ρ) 0 ρ (λ_=>[]) [] w).pm t g/\w.heap[g]? =w.heap[g]? :=by
 have a:∀b,¬bT (λ_:aj=>([]:J Nat)) [] b:=λb d=>by
  obtain⟨r,j⟩ |d:=d
  .simp at j
  grind
 have m:∀r,({ct:=[],H:=[]}:Wk).get r=none:=λr=>by cases r <;>rfl
 refine⟨⟨λr t v=>(by grind),λr _ _=>rfl,h.obj,λn x q=>(by simp at q),⟨λr=>(by simp),(by simp),λr p b d=>(by simp at d),λr b d=>(by simp at d)⟩,λb d=>absurd d (a b),(by simp),⟨rfl,rfl,rfl,dC _,λ_ _ _=>rfl,.refl _⟩,λt b c=> ?_,⟨dC _,λo s=>by simp[gW]at s⟩⟩,λt g l=>⟨⟨a g,λc=> ?_,?_⟩,rfl⟩⟩
 .have u:=h.fr.size
  obtain c |⟨_,⟨p,_,e⟩ |e⟩:=c
  .exact yA (h.Fold t b c) u
  .exact(h.bU b (.inl ⟨p,e⟩)).1
  .exact(h.bU b (.inr e)).1
 .obtain⟨f,i,q3⟩ |⟨f,i,q3,q4,q5⟩:=l
  .obtain c |⟨_,⟨r,_,j⟩ |j⟩:=c
   .exact i c
   .exact f (.inl ⟨r,j⟩)
   .exact f (.inr j)
  .subst f;subst i
   obtain c |⟨c |c,_⟩:=c
   .exact q3 c
   .cases c
   .cases c
 .obtain⟨f,i,q3⟩ |⟨f,i,q3,q4,q5⟩:=l
  .exact q3
  .exact q4
theorem Pq(h:KR A ρ S hd fl k ay w){sn:Bool}{y:J Ob}{j:Nat->Nat}{x:aj->J Nat}{D:aj->Vz}{M:J Nat}{w':Wz}
  (g:KR (gW A sn (λ_=>true) S fl w 0 ρ) j x D M {ct:=[],H:=y} [] w') (h0:y.length=0):
  KR A ρ S hd (M++fl) k ay w'/\∀rs vs,(sn=true->T.aY rs=true)->RetAll (am (gW A sn (λ_=>true) S fl w 0 ρ) y.length j x M w') rs vs M->RetAll (am A k.H.length ρ S (M++fl) w') rs vs M:=by
 have O:w.heap.size<=w'.heap.size:=g.fr.size;have z:y=[]:=List.length_eq_zero_iff.1 h0;subst z
 have s:∀b,b∈M->w.heap.size<=b:=λb d=>by
  obtain q |q:=gk b w.heap.size
  .obtain⟨r,f,_⟩:=(g.bU b (.inr d)).2.2 q;cases f
  .exact q
 have m:∀b,b<w.heap.size->w'.heap[b]? =w.heap[b]? :=λb B=>g.fr.kept b B (λ⟨r,f,_⟩=>by cases f)
 have own:∀b,bT S (M++fl) b->bT S fl b\/b∈M:=λb d=>by
  obtain d |d:=d
  .exact .inl (.inl d)
  .obtain d |d:=List.mem_append.1 d
   .exact .inr d
   .exact .inl (.inr d)
 have G:WS S fl w S (M++fl) w':=by
  refine⟨g.fr.os,g.fr.tape,g.fr.output,O,λb d _=>m b d,λb d=> ?_,g.fr.recs⟩
  obtain q |q:=own b d
  .exact .inl q
  .exact .inr ⟨s b q,(g.bU b (.inr q)).1⟩
 have ext:Ext (am A k.H.length ρ S fl w) (am A k.H.length ρ S (M++fl) w'):=G.ext (dC _) (λ_ _=>rfl)
 have i:∀r,∀b∈S r,w'.heap[b]? =w.heap[b]? :=λr b d=>m b (h.bU b (.inl ⟨r,d⟩)).1
 refine⟨⟨λr t F=>TC.ext ext _ _ _ (i r) (h.cont r t F),h.gone,h.obj,λn Q L E=> ?_,⟨h.bw.nd,?_,h.bw.one,λr b d C=> ?_⟩,G.bU h,λp e=> ?_,G.frm h,h.Fold,h.cP⟩,λrs vs R f=> ?_⟩
 .exact(h.map n Q L E).ext ext (i (.o n)) rfl rfl
 .rw[xT]
  exact⟨g.bw.ndF,h.bw.ndF,λa N b d K=>by have:=s a N;have:=(h.bU b (.inr d)).1;omega⟩
 .obtain q |q:=List.mem_append.1 C
  .have:=s b q;have:=(h.bU b (.inl ⟨r,d⟩)).1;omega
  .exact h.bw.cq r b d q
 .exact SO.aV ext (λr q=>h.hold _ rfl rfl (i r) q) (h.ay p e)
 .have l:∀t b,(sn=true->t=false)->(am (gW A sn (λ_=>true) S fl w 0 ρ) 0 j x M w').pm t b->(am A k.H.length ρ S (M++fl) w').pm t b:=λt b F e=>by
   refine⟨λu=> ?_,λP=>e.2.1 (.inl P),e.2.2⟩
   have v:t=false\/sn=false:=by cases sn with |true=>exact .inl (F rfl) |false=>exact .inr rfl
   obtain (⟨r,f⟩ |f) |f:=own b u
   .exact e.2.1 (.inr ⟨v,.inl ⟨r,rfl,f⟩⟩)
   .exact e.2.1 (.inr ⟨v,.inr f⟩)
   .exact e.1 (.inr f)
  cases I:sn with
  |false=>
   subst I;exact RetAll.ext (c:=am (gW A false (λ_=>true) S fl w 0 ρ) 0 j x M w') ⟨λt b e=>⟨l t b (λh=>by cases h) e,rfl⟩,eJ _,λo u=>absurd u (Nat.not_lt_zero _)⟩ _ _ _ (λ_ _=>rfl) f
  |true=>
   subst I;exact RetAll.ext (c:=(am (gW A true (λ_=>true) S fl w 0 ρ) 0 j x M w').no) ⟨λt b e=>⟨l t b (λ_=>e.1) e.2,rfl⟩,eJ _,λo u=>absurd u (Nat.not_lt_zero _)⟩ _ _ _ (λ_ _=>rfl) (RetAll.no rs vs M (R rfl) f)
end
theorem rM:∀(lk:J Nat) (H:J Ob),(fQ lk H).length=H.length
 | [],H=>rfl
 |n::lk,H=>by
  show(fQ lk (H.set n .lock)).length=_
  rw[rM lk];simp
theorem rN:∀(lk:J Nat) (H:J Ob) (n:Nat),n∉lk->(fQ lk H)[n]? =H[n]?
 | [],H,n,_=>rfl
 |m::lk,H,n,h=>by
  show(fQ lk (H.set m .lock))[n]? =_
  have:=rN lk;grind
theorem xb:∀(lk:J Nat) (H:J Ob) (n:Nat),H[n]? =some .lock->(fQ lk H)[n]? =some .lock
 | [],H,n,h=>h
 |m::lk,H,n,h=>by
  have:=xb lk;grind [fQ,yK]
theorem C9:∀(lk:J Nat) (H:J Ob) (n:Nat) (ob:Ob),n∈lk->(fQ lk H)[n]? =some ob->ob=.lock
 |m::lk,H,n,ob,h,b=>by
  have a:n<H.length:=by
   have:=(List.getElem?_eq_some_iff.1 b).1
   rwa [rM]at this
  by_cases c:m=n
  .subst c
   have d:(fQ lk (H.set m .lock))[m]? =some .lock:=xb lk _ m (yK a)
   grind [fQ]
  .have:n∈lk:=by
    obtain h |h:=List.mem_cons.1 h
    .grind
    .exact h
   exact C9 lk (H.set m .lock) n ob this b
theorem GL(a:J Ob):∀(lk:J Nat) (H:J Ob),(jQ a lk H).length=H.length
 | [],H=>rfl
 |n::lk,H=>by
  show(jQ a lk (match a[n]? with |some x=>H.set n x |none=>H)).length=_
  have:=GL a lk;grind
theorem zf(a:J Ob):∀(lk:J Nat) (H:J Ob) (n:Nat),¬(n<a.length/\n∈lk)->(jQ a lk H)[n]? =H[n]?
 | [],H,n,_=>rfl
 |m::lk,H,n,h=>by
  show(jQ a lk (match a[m]? with |some x=>H.set m x |none=>H))[n]? =_
  rw[zf a lk _ n (λ⟨b,c⟩=>h ⟨b,by simp[c]⟩)]
  split
  .grind
  .rfl
theorem Da(a:J Ob):∀(lk:J Nat) (H:J Ob) (n:Nat),n<a.length->H[n]? =a[n]? ->(jQ a lk H)[n]? =a[n]?
 | [],H,n,_,h=>h
 |m::lk,H,n,b,h=>by
  show(jQ a lk (match a[m]? with |some x=>H.set m x |none=>H))[n]? =_
  refine Da a lk _ n b ?_;split
  .grind
  .exact h
theorem I8(a:J Ob):∀(lk:J Nat) (H:J Ob) (n:Nat),n<a.length->n<H.length->n∈lk->(jQ a lk H)[n]? =a[n]?
 |m::lk,H,n,b,c,h=>by
  have:=I8 a lk;grind [jQ,Da,yK]
theorem Db:∀(H d:J Ob) (n:Nat) (c:T),ej H d=true->H[n]? =some (.box c)->∃c',d[n]? =some (.box c')/\c'.nc=c.nc
 | [],_,n,c,_,h=>by simp at h
 |a::r,d,n,c,e,h=>by
  cases d with
  |nil=>grind [ej]
  |cons b g=>
   cases n with
   |zero=>
    simp only[yE,xJ]at h
    subst h
    cases b with
    |box c'=>grind [ej]
    |_=>simp[ej]at e
   |succ n=>
    have f:ej r g=true:=by cases a <;>cases b <;>simp[ej]at e <;>first |exact e |exact e.2
    have:=Db r g n c f;grind
theorem GM:∀(H:J Ob) (n:Nat) (ob:Ob),gg H=true->H[n]? =some ob->I7 ob=true
 | [],n,ob,_,h=>by simp at h
 |a::r,n,ob,b,h=>by
  cases n with
  |zero=>
   simp only[yE,xJ]at h
   subst h
   cases a with
   |box c=>simp only[gg,xA]at b;exact b.1
   |map d=>simp only[gg,xA]at b;exact b.1
   |iter s p=>rfl
   |bY m=>rfl
   |frame g f x y e i=>grind [gg,I7]
   |lock=>rfl
   |row d=>simp only[gg,xA]at b;exact b.1
   |sset j=>rfl
  |succ n=>
   have:gg r=true:=by
    cases a with
    |box c=>grind [gg]
    |map d=>grind [gg]
    |iter s p=>exact b
    |bY m=>exact b
    |frame g f x y e i=>grind [gg]
    |lock=>exact b
    |row d=>grind [gg]
    |sset j=>exact b
   have:=GM r n ob this;grind
section
variable{P:Pz}{A:Av}{ρ:Nat->Nat}{S:aj->J Nat}{hd:aj->Vz}{fl:J Nat}{k k':Wk}{ay:J (SV×Vz)}{w:Wz}
theorem Tn(h:KR A ρ S hd fl k ay w){o:Nat}{c:T}(f:k.H[o]? =some (.box c)):
  ∃b S1,S (.o o)=ρ o::S1/\(∀(j:Nat) (u:Vz),b[j]? =some u->w.cell? ((⟨ρ o,0,none⟩:Addr).add j)=some u)/\TC (am A k.H.length ρ S fl w) c b S1:=by
 have i:k.get (.o o)=some (.own [c]):=by simp only[Wk.get,Go.Am.cont,f]
 obtain⟨a,_,k2,_⟩ |⟨g,l,d,e,v,p,k1,k2,r,s,q,m,n,t⟩:=h.cont _ _ i
 .cases k2
 .rw[h.obj]at k1
  grind [TE,fq,World.cell?,am]
theorem V7{H:J Ob}:∀(n:Nat) (x y:D) (v:Vz),roD H n x=some y->wU x v->wU y v
 |0,_,_,_,e,_=>by cases e
 |n+1,x,y,v,e,a=>by
  cases x with
  |ptr o=>
   simp only[roD]at e
   split at e
   .simp only[xB,xM]at e
    obtain⟨_,_,_,_,rfl⟩:=e;exact a
   .cases e
  |agg l=>
   simp only[roD,xM]at e
   obtain⟨_,_,rfl⟩:=e;exact a
  |_=>grind [roD]
theorem V8{c:Cx}{x:D}{cs:J Vz}(h:VC c x cs):aR c x.cells cs:=by
 cases x with
 |agg l=>exact h
 |_=>
  have a:=VC.len _ _ h
  match cs,a with
  | [u],_=>exact⟨u,[],rfl,h,rfl⟩
theorem V9(h:KR A ρ S hd fl k ay w){lk:J Nat}(p:∀n,n<k.H.length->n∈lk):∀(n:Nat) (x y:D) (cs:J Vz),roD k.H n x=some y->VC (cxS true lk A k.H.length ρ S fl w) x cs->VC (cxS true lk A k.H.length ρ S fl w) y cs
 |0,_,_,_,e,_=>by cases e
 |n+1,x,y,cs,e,s=>by
  have i:∀(l t:J D) (cs:J Vz),BY (roD k.H n) l=some t->aR (cxS true lk A k.H.length ρ S fl w) l cs->aR (cxS true lk A k.H.length ρ S fl w) t cs:=by
   intro l
   induction l with
   |nil=>grind [BY]
   |cons a l H=>
    have:=V9 h p n a;grind [BY,xB,xM,aR]
  cases x with
  |ptr o=>
   simp only[roD]at e
   split at e
   .rename_i c B
    simp only[xB,xM]at e
    obtain⟨d,F,r,C,rfl⟩:=e;simp only[VC]at s
    obtain⟨G,rfl⟩:=s;obtain⟨j,S1,v,f,E⟩:=Tn h B
    have b:∀g∈S (.o o),(cxS true lk A k.H.length ρ S fl w).pm true g:=λg m=>by
     have u:=h.bU g (.inl ⟨.o o,m⟩);refine .inr ⟨rfl,rfl,u.2.1 _,u.1,λn z=> ?_⟩
     have:=h.bw.one _ _ g m z
     grind
    have q:=T.frz_ok (c':=cxS true lk A k.H.length ρ S fl w) (rL _ _ _) true c d j S1 F (λg m=>⟨b g (by rw[v];simp[m]),rfl⟩) E
    simp only[VC]
    exact⟨⟨ρ o,0,none⟩,j,rfl,rfl,b _ (by rw[v];simp),f,i _ _ _ C (V8 q)⟩
   .cases e
  |agg l=>
   grind [roD,xM,VC]
  |_=>grind [roD]
theorem Wa(h:KR A ρ S hd fl k ay w){lk:J Nat}(f:∀n,n<k.H.length->n∈lk){n:Nat}:∀(l c:J D) (vs:J Vz),BY (roD k.H n) l=some c->bf (cxS true lk A k.H.length ρ S fl w) l vs->bf (cxS true lk A k.H.length ρ S fl w) c vs
 | [],c,vs,e,d=>by grind [BY]
 |a::l,c,vs,e,d=>by
  simp only[BY,xB,xM]at e
  obtain⟨b,j,r,g,rfl⟩:=e;simp only[bf]at d |-
  obtain⟨v,q,rfl,i,h3,h4⟩:=d
  have:=Wa h f l r q g h4;grind [V9,V7]
theorem GA.call{G:Nat->U D}(hG:GA G A)(h:KR A ρ S hd fl k ay w)(sn:Bool)(R:aj->Bool)(n:Nat):GA G (gW A sn R S fl w n ρ):=λg d e=>by
 obtain⟨b,f,q3⟩:=hG.now h e;obtain⟨_,_,h3,i,h4,h5⟩:=hG g d e
 refine⟨f,λ⟨r,_,a⟩=>b (.inl ⟨r,a⟩),λt c=> ?_,i,h4.same q3,h5⟩
 .obtain c |⟨_,⟨r,_,a⟩ |a⟩:=c
  .exact h3 t c
  .exact b (.inl ⟨r,a⟩)
  .exact b (.inr a)
theorem ww{C:CallT}(hC:C.mono){G:Nat->U D}(hG:GA G A){call:dH}(hc:Eo C G call){hint:Hint}{dst:Nat}{f:FuncId}{ds:J D}{b:bn}{args:Array Vz}{sv:SV}(h:KR A ρ S hd fl k ay w)(a:bf (cxS b.sn b.lk A k.H.length ρ S fl w) ds args.toList)(e:fm call hint dst f ds b k=some (sv,k')):
  C ρ f args w λe w'=>∃v,Ends sv.bO e v/\∃m N hd',KR A m N hd' fl k' ay w'/\SO (am A k'.H.length m N fl w') k'.get hd' sv v:=by
 unfold fm at e
 split at e
 .rename_i s
  simp only[xA]at s
  simp only[xB]at e
  obtain⟨⟨H,y⟩,X,e⟩:=e;simp only at e
  split at e
  .rename_i W
   obtain⟨ab,x⟩:=W;have O:=hc f ds _ H y X;obtain⟨I,q2⟩:=Pp h b.sn b.lk;refine hC _ _ _ _ _ _ (O (gW A b.sn (λ_=>true) S fl w 0 ρ) _ hd args rfl (hG.call h _ _ _) I (bf.cM (c':=am (gW A b.sn (λ_=>true) S fl w 0 ρ) 0 ρ (λ_=>[]) [] w) q2 _ _ s.2 a)) λen w' F=> ?_
   obtain⟨v,aa,m,S2,z,M,vs,E,P,rfl⟩:=F;obtain⟨kr,af⟩:=Pq h (sn:=b.sn) E ab
   grind [Ra,M3]
  .cases e
 split at e
 .cases e
 .simp only[xB]at e
  obtain⟨⟨H,y⟩,X,e⟩:=e;simp only at e
  split at e
  .rename_i W
   obtain⟨x,B⟩:=W;have O:=hc f ds _ H y X;have u:=rM b.lk k.H
   let R:aj->Bool:=λr=>match r with | .l _ _=>true | .o n=>b.lk.contains n
   have ah:∀n,R (.o n)=b.lk.contains n:=λn=>rfl
   obtain⟨I,q2⟩:=Tl h b.sn b.lk R (fQ b.lk k.H) (λ_ _=>rfl) (λn d=>by grind) u (λn d Y=>C9 b.lk _ n Y (by grind)) (λn d=>rN b.lk _ n (by grind))
   refine hC _ _ _ _ _ _ (O (gW A b.sn R S fl w (fQ b.lk k.H).length ρ) _ hd args rfl (hG.call h _ _ _) I (bf.ext q2 _ _ a)) λen w' F=> ?_
   obtain⟨v,aa,m,S2,z,M,vs,E,P,rfl⟩:=F;rw[u]at E P
   have ac:k.H.length<=y.length:=E.cP.1
   have L:=Tm h (sn:=b.sn) (R:=R) (λ_ _=>rfl) E (jQ k.H b.lk y) (k.tr++[.bN]) (GL _ _ _) (λn d hr=>I8 _ _ _ n d (by omega) (by grind)) (λn d=>zf _ _ _ n (λ⟨p1,p2⟩=>d ⟨p1,by grind⟩))
    (λZ n Y _ F=>GM y n Y (x Z).2 F)
   have kr:=L.kr ay (λp hp=>by
    rw[rH];refine SO.bN L.ext (λr q hq=> ?_) (h.ay p hp)
    cases hk:j4 R k.H.length r with
    |true=>exact L.hold r q hk
    |false=>
     cases r with
     |l n j=>cases hk
     |o n=>
      have Q:=hq n rfl;subst Q;intro t es h1 h2;have g:=h1;simp only[Wk.get,Go.Am.cont]at g
      split at g
      .rename_i c V
       simp only[xJ]at g
       subst g;simp only[T.at,xJ,T.own.injEq]at h2
       subst h2;have K:n<k.H.length:=(List.getElem?_eq_some_iff.1 V).1;have ag:n∉b.lk:=λad=>by grind [j4]
       obtain⟨c',d1,d2⟩:=Db _ y n c B (by grind [rN])
       refine⟨.own [c'],[c'],?_,rfl,⟨rfl,λi e he=> ?_⟩,λh' d=> ?_⟩
       .grind [Wk.get,Go.Am.cont,zf]
       .grind
       .simp only[aI]at d |-
        rw[d];have e2:hd3 R k.H.length hd z (.o n)=z (.o n):=by simp[hd3,hk]
        rw[e2,h.obj,E.obj,L.cP n K]
      grind)
   obtain⟨N,hd',r1,r2,_⟩:=Ra kr (L.ret H vs (λZ=>(x Z).1) P) e
   grind [M3]
  .cases e
theorem Tp{G:Nat->U D}{call:dH}(hc:gK P G call){hint:Hint}{dst:Nat}{f:FuncId}{ds:J D}{b:bn}{r:SV×Wk}(e:gC call hint dst f ds b k=some r):GK P f:=by
 have c:∀(ds:J D) (b:bn),fm call hint dst f ds b k=some r->GK P f:=λds b e=>by
  unfold fm at e
  split at e
  .simp only[xB]at e
   obtain⟨x,a,_⟩:=e;exact hc.1 _ _ _ _ a
  .split at e
   .cases e
   .simp only[xB]at e
    obtain⟨x,a,_⟩:=e;exact hc.1 _ _ _ _ a
 unfold gC at e
 split at e
 .grind [xB]
 grind
theorem M4{C:CallT}(m:C.mono){G:Nat->U D}(hG:GA G A){call:dH}(hc:Eo C G call){hint:Hint}{dst:Nat}{f:FuncId}{ds:J D}{b:bn}{args:Array Vz}{sv:SV}(h:KR A ρ S hd fl k ay w)(a:bf (cxS b.sn b.lk A k.H.length ρ S fl w) ds args.toList)(e:gC call hint dst f ds b k=some (sv,k')):
  C ρ f args w λe w'=>∃v,Ends sv.bO e v/\∃d l hd',KR A d l hd' fl k' ay w'/\SO (am A k'.H.length d l fl w') k'.get hd' sv v:=by
 unfold gC at e
 split at e
 .simp only[xB]at e
  obtain⟨i,p,e⟩:=e;have j:Ext (cxS b.sn b.lk A k.H.length ρ S fl w) (cxS true (List.range k.H.length++b.lk) A k.H.length ρ S fl w):=GG (b:=b) (b':={sn:=true,lk:=List.range k.H.length++b.lk}) (λ_=>rfl) (λn c=>xR _ c) (λ_ _ g=>g)
  have o:=Wa h (lk:=List.range k.H.length++b.lk) (λn c=>xL _ (List.mem_range.2 c)) ds i _ p (bf.ext j _ _ a)
  exact ww m hG hc h (b:={sn:=true,lk:=List.range k.H.length++b.lk}) (bf.bZ (J6 _ _ _) _ _ o) e
 .split at e
  .have j:Ext (cxS b.sn b.lk A k.H.length ρ S fl w) (cxS b.sn (b.lk++y7 k.H) A k.H.length ρ S fl w):=GG (b:=b) (b':={sn:=b.sn,lk:=b.lk++y7 k.H}) (λg=>g) (λn c=>xL _ c) (λ_ _ g=>g)
   exact ww m hG hc h (b:={sn:=b.sn,lk:=b.lk++y7 k.H}) (bf.ext j _ _ a) e
  grind [ww]
end
mutual
theorem TC.cM{c c':Cx}(h:∀b g,c.pm b g->c'.pm b g/\c'.w.heap[g]? =c.w.heap[g]?):∀(t:T) (cs:List Value) (S:List Nat),Kept c c' S->t.low 0=true->TC c t cs S->TC c' t cs S
 | .d x,cs,S,_,f,a=>by
  grind [TC,T.low,VC.cM]
 | .dead,cs,S,_,_,a=>by grind [TC]
 | .agg d,cs,S,hk,f,a=>by
  have:=a9.cM h d cs S hk f a;grind [TC]
 | .own p,cs,S,hk,f,a=>by
  simp only[TC]at a |-
  simp only[T.low]at f
  obtain a |⟨g,m,l,e,i,o,k,j,h3,h4,h5,h6,h7,h8⟩:=a
  .exact .inl a
  .subst j
   exact .inr ⟨g,m,l,e,i,o,k,rfl,by rw[hk g (by simp)];exact h3,h4,h5,h6,h7,TE.cM h p i _ o (λx u=>hk x (by simp[u])) f h8⟩
theorem a9.cM{c c':Cx}(h:∀b g,c.pm b g->c'.pm b g/\c'.w.heap[g]? =c.w.heap[g]?):∀(d:List T) (cs:List Value) (S:List Nat),Kept c c' S->T.aQ 0 d=true->a9 c d cs S->a9 c' d cs S
 | [],_,_,_,_,a=>by grind [a9]
 |t::d,cs,S,hk,f,a=>by
  simp only[a9]at a |-
  simp only[T.aQ,xA]at f
  obtain⟨v,r,S1,n,k,j,h3,h4⟩:=a;subst j
  exact⟨v,r,S1,n,k,rfl,TC.cM h t _ _ hk.left f.1 h3,a9.cM h d _ _ hk.right f.2 h4⟩
theorem TE.cM{c c':Cx}(h:∀b g,c.pm b g->c'.pm b g/\c'.w.heap[g]? =c.w.heap[g]?):∀(d:List T) (i:Nat) (cs:List Value) (S:List Nat),Kept c c' S->T.aQ 0 d=true->TE c d i cs S->TE c' d i cs S
 | [],_,_,_,_,_,a=>by grind [TE]
 |t::d,i,cs,S,hk,f,a=>by
  simp only[TE]at a |-
  simp only[T.aQ,xA]at f
  obtain⟨s,q,S1,n,k,j,h3,h4,h5⟩:=a;subst j
  exact⟨s,q,S1,n,k,rfl,h3,TC.cM h t _ _ hk.left f.1 h4,TE.cM h d i _ _ hk.right f.2 h5⟩
end
def ajn(A:Av)(S:aj->J Nat)(fl X:J Nat)(w:Wz)(ρ:Nat->Nat):Av:=
 {w0:=w,F:=λt b=>A.F t b\/(bT S fl b/\b∉X),O0:=λb=>b∈X,n0:=0,ρ0:=ρ,mono:=λb h=>h.imp (A.mono b) id}
def axZ(X:J Nat):aj->J Nat:=λr=>if r=.l 0 0 then X else []
def awj(hd:aj->Vz)(v:Vz):aj->Vz:=λr=>if r=.l 0 0 then v else hd r
section
variable{P:Pz}{A:Av}{ρ:Nat->Nat}{S:aj->J Nat}{hd:aj->Vz}{fl X:J Nat}{k k':Wk}{ay:J (SV×Vz)}{w:Wz}
theorem GA.row{G:Nat->U D}(hG:GA G A)(h:KR A ρ S hd (X++fl) k ay w):GA G (ajn A S (X++fl) X w ρ):=λg d e=>by
 obtain⟨c,b,q3⟩:=hG.now h e;obtain⟨_,_,h3,i,h4,h5⟩:=hG g d e
 refine⟨b,λf=>c (.inr (by simp[show g∈X from f])),λt a=> ?_,i,h4.same q3,h5⟩
 obtain a |a:=a
 .exact h3 t a
 grind
theorem aeA{G:Nat->U D}(hG:GA G A){call:dH}(hc:acm P G call){hint:Hint}{dst:Nat}{g:FuncId}(d:¬YB<=g){xs:J SV}{args:J Vz}{sv:SV}(h:KR A ρ S hd fl k ay w)(c:All2 (λu v=>(u,v)∈ay) xs args)(e:mvE P call hint dst g xs k=some (sv,k')):
  Calls P g args.toArray w λe w'=>∃v,Ends sv.bO e v/\∃a b hd',KR A a b hd' fl k' ay w'/\SO (am A k'.H.length a b fl w') k'.get hd' sv v:=by simp[mvE]at e
end
theorem C?{P:Pz}{g:FuncId}{nm:String}{c:Cx}{ds:J D}{vs:J Vz}{d:D}{w:Wz}(hf:AE P g=some nm)(hv:bf c ds vs)(e:S5 nm ds=some d):∃v,(callFunc g vs.toArray).run P w=.ok (.value v) w/\VV c d v:=by simp[S5]at e
theorem bf.append{c:Cx}:∀(l:J D) (vs:J Vz) (b:J D) (a:J Vz),bf c l vs->bf c b a->bf c (l++b) (vs++a)
 | [],_,_,_,e,f=>by grind [bf]
 |d::g,vs,b,a,e,f=>by
  simp only[bf]at e
  obtain⟨v,r,rfl,h,h3,h4⟩:=e
  have:=bf.append g r b a h4 f;grind [bf]
section
variable{P:Pz}{A:Av}{ρ:Nat->Nat}{S:aj->J Nat}{hd:aj->Vz}{fl:J Nat}{k k':Wk}{ay:J (SV×Vz)}{w:Wz}
theorem jh{f:FuncId}{fn:Func}{args:Array Vz}(hf:P.funcs[f]? =some fn)(hb:fn.body.isSome=true)(hn:(fn.name== "runtime.NumGoroutine")=false):(callFunc f args).run P w=.ok (.enter f args) w:=by
 obtain⟨c,hb⟩:=Option.isSome_iff_exists.1 hb;simp only[callFunc,Sem.run_bind,run_program,Result.andThen_ok,hf,hn,xH,if_false,hb]
 simp
def FW(ro:U Nat):Fence:={Fence.wide with round:=ro}
theorem kz{ro:U Nat}{n:Nat}{f:FuncId}{args:Array Vz}{w:Wz}{R:Ending->Wz->Prop}:CallsIn (FW ro) n P f args w R↔Calls P f args w R:=callsIn_wide (n:=n)
theorem Pr{ro:U Nat}{n l:Nat}{f:FuncId}{tmps:Array Vz}{x y:Code}{w:Wz}{R:Ending->Wz->Prop}(h:RoundIn Fence.wide 0 P l f tmps x y w R):RoundIn (FW ro) n P l f tmps x y w R:=
 ⟨trivial,λc a _=>h.2 c a (room_wide _)⟩
theorem Dc:CallT.mono (ck P):=λ_ _ _ _ _ _ h a=>h.mono a
theorem VV.flat{c c':Cx}{d:D}{v:Vz}(hf:d.flat=true)(h:VV c d v):VV c' d v:=⟨VC.flat _ _ hf h.1,h.2⟩
theorem M5{G:Nat->U D}(hG:GA G A){call:dH}(hc:gK P G call)(h:KR A ρ S hd fl k ay w){hint:Hint}{nv dst:Nat}{xs:J SV}{o av bv:J Vz}{g:FuncId}{first cap ds:J D}{b:bn}{k1:Wk}{sv:SV}
  (d:All2 (λu v=>(u,v)∈ay) xs o) (ha:bf (am A k.H.length ρ S fl w) first av) (hb:bf (am A k.H.length ρ S fl w) cap bv) (s:¬YB<=g) (e1:gV nv xs k {}=some (ds,k1,b)) (l:gC call hint dst g (canon b.sn (first++ds++cap)) b k1=some (sv,k')):
  (∀vs:Array Vz,(callFunc g vs).run P w=.ok (.enter g vs) w)/\∀vs:Array Vz,vs.toList=av++o++bv->Calls P g vs w λe w'=>∃v,Ends sv.bO e v/\∃c j hd',KR A c j hd' fl k' ay w'/\SO (am A k'.H.length c j fl w') k'.get hd' sv v:=by
 obtain⟨S1,m,y⟩:=GI _ _ ds k k1 S {} b h d e1
 have n:Ext (am A k.H.length ρ S fl w) (cxS b.sn b.lk A k1.H.length ρ S1 fl w):=by
  have q:=m.ext;have p:=rL (A:=A) (ρ:=ρ) (S:=S) (fl:=fl) (w:=w) ({}:bn).sn ({}:bn).lk k.H.length
  exact⟨λt g r=>⟨(q.pm t g (p.pm t g r).1).1,rfl⟩,fj p.nO q.nO,λ_ _=>rfl⟩
 obtain⟨E,z,B,x⟩:=(Tp hc l).resolve_left s
 refine⟨λvs=>jh z B x,λvs i=> ?_⟩
 have a:bf (cxS b.sn b.lk A k1.H.length ρ S1 fl w) (first++ds++cap) vs.toList:=by
  rw[i];exact bf.append _ _ _ _ (bf.append _ _ _ _ (bf.ext n _ _ ha) y) (bf.ext n _ _ hb)
 have f:=M4 (C:=ck P) Dc hG hc.2.1 m.kr (bf.canon (J6 _ _ _) a) l
 grind [ck]
theorem M6{o:Qz}{args:Array Oz}{c:Oz->SV}{a:Act}(hv:∀x∈o.op.operands,(c x,a.eval x)∈ay)(h:∀x∈args.toList,x∈o.op.operands):All2 (λu v=>(u,v)∈ay) (args.toList.map c) (args.toList.map a.eval):=by
 have b:∀x∈args.toList,(c x,a.eval x)∈ay:=λx e=>hv x (h x e)
 revert b
 generalize args.toList=d
 induction d with
 |nil=>intro _;rfl
 |cons p d f=>intro b;exact⟨_,_,rfl,b p (by simp),f (λq g=>b q (by simp[g]))⟩
theorem M7{G:Nat->U D}(hG:GA G A){call:dH}(hc:gK P G call)(h:KR A ρ S hd fl k ay w)(l:k.tr=[]){hint:Hint}{nv dst:Nat}{o:Qz}{f:Oz}{args:Array Oz}{cz:Array TypeId}{j:Oz->SV}{a:Act}{g:FuncId}{first cap ds:J D}{b:bn}{k1:Wk}{sv:SV}
  (q:o.op=.call {callee:=.value f,args,argTypes:=cz}) (hv:∀x∈o.op.operands,(j x,a.eval x)∈ay) (hf:j f=.d (.fn (.func g) first cap)) (s:¬YB<=g) (e1:gV nv (args.toList.map j) k {}=some (ds,k1,b)) (p:gC call hint dst g (canon b.sn (first++ds++cap)) b k1=some (sv,k')):
  ∃vs,(execOp a.eval o).run P w=.ok (.enter g vs) w/\Calls P g vs w λe w'=>∃v,Ends sv.bO e v/\∃i m hd',KR A i m hd' fl k' ay w'/\SO (am A k'.H.length i m fl w') k'.get hd' sv v:=by
 have d:=h.ay _ (hv f (by grind [Op.operands,Call.operands]))
 rw[l]at d
 simp only[aU,hf]at d
 have c:=VV.inv d (by simp)
 simp only[VC,xC,and_true]at c
 obtain⟨y,C,r,n,t⟩:=c;obtain⟨u,z⟩:=M5 hG hc h (M6 hv (args:=args) λx B=>by grind [Op.operands,Call.operands]) n t s e1 p
 simp_all [execOp,resolve,Deferred.ofValue,invoke]
theorem Wb{G:Nat->U D}(hG:GA G A){call:dH}(hc:gK P G call)(h:KR A ρ S hd fl k ay w)(B:k.tr=[]){hint:Hint}{nv dst:Nat}{o:Qz}{x:Oz}{nm:String}{args:Array Oz}{cz:Array TypeId}{z:Oz->SV}{a:Act}{g:FuncId}{y:D}{ds:J D}{b:bn}{k1:Wk}{sv:SV}
  (f:o.op=.call {callee:=.invoke x nm,args,argTypes:=cz}) (hv:∀x∈o.op.operands,(z x,a.eval x)∈ay) (hf:MA P nm (z x)=some (g,y)) (O:¬YB<=g) (e1:gV nv (args.toList.map z) k {}=some (ds,k1,b)) (L:gC call hint dst g (canon b.sn (y::ds)) b k1=some (sv,k')):
  ∃vs,(execOp a.eval o).run P w=.ok (.enter g vs) w/\Calls P g vs w λe w'=>∃v,Ends sv.bO e v/\∃j C hd',KR A j C hd' fl k' ay w'/\SO (am A k'.H.length j C fl w') k'.get hd' sv v:=by
 have d:=h.ay _ (hv x (by grind [Op.operands,Call.operands]))
 rw[B]at d
 unfold MA at hf
 split at hf
 .rename_i t T F
  simp only[xM,pJ]at hf
  obtain⟨W,I,rfl,rfl⟩:=hf;simp only[aU,F]at d
  have c:=VV.inv d (by simp)
  simp only[VC,xC,and_true]at c
  obtain⟨l,q,V,h3⟩:=c;obtain⟨K,M⟩:=M5 (first:=[T]) (cap:=[]) (av:=[l]) (bv:=[]) hG hc h (M6 hv (args:=args) λx F=>by grind [Op.operands,Call.operands]) (by grind [bf]) (by simp only[bf]) O e1 (by simpa using L)
  refine⟨_,?_,M (#[l]++args.map a.eval) (by simp)⟩
  have i:a.eval x=.iface t l:=q;obtain⟨E,op,N,H,p,s⟩:=o;simp only at f;subst f;have m:=λn=>y? (w:=w) (v:=l) I n
  have hd:P.types.size+Made.depth=(P.types.size+99)+1:=rfl;have R:∀(u:Vz) (r:Array Vz),(#[u]++r)[0]? =some u:=λu r=>by grind
  have Q:∀(u:Vz) (r:Array Vz),(#[u]++r).extract 1 (#[u]++r).size=r:=λu r=>by
   simp_all
  simp only[execOp,resolve,Sem.run_bind,Sem.run_pure,Result.andThen_ok,invoke,R,Q,callMethod,i,run_program,hd,m];exact K _
 .cases hf
theorem C!{G:Nat->U D}{call:dH}(hc:gK P G call){hint:Hint}{dst:Nat}{g:FuncId}{xs:J SV}{r:SV×Wk}(e:mvE P call hint dst g xs k=some r):GK P g:=by simp[mvE]at e
theorem Tq{G:Nat->U D}(hG:GA G A){call:dH}(hc:gK P G call)(h:KR A ρ S hd fl k ay w)(r:k.tr=[]){hint:Hint}{dst:Nat}{o:Qz}{f:Oz}{args:Array Oz}{cz:Array TypeId}{l:Oz->SV}{a:Act}{g:FuncId}{first cap:J D}{sv:SV}
  (E:o.op=.call {callee:=.value f,args,argTypes:=cz}) (hv:∀x∈o.op.operands,(l x,a.eval x)∈ay) (hf:l f=.d (.fn (.func g) first cap)) (z:¬YB<=g) (j:(first.isEmpty&&cap.isEmpty)=true) (e1:mvE P call hint dst g (args.toList.map l) k=some (sv,k')):
  ∃vs,(execOp a.eval o).run P w=.ok (.enter g vs) w/\Calls P g vs w λe w'=>∃v,Ends sv.bO e v/\∃m y hd',KR A m y hd' fl k' ay w'/\SO (am A k'.H.length m y fl w') k'.get hd' sv v:=by
 simp only[xA,List.isEmpty_iff]at j
 obtain⟨rfl,rfl⟩:=j;have i:=h.ay _ (hv f (by grind [Op.operands,Call.operands]))
 rw[r]at i
 simp only[aU,hf]at i
 have d:=VV.inv i (by simp)
 simp only[VC,xC,and_true]at d
 obtain⟨C,H,K,t,B⟩:=d;simp only[bf]at t B
 have n:All2 (λu v=>(u,v)∈ay) (args.toList.map l) (args.toList.map a.eval):=by
  have c:∀x∈args.toList,(l x,a.eval x)∈ay:=λx N=>hv x (by grind [Op.operands,Call.operands])
  revert c
  generalize args.toList=s
  induction s with
  |nil=>intro _;rfl
  |cons p s I=>intro c;exact⟨_,_,rfl,c p (by simp),I (λq F=>c q (by simp[F]))⟩
 have b:=aeA hG hc.2.2 z h n e1;obtain⟨fn,O,Q,M⟩:=(C! hc e1).resolve_left z
 refine⟨(args.toList.map a.eval).toArray,?_,b⟩
 have L:(C++args.map a.eval)++H=(args.toList.map a.eval).toArray:=by
  apply Array.ext';simp[t,B]
 grind [execOp,resolve,Deferred.ofValue,invoke,jh]
theorem Cd{o:Qz}{f:Oz}{args:Array Oz}{cz:Array TypeId}(a:o.op=.call {callee:=.value f,args,argTypes:=cz}):∀c,o.op≠ .defer c:=λc h=>by grind
theorem I9(h:KR A ρ S hd fl k ay w)(m:k.tr=[]){o:Qz}{f:Oz}{args:Array Oz}{cz:Array TypeId}{j:Oz->SV}{a:Act}{g:FuncId}{first cap ds:J D}{nm:String}{y:D}
  (i:o.op=.call {callee:=.value f,args,argTypes:=cz}) (hv:∀x∈o.op.operands,(j x,a.eval x)∈ay) (hf:j f=.d (.fn (.func g) first cap)) (r:AE P g=some nm) (e1:SV.bH (args.toList.map j)=some ds) (G:S5 nm (first++ds++cap)=some y):
  ∃v,(execOp a.eval o).run P w=.ok (.value v) w/\VV (am A k.H.length ρ S fl w) y v:=by
 have e:=h.ay _ (hv f (by grind [Op.operands,Call.operands]))
 rw[m]at e
 simp only[aU,hf]at e
 have c:=VV.inv e (by simp)
 simp only[VC,xC,and_true]at c
 obtain⟨H,L,u,F,N⟩:=c
 have l:All2 (SO (am A k.H.length ρ S fl w) k.get hd) (args.toList.map j) (args.toList.map a.eval):=by
  have b:∀x∈args.toList,(j x,a.eval x)∈ay:=λx O=>hv x (by grind [Op.operands,Call.operands])
  revert b
  generalize args.toList=z
  induction z with
  |nil=>intro _;rfl
  |cons p z M=>
   intro b
   refine⟨_,_,rfl,?_,M (λq I=>b q (by simp[I]))⟩
   have:=h.ay _ (b p (by simp))
   rw[m]at this
   exact this
 have d:bf (am A k.H.length ρ S fl w) (first++ds++cap) ((H++args.map a.eval)++L).toList:=by
  simp only[Array.toList_append,Array.toList_map];exact bf.append _ _ _ _ (bf.append _ _ _ _ F (SV.pures_VVs _ _ _ e1 l)) N
 obtain⟨v,C,s⟩:=C? (P:=P) (g:=g) (w:=w) r d G
 refine⟨v,?_,s⟩
 obtain⟨B,op,K,E,t,n⟩:=o;simp only at i;subst i;simp only[execOp,resolve,u,Deferred.ofValue,Sem.run_bind,Sem.run_pure,Result.andThen_ok,invoke];rw[Array.toArray_toList]at C
 exact C
theorem M8{G:Nat->U D}(hG:GA G A)(h:KR A ρ S hd fl k ay w)(j:k.tr=[]){hint:Hint}(i:∀g d,hint.gl g=some d->G g=some d){dst:Nat}{ty:TypeId}{o:Qz}{l:Oz->SV}{a:Act}{sv:SV}{ro:U Nat}(hv:∀x∈o.op.operands,(l x,a.eval x)∈ay)(e:opE P hint dst ty o.op l k=some (sv,k'))
  {next:Act->Wz->Prop} {Q:Exit->Act->Wz->Prop} (hn:∀v w' b f hd',KR A b f hd' fl k' ay w'->SO (am A k'.H.length b f fl w') k'.get hd' sv v->next (a.put o.dst v) w'):o.wpIn (FW ro) 0 P a w next Q:=by
 obtain⟨n,v,w',b,f,hd',p,m,h3,h4⟩:=V6 hG h j i (ev:=a.eval) (λ_=>rfl) hv e
 refine⟨λ_ _=>trivial,?_⟩
 rw[Oper.semAt_eq _ _ _ (λc q=>by grind [opE]),p]
 obtain rfl |⟨rfl,rfl⟩:=m
 .exact hn v w' b f hd' h3 h4
 .exact hn undef w' b f hd' h3 h4
theorem Wc{G:Nat->U D}(hG:GA G A){call:dH}(hc:gK P G call)(h:KR A ρ S hd fl k ay w)(B:k.tr=[]){hint:Hint}(ac:∀g d,hint.gl g=some d->G g=some d){dst:Nat}{ty:TypeId}{o:Qz}{N:Oz->SV}{a:Act}{sv:SV}{ro:U Nat}(hv:∀x∈o.op.operands,(N x,a.eval x)∈ay)(e:dF P call hint dst ty o.op N k=some (sv,k'))
  {next:Act->Wz->Prop} {Q:Exit->Act->Wz->Prop} (hn:∀v w' L S' hd',KR A L S' hd' fl k' ay w'->SO (am A k'.H.length L S' fl w') k'.get hd' sv v->next (a.put o.dst v) w'):o.wpIn (FW ro) 0 P a w next Q:=by
 have I:∀{r:SV×Wk},jY r=some (sv,k')->r=(sv,k')/\sv.bO=false:=λ{r} e=>by
  grind [jY]
 unfold dF at e
 split at e
 .rename_i f i cz l
  split at e
  .rename_i g first ag O
   split at e
   .cases e
   rename_i hy
   split at e
   .rename_i nm Y
    simp only[xB,xM,pJ]at e
    obtain⟨M,J,y,E,rfl,rfl⟩:=e;obtain⟨v,j,T⟩:=I9 h B l hv O Y J E
    refine⟨λ_ _=>trivial,?_⟩
    rw[Oper.semAt_eq _ _ _ (Cd l),j,Oper.uponIn_value];exact hn v w ρ S hd h T
   simp only[xB]at e
   obtain⟨⟨M,k1,b⟩,J,r,E,R⟩:=e;obtain⟨rfl,Z⟩:=I R;obtain⟨vs,j,c⟩:=M7 hG hc h B l hv O hy J E
   refine⟨λ_ _=>trivial,?_⟩
   grind [Oper.semAt_eq,Oper.uponIn_enter,FW,Fence.wide,kz,Calls.mono,Ends]
  .rename_i yo O
   simp only[xB]at e
   obtain⟨⟨M,k1,b⟩,J,r,E,R⟩:=e;obtain⟨rfl,Z⟩:=I R;have z:=h.ay _ (hv f (by grind [Op.operands,Call.operands]))
   rw[B]at z
   simp only[aU,O]at z
   have n:=VV.inv z (by simp)
   simp only[VC,xC,and_true]at n
   obtain⟨af,W⟩:=n
   have H:All2 (λu v=>(u,v)∈ay) (i.toList.map N) (i.toList.map a.eval):=by
    have m:∀x∈i.toList,(N x,a.eval x)∈ay:=λx hx=>hv x (by grind [Op.operands,Call.operands])
    revert m
    generalize i.toList=ps
    induction ps with
    |nil=>intro _;rfl
    |cons p ps ih=>intro m;exact⟨_,_,rfl,m p (by simp),ih (λq hq=>m q (by simp[hq]))⟩
   obtain⟨S1,g1,g2⟩:=GI _ _ M k k1 S {} b h H J
   have s:bf (cxS b.sn b.lk A k1.H.length ρ S1 fl w) M (i.map a.eval).toList:=by
    simp only[Array.toList_map];exact g2
   have c:=M4 (C:=ck P) Dc hG hc.2.1 g1.kr (bf.canon (J6 _ _ _) s) E;unfold ck at c;rw[if_pos (ru _ _),ri]at c
   obtain⟨r,q1,q2,q3⟩:=c
   have j:(execOp a.eval o).run P w=.ok (.round (ρ yo) r.fn ((r.params.zip (i.map a.eval)).foldl (λK (t,a)=>K.setIfInBounds t a) r.tmps) r.assign r.body) w:=by
    obtain⟨aa,op,ad,ab,V,X⟩:=o;simp only at l;subst l;have F:a.eval f=.func (.yield (ρ yo)) #[] #[]:=W;simp only[execOp,resolve,F,Deferred.ofValue,Sem.run_bind,Sem.run_pure,Result.andThen_ok,invoke]
    simpa using run_yield (P:=P) q1 q2
   refine⟨λ_ _=>trivial,?_⟩
   rw[Oper.semAt_eq _ _ _ (Cd l),j,Oper.uponIn_round]
   refine⟨λhh=>by simp[FW,Fence.wide]at hh,Pr (q3.mono λen w' he=> ?_)⟩
   grind [Ends]
  .cases e
 grind [M8]
theorem Wd{G:Nat->U D}(hG:GA G A){call:dH}(hc:gK P G call)(h:KR A ρ S hd fl k ay w)(H:k.tr=[]){hint:Hint}(ac:∀g d,hint.gl g=some d->G g=some d){dst:Nat}{ty:TypeId}{o:Qz}{σ:Oz->SV}{a:Act}{t:U D}{sv:SV}{ro:U Nat}(hv:∀x∈o.op.operands,(σ x,a.eval x)∈ay)(e:hU P call hint dst ty o.op σ k=some (t,sv,k'))
  {next:Act->Wz->Prop} {Q:Exit->Act->Wz->Prop} (hn:t=none->∀v w' m I hd',KR A m I hd' fl k' ay w'->SO (am A k'.H.length m I fl w') k'.get hd' sv v->next (a.put o.dst v) w')
  (hp:∀d,t=some d->∀x w' m I hd',KR A m I hd' fl k' ay w'->(∀c,VV c d x)->Q (.panic [{v:=x,recovered:=false}]) a w'):o.wpIn (FW ro) 0 P a w next Q:=by
 unfold hU at e
 split at e
 .rename_i x l
  split at e
  .rename_i tt y hx
   split at e
   .rename_i z
    simp only[xJ,pJ]at e
    obtain⟨rfl,rfl,rfl⟩:=e;have F:=h.ay _ (hv x (by grind [Op.operands]))
    rw[H]at F
    simp only[aU,hx]at F
    have J:(D.iface tt y).flat=true:=by simpa [D.flat]using z
    have K:=VV.inv (c:=am A k.H.length ρ S fl w) F (by simp)
    simp only[VC,xC,and_true]at K
    obtain⟨v',L,_,_⟩:=K
    refine⟨λ_ _=>trivial,?_⟩
    rw[Oper.semAt_eq _ _ _ (λc hc=>by grind)]
    have j:(execOp a.eval o).run P w=.halt (.panic (.iface tt v')) w:=by
     obtain⟨aa,op,ad,ab,V,Y⟩:=o;simp only at l;subst l;have q:a.eval x=.iface tt v':=L;simp[execOp,Instr.panic,q,goPanic,Sem.run_bind,Sem.run,Result.andThen]
    rw[j,Oper.uponIn_panic];refine hp _ rfl _ _ ρ S hd h λc=> ?_
    have q:a.eval x=.iface tt v':=L;rw[<-q];exact VV.flat J F
   .cases e
  .cases e
 .rename_i f N cz l
  split at e
  .rename_i g first af hf
   split at e
   .cases e
   rename_i O
   split at e
   .split at e
    .rename_i Z
     simp only[xM,xB,pJ]at e
     obtain⟨⟨v0,k2⟩,⟨⟨v1,k1⟩,M,E⟩,rfl,rfl,rfl⟩:=e;unfold jY at E
     split at E
     .cases E
     rename_i ag;simp only[xJ,pJ]at E
     obtain⟨rfl,rfl⟩:=E;obtain⟨vs,j,i⟩:=Tq hG hc h H l hv hf O Z M
     refine⟨λ_ _=>trivial,?_⟩
     grind [Oper.semAt_eq,Oper.uponIn_enter,FW,Fence.wide,kz,Calls.mono,Ends]
    .cases e
   simp only[xB]at e
   obtain⟨⟨ds,k1,b⟩,M,⟨v0,k2⟩,E,p⟩:=e;obtain⟨vs,j,i⟩:=M7 hG hc h H l hv hf O M E
   refine⟨λ_ _=>trivial,?_⟩
   rw[Oper.semAt_eq _ _ _ (Cd l),j,Oper.uponIn_enter]
   refine⟨λX=>by simp[FW,Fence.wide]at X,kz.2 (Calls.mono i λen w' R=> ?_)⟩
   obtain⟨v,n,m,I,hd',W,T⟩:=R;simp only at p
   split at p
   .rename_i d
    split at p
    .rename_i z
     simp only[xJ,pJ]at p
     obtain⟨rfl,rfl,rfl⟩:=p;unfold Ends at n;rw[if_pos (show SV.bO (.aS [.d d,.agg []])=true from rfl)]at n
     obtain⟨x,rfl,rfl⟩:=n;obtain⟨us,B,s⟩:=T;simp only[Value.tuple.injEq]at B
     subst B;obtain⟨u,r,C,hu,_⟩:=s;simp only[xC]at C
     obtain⟨rfl,_⟩:=C;exact hp d rfl x w' m I hd' W (λc=>VV.flat z hu)
    .cases p
   grind [SV.bO,Ends]
  .cases e
 .rename_i x nm N cz l
  simp only[xB]at e
  obtain⟨⟨g,y⟩,e0,e⟩:=e;simp only at e
  split at e
  .cases e
  .rename_i O
   simp only[xB]at e
   obtain⟨⟨ds,k1,b⟩,M,⟨v0,k2⟩,E,p⟩:=e;obtain⟨vs,j,i⟩:=Wb hG hc h H l hv e0 O M E
   refine⟨λ_ _=>trivial,?_⟩
   rw[Oper.semAt_eq _ _ _ (λc hc=>by grind),j,Oper.uponIn_enter]
   refine⟨λX=>by simp[FW,Fence.wide]at X,kz.2 (Calls.mono i λen w' R=> ?_)⟩
   obtain⟨v,n,m,I,hd',W,T⟩:=R;simp only at p
   split at p
   .rename_i d
    split at p
    .rename_i z
     simp only[xJ,pJ]at p
     obtain⟨rfl,rfl,rfl⟩:=p;unfold Ends at n;rw[if_pos (show SV.bO (.aS [.d d,.agg []])=true from rfl)]at n
     obtain⟨x,rfl,rfl⟩:=n;obtain⟨us,B,s⟩:=T;simp only[Value.tuple.injEq]at B
     subst B;obtain⟨u,r,C,hu,_⟩:=s;simp only[xC]at C
     obtain⟨rfl,_⟩:=C;exact hp d rfl x w' m I hd' W (λc=>VV.flat z hu)
    .cases p
   grind [SV.bO,Ends]
 grind [xM,M8]
end
section
variable{P:Pz}{A:Av}{ρ:Nat->Nat}{S:aj->J Nat}{hd:aj->Vz}{fl:J Nat}{k k':Wk}{ay vals':J (SV×Vz)}{w:Wz}
theorem KR.dq(h:KR A ρ S hd fl k ay w)(hv:∀p∈vals',SO (am A k.H.length ρ S fl w) k.get hd (aU k.tr p.1) p.2):KR A ρ S hd fl k vals' w:=
 ⟨h.cont,h.gone,h.obj,h.map,h.bw,h.bU,hv,h.fr,h.Fold,h.cP⟩
theorem KR.hush(h:KR A ρ S hd fl k ay w):KR A ρ S hd fl {ct:=k.ct,H:=k.H} [] w:=
 ⟨h.cont,h.gone,h.obj,h.map,h.bw,h.bU,by simp,h.fr,h.Fold,h.cP⟩
def SR(A:Av)(s:St)(a:Act)(w:Wz):Prop:=
 ∃ρ S hd,KR A ρ S hd [] s.wk [] w/\∀t,SO (am A s.H.length ρ S [] w) s.wk.get hd (s.get t) (a.tmps.getD t undef)
theorem We(l:J Tr):aU l .dead=.dead:=by
 induction l with
 |nil=>rfl
 |cons x l a=>
  have:x.sv .dead=.dead:=by cases x <;>rfl
  grind [aU]
theorem Wf(x:Tr)(env:J (Nat×SV))(t:Nat):look (x.env env) t=(look env t).map x.sv:=by
 induction env with
 |nil=>rfl
 |cons p r a=>
  grind [Tr.env,look]
theorem M9(l:J Tr):∀(env:J (Nat×SV)) (t:Nat),look (trs l env) t=(look env t).map (aU l):=by
 induction l with
 |nil=>simp_all [trs,aU]
 |cons x l a=>
  intro env t;simp only[trs,a,Wf,Option.map_map];congr 1
theorem Na{env:J (Nat×SV)}{t:Nat}{v:SV}(h:look env t=some v):t∈env.map (·.1):=by
 induction env with
 |nil=>cases h
 |cons p r a=>
  grind [look]
theorem GN{c:Cx}{K:aj->U T}{hd:aj->Vz}{a:Act}{x:Oz}(hx:∀t,x≠ .tmp t):SO c K hd (My x) (a.eval x):=by
 cases x with
 |tmp t=>grind
 |const v=>
  simp only[My,Act.eval];split
  .rename_i y b;exact mD b
  .trivial
 |global g=>trivial
 |func f=>
  refine VV.one ?_ (by simp)
  simp only[VC]
  exact⟨#[], #[],rfl,rfl,rfl⟩
theorem SR.val{s:St}{a:Act}(b:∀t,SO (am A s.H.length ρ S [] w) s.wk.get hd (s.get t) (a.tmps.getD t undef))(x:Oz):SO (am A s.H.length ρ S [] w) s.wk.get hd (s.val x) (a.eval x):=by
 cases x with
 |tmp t=>exact b t
 |const v=>exact GN (x:=.const v) (by simp)
 |global g=>exact GN (x:=.global g) (by simp)
 |func f=>exact GN (x:=.func f) (by simp)
theorem SR.fin{s:St}{a:Act}{d:U Nat}{sv:SV}{v:Vz}{k':Wk}{ay:J (SV×Vz)}{b:Nat->Nat}{f:aj->J Nat}{hd':aj->Vz}{w':Wz}
  (h:KR A b f hd' [] k' ay w') (hv:SO (am A k'.H.length b f [] w') k'.get hd' sv v) (c:∀t∈s.env.map (·.1),(s.get t,a.tmps.getD t undef)∈ay) (hd:∀t,d=some t->t<a.tmps.size):SR A (s.fin d sv k') (a.put d v) w':=by
 refine⟨b,f,hd',h.hush,λt=> ?_⟩
 have e:SO (am A k'.H.length b f [] w') k'.get hd' ((look (trs k'.tr s.env) t).getD .dead) (a.tmps.getD t undef):=by
  rw[M9]
  cases j:look s.env t with
  |none=>trivial
  |some u=>
   have:=h.ay _ (c t (Na j))
   grind [St.get]
 cases d with
 |none=>exact e
 |some d=>
  have g:=hd d rfl;show SO _ _ _ ((look ((d,sv)::trs k'.tr s.env) t).getD .dead) ((a.tmps.setIfInBounds d v).getD t undef);simp only[look]
  by_cases i:d=t
  .subst i
   rw[if_pos rfl]
   have:(a.tmps.setIfInBounds d v).getD d undef=v:=by simp[g]
   rw[this];exact hv
  .rw[if_neg i]
   have:(a.tmps.setIfInBounds d v).getD t undef=a.tmps.getD t undef:=by
    simp[yB,Ee i]
   rw[this];exact e
theorem mE(a:Act)(d:U Nat)(v:Vz):(a.put d v).tmps.size=a.tmps.size:=by cases d <;>simp[Act.put]
theorem Nb(a:Act)(d:U Nat)(v:Vz):(a.put d v).defers=a.defers:=by cases d <;>rfl
theorem GO{s:St}{a:Act}{ops:Array Qz}{o:Qz}{b:Bool}(m:SR A s a w)(e:iu ops.toList s o=some b):Region.wanted o (yielded ops a.tmps)=b:=by
 obtain⟨ρ,S,hd,_,h⟩:=m;unfold iu at e;unfold Region.wanted
 split at e
 .grind
 .rename_i j f k
  rw[k]
  simp only
  split at e
  .rename_i t g
   rw[yM]at g
   have c:=h t
   split at e
   .rename_i p d
    simp only[xJ]at e
    rw[d]at c
    have c:=VV.of_bool c
    have i:t<a.tmps.size:=by
     obtain q |q:=gk t a.tmps.size
     .exact q
     .grind [undef]
    simp_all [yielded]
   .rename_i d
    simp only[xJ]at e
    rw[d]at c
    obtain⟨r,l,_⟩:=c
    have:yielded ops a.tmps j=none:=by
     unfold yielded;rw[g];simp only[xS]
     cases n:a.tmps[t]? with
     |none=>rfl
     |some x=>
      simp_all
    rw[this,<-e];rfl
   .cases e
  .cases e
def jP(s:St)(a:Act)(xs:J Oz):J (SV×Vz):=s.env.map (λp=>(s.get p.1,a.tmps.getD p.1 undef))++xs.map λx=>(s.val x,a.eval x)
def Kp(a0:Act)(ds:J Nat)(a:Act):Prop:=a.defers=a0.defers/\a.tmps.size=a0.tmps.size/\∀t,t∉ds->a.tmps[t]? =a0.tmps[t]?
theorem Kp.refl(a:Act)(ds:J Nat):Kp a ds a:=⟨rfl,rfl,λ_ _=>rfl⟩
theorem Kp.trans{a b c:Act}{ds es:J Nat}(x:Kp a ds b)(y:Kp b es c):Kp a (ds++es) c:=
 ⟨y.1.trans x.1,y.2.1.trans x.2.1,λt d=>by simp only[xD,not_or]at d;exact(y.2.2 t d.2).trans (x.2.2 t d.1)⟩
theorem Kp.more{a b:Act}{ds es:J Nat}(x:Kp a ds b)(h:∀t∈ds,t∈es):Kp a es b:=⟨x.1,x.2.1,λt ht=>x.2.2 t (λq=>ht (h t q))⟩
theorem Kp.put{a0 a:Act}{ds:J Nat}(x:Kp a0 ds a){dst:U Nat}(hd:∀d,dst=some d->d∈ds)(v:Vz):Kp a0 ds (a.put dst v):=by
 refine⟨(Nb _ _ _).trans x.1,(mE _ _ _).trans x.2.1,λt b=> ?_⟩
 rw[<-x.2.2 t b]
 cases dst with
 |none=>rfl
 |some d=>
  grind [Act.put]
theorem GP{G:Nat->U D}{call:dH}(hc:gK P G call)(hG:GA G A){hint:Hint}(l:∀g d,hint.gl g=some d->G g=some d){ops:Array Qz}{o:Qz}{s s':St}{a a0:Act}{ds:J Nat}{ro:U Nat}(y:SR A s a w)(i:Kp a0 ds a)(hd:∀d,o.dst=some d->d∈ds/\d<a0.tmps.size)(e:n7 P call hint ops.toList o s=some s')
  {K:Act->Wz->Prop} {Q:Exit->Act->Wz->Prop} (n:∀m w',SR A s' m w'->Kp a0 ds m->K m w'):
  if Region.wanted o (yielded ops a.tmps)then o.wpIn (FW ro) 0 P a w K Q else(∀f,o.about P w a.eval=some f->(FW ro).fn f)/\K (a.put o.dst undef) w:=by
 simp only[n7,xB]at e
 obtain⟨b,C,e⟩:=e;rw[GO y C];obtain⟨ρ,S,hd0,h,r⟩:=y
 have hk:KR A ρ S hd0 [] s.wk (jP s a o.op.operands.toList) w:=h.dq (λp u=>by
  simp only[jP,xD,jC]at u
  obtain⟨q,_,rfl⟩ |⟨x,_,rfl⟩:=u
  .exact r q.1
  .exact SR.val r x)
 have c:∀t∈s.env.map (·.1),(s.get t,a.tmps.getD t undef)∈jP s a o.op.operands.toList:=λt L=>by
  grind [jP]
 have k:∀d,o.dst=some d->d<a.tmps.size:=λd q=>by rw[i.2.1];grind
 have j:∀d,o.dst=some d->d∈ds:=λd q=>(hd d q).1
 cases b
 .simp only[xH,if_false,xJ]at e |-
  subst e
  refine⟨λ_ _=>trivial,n _ _ ?_ (i.put j _)⟩
  exact SR.fin (ay:=jP s a o.op.operands.toList) hk ⟨#[],rfl,rfl⟩ c k
 .simp only[if_true,xM]at e |-
  obtain⟨⟨I,k'⟩,z,rfl⟩:=e;refine Wc hG hc hk rfl l (λx M=> ?_) z (λv w' F H hd' E B=> ?_)
  .grind [jP]
  .exact n _ _ (SR.fin E B c k) (i.put j _)
theorem zh{G:Nat->U D}{call:dH}(hc:gK P G call)(hG:GA G A){hint:Hint}(k:∀g d,hint.gl g=some d->G g=some d){ops:Array Qz}{a0:Act}{ds:J Nat}{ro:U Nat}{Q:Exit->Act->Wz->Prop}:∀(l:J Qz) {s s':St} {t:U D} {a:Act} {w:Wz},SR A s a w->Kp a0 ds a->(∀o∈l,∀d,o.dst=some d->d∈ds/\d<a0.tmps.size)->gJ P call hint ops.toList l s=some (t,s')->
  (t=none->∀m w',SR A s' m w'->Kp a0 ds m->Q .normal m w')->(∀d,t=some d->∀x m w',SR A s' m w'->Kp a0 ds m->(∀c,VV c d x)->Q (.panic [{v:=x,recovered:=false}]) m w')->wpListIn (FW ro) 0 P ops Q l a w
 | [],s,s',t,a,w,y,f,hd,e,z,hP=>by
  simp only[gJ,xJ,pJ]at e
  obtain⟨rfl,rfl⟩:=e;exact z rfl a w y f
 |o::l,s,s',t,a,w,y,f,hd,e,z,hP=>by
  simp only[gJ,xB]at e
  obtain⟨b,R,e⟩:=e;refine wpListIn_step λK M=> ?_
  rw[GO y R];obtain⟨ρ,S,hd0,h,I⟩:=y
  have hk:KR A ρ S hd0 [] s.wk (jP s a o.op.operands.toList) w:=h.dq (λp L=>by
   simp only[jP,xD,jC]at L
   obtain⟨q,_,rfl⟩ |⟨x,_,rfl⟩:=L
   .exact I q.1
   .exact SR.val I x)
  have i:∀t∈s.env.map (·.1),(s.get t,a.tmps.getD t undef)∈jP s a o.op.operands.toList:=λt n=>by
   grind [jP]
  have u:∀d,o.dst=some d->d<a.tmps.size:=λd q=>by rw[f.2.1];simp_all
  have r:∀d,o.dst=some d->d∈ds:=λd q=>(hd o (by simp) d q).1
  have j:∀C∈l,∀d,C.dst=some d->d∈ds/\d<a0.tmps.size:=λC F=>hd C (by simp[F])
  cases b
  .simp only[xH,if_false]at e |-
   refine⟨λ_ _=>trivial,M _ _ ?_⟩
   exact zh hc hG k l (SR.fin (sv:=.aS []) (v:=undef) (ay:=jP s a o.op.operands.toList) hk ⟨#[],rfl,rfl⟩ i u) (f.put r _) j e z hP
  .simp only[if_true,xB]at e |-
   obtain⟨⟨t1,sv,k'⟩,O,e⟩:=e;refine Wd hG hc hk rfl k (λx T=> ?_) O (λn v w' H N hd' B E=> ?_) (λd n x w' H N hd' B E=> ?_)
   .grind [jP]
   .subst n
    exact M _ _ (zh hc hG k l (SR.fin B E i u) (f.put r _) j e z hP)
   .subst n
    simp only[xJ,pJ]at e
    obtain⟨rfl,rfl⟩:=e;exact hP d rfl x a w' (SR.fin (d:=none) (v:=undef) B trivial i (λt n=>by cases n)) f E
end
theorem rO{l:J SV}{u:SV}(hu:u∈l){p:Nat×Nat}(hp:p∈u.roots):p∈SV.cr l:=by
 induction l with
 |nil=>cases hu
 |cons a r b=>
  grind [SV.cr]
theorem rP{ct:J ((Nat×Nat)×T)}:∀(l:J (Nat×Nat)) (x:Nat×Nat),fc (pick ct l) x=if x∈l then fc ct x else none
 | [],x=>by simp[pick,fc]
 |a::r,x=>by
  simp only[pick];split
  .rename_i t b
   simp only[fc]
   by_cases h:a=x
   .subst h;simp[b]
   .rw[if_neg h,rP r x]
    grind
  .rename_i b
   rw[rP r x]
   by_cases h:a=x
   .subst h;simp[b]
   grind
section
variable{c c':Cx}{K K':aj->U T}{hd hd':aj->Vz}
theorem SO.on(hx:Ext c c')(G:aj->Prop)(B:∀r q,G r->wV c c' K K' hd hd' r q)(A:∀n,G (.o n)){u:SV}{v:Vz}(f:∀p∈u.roots,G (.l p.1 p.2))(h:SO c K hd u v):SO c' K' hd' u v:=by
 have E:∀(u:SV) (v:Vz),(∀p∈u.roots,G (.l p.1 p.2))->SB c K hd u v->SB c' K' hd' u v:=λu v f h=>by
  cases u with
  |aH r p s F=>exact SB.bS (B r p (by cases r with |l n j=>simp_all [SV.roots] |o n=>exact A n)) h
  |loc r p i s=>exact SB.bL (B r p (by cases r with |l n j=>simp_all [SV.roots] |o n=>exact A n)) h
  |_=>exact SB.bJ hx (by simp) (by simp) h
 have D:∀(u:SV) (v:Vz),(∀p∈u.roots,G (.l p.1 p.2))->CO c K hd u v->CO c' K' hd' u v:=λu v f h=>by
  by_cases C:∃y,u=.d y
  .obtain⟨y,rfl⟩:=C
   exact VC.ext hx y _ h
  .have k:∀y,u≠ .d y:=λy e=>C ⟨y,e⟩
   have g:=E u v f (CO.to_SB k h)
   cases u <;>first |grind |exact g
 have H:∀(u:SV) (v:Vz),(∀p∈u.roots,G (.l p.1 p.2))->S1 c K hd u v->S1 c' K' hd' u v:=λu v f h=>by
  by_cases z:∃l,u=.agg l
  .obtain⟨l,rfl⟩:=z
   obtain⟨m,w,g⟩:=h
   exact⟨m,w,g.imp (λa t b d=>D a b (λp x=>f p (rO t x)) d)⟩
  grind [S1.of_SB,S1.to_SB]
 by_cases z:∃l,u=.aS l
 .obtain⟨l,rfl⟩:=z
  obtain⟨m,w,g⟩:=h
  exact⟨m,w,g.imp (λa t b d=>H a b (λp x=>f p (rO t x)) d)⟩
 grind [SO.of_S1,SO.to_S1]
end
section
variable{P:Pz}{A:Av}{ρ:Nat->Nat}{S:aj->J Nat}{hd:aj->Vz}{fl:J Nat}{k k':Wk}{ay vals':J (SV×Vz)}{w:Wz}
theorem KR.forget(h:KR A ρ S hd fl k ay w)(L:J (Nat×Nat)){ct:J ((Nat×Nat)×T)}(D:∀x,fc ct x=if x∈L then fc k.ct x else none):
  ∃a,KR A ρ a hd fl {ct,H:=k.H} [] w/\∀u v,(∀p∈u.roots,p∈L)->SO (am A k.H.length ρ S fl w) k.get hd u v->SO (am A k.H.length ρ a fl w) ({ct,H:=k.H}:Wk).get hd u v:=by
 let G:aj->Bool:=λr=>match r with | .l n j=>decide ((n,j)∈L) | .o _=>true
 let a:aj->J Nat:=λr=>if G r then S r else []
 have c:∀r b,b∈a r->b∈S r:=λr b f=>by
  grind
 have own:∀b,bT a fl b->bT S fl b:=λb f=>f.imp (λ⟨r,e⟩=>⟨r,c r b e⟩) id
 have m:WS S fl w a fl w:=WS.stay own;have ext:Ext (am A k.H.length ρ S fl w) (am A k.H.length ρ a fl w):=m.ext (dC _) (λ_ _=>rfl)
 have get:∀r,G r=true->({ct,H:=k.H}:Wk).get r=k.get r:=λr e=>by
  grind [Wk.get,Go.Am.cont]
 have s:∀r,G r=false->({ct,H:=k.H}:Wk).get r=none/\∀n,r≠ .o n:=λr e=>by
  grind [Wk.get,Go.Am.cont]
 refine⟨a,⟨λr t l=> ?_,λr e z=> ?_,h.obj,λn ob C i=> ?_,⟨λr=> ?_,h.bw.ndF,λr y b f g=>h.bw.one r y b (c r b f) (c y b g),λr b f=>h.bw.cq r b (c r b f)⟩,m.bU h,by simp,h.fr,h.Fold,h.cP⟩,λu v I B=> ?_⟩
 .cases d:G r with
  |true=>
   rw[get r d]at l
   have:a r=S r:=by simp[a,d]
   rw[this];exact TC.ext ext _ _ _ (λ_ _=>rfl) (h.cont r t l)
  |false=>grind
 .cases d:G r with
  |true=>
   rw[get r d]at e
   have:a r=S r:=by simp[a,d]
   rw[this];exact h.gone r e z
  |false=>simp[a,d]
 .exact(h.map n ob C i).ext ext (λ_ _=>rfl) (by simp[a,G]) rfl
 .simp only[a];split
  .exact h.bw.nd r
  .simp
 .refine SO.on ext (λr=>G r=true) (λr q d=>h.hold _ (get r d) rfl (λ_ _=>rfl) q) (λn=>rfl) (λp E=> ?_) B
  grind
theorem Ja(live:J Nat)(f:Nat->SV)(t:Nat):look (live.map λt=>(t,f t)) t=if t∈live then some (f t)else none:=by
 induction live with
 |nil=>simp[look]
 |cons a r b=>
  grind [look]
theorem SR.prune{s:St}{a:Act}(i:SR A s a w)(live:J Nat):SR A (Go.Am.prune live s) a w:=by
 obtain⟨ρ,S,hd,h,f⟩:=i;obtain⟨g,e,c⟩:=h.forget (jZ (SV.cr ((live.map λt=>(t,s.get t)).map (·.2)))) (ct:=pick s.ct (jZ (SV.cr ((live.map λt=>(t,s.get t)).map (·.2))))) (λx=>rP _ x)
 refine⟨ρ,g,hd,e,λt=> ?_⟩
 have b:(Go.Am.prune live s).get t=if t∈live then s.get t else .dead:=by
  show(look (live.map λt=>(t,s.get t)) t).getD .dead=_
  rw[Ja]
  split <;>rfl
 rw[b];split
 .rename_i j
  refine c _ _ (λp d=> ?_) (f t)
  rw[nP];refine rO (u:=s.get t) ?_ d
  grind
 .trivial
end
theorem TC.lo'{A:Av}{ρ:Nat->Nat}{S:aj->J Nat}{fl:J Nat}{w:Wz}{n n2:Nat}{t:T}{cs:J Vz}{M:J Nat}(hl:n2=n\/t.low n2=true)(h:TC (am A n ρ S fl w) t cs M):TC ((am A n ρ S fl w).lo n2) t cs M:=by
 obtain rfl |hl:=hl
 .exact h
 grind [TC.lo]
theorem VV.lo'{A:Av}{ρ:Nat->Nat}{S:aj->J Nat}{fl:J Nat}{w:Wz}{n n2:Nat}{x:D}{v:Vz}(hl:n2=n\/x.low n2=true)(h:VV (am A n ρ S fl w) x v):VV ((am A n ρ S fl w).lo n2) x v:=by
 obtain rfl |hl:=hl
 .exact h
 .exact⟨VC.lo _ _ hl h.1,h.2⟩
section
variable{P:Pz}{A:Av}{ρ:Nat->Nat}{S:aj->J Nat}{hd:aj->Vz}{fl:J Nat}{k k':Wk}{ay:J (SV×Vz)}{w:Wz}
theorem KR.cut(h:KR A ρ S hd fl k ay w){n2:Nat}(hn:n2<=k.H.length)(hA:A.n0<=n2)(hl:n2=k.H.length\/∀ob∈k.H.take n2,ob.low n2=true):
  ∃f,KR A ρ f hd fl {ct:=[],H:=k.H.take n2} [] w/\Ext ((am A k.H.length ρ S fl w).lo n2) (am A n2 ρ f fl w):=by
 let G:aj->Bool:=λr=>match r with | .l _ _=>false | .o n=>decide (n<n2)
 let f:aj->J Nat:=λr=>if G r then S r else []
 have u:(k.H.take n2).length=n2:=by simp;omega
 have B:∀r b,b∈f r->b∈S r:=λr b O=>by
  grind
 have own:∀b,bT f fl b->bT S fl b:=λb O=>O.imp (λ⟨r,hr⟩=>⟨r,B r b hr⟩) id
 have ext:Ext ((am A k.H.length ρ S fl w).lo n2) (am A n2 ρ f fl w):=⟨λt g M=>⟨⟨λho=>M.1 (own g ho),M.2.1,M.2.2⟩,rfl⟩,dC _,λ_ _=>rfl⟩
 have d:∀n ob,n<n2->k.H[n]? =some ob->n2=k.H.length\/ob.low n2=true:=λn ob aa R=>hl.imp id (λhl=>hl ob (yS (i:=n) (by grind)))
 have P:∀n ob,(k.H.take n2)[n]? =some ob->n<n2/\k.H[n]? =some ob:=λn ob R=>by
  grind
 have ws:WS S fl w f fl w:=WS.stay own
 refine⟨f,⟨λr t C=> ?_,λr hr hm=> ?_,h.obj,λn ob R V=> ?_,⟨λr=> ?_,h.bw.ndF,λr r' b O Y=>h.bw.one r r' b (B r b O) (B r' b Y),λr b O=>h.bw.cq r b (B r b O)⟩,ws.bU h,by simp,h.fr,h.Fold,⟨by rw[u];exact hA,h.cP.2⟩⟩,ext⟩
 .rw[u]
  cases r with
  |l n j=>cases C
  |o n=>
   simp only[Wk.get,Go.Am.cont]at C
   split at C
   .rename_i c hc
    obtain⟨L,E⟩:=P n _ hc;have hk:k.get (.o n)=some t:=by simp only[Wk.get,Go.Am.cont,E];exact C
    have:f (.o n)=S (.o n):=by simp[f,G,L]
    rw[this];refine TC.ext ext _ _ _ (λ_ _=>rfl) (TC.lo' ?_ (h.cont _ t hk))
    obtain q |q:=d n _ L E
    .exact .inl q
    grind [T.low,T.aQ,Ob.low]
   .cases C
 .simp only[f]
  split
  .rename_i hg
   cases r with
   |l n j=>cases hg
   |o n=>
    simp only[G,yD]at hg
    refine h.gone _ ?_ (λn' ob e R=> ?_)
    .grind [Wk.get,Go.Am.cont]
    grind
  .rfl
 .rw[u]
  obtain⟨L,E⟩:=P n _ R;have hS:f (.o n)=S (.o n):=by simp[f,G,L]
  obtain⟨N,m1,Q⟩:=h.map n ob E V
  refine⟨N,hS.trans m1,?_⟩
  cases ob with
  |map X=>
   obtain⟨Z,U,I,K,q3⟩:=Q
   have z:∀a∈X,n2=k.H.length\/(a.1.low n2=true/\a.2.low n2=true):=λa D=>(d n _ L E).imp id (λq=>by
    grind [Ob.low])
   refine⟨Z,U,I,K.imp (λa D b q=>VV.ext ext (VV.lo' ((z a D).imp id (·.1)) q)),RetAll.imp _ _ _ (λt C cs M' _ h3=> ?_) q3⟩
   obtain⟨a,D,rfl⟩:=List.mem_map.1 C;exact TC.ext ext _ _ _ (λ_ _=>rfl) (TC.lo' ((z a D).imp id (·.2)) h3)
  |iter s p=>exact Q
  |bY m=>
   obtain⟨I,K,q3⟩:=Q
   refine⟨I,λo e=> ?_,q3⟩
   obtain q |q:=d n _ L E
   .show o<n2
    rw[q];exact K o e
   .subst e
    show o<n2
    grind [Ob.low]
  |frame g ps x y W ct=>
   obtain⟨r,I,K,q3,q4,q5,q6,q7⟩:=Q
   have z:n2=k.H.length\/((∀p∈W,p.2.low n2=true)/\∀p∈ct,p.2.low n2=true):=(d n _ L E).imp id (λq=>by
    grind [Ob.low])
   refine⟨r,I,K,q3,q4,q5,q6,q7.1.imp (λ_ _=>rfl) (λp M x v e q=>VV.ext ext (VV.lo' (z.imp id (λh=> ?_)) q)) (λp M cs M' _ q=>TC.ext ext _ _ _ (λ_ _=>rfl) (TC.lo' (z.imp id (λh=>h.2 p M)) q)),q7.2⟩
   have:=h.1 p M
   rw[e]at this
   exact this
  |sset ks=>
   obtain⟨X,Z,U,I,K,q3,q4⟩:=Q
   refine⟨X,Z,U,I,K.imp (λa D b q=>VV.ext ext (VV.lo' (.inr ?_) q)),RetAll.imp _ _ _ (λt C cs M' _ h3=> ?_) q3,q4⟩
   .obtain⟨s,_,rfl⟩:=q4.1 a D
    rfl
   .obtain⟨a,D,rfl⟩:=List.mem_map.1 C
    obtain⟨s,_,rfl⟩:=q4.1 a D;exact TC.ext ext _ _ _ (λ_ _=>rfl) (TC.lo' (.inr rfl) h3)
  |_=>trivial
 .simp only[f];split
  .exact h.bw.nd r
  .simp
theorem Ps(a:J T)(cs:Array Vz):qw (T.br a) (.agg cs):=by
 unfold T.br;split
 .exact⟨cs,rfl⟩
 .exact⟨cs,rfl⟩
theorem J7{c:Cx}{K:aj->U T}{nv:Nat}{v:SV}{val:Vz}{t:T}(hv:SO c K hd (aU k.tr v) val)(e:fV nv v k=some (t,k')):qw t val:=by
 by_cases f:∃l,v=.agg l
 .obtain⟨l,rfl⟩:=f
  simp only[fV,xM]at e
  obtain⟨⟨q,k1⟩,A,h⟩:=e;simp only[pJ]at h
  obtain⟨rfl,rfl⟩:=h;rw[Ek]at hv
  obtain⟨j,rfl,_⟩:=hv;exact Ps q j
 .have g:∀l,v≠ .agg l:=λl w=>f ⟨l,w⟩
  have a:dO nv (aU k.tr v) k=some (t,k'):=by
   revert e g
   cases v <;>intro e g <;>first |exact e |grind
  revert hv a
  generalize aU k.tr v=u;intro hv a
  cases u with
  |d x=>
   simp only[dO,xJ,pJ]at a
   obtain⟨rfl,rfl⟩:=a;exact hv.2
  |clip b l=>
   simp only[dO,xJ,pJ]at a
   obtain⟨rfl,rfl⟩:=a;exact VC.one _ _ hv.1
  |ns b=>
   simp only[dO,xJ,pJ]at a
   obtain⟨rfl,rfl⟩:=a;exact VC.one (c:=c) _ _ (Q6 hv)
  |aH r p n s=>
   have i:val.oneCell'=true:=by
    obtain⟨_,_,y,_,_,_,_,m⟩:=hv;obtain⟨_,_,_,_,_,_,rfl,_⟩:=m;rfl
   have o:(∀l,t≠ .d (.agg l))/\(∀l,t≠ .agg l):=by
    simp only[dO,xB]at a
    obtain⟨c0,_,z,_,a⟩:=a
    split at a
    .grind [xM,xB]
    .cases a
   cases t with
   |d x=>cases x <;>first |exact i |grind
   |agg l=>grind
   |_=>exact i
  |_=>simp[dO]at a
theorem zi:∀(l:J SV) (vs:J Vz) (j:J T) (k k':Wk) (S:aj->J Nat) (fl:J Nat),KR A ρ S hd fl k ay w->All2 (λu v=>(u,v)∈ay) l vs->kj l k=some (j,k')->
  ∃p M,KR A ρ p hd (M++fl) k' ay w/\Ext (am A k.H.length ρ S fl w) (am A k'.H.length ρ p (M++fl) w)/\RetAll (am A k'.H.length ρ p (M++fl) w) j vs M/\k'.H.length=k.H.length
 | [],vs,j,k,k',S,fl,h,a,e=>by
  simp only[kj,xJ,pJ]at e
  obtain⟨rfl,rfl⟩:=e;rw[show vs=[]from a]
  exact⟨S,[],by simpa using h,by simpa using(⟨λ_ _ s=>⟨s,rfl⟩,dC _,λ_ _=>rfl⟩:Ext _ _),⟨rfl,rfl⟩,rfl⟩
 |u::l,vs,j,k,k',S,fl,h,a,e=>by
  simp only[kj,xB,xM]at e
  obtain⟨⟨t,k1⟩,C,⟨n,k2⟩,E,y⟩:=e;simp only[pJ]at y
  obtain⟨rfl,rfl⟩:=y;obtain⟨v,r,rfl,x,K⟩:=a;obtain⟨S1,d,F,z,I,G⟩:=nQ h x C;have L:=J7 (h.ay _ x) C;obtain⟨O,f,N,i,B,H⟩:=zi l r n k1 k2 S1 (d++fl) F K E
  have c:(f++(d++fl)).Perm ((d++f)++fl):=by
   rw[xK];exact Ef f d fl
  obtain⟨q,m⟩:=N.perm c;rw[m]at i B
  refine⟨O,d++f,q,⟨λb g s=> ?_,fj z.nO i.nO,λo P=>rfl⟩,⟨v,r,d,f,rfl,rfl,TC.ext i _ _ _ (λ_ _=>rfl) I,L,B⟩,H.trans G⟩
  have D:=z.pm b g s;have Q:=i.pm b g D.1
  grind
theorem All2.tail1{d e:Type}{p:d->e->Prop}:∀(l:J d) (r:J e) (a:d) (b:e),All2 p l r->p a b->All2 p (l++[a]) (r++[b])
 | [],r,a,b,h,c=>by rw[show r=[]from h];exact⟨b,[],rfl,c,rfl⟩
 |x::l,r,a,b,h,c=>by
  obtain⟨y,q,rfl,f,g⟩:=h
  exact⟨y,_,rfl,f,All2.tail1 l q a b g c⟩
theorem All2.turned{a b:Type}{p:a->b->Prop}:∀(l:J a) (r:J b),All2 p l r->All2 p l.reverse r.reverse
 | [],r,h=>by rw[show r=[]from h];rfl
 |x::l,r,h=>by
  obtain⟨y,q,rfl,c,d⟩:=h;rw[List.reverse_cons,List.reverse_cons];exact All2.tail1 _ _ _ _ (All2.turned l q d) c
theorem RetAll.tail1{c:Cx}{t:T}{v:Vz}{N:J Nat}(h1:TC c t v.cells.toList N)(h2:qw t v):∀(a:J T) (vs:J Vz) (M:J Nat),RetAll c a vs M->RetAll c (a++[t]) (vs++[v]) (M++N)
 | [],vs,M,h=>by
  obtain⟨rfl,rfl⟩:=h
  exact⟨v,[],N,[],rfl,by simp,h1,h2,rfl,rfl⟩
 |u::a,vs,M,h=>by
  obtain⟨x,r,d,b,rfl,rfl,e,f,q3⟩:=h
  exact⟨x,_,d,b++N,rfl,by grind,e,f,RetAll.tail1 h1 h2 a r b q3⟩
theorem RetAll.turned{c:Cx}:∀(a:J T) (vs:J Vz) (M:J Nat),RetAll c a vs M->∃M',M.Perm M'/\RetAll c a.reverse vs.reverse M'
 | [],vs,M,h=>by
  obtain⟨rfl,rfl⟩:=h
  exact⟨[],List.Perm.refl _,rfl,rfl⟩
 |u::a,vs,M,h=>by
  obtain⟨x,r,b,d,rfl,rfl,g,i,q3⟩:=h;obtain⟨M',e,f⟩:=RetAll.turned a r d q3
  refine⟨M'++b,List.perm_append_comm.trans (e.append_right b),?_⟩
  grind [RetAll.tail1]
theorem Pt(l:J SV)(vs:J Vz)(c:J T)(k k':Wk)(S:aj->J Nat)(fl:J Nat)(h:KR A ρ S hd fl k ay w)(a:All2 (λu v=>(u,v)∈ay) l vs)(e:nB l k=some (c,k')):
  ∃b M,KR A ρ b hd (M++fl) k' ay w/\Ext (am A k.H.length ρ S fl w) (am A k'.H.length ρ b (M++fl) w)/\RetAll (am A k'.H.length ρ b (M++fl) w) c vs M/\k'.H.length=k.H.length:=by
 unfold nB at e
 split at e
 .unfold J1 at e
  simp only[xM,pJ]at e
  obtain⟨⟨j,k1⟩,m,rfl,rfl⟩:=e;obtain⟨b,M,f,r,g,p⟩:=zi l.reverse vs.reverse j k k1 S fl h (All2.turned _ _ a) m;obtain⟨o,i,d⟩:=RetAll.turned _ _ _ g;rw[List.reverse_reverse]at d
  obtain⟨n,q⟩:=f.perm (i.append_right fl)
  grind
 grind [zi]
theorem Wg{v:Vz}{t:TypeId}{val:Vz}(h:(Instr.loadAt t v).run P w=.ok val w):((do loadVar t (<-asAddr v)):Sem Vz).run P w=.ok val w:=by
 cases v with
 |pointer a=>
  cases a with
  |some a=>exact h
  |none=>simp_all [Instr.loadAt,Instr.sureAddr]
 |_=>simp_all [Instr.loadAt,Instr.sureAddr]
end
end Go.Am
namespace Go.Am
open Go
theorem rQ{r x:SV×Wk}(e:jY r=some x):r=x/\x.1.bO=false:=by
 grind [jY]
theorem rR{l:J Oz}{a τ:Oz->SV}(h:∀x∈l,a x=τ x):l.map a=l.map τ:=lY h
theorem Dd{l:J (Nat×Oz)}{a τ:Oz->SV}(h:∀x∈l.map (·.2),a x=τ x):l.map (λp=>(p.1,a p.2))=l.map (λp=>(p.1,τ p.2)):=
 lY λp b=>by grind
section
variable{P:Pz}{call:dH}{h:Hint}{dst:Nat}{ty:TypeId}
theorem Ts(op:Op){g τ:Oz->SV}(k:Wk)(hx:∀x∈op.operands,g x=τ x):opE P h dst ty op g k=opE P h dst ty op τ k:=by
 unfold opE
 cases op <;>simp only[Op.operands]at hx <;>simp only
 case build t ps=>rw[Dd λx f=>hx x (by simpa using f)]
 case buildSlice t n ps=>rw[Dd λx f=>hx x (by simpa using f)]
 case makeFunc fn a c=>grind [rR]
 case makeMap t r=>grind
 case slice t x lo hi mx=>cases lo <;>cases hi <;>cases mx <;>simp_all
 case load t a=>
  have:=hx a (by simp)
  cases a <;>simp_all
 case call c=>
  obtain⟨d,e,i⟩:=c;have j:e.toList.map g=e.toList.map τ:=rR λx f=>hx x (by grind [Call.operands])
  cases d with
  |builtin b=>
   cases b <;>simp only
   all_goals
    grind
  |_=>rfl
 all_goals grind
theorem nR{u:SV}:(bD u).ba=u.ba:=by
 unfold bD;split
 .rfl
 .rfl
 .rfl
theorem AM{t:TypeId}{u:SV}{k k2:Wk}(hr:∀r∈u.ba,k2.get r=k.get r):hJ P t u k2=hJ P t u k:=by
 grind [nR,hJ,SV.ba]
theorem Nc{k k2:Wk}{r:aj}{p:dR}{i off:Nat}(hr:k2.get r=k.get r):o5 k2 r p i off=o5 k r p i off:=by
 grind [o5]
theorem Wi{n:Nat}{k k2:Wk}{r:aj}{p:dR}{o m:Nat}(hr:k2.get r=k.get r):tC n r p o m k2=tC n r p o m k:=by
 grind [tC]
theorem Iw{t:TypeId}{u:SV}{f:Nat}{k k2:Wk}(hr:∀r∈u.ba,k2.get r=k.get r):eL P t u f k2=eL P t u f k:=by
 grind [nR,eL,Nc,SV.ba]
theorem Ix{t:TypeId}{u i:SV}{k k2:Wk}(hr:∀r∈u.ba,k2.get r=k.get r):gU P t u i k2=gU P t u i k:=by
 unfold gU;split
 .split
  .grind [SV.ba]
  .grind [nR,Nc,SV.ba]
  .rfl
 .rfl
theorem Tt{t:TypeId}{u:SV}{lo hi a:U SV}{k k2:Wk}(hr:∀r∈u.ba,k2.get r=k.get r):kx P t u lo hi a k2=kx P t u lo hi a k:=by
 unfold kx;split
 .rfl
 .rfl
 .rfl
 .rename_i r p b c
  have:∀n o m,tC n r p o m k2=tC n r p o m k:=λn o m=>Wi (hr r (by simp[SV.ba]))
  simp_all
 .rfl
theorem Pu{t:TypeId}{m key:SV}{b:Bool}{H a:J Ob}(hr:a=H\/m.ba.any aj.cF=false):nA P t m key b a=nA P t m key b H:=by
 grind [nA,SV.ba,aj.cF]
theorem D_{t:TypeId}{u:SV}{H a:J Ob}(hr:a=H\/u.ba.any aj.cF=false):F9 P t a u=F9 P t H u:=by
 obtain rfl |hr:=hr
 .rfl
 .unfold F9
  grind [SV.ba,aj.cF]
theorem Nd{nv:Nat}{x:D}{k:Wk}:fV nv (.d x) k=some (.d x,k):=by
 simp only[fV,ack,dO]
theorem Jb{nv:Nat}:∀(l:J (Nat×SV)) (k:Wk),l.all (λp=>isD p.2)=true->∃a,∀k,gm nv l k=some (a,k)
 | [],k,_=>⟨[],λ_=>rfl⟩
 |(i,v)::l,k,h=>by
  simp only[kU,xA]at h
  obtain⟨a,b⟩:=Jb (nv:=nv) l k h.2
  cases v with
  |d x=>exact⟨(i,.d x)::a,λk=>by grind [gm,Nd]⟩
  |_=>simp[isD]at h
theorem GQ{op:Op}{s:Oz->SV}{k k':Wk}{v:SV}(hc:∀c,op=.call c->∃b,c.callee=.builtin b)(j:fY h dst op=false)(e:opE P h dst ty op s k=some (v,k')):
  k'=k/\∀k2:Wk,(reads op=true->∀x∈op.operands,∀r∈(s x).ba,k2.get r=k.get r)->(reads op=true->k2.H=k.H\/∀x∈op.operands,(s x).ba.any aj.cF=false)->opE P h dst ty op s k2=some (v,k2):=by
 unfold opE at e |-
 cases op <;>simp only[fY,Bool.true_eq_false]at j <;>simp only[Op.operands]at e |-
 case move x=>grind
 case pick c a b=>split at e <;>simp only[xJ,pJ,reduceCtorEq]at e;grind
 case build t ps=>grind [xM]
 case buildSlice t n ps=>
  simp only[Bool.not_eq_false']at j
  rw[j]at e |-
  simp only[gd,xB]at e |-
  obtain⟨ty,F,z,C,⟨K,k1⟩,h3,e⟩:=e
  split at e
  .rename_i u
   simp only[xB,if_true]at e
   obtain⟨H,A,e⟩:=e
   split at e
   .rename_i p
    obtain⟨B,w⟩:=Jb (nv:=h.nv) _ k p;rw[w k]at h3
    simp only[xJ,pJ]at h3
    obtain⟨rfl,rfl⟩:=h3;simp only[xM,pJ]at e
    obtain⟨I,D,rfl,rfl⟩:=e
    refine⟨rfl,λk2 _ _=>⟨ty,F,z,C,(B,k2),w k2,?_⟩⟩
    grind
   .cases e
  .cases e
 case load t a=>
  cases a with
  |global g=>
   simp only[xB]at e
   grind [xM,AM,SV.ba]
  |_=>
   simp only[j,xH,if_false]at e |-
   simp only[xM,pJ]at e;obtain⟨_,d,rfl,rfl⟩:=e
   exact⟨rfl,λk2 l _=>by rw[AM (l rfl _ (by simp)),d];rfl⟩
 case nilCheck x=>split at e <;>simp only[xJ,pJ,reduceCtorEq]at e <;>(grind)
 case binOp=>grind [xM]
 case unOp=>grind [xM]
 case convert=>grind [xM]
 case makeFunc f a c=>
  grind [xB,xM]
 case slice t x lo hi mx=>
  simp only[xM,pJ]at e;obtain⟨_,d,rfl,rfl⟩:=e
  exact⟨rfl,λk2 l _=>by rw[Tt (l rfl x (by simp)),d];rfl⟩
 case fieldAddr t x f=>
  simp only[xM,pJ]at e;obtain⟨_,d,rfl,rfl⟩:=e
  exact⟨rfl,λk2 l _=>by rw[Iw (l rfl x (by simp)),d];rfl⟩
 case field=>grind [xM]
 case indexAddr t x i=>
  simp only[xM,pJ]at e;obtain⟨_,d,rfl,rfl⟩:=e
  exact⟨rfl,λk2 l _=>by rw[Ix (l rfl x (by simp)),d];rfl⟩
 case index=>grind [xM]
 case lookup t m key ok=>
  simp only[rk]at j
  simp only[j.1,j.2,xH,if_false]at e |-
  simp only[xM,pJ]at e;obtain⟨_,d,rfl,rfl⟩:=e
  exact⟨rfl,λk2 _ u=>by rw[Pu ((u rfl).imp id λq=>q m (by simp)),d];rfl⟩
 case extract x n=>
  split at e
  .grind [xM]
  .cases e
 case call c=>
  obtain⟨b,y⟩:=hc c rfl;obtain⟨callee,o,G⟩:=c;simp only at y;subst y
  cases b <;>simp only[fY,Bool.true_eq_false]at j
  case len=>
   simp only at e |-
   split at e
   .rename_i x t E J
    simp only[xM,pJ]at e
    obtain⟨n,d,rfl,rfl⟩:=e
    refine⟨rfl,λk2 _ u=> ?_⟩
    rw[D_ ((u rfl).imp id λq=>q x ?_),d]
    .rfl
    .have:x∈o:=by rw[<-rl,E];simp
     simp[Call.operands,this]
   .cases e
  case min=>
   simp only at e |-
   split at e
   .grind [xM]
   .cases e
  case max=>
   simp only at e |-
   split at e
   .grind [xM]
   .cases e
end
structure Grown(b:Prop)(k k':Wk):Prop where
 ct:∃pre,k'.ct=pre++k.ct
 H:b->k'.H=k.H
theorem Grown.refl(b:Prop)(k:Wk):Grown b k k:=⟨⟨[],rfl⟩,λ_=>rfl⟩
theorem Grown.trans{b:Prop}{k k1 k2:Wk}(x:Grown b k k1)(y:Grown b k1 k2):Grown b k k2:=by
 obtain⟨p,a⟩:=x.ct;obtain⟨q,c⟩:=y.ct
 exact⟨⟨q++p,by grind⟩,λh=>(y.H h).trans (x.H h)⟩
theorem Grown.tell{b:Prop}{k k':Wk}(h:Grown b k k')(x:Tr):Grown b k (k'.tell x):=⟨h.ct,h.H⟩
theorem Grown.new{b:Prop}{k k':Wk}(h:Grown b k k')(n j:Nat)(t:T):Grown b k (k'.new n j t):=by
 obtain⟨p,a⟩:=h.ct
 exact⟨⟨((n,j),t)::p,by simp[Wk.new,a]⟩,h.H⟩
theorem Grown.imp{b c:Prop}{k k':Wk}(h:Grown b k k')(f:c->b):Grown c k k':=⟨h.ct,λhc=>h.H (f hc)⟩
theorem Grown.set{k k':Wk}{r:aj}{t:T}(h:k.set r t=some k'):Grown (r.cF=false) k k':=by
 cases r with
 |l n j=>simp only[Wk.set,xJ]at h;subst h;exact⟨⟨[((n,j),t)],rfl⟩,λ_=>rfl⟩
 |o n=>
  simp only[Wk.set]at h
  split at h
  .simp only[xJ]at h;subst h;exact⟨⟨[],rfl⟩,λh=>by cases h⟩
  .cases h
abbrev dj(v:SV):Prop:=v.ba.any aj.cF=false
theorem dj.aH{r:aj}{p:dR}{o l:Nat}:dj (.aH r p o l)↔r.cF=false:=by simp[dj,SV.ba]
theorem dj.loc{r:aj}{p:dR}{i o:Nat}:dj (.loc r p i o)↔r.cF=false:=by simp[dj,SV.ba]
theorem Nf{f:aj->Bool}:∀(l:J SV),(SV.rtss l).any f=false↔∀v∈l,v.ba.any f=false
 | []=>by simp[SV.rtss]
 |v::l=>by simp only[SV.rtss,List.any_append,rk,Nf l,List.forall_mem_cons]
mutual
theorem Tr.noO(x:Tr):∀(v:SV),dj v->dj (x.sv v)
 | .d y,h=>by cases x <;>exact h
 | .aH r p o l,h=>by
  rw[dj.aH]at h
  cases x <;>simp only[Tr.sv] <;>(repeat' split) <;>first |(simp[dj,SV.ba,aj.cF];done) |(rw[dj.aH];exact h)
 | .loc r p i o,h=>by
  rw[dj.loc]at h
  cases x <;>simp only[Tr.sv] <;>(repeat' split) <;>first |(simp[dj,SV.ba,aj.cF];done) |(rw[dj.loc];exact h) |simp_all
 |.rp _ _,h|.clip _ _,h|.ns _,h|.dead,h=>by cases x <;>exact h
 | .agg l,h=>by
  have:x.sv (.agg l)=.agg (Tr.bG x l):=by cases x <;>rfl
  rw[this];exact Tr.noOs x l h
 | .aS l,h=>by
  have:x.sv (.aS l)=.aS (Tr.bG x l):=by cases x <;>rfl
  rw[this];exact Tr.noOs x l h
theorem Tr.noOs(x:Tr):∀(l:List SV),(SV.rtss l).any aj.cF=false->(SV.rtss (Tr.bG x l)).any aj.cF=false
 | [],h=>h
 |v::l,h=>by
  simp only[SV.rtss,Tr.bG,List.any_append,rk]at h |-
  exact⟨Tr.noO x v h.1,Tr.noOs x l h.2⟩
end
theorem AN:∀(a:J Tr) (v:SV),dj v->dj (aU a v)
 | [],_,h=>h
 |x::a,v,h=>AN a _ (Tr.noO x v h)
theorem xd{nv:Nat}{v:SV}{k k':Wk}{t:T}(e:dO nv v k=some (t,k')):Grown (dj v) k k':=by
 cases v with
 |d x=>simp only[dO,xJ,pJ]at e;rw[<-e.2];exact .refl _ _
 |clip b l=>simp only[dO,xJ,pJ]at e;rw[<-e.2];exact .refl _ _
 |ns b=>simp only[dO,xJ,pJ]at e;rw[<-e.2];exact .refl _ _
 |aH r p f g=>
  simp only[dO,xB]at e
  obtain⟨c,_,h,_,e⟩:=e
  split at e
  .split at e
   .split at e
    .simp only[xM,pJ]at e
     obtain⟨k1,a,_,rfl⟩:=e
     exact((Grown.set a).tell _).imp dj.aH.1
    .simp only[xB,xM,pJ]at e
     obtain⟨_,_,k1,a,_,rfl⟩:=e
     exact((Grown.set a).tell _).imp dj.aH.1
   .simp only[xB,xM,pJ]at e
    obtain⟨_,_,_,_,k1,a,_,rfl⟩:=e
    exact((Grown.set a).tell _).imp dj.aH.1
  .cases e
 |_=>simp[dO]at e
theorem xe{nv:Nat}:∀(l:J SV) {k k':Wk} {a:J T},gH nv l k=some (a,k')->Grown (∀v∈l,dj v) k k'
 | [],k,k',a,e=>by simp only[gH,xJ,pJ]at e;rw[<-e.2];exact .refl _ _
 |v::l,k,k',a,e=>by
  simp only[gH,xB,xM,pJ]at e
  obtain⟨⟨t,k1⟩,f,⟨c,k2⟩,d,_,rfl⟩:=e
  exact((xd f).imp λh=>AN _ _ (h v (by simp))).trans ((xe l d).imp λh u b=>h u (by simp[b]))
theorem ig{nv:Nat}{v:SV}{k k':Wk}{t:T}(e:fV nv v k=some (t,k')):Grown (dj v) k k':=by
 by_cases a:∃l,v=.agg l
 .obtain⟨l,rfl⟩:=a
  simp only[fV,xM,pJ]at e
  obtain⟨⟨d,k1⟩,c,_,rfl⟩:=e
  exact(xe l c).imp λh=>(Nf l).1 h
 .have b:dO nv (aU k.tr v) k=some (t,k'):=by
   revert e a
   cases v <;>intro e a <;>first |exact e |grind
  exact(xd b).imp (AN _ _)
theorem xf{nv:Nat}:∀(l:J (Nat×SV)) {k k':Wk} {a:J (Nat×T)},gm nv l k=some (a,k')->Grown (∀v∈l,dj v.2) k k'
 | [],k,k',a,e=>by simp only[gm,xJ,pJ]at e;rw[<-e.2];exact .refl _ _
 |(i,v)::l,k,k',a,e=>by
  simp only[gm,xB,xM,pJ]at e
  obtain⟨⟨t,k1⟩,f,⟨b,k2⟩,c,_,rfl⟩:=e
  exact((ig f).imp λh=>h (i,v) (by simp)).trans ((xf l c).imp λh u d=>h u (by simp[d]))
theorem xg{nv:Nat}{v:SV}{k k':Wk}{t:T}(e:jD nv v k=some (t,k')):Grown (dj v) k k':=by
 grind [jD,xM,ig]
theorem Tu{v:SV}(h:dj v):dj (bD v):=by grind [nR]
section
variable{P:Pz}{h:Hint}{dst:Nat}{ty:TypeId}
theorem J8{nv:Nat}{t:TypeId}{a v:SV}{k k':Wk}(e:mT P nv t a v k=some k'):Grown (dj a/\dj v) k k':=by
 simp only[mT,xB]at e
 obtain⟨⟨x,k1⟩,j,e⟩:=e;have h:=(xg j).imp (c:=dj a/\dj v) (·.2);simp only at e
 split at e
 .rename_i r p i d m
  split at e
  .simp only[xB]at e
   obtain⟨c,_,n,_,e⟩:=e
   split at e
   .simp only[xB]at e
    obtain⟨l,_,e⟩:=e
    split at e
    .simp only[xB,xM]at e
     obtain⟨c',_,k2,f,rfl⟩:=e
     have g:dj a/\dj v->r.cF=false:=λq=>by
      grind [Tu,AN,dj.loc]
     have b:=h.trans ((Grown.set f).imp g);split
     .exact b.tell _
     .exact b
    .cases e
   .cases e
  .cases e
 .cases e
theorem J9{r:aj}{p:dR}{off:Nat}{xs:J D}{k k':Wk}(e:lH r p off xs k=some k'):Grown (r.cF=false) k k':=by
 unfold lH at e
 split at e
 .simp only[xJ]at e;rw[<-e];exact .refl _ _
 grind [xB,Grown.set]
theorem Ng{t:TypeId}{a b v:SV}{k k':Wk}(e:nZ P t a b k=some (v,k')):Grown (dj a) k k':=by
 unfold nZ at e
 split at e
 .grind [xB,xM,J9,dj.aH]
 .cases e
theorem Nh{nv:Nat}{v:SV}{k k':Wk}{l:J T}(e:gc nv v k=some (l,k')):Grown True k k':=by
 cases v with
 |d x=>cases x <;>simp only[gc,xJ,pJ,reduceCtorEq]at e <;>(rw[<-e.2];exact .refl _ _)
 |clip b l=>simp only[gc,xJ,pJ]at e;rw[<-e.2];exact .refl _ _
 |ns b=>simp only[gc,xJ,pJ]at e;rw[<-e.2];exact .refl _ _
 |aH r p a g=>
  simp only[gc,xB]at e
  obtain⟨c,_,h,_,e⟩:=e
  split at e
  .split at e
   .split at e
    .simp only[xM,pJ]at e
     obtain⟨k1,f,_,rfl⟩:=e
     exact((Grown.set f).imp λ_=>rfl).tell _
    .split at e
     .simp only[xJ,pJ]at e;rw[<-e.2];exact .refl _ _
     .cases e
   .split at e
    .simp only[xJ,pJ]at e;rw[<-e.2];exact .refl _ _
    .cases e
  .cases e
 |_=>simp[gc]at e
theorem Iy{nv:Nat}{t:TypeId}{s x v:SV}{k k':Wk}(e:iA P nv dst t s x k=some (v,k')):Grown (dj s) k k':=by
 simp only[iA,qs,xB]at e
 obtain⟨g,_,z,_,⟨b,k1⟩,l,e⟩:=e;have i:=(Nh l).imp (c:=dj s) λ_=>trivial
 split at e
 .simp only[xB]at e
  obtain⟨⟨d,k2⟩,a,e⟩:=e
  have f:Grown (dj s) k1 k2:=by
   split at a
   .simp only[xJ,pJ]at a;rw[<-a.2];exact .refl _ _
   .simp only[xJ,pJ]at a;rw[<-a.2];exact .refl _ _
   .rename_i r p h j n
    split at a
    .simp only[xB]at a
     obtain⟨c,_,o,_,a⟩:=a
     split at a
     .split at a
      .simp only[xB,xM,pJ]at a
       obtain⟨c',_,m,h3,_,rfl⟩:=a
       refine((Grown.set h3).imp λq=> ?_).tell _
       grind [AN,dj.aH]
      .cases a
     .cases a
    .cases a
   .cases a
  simp only at e
  split at e
  .simp only[xJ,pJ]at e
   rw[<-e.2]
   exact(i.trans f).new _ _ _
  .cases e
 .cases e
theorem Wj{t:TypeId}{m x v:SV}{k k':Wk}(e:Gb P dst t m x k=some (v,k')):∃a,k'.ct=a++k.ct:=by simp[Gb]at e
theorem Nj{t:TypeId}{m x v:SV}{k k':Wk}(e:nY P t m x k=some (v,k')):k'.ct=k.ct:=by simp[nY]at e
theorem Wl{v u:SV}{k k':Wk}(e:t6 dst v k=some (u,k')):∃a,k'.ct=a++k.ct:=by
 unfold t6 at e
 split at e
 .simp only[xB]at e
  obtain⟨c,_,f,_,e⟩:=e
  split at e
  .split at e
   .simp only[xB,xM,pJ]at e
    obtain⟨c',_,k1,b,_,rfl⟩:=e;obtain⟨a,d⟩:=(Grown.set b).ct
    exact⟨_::a,congrArg (List.cons _) d⟩
   .cases e
  .cases e
 .cases e
theorem xh{b:Bool}{x:SV}{k k':Wk}{v:SV}(e:ff dst b x k=some (v,k')):Grown True k k':=by
 unfold ff at e
 split at e
 .split at e <;>simp only[xJ,pJ]at e <;>rw[<-e.2]
  .exact(Grown.refl _ _).new _ _ _
  .exact .refl _ _
 .split at e
  .simp only[xJ,pJ]at e;rw[<-e.2];exact .refl _ _
  .simp only[xB]at e
   obtain⟨c,_,e⟩:=e
   split at e
   .split at e <;>simp only[xJ,pJ]at e <;>rw[<-e.2]
    .refine(Grown.new ?_ _ _ _).tell _
     exact⟨⟨[_],rfl⟩,λ_=>rfl⟩
    .exact .refl _ _
   .cases e
 .simp only[xJ,pJ]at e;rw[<-e.2];exact .refl _ _
theorem Tv{op:Op}{B:Oz->SV}{k k':Wk}{v:SV}(e:opE P h dst ty op B k=some (v,k')):Grown (hOf h dst op=false/\∀x∈op.operands,dj (B x)) k k':=by
 unfold opE at e
 cases op <;>simp only at e
 case move x=>simp only[xJ,pJ]at e;rw[<-e.2];exact .refl _ _
 case assign x=>exact(xh e).imp λ_=>trivial
 case pick c a b=>split at e <;>simp only[xJ,pJ,reduceCtorEq]at e;rw[<-e.2];exact .refl _ _
 case alloc t=>
  simp only[xB]at e
  obtain⟨z,_,e⟩:=e;unfold Gc at e
  split at e
  .cases e
  .split at e <;>simp only[xJ,pJ]at e <;>rw[<-e.2]
   .rename_i s;exact⟨⟨[],rfl⟩,λq=>by simp[hOf,s]at q;exact absurd s (by simp[q.1])⟩
   .exact(Grown.refl _ _).new _ _ _
 case box t x=>
  simp only[xB]at e
  obtain⟨⟨y,k1⟩,d,e⟩:=e;have w:=xg d;simp only at e
  split at e
  .unfold Gc at e
   split at e
   .cases e
   .split at e <;>simp only[xJ,pJ]at e <;>rw[<-e.2]
    .rename_i s;exact⟨w.ct,λq=>by simp[hOf,s]at q;exact absurd s (by simp[q.1])⟩
    .exact(w.imp λq=>q.2 x (by simp[Op.operands])).new _ _ _
  .cases e
 case build t ps=>simp only[xM,pJ]at e;obtain⟨_,_,_,rfl⟩:=e;exact .refl _ _
 case buildSlice t n ps=>
  simp only[gd,xB]at e
  obtain⟨D,_,z,_,⟨K,k1⟩,h3,e⟩:=e
  have w:=(xf _ h3).imp (c:=hOf h dst (.buildSlice t n ps)=false/\∀x∈(Op.buildSlice t n ps).operands,dj (B x)) (λq u C=>by
   simp only[jC]at C
   obtain⟨p,F,rfl⟩:=C
   exact q.2 p.2 (by simp only[Op.operands,List.mem_toArray,jC];exact⟨p,F,rfl⟩))
  split at e
  .simp only[xB]at e
   obtain⟨J,_,e⟩:=e
   split at e
   .split at e
    .simp only[xM,pJ]at e;obtain⟨_,_,_,rfl⟩:=e;exact w
    .cases e
   .simp only[xJ,pJ]at e;rw[<-e.2];exact w.new _ _ _
  .cases e
 case load t a=>
  cases a with
  |global g=>
   simp only[xB]at e
   obtain⟨_,_,e⟩:=e
   split at e
   .simp only[xM,pJ]at e
    obtain⟨_,_,_,rfl⟩:=e;exact .refl _ _
   .cases e
  |_=>
   simp only at e
   split at e
   .simp only[xB]at e
    obtain⟨u,_,e⟩:=e
    exact⟨Wl e,λq=>by simp[hOf]at q⟩
   .simp only[xM,pJ]at e;obtain⟨_,_,_,rfl⟩:=e;exact .refl _ _
 case range t x=>
  refine⟨?_,λq=>by simp[hOf]at q⟩
  unfold uc at e
  split at e
  .simp only[xJ,pJ]at e;rw[<-e.2];exact⟨[],rfl⟩
  .simp only[xJ,pJ]at e;rw[<-e.2];exact⟨[],rfl⟩
  .split at e
   .simp only[xJ,pJ]at e;rw[<-e.2];exact⟨[],rfl⟩
   .cases e
  .cases e
 case next x G=>
  refine⟨?_,λq=>by simp[hOf]at q⟩
  unfold CZ at e
  split at e
  .split at e
   .split at e
    .simp only[xJ,pJ]at e;rw[<-e.2];exact⟨[],rfl⟩
    .simp only[xJ,pJ]at e;rw[<-e.2];exact⟨[],rfl⟩
   .simp only[xJ,pJ]at e;rw[<-e.2];exact⟨[],rfl⟩
   .split at e
    .simp only[xJ,pJ]at e;rw[<-e.2];exact⟨[],rfl⟩
    .cases e
   .cases e
  .cases e
 case store t a x=>
  simp only[xM,pJ]at e
  obtain⟨k1,d,_,rfl⟩:=e
  exact(J8 d).imp λq=>⟨q.2 a (by simp[Op.operands]),q.2 x (by simp[Op.operands])⟩
 case nilCheck x=>split at e <;>simp only[xJ,pJ,reduceCtorEq]at e <;>(rw[<-e.2];exact .refl _ _)
 case makeMap t r=>
  cases r with
  |none=>simp only[xJ,pJ]at e;rw[<-e.2];exact⟨⟨[],rfl⟩,λq=>by simp[hOf]at q⟩
  |some n=>
   simp only at e
   split at e
   .simp only[xJ,pJ]at e;rw[<-e.2];exact⟨⟨[],rfl⟩,λq=>by simp[hOf]at q⟩
   .cases e
 case makeSlice t l c=>
  unfold Ga at e
  split at e
  .simp only[xB]at e
   obtain⟨_,_,_,_,e⟩:=e
   split at e
   .simp only[xJ,pJ]at e;rw[<-e.2];exact(Grown.refl _ _).new _ _ _
   .cases e
  .cases e
 case makeFunc f a c=>
  simp only[xB,xM,pJ]at e
  obtain⟨_,_,_,_,_,rfl⟩:=e;exact .refl _ _
 case extract x n=>
  split at e
  .simp only[xM,pJ]at e;obtain⟨_,_,_,rfl⟩:=e;exact .refl _ _
  .cases e
 case lookup t m key ok=>
  refine⟨?_,λq=>by simp[hOf]at q⟩
  split at e
  .split at e
   .cases e
   .exact Wj e
  split at e
  .split at e
   .cases e
   .exact⟨[],by simpa using Nj e⟩
  simp only[xM,pJ]at e
  obtain⟨_,_,_,rfl⟩:=e
  exact⟨[],rfl⟩
 case mapUpdate t m key x=>
  simp only[xM,pJ]at e
  obtain⟨k1,d,_,rfl⟩:=e;simp only[hD,xB]at d
  obtain⟨⟨H,_⟩,_,d⟩:=d
  refine⟨?_,λq=>by simp[hOf]at q⟩
  simp only at d
  split at d
  .split at d
   .simp only[xB]at d
    obtain⟨⟨y,k2⟩,o,d⟩:=d;simp only at d
    split at d
    .simp only[xM]at d
     obtain⟨_,_,rfl⟩:=d
     exact(ig o).ct
    .simp only[xM]at d
     obtain⟨_,_,rfl⟩:=d
     exact(ig o).ct
    .simp only[xM]at d
     obtain⟨_,_,rfl⟩:=d
     exact(ig o).ct
    .cases d
   .cases d
  .cases d
 case insert t m key x=>
  simp only[xM,pJ]at e
  obtain⟨k1,d,_,rfl⟩:=e;simp only[hD,xB]at d
  obtain⟨⟨H,_⟩,_,d⟩:=d
  refine⟨?_,λq=>by simp[hOf]at q⟩
  simp only at d
  split at d
  .split at d
   .simp only[xB]at d
    obtain⟨⟨y,k2⟩,o,d⟩:=d;simp only at d
    split at d
    .simp only[xM]at d
     obtain⟨_,_,rfl⟩:=d
     exact(ig o).ct
    .simp only[xM]at d
     obtain⟨_,_,rfl⟩:=d
     exact(ig o).ct
    .simp only[xM]at d
     obtain⟨_,_,rfl⟩:=d
     exact(ig o).ct
    .cases d
   .cases d
  .cases d
 case call c=>
  obtain⟨i,j,I⟩:=c
  cases i with
  |builtin b=>
   cases b <;>simp only[reduceCtorEq]at e
   case len=>
    split at e
    .simp only[xM,pJ]at e;obtain⟨_,_,_,rfl⟩:=e;exact .refl _ _
    .cases e
   case min=>
    split at e
    .simp only[xM,pJ]at e;obtain⟨_,_,_,rfl⟩:=e;exact .refl _ _
    .cases e
   case max=>
    split at e
    .simp only[xM,pJ]at e;obtain⟨_,_,_,rfl⟩:=e;exact .refl _ _
    .cases e
   case copy=>
    split at e
    .rename_i x y t u A E
     refine(Ng e).imp λq=>q.2 x ?_
     have:x∈j:=by rw[<-rl,A];simp
     simp[Op.operands,Call.operands,this]
    .cases e
   case append=>
    split at e
    .rename_i x y t u A E
     split at e
     .refine(Iy e).imp λq=>q.2 x ?_
      have:x∈j:=by rw[<-rl,A];simp
      simp[Op.operands,Call.operands,this]
     .cases e
    .cases e
  |_=>simp at e
 all_goals first |(cases e;done) |(simp only[xM,pJ]at e;obtain⟨_,_,_,rfl⟩:=e;exact .refl _ _)
theorem De{nv:Nat}{v:SV}{k k':Wk}{b b':bn}{x:D}(e:fJ nv v k b=some (x,k',b')):Grown True k k':=by
 cases v with
 |d x=>simp only[fJ,xJ,pJ]at e;rw[<-e.2.1];exact .refl _ _
 |clip t l=>simp only[fJ,xJ,pJ]at e;rw[<-e.2.1];exact .refl _ _
 |ns b=>simp only[fJ,xJ,pJ]at e;rw[<-e.2.1];exact .refl _ _
 |aH r p a g=>
  simp only[fJ,xB]at e
  obtain⟨c,_,h,_,e⟩:=e
  split at e
  .split at e
   .simp only[xJ,pJ]at e;rw[<-e.2.1];exact .refl _ _
   split at e
   .split at e
    .simp only[xB,xM,pJ]at e
     obtain⟨l,_,k1,f,_,rfl,_⟩:=e
     exact((Grown.set f).imp λ_=>rfl).tell _
    .simp only[xM,pJ]at e;obtain⟨_,_,_,rfl,_⟩:=e;exact .refl _ _
   .simp only[xM,pJ]at e;obtain⟨_,_,_,rfl,_⟩:=e;exact .refl _ _
   .simp only[xM,pJ]at e;obtain⟨_,_,_,rfl,_⟩:=e;exact .refl _ _
  .cases e
 |_=>simp[fJ]at e
theorem Df{nv:Nat}:∀(l:J SV) {k k':Wk} {b b':bn} {xs:J D},lD nv l k b=some (xs,k',b')->Grown True k k'
 | [],k,k',b,b',xs,e=>by simp only[lD,xJ,pJ]at e;rw[<-e.2.1];exact .refl _ _
 |v::l,k,k',b,b',xs,e=>by
  simp only[lD,xB,xM,pJ]at e
  obtain⟨⟨x,k1,g⟩,c,⟨d,k2,f⟩,a,_,rfl,_⟩:=e
  exact(De c).trans (Df l a)
theorem Pv{nv:Nat}{v:SV}{k k':Wk}{b b':bn}{x:D}(e:wS nv v k b=some (x,k',b')):Grown True k k':=by
 by_cases a:∃l,v=.agg l
 .grind [wS,xM,Df]
 .have c:fJ nv (aU k.tr v) k b=some (x,k',b'):=by
   revert e a
   cases v <;>intro e a <;>first |exact e |grind
  exact De c
theorem uq{nv:Nat}:∀(l:J SV) {k k':Wk} {b b':bn} {xs:J D},gV nv l k b=some (xs,k',b')->Grown True k k'
 | [],k,k',b,b',xs,e=>by simp only[gV,xJ,pJ]at e;rw[<-e.2.1];exact .refl _ _
 |v::l,k,k',b,b',xs,e=>by
  simp only[gV,xB,xM,pJ]at e
  obtain⟨⟨x,k1,g⟩,c,⟨d,k2,f⟩,a,_,rfl,_⟩:=e
  exact(Pv c).trans (uq l a)
theorem pQ{j a:Nat}{t:T}{k k':Wk}{v:SV}(e:gp dst j t k=some (v,a,k')):Grown True k k':=by
 cases t <;>simp only[gp,xJ,pJ,reduceCtorEq]at e <;>rw[<-e.2.2]
 .exact .refl _ _
 .exact(Grown.refl _ _).new _ _ _
theorem ur:∀(l:J T) {j a:Nat} {k k':Wk} {vs:J SV},gf dst j l k=some (vs,a,k')->Grown True k k'
 | [],j,a,k,k',vs,e=>by simp only[gf,xJ,pJ]at e;rw[<-e.2.2];exact .refl _ _
 |t::l,j,a,k,k',vs,e=>by
  simp only[gf,xB,xM,pJ]at e
  obtain⟨⟨v,g,k1⟩,c,⟨f,d,k2⟩,b,_,_,rfl⟩:=e
  exact(pQ c).trans (ur l b)
theorem Pw{j a:Nat}{t:T}{k k':Wk}{v:SV}(e:lz dst j t k=some (v,a,k')):Grown True k k':=by
 cases t with
 |agg c=>
  grind [lz,xM,ur]
 |d x=>exact pQ (dst:=dst) (t:=.d x) e
 |own b=>exact pQ (dst:=dst) (t:=.own b) e
 |dead=>simp[lz,gp]at e
theorem AO:∀(l:J T) {j:Nat} {k k':Wk} {vs:J SV},io dst j l k=some (vs,k')->Grown True k k'
 | [],j,k,k',vs,e=>by simp only[io,xJ,pJ]at e;rw[<-e.2];exact .refl _ _
 |t::l,j,k,k',vs,e=>by
  simp only[io,xB,xM,pJ]at e
  obtain⟨⟨v,d,k1⟩,b,⟨c,k2⟩,a,_,rfl⟩:=e
  exact(Pw b).trans (AO l a)
theorem GR{rs:J T}{k k':Wk}{v:SV}(e:pO dst rs k=some (v,k')):Grown True k k':=by
 grind [pO,xM,AO]
theorem Ka{call:dH}{f:FuncId}{ds:J D}{b:bn}{k k':Wk}{v:SV}(e:fm call h dst f ds b k=some (v,k')):Grown (h.aV.contains dst=true) k k':=by
 unfold fm at e
 split at e
 .grind [xB,GR]
 split at e
 .cases e
 .rename_i hk
  simp only[xB]at e
  obtain⟨⟨a,c⟩,_,e⟩:=e;simp only at e
  split at e
  .exact⟨(GR e).ct,λq=>absurd q hk⟩
  .cases e
theorem Dg{call:dH}{f:FuncId}{ds:J D}{b:bn}{k k':Wk}{v:SV}(e:gC call h dst f ds b k=some (v,k')):Grown (h.aV.contains dst=true) k k':=by
 grind [gC,xB,Ka]
theorem Nk{call:dH}{op:Op}{g:Oz->SV}{k k':Wk}{v:SV}(e:dF P call h dst ty op g k=some (v,k')):Grown (hOf h dst op=false/\(y8 op=true->∀x∈op.operands,dj (g x))) k k':=by
 unfold dF at e
 split at e
 .rename_i f i n
  split at e
  .split at e
   .cases e
   split at e
   .simp only[xB,xM,pJ]at e
    obtain⟨_,_,_,_,_,rfl⟩:=e;exact .refl _ _
   simp only[xB]at e
   obtain⟨⟨m,k1,b⟩,d,r,c,a⟩:=e;obtain⟨rfl,_⟩:=rQ a
   refine((uq _ d).imp λ_=>trivial).trans ((Dg c).imp λq=> ?_)
   grind [hOf]
  .simp only[xB]at e
   obtain⟨⟨m,k1,b⟩,d,r,c,a⟩:=e;obtain⟨rfl,_⟩:=rQ a
   refine((uq _ d).imp λ_=>trivial).trans ((Dg c).imp λq=> ?_)
   grind [hOf]
  .cases e
 .rename_i l
  by_cases j:∃x,op=.assign x
  .obtain⟨x,rfl⟩:=j
   exact(xh e).imp λ_=>trivial
  refine(Tv e).imp λq=>⟨q.1,q.2 ?_⟩
  unfold y8
  grind
end
structure Sm(Z:aj->Prop)(b:Bool)(k k':Wk):Prop where
 get:∀r,¬Z r->k'.get r=k.get r
 H:b=true->k'.H=k.H
 tr:k'.tr=k.tr
 nr:k.tr.any Tr.bM=false
 obj:b=false->∀n,Z (.o n)
structure cT(b:Bool)(k k' k1 k1':Wk):Prop where
 ct:∃pre,k1.ct=pre++k.ct/\k1'.ct=pre++k'.ct
 H:b=true->k1'.H=k1.H
 Hs:b=false->k1.H=k.H/\k1'.H=k'.H
 tr:k1'.tr=k1.tr
section
variable{Z:aj->Prop}{b:Bool}{k k' k1 k1' k2 k2':Wk}
theorem cT.refl(s:Sm Z b k k'):cT b k k' k k':=⟨⟨[],rfl,rfl⟩,s.H,λ_=>⟨rfl,rfl⟩,s.tr⟩
theorem cT.trans(x:cT b k k' k1 k1')(y:cT b k1 k1' k2 k2'):cT b k k' k2 k2':=by
 obtain⟨p,a,c⟩:=x.ct;obtain⟨q,h3,h4⟩:=y.ct
 exact⟨⟨q++p,by grind,by grind⟩,y.H,λh=>⟨(y.Hs h).1.trans (x.Hs h).1,(y.Hs h).2.trans (x.Hs h).2⟩,y.tr⟩
theorem kG(p l:J ((Nat×Nat)×T))(x:Nat×Nat):fc (p++l) x=(fc p x).or (fc l x):=by
 induction p with
 |nil=>simp[fc]
 |cons a p b=>grind [fc]
theorem Sm.next(s:Sm Z b k k')(p:cT b k k' k1 k1')(hn:k1.tr.any Tr.bM=false):Sm Z b k1 k1':=by
 obtain⟨c,d,e⟩:=p.ct
 refine⟨λr a=> ?_,p.H,p.tr,hn,s.obj⟩
 cases r with
 |l n j=>
  have:=s.get _ a
  grind [Wk.get,Go.Am.cont,kG]
 |o n=>
  cases b with
  |true=>simp only[Wk.get,Go.Am.cont,p.H rfl]
  |false=>exact absurd (s.obj rfl n) a
theorem cT.tell(p:cT b k k' k1 k1')(x:Tr):cT b k k' (k1.tell x) (k1'.tell x):=⟨p.ct,p.H,p.Hs,by simp[Wk.tell,p.tr]⟩
theorem cT.new(p:cT b k k' k1 k1')(n j:Nat)(t:T):cT b k k' (k1.new n j t) (k1'.new n j t):=by
 obtain⟨pre,a,c⟩:=p.ct
 exact⟨⟨((n,j),t)::pre,by simp[Wk.new,a],by simp[Wk.new,c]⟩,p.H,p.Hs,by simp[Wk.new,p.tr]⟩
theorem Rb(s:Sm Z b k k'){r:aj}(hr:¬Z r){t:T}(e:k.set r t=some k1):∃k1',k'.set r t=some k1'/\cT b k k' k1 k1'/\k1.tr=k.tr:=by
 cases r with
 |l n j=>
  simp only[Wk.set,xJ]at e
  subst e
  exact⟨_,rfl,⟨⟨[((n,j),t)],rfl,rfl⟩,s.H,λ_=>⟨rfl,rfl⟩,s.tr⟩,rfl⟩
 |o n=>
  cases b with
  |false=>exact absurd (s.obj rfl n) hr
  |true=>
   simp only[Wk.set]at e |-
   split at e
   .simp only[xJ]at e
    subst e
    exact⟨_,rfl,⟨⟨[],rfl,rfl⟩,λ_=>by simp[s.H rfl],by simp,s.tr⟩,rfl⟩
   .cases e
mutual
theorem Tr.rts_le(x:Tr)(hx:x.bM=false):∀(v:SV),∀r∈(x.sv v).ba,r∈v.ba
 | .d y,r,c=>by cases x <;>exact c
 |.rp _ _,r,c|.clip _ _,r,c|.ns _,r,c|.dead,r,c=>by cases x <;>exact c
 | .aH q p o m,r,c=>by
  cases x with
  |dp a b=>simp[Tr.bM]at hx
  |_=>simp only[Tr.sv]at c;(repeat' split at c) <;>simp[SV.ba]at c |- <;>exact c
 | .loc q p i o,r,c=>by
  cases x with
  |dp a b=>simp[Tr.bM]at hx
  |_=>simp only[Tr.sv]at c;(repeat' split at c) <;>simp[SV.ba]at c |- <;>exact c
 | .agg l,r,c=>by
  have e:x.sv (.agg l)=.agg (Tr.bG x l):=by cases x <;>rfl
  rw[e]at c
  exact Tr.rtss_le x hx l r c
 | .aS l,r,c=>by
  have e:x.sv (.aS l)=.aS (Tr.bG x l):=by cases x <;>rfl
  rw[e]at c
  exact Tr.rtss_le x hx l r c
theorem Tr.rtss_le(x:Tr)(hx:x.bM=false):∀(l:List SV),∀r∈SV.rtss (Tr.bG x l),r∈SV.rtss l
 | [],r,c=>c
 |v::l,r,c=>by
  simp only[Tr.bG,SV.rtss,xD]at c |-
  obtain c |c:=c
  .exact .inl (Tr.rts_le x hx v r c)
  .exact .inr (Tr.rtss_le x hx l r c)
end
theorem GS:∀(a:J Tr),a.any Tr.bM=false->∀(v:SV),∀r∈(aU a v).ba,r∈v.ba
 | [],_,_,_,b=>b
 |x::a,h,v,r,b=>by
  simp only[List.any_cons,rk]at h
  exact Tr.rts_le x h.1 v r (GS a h.2 _ r b)
abbrev Off(Z:aj->Prop)(v:SV):Prop:=∀r∈v.ba,¬Z r
theorem Off.aU{v:SV}(h:Off Z v){a:J Tr}(ha:a.any Tr.bM=false):Off Z (aU a v):=λr b=>h r (GS a ha v r b)
theorem Off.aH{r:aj}{p:dR}{o l:Nat}(h:Off Z (.aH r p o l)):¬Z r:=h r (by simp[SV.ba])
theorem Off.loc{r:aj}{p:dR}{i o:Nat}(h:Off Z (.loc r p i o)):¬Z r:=h r (by simp[SV.ba])
theorem Off.bD{v:SV}(h:Off Z v):Off Z (bD v):=by grind [nR]
theorem Off.mem{l:J SV}(h:Off Z (.agg l)){v:SV}(hv:v∈l):Off Z v:=λr b=>h r (by
 show r∈SV.rtss l
 induction l with
 |nil=>cases hv
 |cons a l c=>
  simp only[SV.rtss,xD]
  obtain rfl |hv:=List.mem_cons.1 hv
  .exact .inl b
  .exact .inr (c (λr b=>h r (by show r∈SV.rtss (a::l);simp only[SV.rtss,xD];exact .inr b)) hv))
def bE(Z:aj->Prop)(b:Bool)(k k' k1 k1':Wk):Prop:=cT b k k' k1 k1'/\k1.tr.any Tr.bM=false
theorem bE.refl(s:Sm Z b k k'):bE Z b k k' k k':=⟨cT.refl s,s.nr⟩
theorem bE.trans(x:bE Z b k k' k1 k1')(y:bE Z b k1 k1' k2 k2'):bE Z b k k' k2 k2':=⟨x.1.trans y.1,y.2⟩
theorem Sm.step(s:Sm Z b k k')(x:bE Z b k k' k1 k1'):Sm Z b k1 k1':=s.next x.1 x.2
theorem bE.tell(x:bE Z b k k' k1 k1'){t:Tr}(ht:t.bM=false):bE Z b k k' (k1.tell t) (k1'.tell t):=⟨x.1.tell t,by simp[Wk.tell,x.2,ht]⟩
theorem bE.new(x:bE Z b k k' k1 k1')(n j:Nat)(t:T):bE Z b k k' (k1.new n j t) (k1'.new n j t):=⟨x.1.new n j t,by simp[Wk.new,x.2,Tr.bM]⟩
theorem Nl(s:Sm Z b k k'){r:aj}(hr:¬Z r){t:T}(e:k.set r t=some k1):∃k1',k'.set r t=some k1'/\bE Z b k k' k1 k1':=by
 obtain⟨k1',c,a,h3⟩:=Rb s hr e
 exact⟨k1',c,a,by rw[h3];exact s.nr⟩
theorem Dh(s:Sm Z b k k'){nv:Nat}{v:SV}{t:T}(ho:Off Z v)(e:dO nv v k=some (t,k1)):∃k1',dO nv v k'=some (t,k1')/\bE Z b k k' k1 k1':=by
 cases v with
 |d x=>simp only[dO,xJ,pJ]at e |-;obtain⟨rfl,rfl⟩:=e;exact⟨k',⟨rfl,rfl⟩,.refl s⟩
 |clip c l=>simp only[dO,xJ,pJ]at e |-;obtain⟨rfl,rfl⟩:=e;exact⟨k',⟨rfl,rfl⟩,.refl s⟩
 |ns b=>simp only[dO,xJ,pJ]at e |-;obtain⟨rfl,rfl⟩:=e;exact⟨k',⟨rfl,rfl⟩,.refl s⟩
 |aH r p m u=>
  simp only[dO,s.get r ho.aH,xB]at e |-
  obtain⟨c,h,A,f,e⟩:=e
  split at e
  .rename_i z
   split at e
   .split at e
    .rename_i n j a
     simp only[xM,pJ]at e
     obtain⟨k2,g,rfl,rfl⟩:=e;obtain⟨k2',i,h3⟩:=Nl s ho.aH g
     exact⟨_,⟨c,h,_,f,by grind⟩,h3.tell rfl⟩
    .rename_i n j a
     simp only[xB,xM,pJ]at e
     obtain⟨l,w,k2,g,rfl,rfl⟩:=e;obtain⟨k2',i,h3⟩:=Nl s ho.aH g
     exact⟨_,⟨c,h,_,f,by grind⟩,h3.tell rfl⟩
   .rename_i B y q
    simp only[xB,xM,pJ]at e
    obtain⟨l,w,c',o,k2,g,rfl,rfl⟩:=e;obtain⟨k2',i,h3⟩:=Nl s ho.aH g
    refine⟨_,⟨c,h,_,f,?_⟩,h3.tell rfl⟩
    grind
  .cases e
 |_=>simp[dO]at e
theorem Di{nv:Nat}:∀(l:J SV) {k k' k1:Wk} {a:J T},Sm Z b k k'->(∀v∈l,Off Z v)->gH nv l k=some (a,k1)->∃k1',gH nv l k'=some (a,k1')/\bE Z b k k' k1 k1'
 | [],k,k',k1,a,s,_,e=>by simp only[gH,xJ,pJ]at e |-;obtain⟨rfl,rfl⟩:=e;exact⟨k',⟨rfl,rfl⟩,.refl s⟩
 |v::l,k,k',k1,a,s,d,e=>by
  simp only[gH,xB,xM,pJ]at e
  obtain⟨⟨t,k2⟩,m,⟨g,n⟩,h,rfl,rfl⟩:=e;obtain⟨k2',j,f⟩:=Dh s ((d v (by simp)).aU s.nr) m
  obtain⟨c,h3,h4⟩:=Di l (s.step f) (λu i=>d u (by simp[i])) h
  exact⟨c,by simp only[gH,s.tr,j,xS,h3,xQ],f.trans h4⟩
theorem rS(s:Sm Z b k k'){nv:Nat}{v:SV}{t:T}(ho:Off Z v)(e:fV nv v k=some (t,k1)):∃k1',fV nv v k'=some (t,k1')/\bE Z b k k' k1 k1':=by
 by_cases a:∃l,v=.agg l
 .obtain⟨l,rfl⟩:=a
  simp only[fV,xM,pJ]at e
  obtain⟨⟨g,k2⟩,d,rfl,rfl⟩:=e;obtain⟨k2',h,f⟩:=Di l s (λv a=>ho.mem a) d
  grind [fV]
 .have c:∀k:Wk,fV nv v k=dO nv (aU k.tr v) k:=λk=>by
   cases v <;>first |rfl |grind
  rw[c]at e
  rw[c,s.tr];exact Dh s (ho.aU s.nr) e
theorem Dj{nv:Nat}:∀(l:J (Nat×SV)) {k k' k1:Wk} {a:J (Nat×T)},Sm Z b k k'->(∀v∈l,Off Z v.2)->gm nv l k=some (a,k1)->∃k1',gm nv l k'=some (a,k1')/\bE Z b k k' k1 k1'
 | [],k,k',k1,a,s,_,e=>by simp only[gm,xJ,pJ]at e |-;obtain⟨rfl,rfl⟩:=e;exact⟨k',⟨rfl,rfl⟩,.refl s⟩
 |(i,v)::l,k,k',k1,a,s,d,e=>by
  simp only[gm,xB,xM,pJ]at e
  obtain⟨⟨t,k2⟩,m,⟨g,n⟩,h,rfl,rfl⟩:=e;obtain⟨k2',o,f⟩:=rS s (d (i,v) (by simp)) m
  obtain⟨c,h3,h4⟩:=Dj l (s.step f) (λu j=>d u (by simp[j])) h
  exact⟨c,by grind [gm],f.trans h4⟩
variable{P:Pz}{h:Hint}{dst:Nat}{ty:TypeId}
theorem Dk(s:Sm Z b k k'){nv:Nat}{v:SV}{t:T}(ho:Off Z v)(e:jD nv v k=some (t,k1)):∃k1',jD nv v k'=some (t,k1')/\bE Z b k k' k1 k1':=by
 grind [jD,xM,rS]
theorem Px(s:Sm Z b k k'){nv:Nat}{t:TypeId}{a v:SV}(ha:Off Z a)(hv:Off Z v)(e:mT P nv t a v k=some k1):∃k1',mT P nv t a v k'=some k1'/\bE Z b k k' k1 k1':=by
 simp only[mT,xB]at e
 obtain⟨⟨x,k2⟩,q,e⟩:=e;obtain⟨k2',o,g⟩:=Dk s hv q;have f:=s.step g;simp only at e
 split at e
 .rename_i r p i w j
  have h:¬Z r:=by
   have:=(ha.aU f.nr).bD
   rw[j]at this
   exact this.loc
  split at e
  .rename_i u
   simp only[xB]at e
   obtain⟨c,m,B,y,e⟩:=e
   split at e
   .rename_i A
    simp only[xB]at e
    obtain⟨l,q3,e⟩:=e
    split at e
    .rename_i n
     simp only[xB,xM]at e
     obtain⟨c',q4,z,q5,rfl⟩:=e;obtain⟨d,h3,h4⟩:=Nl f h q5
     refine⟨if tB l then d.tell (.cI r (p.length+1))else d,?_,?_⟩
     .simp only[mT,o,xS,f.tr,j]
      rw[if_pos u,f.get r h,m]
      grind
     .split
      .exact g.trans (h4.tell rfl)
      .exact g.trans h4
    .cases e
   .cases e
  .cases e
 .cases e
theorem Jc(s:Sm Z b k k'){nv:Nat}{v:SV}{l:J T}(ho:Off Z v)(e:gc nv v k=some (l,k1)):∃k1',gc nv v k'=some (l,k1')/\bE Z b k k' k1 k1':=by
 cases v with
 |d x=>cases x <;>simp only[gc,xJ,pJ,reduceCtorEq]at e |- <;>(obtain⟨rfl,rfl⟩:=e;exact⟨k',⟨rfl,rfl⟩,.refl s⟩)
 |clip c l=>simp only[gc,xJ,pJ]at e |-;obtain⟨rfl,rfl⟩:=e;exact⟨k',⟨rfl,rfl⟩,.refl s⟩
 |ns b=>simp only[gc,xJ,pJ]at e |-;obtain⟨rfl,rfl⟩:=e;exact⟨k',⟨rfl,rfl⟩,.refl s⟩
 |aH r p i o=>
  simp only[gc,s.get r ho.aH,xB]at e |-
  obtain⟨c,g,u,f,e⟩:=e
  split at e
  .split at e
   .rename_i t n j
    split at e
    .rename_i a
     simp only[xM,pJ]at e
     obtain⟨k2,m,rfl,rfl⟩:=e;obtain⟨k2',q,h3⟩:=Nl s ho.aH m
     exact⟨_,⟨c,g,_,f,by grind⟩,h3.tell rfl⟩
    .rename_i a
     split at e
     .rename_i h
      simp only[xJ,pJ]at e
      obtain⟨rfl,rfl⟩:=e
      exact⟨k',⟨c,g,_,f,by grind⟩,.refl s⟩
     .cases e
   .split at e
    .rename_i h
     simp only[xJ,pJ]at e
     obtain⟨rfl,rfl⟩:=e
     exact⟨k',⟨c,g,_,f,by grind⟩,.refl s⟩
    .cases e
  .cases e
 |_=>simp[gc]at e
theorem Tw(s:Sm Z b k k'){n:Nat}{a d:J T}{v:SV}(ho:Off Z v)(e:qs n a v k=some (d,k1)):∃k1',qs n a v k'=some (d,k1')/\bE Z b k k' k1 k1':=by
 unfold qs at e
 split at e
 .simp only[xJ,pJ]at e;obtain⟨rfl,rfl⟩:=e;exact⟨k',rfl,.refl s⟩
 .simp only[xJ,pJ]at e;obtain⟨rfl,rfl⟩:=e;exact⟨k',rfl,.refl s⟩
 .rename_i r p f i
  split at e
  .rename_i j
   simp only[xB]at e
   obtain⟨c,g,q,o,e⟩:=e
   split at e
   .split at e
    .rename_i l
     simp only[xB,xM,pJ]at e
     obtain⟨c',q3,m,q4,rfl,rfl⟩:=e;obtain⟨h,h3,h4⟩:=Nl s ho.aH q4
     refine⟨_,?_,h4.tell rfl⟩
     unfold qs
     simp only
     rw[if_pos j,s.get r ho.aH,g]
     grind
    .cases e
   .cases e
  .cases e
 .cases e
theorem Tx(s:Sm Z b k k'){v:SV}{l:J T}(ho:Off Z v)(e:qu v k=some l):qu v k'=some l:=by
 unfold qu at e |-
 split at e
 .grind [xM,Jc]
 .exact e
 .exact e
 .exact e
 .exact e
 .cases e
theorem Tz(s:Sm Z b k k'){t:TypeId}{x y v:SV}(hx:Off Z x)(A:Off Z y)(e:nZ P t x y k=some (v,k1)):∃k1',nZ P t x y k'=some (v,k1')/\cT b k k' k1 k1':=by
 unfold nZ at e |-
 split at e
 .rename_i r p a d
  simp only[xB]at e
  obtain⟨n,o,g,m,f,j,e⟩:=e
  split at e
  .rename_i l
   simp only[xM,pJ]at e
   obtain⟨k2,e,rfl,rfl⟩:=e
   have i:∃k2',lH r p a (f.take (Nat.min f.length d)) k'=some k2'/\cT b k k' k2 k2':=by
    unfold lH at e |-
    split at e
    .grind [cT.refl]
    .rename_i h
     rw[if_neg h,s.get r hx.aH];simp only[xB]at e
     obtain⟨c,q,C,B,e⟩:=e
     split at e
     .split at e
      .rename_i z
       simp only[xB]at e
       obtain⟨c',q3,q4⟩:=e;obtain⟨k2',w,u,_⟩:=Rb s hx.aH q4
       grind
      .cases e
     .cases e
   grind [Tx]
  .cases e
 .cases e
theorem Nn(s:Sm Z b k k'){nv:Nat}{t:TypeId}{x y v:SV}(hx:Off Z x)(n:Off Z y)(e:iA P nv dst t x y k=some (v,k1)):∃k1',iA P nv dst t x y k'=some (v,k1')/\bE Z b k k' k1 k1':=by
 simp only[iA,xB]at e
 obtain⟨i,l,z,j,⟨c,k2⟩,p,e⟩:=e;obtain⟨k2',o,h⟩:=Jc s n p;have f:=s.step h
 split at e
 .rename_i a
  simp only[xB]at e
  obtain⟨⟨d,r⟩,m,e⟩:=e;obtain⟨g,h3,h4⟩:=Tw f (hx.aU f.nr) m;simp only at e
  split at e
  .rename_i q
   simp only[xJ,pJ]at e
   obtain⟨rfl,rfl⟩:=e
   refine⟨g.new dst 0 (.own (d++c)),?_,(h.trans h4).new _ _ _⟩
   simp only[iA,l,j,xS,o];rw[if_pos a,f.tr,h3]
   grind
  .cases e
 .cases e
theorem No(s:Sm Z b k k'){sl:Bool}{u v:SV}(ho:Off Z u)(e:ff dst sl u k=some (v,k1)):∃k1',ff dst sl u k'=some (v,k1')/\cT b k k' k1 k1':=by
 have plain:(∀k:Wk,ff dst sl u k=some (u,k))->∃k1',ff dst sl u k'=some (v,k1')/\cT b k k' k1 k1':=λt=>by
  grind [cT.refl]
 cases u with
 |d x=>
  cases x with
  |aJ=>
   simp only[ff]at e |-
   split at e <;>simp only[xJ,pJ]at e <;>obtain⟨rfl,rfl⟩:=e
   .rename_i q;exact⟨_,by rw[if_pos q],(cT.refl s).new _ _ _⟩
   grind [cT.refl]
  |_=>exact plain λ_=>rfl
 |aH r p a i=>
  cases r with
  |o n=>exact plain λ_=>rfl
  |l n j=>
   cases p with
   |cons _ _=>exact plain λ_=>rfl
   |nil=>
    cases a with
    |succ _=>exact plain λ_=>rfl
    |zero=>
     simp only[ff]at e |-
     split at e
     .grind [cT.refl]
     .rename_i f
      simp only[xB]at e
      obtain⟨c,g,e⟩:=e;rw[if_neg f,s.get _ ho.aH,g];simp only[xS]
      split at e
      .split at e <;>simp only[xJ,pJ]at e <;>obtain⟨rfl,rfl⟩:=e
       .rename_i h m
        exact⟨_,if_pos m,⟨⟨[((dst,0),.own h),((n,j),.dead)],rfl,rfl⟩,s.H,λ_=>⟨rfl,rfl⟩,by simp[Wk.tell,Wk.new,s.tr]⟩⟩
       grind [cT.refl]
      .cases e
 |_=>exact plain λ_=>rfl
theorem TA{t:TypeId}{u:SV}{r:aj}{p:dR}{o len:Nat}(e:hJ P t u k=some (.aH r p o len)):r∈u.ba:=by
 have mk:∀l:J SV,SV.br l≠ .aH r p o len:=λl=>by grind [SV.br]
 rw[<-nR];unfold hJ at e
 split at e
 .rename_i m j i b f
  rw[f];simp only[xB]at e
  obtain⟨c,_,n,_,e⟩:=e
  split at e
  .simp only[xB]at e
   obtain⟨q,_,h,_,e⟩:=e
   split at e
   .grind [xM]
   .simp only[xB]at e
    obtain⟨g,_,e⟩:=e
    cases g with
    |d x=>cases x <;>simp[im,D.sv1]at e
    |own a=>
     grind [im,SV.ba]
    |_=>simp[im]at e
  .cases e
 .simp only[xB]at e
  obtain⟨h,_,e⟩:=e
  split at e
  .grind
  .simp only[xB]at e
   obtain⟨x,_,e⟩:=e
   cases x <;>simp[D.sv1]at e
 .cases e
theorem TB(s:Sm Z b k k'){u v:SV}(ho:∀r p o len,u=.aH r p o len->¬Z r)(e:t6 dst u k=some (v,k1)):∃k1',t6 dst u k'=some (v,k1')/\cT b k k' k1 k1':=by
 unfold t6 at e |-
 split at e
 .rename_i r p len
  have a:=ho _ _ _ _ rfl;simp only[xB]at e |-
  obtain⟨c,h,n,f,e⟩:=e
  split at e
  .rename_i l
   split at e
   .rename_i i
    simp only[xB,xM,pJ]at e
    obtain⟨c',j,k2,g,rfl,rfl⟩:=e;obtain⟨k2',m,d⟩:=Nl s a g
    exact⟨_,⟨c,by rw[s.get r a];exact h,_,f,by grind⟩,((d.1.tell _).new _ _ _)⟩
   .cases e
  .cases e
 .cases e
theorem D?(s:Sm Z b k k'){op:Op}{S:Oz->SV}{v:SV}(hh:b=false->wT h dst op=false)(ho:∀x∈op.operands,Off Z (S x))(e:opE P h dst ty op S k=some (v,k1)):∃k1',opE P h dst ty op S k'=some (v,k1')/\cT b k k' k1 k1':=by
 have pt:b=true\/∀n,Z (.o n):=by cases b with |true=>exact .inl rfl |false=>exact .inr (s.obj rfl)
 -- what lies in a map,of an operand
 have I:∀{x:Oz} {o:Nat},x∈op.operands->S x=.d (.map o)->b=true:=λ{x o} J K=>by
  obtain q |q:=pt
  .exact q
  .exact absurd (q o) (ho x J _ (by grind [SV.ba]))
 by_cases G:fY h dst op=false/\∀c,op=.call c->∃b,c.callee=.builtin b
 .obtain⟨rfl,hr⟩:=GQ G.2 G.1 e
  refine⟨k',hr k' (λ_ x J r af=>s.get r (ho x J r af)) (λ_=> ?_),cT.refl s⟩
  obtain q |q:=pt
  .exact .inl (s.H q)
  .right
   intro x J;refine List.any_eq_false.2 λr hr=> ?_
   cases r with
   |l n j=>simp[aj.cF]
   |o n=>grind
 unfold opE at e |-
 cases op <;>simp only at e |- <;>simp only[Op.operands]at ho <;>try (exact absurd ⟨rfl,by simp⟩ G)
 case assign x=>grind [No]
 case alloc t=>
  simp only[xB]at e |-
  obtain⟨z,hz,e⟩:=e;unfold Gc at e |-
  split at e
  .cases e
  .rename_i hn
   split at e <;>simp only[xJ,pJ]at e <;>obtain⟨rfl,rfl⟩:=e
   .rename_i D
    have B:b=true:=by cases b with |true=>rfl |false=>grind [wT]
    have i:=s.H B
    refine⟨{k' with H:=k'.H++[.box (T.cj z)]},⟨z,hz,by grind⟩,⟨⟨[],rfl,rfl⟩,λ_=>by simp[i],(λq=>by grind),s.tr⟩⟩
   .rename_i D;exact⟨_,⟨z,hz,by grind⟩,(cT.refl s).new _ _ _⟩
 case box t x=>
  simp only[xB]at e |-
  obtain⟨⟨y,k2⟩,d,e⟩:=e;obtain⟨k2',C,f⟩:=Dk s (ho x (by simp)) d
  simp only at e
  split at e
  .rename_i ak
   unfold Gc at e |-
   split at e
   .cases e
   .rename_i hn
    split at e <;>simp only[xJ,pJ]at e <;>obtain⟨rfl,rfl⟩:=e
    .rename_i D
     have B:b=true:=by cases b with |true=>rfl |false=>grind [wT]
     have i:=f.1.H B
     exact⟨{k2' with H:=k2'.H++[.box y]},⟨_,C,by grind⟩,⟨f.1.ct,λ_=>by simp[i],(λq=>by grind),f.1.tr⟩⟩
    .rename_i D;exact⟨_,⟨_,C,by grind⟩,f.1.new _ _ _⟩
  .cases e
 case buildSlice t n ps=>
  simp only[gd,xB]at e
  obtain⟨V,M,z,F,⟨p1,k2⟩,d,e⟩:=e
  obtain⟨k2',C,f⟩:=Dj _ s (λu hu=>by
   grind) d
  split at e
  .rename_i ac
   simp only[xB]at e
   obtain⟨N,u3,e⟩:=e
   have ab:∀r:U (SV×Wk),(∃w1,(if(h.lits.contains dst)=true then(if(ps.toList.map λp=>(p.1,S p.2)).all (λp=>isD p.2)=true then(T.aZ false N).map λds=>(.d (.sl false ds),k2')else none)else some (.aH (.l dst 0) [] 0 n,k2'.new dst 0 (.own N)))=some (v,w1)/\cT b k k' k1 w1)->
     ∃k1',gd P h.nv dst (h.lits.contains dst) t n (ps.toList.map λp=>(p.1,S p.2)) k'=some (v,k1')/\cT b k k' k1 k1':=λ_ ⟨w1,q1,q2⟩=>by
    grind [gd]
   refine ab none ?_
   split at e
   .rename_i O
    split at e
    .rename_i ah
     simp only[xM,pJ]at e
     obtain⟨ds,u4,rfl,rfl⟩:=e
     exact⟨k2',by grind,f.1⟩
    .cases e
   .rename_i O
    simp only[xJ,pJ]at e
    obtain⟨rfl,rfl⟩:=e
    exact⟨_,by rw[if_neg O],f.1.new _ _ _⟩
  .cases e
 case load t a=>
  by_cases O:h.lits.contains dst=true
  .have W:Off Z (S a):=ho a (by simp)
   cases a with
   |global g=>
    grind [xB,xM,AM,SV.ba,cT.refl]
   |_=>
    simp only[O,if_true,xB]at e |-
    obtain⟨u,d,X⟩:=e;obtain⟨k1',C,f⟩:=TB s (λr p o len hu=>W r (by grind [TA])) X
    exact⟨k1',⟨u,by rw[AM (k:=k) (λr hr=>s.get r (W r hr)),d],C⟩,f⟩
  grind [fY]
 case range t x=>
  have B:b=true:=by cases b with |true=>rfl |false=>grind [wT]
  have i:=s.H B;unfold uc at e |-
  rw[i];have ad:∀R,cT b k k' {k with H:=k.H++[R]} {k' with H:=k.H++[R]}:=λR=>⟨⟨[],rfl,rfl⟩,λ_=>rfl,(λq=>by grind),s.tr⟩
  grind
 case next x al=>
  have B:b=true:=by cases b with |true=>rfl |false=>grind [wT]
  have i:=s.H B;unfold CZ at e |-
  rw[i];have ad:∀n R,cT b k k' {k with H:=k.H.set n R} {k' with H:=k.H.set n R}:=λn R=>⟨⟨[],rfl,rfl⟩,λ_=>rfl,(λq=>by grind),s.tr⟩
  split at e
  .grind [cT.refl]
  .cases e
 case makeInterface t x=>
  grind [xM,cT.refl]
 case typeAssert x xt u ok=>
  grind [xM,cT.refl]
 case store t a x=>
  simp only[xM,pJ]at e |-
  obtain⟨k2,d,rfl,rfl⟩:=e;obtain⟨k2',C,f⟩:=Px s (ho a (by simp)) (ho x (by simp)) d
  exact⟨k2',⟨k2',C,rfl,rfl⟩,f.1⟩
 case makeMap t r=>
  have B:b=true:=by cases b with |true=>rfl |false=>grind [wT]
  have i:=s.H B
  cases r with
  |none=>
   simp only[xJ,pJ]at e |-
   obtain⟨rfl,rfl⟩:=e
   exact⟨_,⟨by rw[i],rfl⟩,⟨⟨[],rfl,rfl⟩,λ_=>by simp[i],(λq=>by grind),s.tr⟩⟩
  |some n=>
   simp only at e |-
   split at e
   .simp only[xJ,pJ]at e
    obtain⟨rfl,rfl⟩:=e
    exact⟨{k' with H:=k'.H++[.map []]},by rw[i],⟨⟨[],rfl,rfl⟩,λ_=>by simp[i],(λq=>by grind),s.tr⟩⟩
   .cases e
 case makeSlice t l c=>
  unfold Ga at e |-
  split at e
  .simp only[xB]at e |-
   obtain⟨V,M,z,F,e⟩:=e
   split at e
   .rename_i D
    simp only[xJ,pJ]at e
    obtain⟨rfl,rfl⟩:=e
    exact⟨_,⟨V,M,z,F,by rw[if_pos D]⟩,(cT.refl s).new _ _ _⟩
   .cases e
  .cases e
 case lookup t m key ok=>
  split at e
  .rename_i O
   rw[if_pos O]
   split at e
   .cases e
   .rename_i Q
    rw[if_neg Q];simp[Gb]at e
  .rename_i O
   rw[if_neg O]
   split at e
   .rename_i ag
    rw[if_pos ag]
    split at e
    .cases e
    .rename_i Q
     rw[if_neg Q];simp[nY]at e
   grind [fY]
 case mapUpdate t m key x=>
  simp only[xM,pJ]at e |-
  obtain⟨k2,d,rfl,rfl⟩:=e;simp only[hD,xB]at d
  obtain⟨⟨kt,et⟩,M,d⟩:=d;simp only at d
  split at d
  .rename_i o kd K hk
   have B:=I (x:=m) (by simp[Op.operands]) K
   split at d
   .rename_i D
    simp only[xB]at d
    obtain⟨⟨y,k3⟩,X,d⟩:=d;obtain⟨k3',C,f⟩:=rS s (ho x (by simp)) X
    have i:=f.1.H B;simp only at d
    split at d
    .rename_i y' N A
     simp only[xM]at d
     obtain⟨w,F,rfl⟩:=d
     refine⟨_,⟨{k3' with H:=k3'.H.set o (.map w)},?_,rfl,rfl⟩,⟨f.1.ct,λ_=>by simp[i],(λq=>by rw[B]at q;cases q),f.1.tr⟩⟩
     simp only[hD,M,xS];rw[K,hk]
     simp only
     rw[if_pos D,C];simp only[xS,i,A,F,xQ]
    .rename_i y' N A
     simp only[xM]at d
     obtain⟨w,F,rfl⟩:=d
     refine⟨_,⟨{k3' with H:=k3'.H.set o (.map w)},?_,rfl,rfl⟩,⟨f.1.ct,λ_=>by simp[i],(λq=>by rw[B]at q;cases q),f.1.tr⟩⟩
     simp only[hD,M,xS];rw[K,hk]
     simp only
     rw[if_pos D,C];simp only[xS,i,A,F,xQ]
    .rename_i y' N A
     simp only[xM]at d
     obtain⟨w,F,rfl⟩:=d
     refine⟨_,⟨{k3' with H:=k3'.H.set o (.sset w)},?_,rfl,rfl⟩,⟨f.1.ct,λ_=>by simp[i],(λq=>by rw[B]at q;cases q),f.1.tr⟩⟩
     simp only[hD,M,xS];rw[K,hk]
     simp only
     rw[if_pos D,C];simp only[xS,i,A,F,xQ]
    .cases d
   .cases d
  .cases d
 case insert t m key x=>
  simp only[xM,pJ]at e |-
  obtain⟨k2,d,rfl,rfl⟩:=e;simp only[hD,xB]at d
  obtain⟨⟨kt,et⟩,M,d⟩:=d;simp only at d
  split at d
  .rename_i o kd K hk
   have B:=I (x:=m) (by simp[Op.operands]) K
   split at d
   .rename_i D
    simp only[xB]at d
    obtain⟨⟨y,k3⟩,X,d⟩:=d;obtain⟨k3',C,f⟩:=rS s (ho x (by simp)) X
    have i:=f.1.H B;simp only at d
    split at d
    .rename_i y' N A
     simp only[xM]at d
     obtain⟨w,F,rfl⟩:=d
     refine⟨_,⟨{k3' with H:=k3'.H.set o (.map w)},?_,rfl,rfl⟩,⟨f.1.ct,λ_=>by simp[i],(λq=>by grind),f.1.tr⟩⟩
     grind [hD]
    .rename_i y' N A
     simp only[xM]at d
     obtain⟨w,F,rfl⟩:=d
     refine⟨_,⟨{k3' with H:=k3'.H.set o (.map w)},?_,rfl,rfl⟩,⟨f.1.ct,λ_=>by simp[i],(λq=>by rw[B]at q;cases q),f.1.tr⟩⟩
     simp only[hD,M,xS];rw[K,hk]
     simp only
     rw[if_pos D,C];simp only[xS,i,A,F,xQ]
    .rename_i y' N A
     simp only[xM]at d
     obtain⟨w,F,rfl⟩:=d
     refine⟨_,⟨{k3' with H:=k3'.H.set o (.sset w)},?_,rfl,rfl⟩,⟨f.1.ct,λ_=>by simp[i],(λq=>by rw[B]at q;cases q),f.1.tr⟩⟩
     simp only[hD,M,xS];rw[K,hk]
     simp only
     rw[if_pos D,C];simp only[xS,i,A,F,xQ]
    .cases d
   .cases d
  .cases d
 case call c=>
  obtain⟨L,E,cz⟩:=c
  cases L with
  |builtin bi=>
   cases bi <;>simp only[reduceCtorEq]at e |-
   case len=>exact absurd ⟨rfl,λc D=>by grind⟩ G
   case min=>exact absurd ⟨rfl,λc D=>by grind⟩ G
   case max=>exact absurd ⟨rfl,λc D=>by grind⟩ G
   case copy=>
    split at e
    .rename_i x y t u J ht
     have aa:x∈E:=by rw[<-rl,J];simp
     have Y:y∈E:=by rw[<-rl,J];simp
     grind [Tz,Call.operands]
    .cases e
   case append=>
    split at e
    .rename_i x y t u J ht
     have aa:x∈E:=by rw[<-rl,J];simp
     have Y:y∈E:=by rw[<-rl,J];simp
     split at e
     .rename_i ai
      obtain⟨k1',C,f⟩:=Nn s (ho x (by simp[Call.operands,aa])) (ho y (by simp[Call.operands,Y])) e
      exact⟨k1',by grind,f.1⟩
     .cases e
    .cases e
  |_=>simp at e
 all_goals (cases e)
theorem Jd(s:Sm Z b k k'){nv:Nat}{v:SV}{l m:bn}{x:D}(ho:Off Z v)(e:fJ nv v k l=some (x,k1,m)):∃k1',fJ nv v k' l=some (x,k1',m)/\bE Z b k k' k1 k1':=by
 cases v with
 |d y=>simp only[fJ,xJ,pJ]at e |-;obtain⟨rfl,rfl,rfl⟩:=e;exact⟨k',⟨rfl,rfl,rfl⟩,.refl s⟩
 |clip c y=>simp only[fJ,xJ,pJ]at e |-;obtain⟨rfl,rfl,rfl⟩:=e;exact⟨k',⟨rfl,rfl,rfl⟩,.refl s⟩
 |ns b=>simp only[fJ,xJ,pJ]at e |-;obtain⟨rfl,rfl,rfl⟩:=e;exact⟨k',⟨rfl,rfl,rfl⟩,.refl s⟩
 |aH r p q w=>
  simp only[fJ,s.get r ho.aH,xB]at e |-
  obtain⟨c,g,A,a,e⟩:=e
  split at e
  .split at e
   .rename_i h
    simp only[xJ,pJ]at e
    obtain⟨rfl,rfl,rfl⟩:=e
    exact⟨k',⟨c,g,_,a,by grind⟩,.refl s⟩
   rename_i h
   split at e
   .rename_i o n j
    split at e
    .rename_i f
     simp only[xB,xM,pJ]at e
     obtain⟨y,i,k2,u,rfl,rfl,rfl⟩:=e;obtain⟨k2',z,h3⟩:=Nl s ho.aH u
     exact⟨_,⟨c,g,_,a,by grind⟩,h3.tell rfl⟩
    .rename_i f
     simp only[xM,pJ]at e
     obtain⟨y,i,rfl,rfl,rfl⟩:=e
     exact⟨k',⟨c,g,_,a,by grind⟩,.refl s⟩
   .rename_i o n j t
    simp only[xM,pJ]at e
    obtain⟨y,i,rfl,rfl,rfl⟩:=e
    refine⟨k',⟨c,g,_,a,?_⟩,.refl s⟩
    grind
   .rename_i o n
    simp only[xM,pJ]at e
    obtain⟨y,i,rfl,rfl,rfl⟩:=e
    exact⟨k',⟨c,g,_,a,by grind⟩,.refl s⟩
  .cases e
 |_=>simp[fJ]at e
theorem Je{nv:Nat}:∀(l:J SV) {k k' k1:Wk} {d a:bn} {xs:J D},Sm Z b k k'->(∀v∈l,Off Z v)->lD nv l k d=some (xs,k1,a)->∃k1',lD nv l k' d=some (xs,k1',a)/\bE Z b k k' k1 k1'
 | [],k,k',k1,d,a,xs,s,_,e=>by simp only[lD,xJ,pJ]at e |-;obtain⟨rfl,rfl,rfl⟩:=e;exact⟨k',⟨rfl,rfl,rfl⟩,.refl s⟩
 |v::l,k,k',k1,d,a,xs,s,f,e=>by
  simp only[lD,xB,xM,pJ]at e
  obtain⟨⟨x,k2,n⟩,m,⟨o,p,q⟩,h,rfl,rfl,rfl⟩:=e;obtain⟨k2',j,g⟩:=Jd s ((f v (by simp)).aU s.nr) m
  obtain⟨c,h3,h4⟩:=Je l (s.step g) (λu i=>f u (by simp[i])) h
  exact⟨c,by simp only[lD,s.tr,j,xS,h3,xQ],g.trans h4⟩
theorem Wm(s:Sm Z b k k'){nv:Nat}{v:SV}{d f:bn}{x:D}(ho:Off Z v)(e:wS nv v k d=some (x,k1,f)):∃k1',wS nv v k' d=some (x,k1',f)/\bE Z b k k' k1 k1':=by
 by_cases a:∃l,v=.agg l
 .obtain⟨l,rfl⟩:=a
  simp only[wS,xM,pJ]at e
  obtain⟨⟨i,k2,h⟩,g,rfl,rfl,rfl⟩:=e;obtain⟨k2',m,j⟩:=Je l s (λv a=>ho.mem a) g
  grind [wS]
 .have c:∀k:Wk,wS nv v k d=fJ nv (aU k.tr v) k d:=λk=>by
   cases v <;>first |rfl |grind
  rw[c]at e
  rw[c,s.tr];exact Jd s (ho.aU s.nr) e
theorem Ce{nv:Nat}:∀(l:J SV) {k k' k1:Wk} {d a:bn} {xs:J D},Sm Z b k k'->(∀v∈l,Off Z v)->gV nv l k d=some (xs,k1,a)->∃k1',gV nv l k' d=some (xs,k1',a)/\bE Z b k k' k1 k1'
 | [],k,k',k1,d,a,xs,s,_,e=>by simp only[gV,xJ,pJ]at e |-;obtain⟨rfl,rfl,rfl⟩:=e;exact⟨k',⟨rfl,rfl,rfl⟩,.refl s⟩
 |v::l,k,k',k1,d,a,xs,s,f,e=>by
  simp only[gV,xB,xM,pJ]at e
  obtain⟨⟨x,k2,m⟩,j,⟨n,o,q⟩,h,rfl,rfl,rfl⟩:=e;obtain⟨k2',p,g⟩:=Wm s (f v (by simp)) j
  obtain⟨c,h3,h4⟩:=Ce l (s.step g) (λu i=>f u (by simp[i])) h
  exact⟨c,by grind [gV],g.trans h4⟩
theorem ut(s:Sm Z b k k'){j a:Nat}{t:T}{v:SV}(e:gp dst j t k=some (v,a,k1)):∃k1',gp dst j t k'=some (v,a,k1')/\bE Z b k k' k1 k1':=by
 cases t <;>simp only[gp,xJ,pJ,reduceCtorEq]at e |- <;>obtain⟨rfl,rfl,rfl⟩:=e
 .exact⟨k',⟨rfl,rfl,rfl⟩,.refl s⟩
 .exact⟨_,⟨rfl,rfl,rfl⟩,(bE.refl s).new _ _ _⟩
theorem AP:∀(l:J T) {j a:Nat} {k k' k1:Wk} {vs:J SV},Sm Z b k k'->gf dst j l k=some (vs,a,k1)->∃k1',gf dst j l k'=some (vs,a,k1')/\bE Z b k k' k1 k1'
 | [],j,a,k,k',k1,vs,s,e=>by simp only[gf,xJ,pJ]at e |-;obtain⟨rfl,rfl,rfl⟩:=e;exact⟨k',⟨rfl,rfl,rfl⟩,.refl s⟩
 |t::l,j,a,k,k',k1,vs,s,e=>by
  simp only[gf,xB,xM,pJ]at e
  obtain⟨⟨v,h,k2⟩,g,⟨m,i,n⟩,f,rfl,rfl,rfl⟩:=e;obtain⟨k2',o,d⟩:=ut s g;obtain⟨c,h3,h4⟩:=AP l (s.step d) f
  exact⟨c,by grind [gf],d.trans h4⟩
theorem Wn(s:Sm Z b k k'){j a:Nat}{t:T}{v:SV}(e:lz dst j t k=some (v,a,k1)):∃k1',lz dst j t k'=some (v,a,k1')/\bE Z b k k' k1 k1':=by
 cases t with
 |agg f=>
  grind [lz,xM,AP]
 |d x=>exact ut (dst:=dst) (t:=.d x) s e
 |own c=>exact ut (dst:=dst) (t:=.own c) s e
 |dead=>simp[lz,gp]at e
theorem GT:∀(l:J T) {j:Nat} {k k' k1:Wk} {vs:J SV},Sm Z b k k'->io dst j l k=some (vs,k1)->∃k1',io dst j l k'=some (vs,k1')/\bE Z b k k' k1 k1'
 | [],j,k,k',k1,vs,s,e=>by simp only[io,xJ,pJ]at e |-;obtain⟨rfl,rfl⟩:=e;exact⟨k',⟨rfl,rfl⟩,.refl s⟩
 |t::l,j,k,k',k1,vs,s,e=>by
  simp only[io,xB,xM,pJ]at e
  obtain⟨⟨v,g,k2⟩,f,⟨h,i⟩,d,rfl,rfl⟩:=e;obtain⟨k2',m,c⟩:=Wn s f;obtain⟨a,h3,h4⟩:=GT l (s.step c) d
  exact⟨a,by grind [io],c.trans h4⟩
theorem Np(s:Sm Z b k k'){rs:J T}{v:SV}(e:pO dst rs k=some (v,k1)):∃k1',pO dst rs k'=some (v,k1')/\bE Z b k k' k1 k1':=by
 grind [pO,xM,GT]
theorem zj(s:Sm Z b k k')(hb:b=false->h.aV.contains dst=true){call:dH}{f:FuncId}{ds:J D}{d:bn}{v:SV}(e:fm call h dst f ds d k=some (v,k1)):∃k1',fm call h dst f ds d k'=some (v,k1')/\cT b k k' k1 k1':=by
 unfold fm at e |-
 split at e
 .rename_i hk
  rw[if_pos hk];simp only[xB]at e |-
  obtain⟨⟨x,c⟩,m,e⟩:=e;simp only at e
  split at e
  .rename_i w
   obtain⟨k1',z,a⟩:=Np s e
   exact⟨k1',⟨_,m,by grind⟩,a.1⟩
  .cases e
 rename_i p;rw[if_neg p]
 split at e
 .cases e
 .rename_i hk
  have i:b=true:=by
   cases b with
   |true=>rfl
   |false=>grind
  subst i;rw[if_neg hk,s.H rfl];simp only[xB]at e |-
  obtain⟨⟨x,c⟩,m,e⟩:=e;simp only at e
  split at e
  .rename_i w
   have y:Sm (λr=>Z r\/r.cF=true) true {k with H:=jQ k.H d.lk c,tr:=k.tr++[.bN]} {k' with H:=jQ k.H d.lk c,tr:=k'.tr++[.bN]}:=by
    refine⟨λr q=> ?_,λ_=>rfl,by simp[s.tr],by simp[s.nr,Tr.bM],by simp⟩
    cases r with
    |l n j=>exact s.get (.l n j) (λu=>q (.inl u))
    |o n=>exact absurd (.inr rfl) q
   obtain⟨k1',z,a⟩:=Np y e;obtain⟨g,A,t⟩:=a.1.ct
   exact⟨k1',⟨_,m,by grind⟩,⟨⟨g,A,t⟩,a.1.H,by simp,a.1.tr⟩⟩
  .cases e
theorem Jf(s:Sm Z b k k')(hb:b=false->(h.aV.contains dst=true/\h.ro.contains dst=false)/\h.lkn.contains dst=false){call:dH}{f:FuncId}{ds:J D}{d:bn}{v:SV}(e:gC call h dst f ds d k=some (v,k1)):∃k1',gC call h dst f ds d k'=some (v,k1')/\cT b k k' k1 k1':=by
 unfold gC at e |-
 split at e
 .rename_i a
  simp only[xB]at e
  obtain⟨j,m,e⟩:=e
  have c:b=true:=by
   cases b with
   |true=>rfl
   |false=>grind
  subst c;obtain⟨k1',i,g⟩:=zj s (λq=>by cases q) e
  exact⟨k1',by rw[if_pos a,s.H rfl,m];exact i,g⟩
 .rename_i a
  rw[if_neg a]
  split at e
  .rename_i l
   have c:b=true:=by
    cases b with
    |true=>rfl
    |false=>grind
   subst c;obtain⟨k1',i,g⟩:=zj s (λq=>by cases q) e
   exact⟨k1',by rw[if_pos l,s.H rfl];exact i,g⟩
  grind [zj]
theorem TG(s:Sm Z b k k'){call:dH}{op:Op}{c:Oz->SV}{v:SV}(B:b=false->wT h dst op=false)(ho:∀x∈op.operands,Off Z (c x))(e:dF P call h dst ty op c k=some (v,k1)):∃k1',dF P call h dst ty op c k'=some (v,k1')/\cT b k k' k1 k1':=by
 have plain:opE P h dst ty op c k=some (v,k1)->∃k1',opE P h dst ty op c k'=some (v,k1')/\cT b k k' k1 k1':=λe=>D? s B ho e
 unfold dF at e |-
 split at e
 .rename_i f o C
  have p:b=false->(h.aV.contains dst=true/\h.ro.contains dst=false)/\h.lkn.contains dst=false:=λq=>by
   grind [wT]
  simp only
  split at e
  .rename_i g first z A
   split at e
   .cases e
   rename_i w;rw[if_neg w]
   split at e
   .grind [xB,xM,cT.refl]
   simp only[xB]at e |-
   obtain⟨⟨y,k2,d⟩,n,r,j,i⟩:=e;obtain⟨rfl,l⟩:=rQ i
   obtain⟨k2',m,a⟩:=Ce _ s (λu t=>by
    grind [Op.operands,Call.operands]) n
   obtain⟨k1',h3,h4⟩:=Jf (s.step a) p j
   exact⟨k1',⟨_,m,_,h3,by grind [jY]⟩,a.1.trans h4⟩
  .rename_i D A
   simp only[xB]at e |-
   obtain⟨⟨y,k2,d⟩,n,r,j,i⟩:=e;obtain⟨rfl,l⟩:=rQ i
   obtain⟨k2',m,a⟩:=Ce _ s (λu t=>by
    grind [Op.operands,Call.operands]) n
   obtain⟨k1',h3,h4⟩:=Jf (s.step a) p j
   exact⟨k1',⟨_,m,_,h3,by grind [jY]⟩,a.1.trans h4⟩
  .cases e
 grind
end
theorem Nq{a b:Type}(f:a->b)(l:J (Nat×a))(t:Nat):look (l.map λp=>(p.1,f p.2)) t=(look l t).map f:=by
 induction l with
 |nil=>rfl
 |cons p r c=>grind [look]
theorem gq(s:St)(d:U Nat)(v:SV)(k:Wk)(t:Nat):(s.fin d v k).get t=if d=some t then v else aU k.tr (s.get t):=by
 have a:(look (trs k.tr s.env) t).getD .dead=aU k.tr (s.get t):=by
  rw[M9];unfold St.get
  cases look s.env t with
  |none=>simp[We]
  |some u=>rfl
 cases d with
 |none=>grind [St.fin,St.get]
 |some d=>
  grind [St.fin,St.get,look]
theorem GU:∀(a:J Tr),gh a []=[]
 | []=>rfl
 |x::a=>by
  have:x.cO []=[]:=by cases x <;>simp[Tr.cO]
  simp only[gh,this,GU a]
theorem fE(hi:pP)(tr:J Tr)(d:U Nat)(L:J aj)(t:Nat):eZ (dV hi tr d L) t=if d=some t then L else gh tr (eZ hi t):=by
 have a:(look (hi.map λp=>(p.1,gh tr p.2)) t).getD []=gh tr (eZ hi t):=by
  rw[Nq];unfold eZ
  cases look hi t with
  |none=>simp[GU]
  |some u=>rfl
 cases d with
 |none=>grind [dV,eZ]
 |some d=>
  grind [dV,eZ,look]
theorem Tr.hist_sub(x:Tr)(l:J aj):∀r∈l,r∈x.cO l:=λr a=>by
 cases x <;>simp only[Tr.cO] <;>first |exact a |grind
theorem GW:∀(a:J Tr) (l:J aj),∀r∈l,r∈gh a l
 | [],_,r,b=>b
 |x::a,l,r,b=>GW a _ r (Tr.hist_sub x l r b)
theorem Tr.hist_id(x:Tr)(l:J aj)(h:∀r∈l,r∉x.ba):x.cO l=l:=by
 cases x <;>simp only[Tr.cO] <;>try rfl
 grind [Tr.ba]
theorem Jg:∀(a:J Tr) (l:J aj),(∀r∈l,r∉a.flatMap Tr.ba)->gh a l=l
 | [],_,_=>rfl
 |x::a,l,h=>by
  have:=Jg a l;grind [gh,Tr.hist_id]
mutual
theorem Tr.dh(x:Tr):∀(v:SV) (L:List aj),(∀r∈v.aW,r∈L)->∀r∈(x.sv v).aW,r∈x.cO L
 | .d y,L,h,r,c=>by grind [Tr.sv,SV.aW]
 |.rp _ _,L,h,r,c|.clip _ _,L,h,r,c|.ns _,L,h,r,c|.dead,L,h,r,c=>by grind [Tr.sv,SV.aW]
 | .aH q p o n,L,h,r,c=>by
  have d:q∈L:=h q (by simp[SV.aW])
  cases x with
  |dp a b=>
   grind [Tr.sv,Tr.cO,SV.aW]
  |_=>
   simp only[Tr.sv,Tr.cO]at c |-
   (repeat' split at c) <;>simp[SV.aW]at c <;>(subst c;exact d)
 | .loc q p i o,L,h,r,c=>by
  have d:q∈L:=h q (by simp[SV.aW])
  cases x with
  |dp a b=>
   grind [Tr.sv,Tr.cO,SV.aW]
  |_=>
   simp only[Tr.sv,Tr.cO]at c |-
   (repeat' split at c) <;>simp[SV.aW]at c <;>(subst c;exact d)
 | .agg l,L,h,r,c=>by
  have:=Tr.rtss_sub x l L h r c;grind
 | .aS l,L,h,r,c=>by
  have:=Tr.rtss_sub x l L h r c;grind
theorem Tr.rtss_sub(x:Tr):∀(l:List SV) (L:List aj),(∀r∈SV.srtss l,r∈L)->∀r∈SV.srtss (Tr.bG x l),r∈x.cO L
 | [],L,h,r,c=>by simp[Tr.bG,SV.srtss]at c
 |v::l,L,h,r,c=>by
  have:=Tr.dh x v L;have:=Tr.rtss_sub x l L;grind [Tr.bG,SV.srtss]
end
theorem Dl:∀(a:J Tr) (v:SV) (L:J aj),(∀r∈v.aW,r∈L)->∀r∈(aU a v).aW,r∈gh a L
 | [],_,_,h=>h
 |x::a,v,L,h=>Dl a _ _ (Tr.dh x v L h)
mutual
theorem Tr.db(x:Tr):∀(v:SV),(∀r∈v.aW,r∉x.ba)->(x.aN=true->v.aW.any aj.cF=false)->x.sv v=v
 |.d _,_,_|.rp _ _,_,_|.clip _ _,_,_|.ns _,_,_|.dead,_,_=>by cases x <;>rfl
 | .aH q p o n,h,hk=>by
  have d:=h q (by simp[SV.aW])
  cases x with
  |bN=>
   have:q.cF=false:=by simpa [SV.aW]using hk rfl
   cases q with
   |l n j=>rfl
   |o n=>cases this
  |dp a b=>grind [Tr.ba,Tr.sv]
  |kill r c=>grind [Tr.ba,Tr.sv]
  |cI r m=>grind [Tr.ba,Tr.sv]
  |cR r c l=>grind [Tr.ba,Tr.sv]
 | .loc q p i o,h,hk=>by
  have d:=h q (by simp[SV.aW])
  cases x with
  |bN=>
   have:q.cF=false:=by simpa [SV.aW]using hk rfl
   cases q with
   |l n j=>cases p <;>rfl
   |o n=>cases this
  |dp a b=>grind [Tr.ba,Tr.sv]
  |kill r c=>grind [Tr.ba,Tr.sv]
  |cI r m=>grind [Tr.ba,Tr.sv]
  |cR r c l=>grind [Tr.ba,Tr.sv]
 | .agg l,h,hk=>by
  have:x.sv (.agg l)=.agg (Tr.bG x l):=by cases x <;>rfl
  rw[this,Tr.svs_id x l h hk]
 | .aS l,h,hk=>by
  have:x.sv (.aS l)=.aS (Tr.bG x l):=by cases x <;>rfl
  rw[this,Tr.svs_id x l h hk]
theorem Tr.svs_id(x:Tr):∀(l:List SV),(∀r∈SV.srtss l,r∉x.ba)->(x.aN=true->(SV.srtss l).any aj.cF=false)->Tr.bG x l=l
 | [],_,_=>rfl
 |v::l,h,hk=>by
  have:=Tr.db x v;have:=Tr.svs_id x l;grind [SV.srtss,Tr.bG]
end
theorem Wo:∀(a:J Tr) (v:SV),(∀r∈v.aW,r∉a.flatMap Tr.ba)->(a.any Tr.aN=true->v.aW.any aj.cF=false)->aU a v=v
 | [],_,_,_=>rfl
 |x::a,v,h,hk=>by
  have:=Wo a v;grind [aU,Tr.db]
theorem Py{v:Vz}{x:D}(h:D.ofCell v=some x):SV.ba (.d x)=[]:=by
 unfold D.ofCell at h
 split at h <;>simp only[xJ,reduceCtorEq]at h <;>subst h <;>rfl
theorem Jh(x:Oz):(My x).ba=[]:=by
 unfold My;split
 .rename_i v
  cases a:D.ofVal v with
  |none=>rfl
  |some x=>
   simp only
   unfold D.ofVal at a
   split at a
   .simp only[xM]at a
    obtain⟨l,_,rfl⟩:=a;rfl
   .exact Py a
 .rfl
 .rfl
theorem Kb{op:Op}{t:Nat}(h: .tmp t∈op.operands):t∈mV op:=by
 simp only[mV,List.mem_filterMap]
 exact⟨.tmp t,by simpa using h,rfl⟩
section
variable{P:Pz}{call:dH}{h:Hint}{ops:J Qz}
theorem pb{dst:Nat}{ty:TypeId}(op:Op){d τ:Oz->SV}(k:Wk)(hx:∀x∈op.operands,d x=τ x):dF P call h dst ty op d k=dF P call h dst ty op τ k:=by
 have e:=Ts (P:=P) (h:=h) (dst:=dst) (ty:=ty) op k hx;unfold dF
 cases op with
 |call c=>
  obtain⟨a,b,g⟩:=c
  cases a with
  |value f=>
   simp only
   rw[hx f (by simp[Op.operands,Call.operands]),rR (l:=b.toList) λx i=>hx x (by grind [Op.operands,Call.operands])]
  |_=>exact e
 |_=>exact e
theorem nS{s s2:St}{op:Op}(hx:∀t∈mV op,s2.get t=s.get t):∀x∈op.operands,s2.val x=s.val x:=λx a=>by
 cases x with
 |tmp t=>exact hx t (Kb a)
 |_=>rfl
theorem gr{o:Qz}{t:Nat}(ht:t∈mV o.op):t∈looks ops o:=xL _ ht
theorem pc{s s2:St}{o:Qz}(hx:∀t∈looks ops o,s2.get t=s.get t):iu ops s2 o=iu ops s o:=by
 grind [iu,looks]
theorem pd{s s2:St}{o:Qz}(hx:∀t∈looks ops o,s2.get t=s.get t)(hc:s2.ct=s.ct)(a:s2.H=s.H):fh P call h ops o s2=fh P call h ops o s:=by
 grind [fh,St.wk,pc,pb,nS,gr]
theorem Nr{h:Hint}{dst:Nat}{op:Op}(hr:reads op=false):fY h dst op=false/\∀c,op≠ .call c:=by
 cases op <;>simp[reads]at hr <;>simp[fY]
theorem Dm{dst:Nat}{ty:TypeId}{op:Op}(hc:∀c,op=.call c->∃b,c.callee=.builtin b)(a:Oz->SV)(k:Wk):dF P call h dst ty op a k=opE P h dst ty op a k:=by
 unfold dF
 grind
theorem Cg{Z:aj->Prop}{b:Bool}{s s2:St}{o:Qz}{w:Bool}{v:SV}{k:Wk}(g:Sm Z b s.wk s2.wk)(f:∀t∈looks ops o,s2.get t=s.get t)(m:b=false->w=true->wT h (o.dst.getD 0) o.op=false)(ho:reads o.op=true->w=true->∀t∈looks ops o,Off Z (s.get t))
  (e:fh P call h ops o s=some (w,v,k)):∃k2,fh P call h ops o s2=some (w,v,k2)/\cT b s.wk s2.wk k k2:=by
 simp only[fh,xB]at e
 obtain⟨A,z,e⟩:=e;have p:=nS (s:=s) (s2:=s2) (op:=o.op) λt j=>f t (gr j)
 split at e
 .rename_i c
  subst c;simp only[xM,pJ]at e
  obtain⟨⟨d,k'⟩,n,rfl,rfl,rfl⟩:=e
  have i:∀k2,dF P call h (o.dst.getD 0) o.type o.op s.val s2.wk=some (d,k2)->fh P call h ops o s2=some (true,d,k2):=λk2 q=>by
   grind [fh,pc,pb]
  cases a:reads o.op with
  |true=>
   obtain⟨k2,B,r⟩:=TG g (λq=>m q rfl) (λx l=>by
    cases x with
    |tmp t=>exact ho a rfl t (gr (Kb l))
    |_=>grind [St.val,Jh]) n
   grind
  |false=>
   obtain⟨u,y⟩:=Nr (h:=h) (dst:=o.dst.getD 0) a
   grind [Dm,GQ,cT.refl]
 grind [fh,pc,cT.refl]
theorem mF{s:St}{o:Qz}{w:Bool}{v:SV}{k:Wk}(e:fh P call h ops o s=some (w,v,k)):Grown (hOf h (o.dst.getD 0) o.op=false/\(y8 o.op=true->∀t∈looks ops o,dj (s.get t))) s.wk k/\((w&&fY h (o.dst.getD 0) o.op)=false->k=s.wk):=by
 simp only[fh,xB]at e
 obtain⟨u,B,e⟩:=e
 split at e
 .rename_i j
  subst j;simp only[xM,pJ]at e
  obtain⟨⟨A,k'⟩,p,rfl,_,rfl⟩:=e
  refine⟨(Nk p).imp λq=>⟨q.1,λi x n=> ?_⟩,λd=> ?_⟩
  .cases x with
   |tmp t=>exact q.2 i t (gr (Kb n))
   |_=>grind [St.val,Jh]
  .simp only[nw]at d
   have y:∀c,o.op=.call c->∃b,c.callee=.builtin b:=λc g=>by
    obtain⟨a,l,z⟩:=c;rw[g]at d
    cases a with
    |builtin b=>exact⟨b,rfl⟩
    |value f=>simp[fY]at d
    |invoke r m=>simp[fY]at d
   grind [Dm,GQ]
 .simp only[xJ,pJ]at e
  rw[<-e.2.2]
  exact⟨.refl _ _,λ_=>rfl⟩
end
mutual
theorem Tr.comm(x y:Tr)(hd:∀r∈x.ba,r∉y.ba)(hx:x.aN=true->y.ba.any aj.cF=false)(g:y.aN=true->x.ba.any aj.cF=false):∀v:SV,x.sv (y.sv v)=y.sv (x.sv v)
 |.d _|.rp _ _|.clip _ _|.ns _|.dead=>by cases x <;>cases y <;>rfl
 | .agg l=>by
  have t:∀l,x.sv (.agg l)=.agg (Tr.bG x l):=λl=>by cases x <;>rfl
  have k:∀l,y.sv (.agg l)=.agg (Tr.bG y l):=λl=>by cases y <;>rfl
  rw[t,k,t,k,Tr.comms x y hd hx g l]
 | .aS l=>by
  have t:∀l,x.sv (.aS l)=.aS (Tr.bG x l):=λl=>by cases x <;>rfl
  have k:∀l,y.sv (.aS l)=.aS (Tr.bG y l):=λl=>by cases y <;>rfl
  rw[t,k,t,k,Tr.comms x y hd hx g l]
 | .aH r p o n=>by
  by_cases s:r∈x.ba
  .have C:r∉y.ba:=hd r s
   have B:y.aN=true->r.cF=false:=λq=>List.any_eq_false.1 (g q) r s |>λz=>by simpa using z
   have f:y.sv (.aH r p o n)=.aH r p o n:=Tr.db y _ (by grind [SV.aW]) (λq=>by grind [SV.aW])
   rw[f]
   refine(Tr.db y _ (λq e=> ?_) (λhk=> ?_)).symm
   .have:=Tr.dh x (.aH r p o n) x.ba (λq e=>by grind [SV.aW]) q e
    cases x <;>simp only[Tr.cO]at this <;>first |exact hd q this |grind [Tr.ba]
   .have w:=g hk
    refine List.any_eq_false.2 λq e=> ?_
    have:=Tr.dh x (.aH r p o n) x.ba (λq e=>by grind [SV.aW]) q e
    have j:q∈x.ba:=by
     cases x <;>simp only[Tr.cO]at this <;>first |exact this |grind [Tr.ba]
    grind
  .by_cases hk:x.aN=true
   .cases x with
    |bN=>
     cases r with
     |l a b=>
      have f:Tr.bN.sv (.aH (.l a b) p o n)=.aH (.l a b) p o n:=rfl;rw[f];refine Tr.db .bN _ (by simp[Tr.ba]) (λ_=>List.any_eq_false.2 λq e=> ?_)
      cases y with
      |dp c d=>grind [Tr.sv,SV.aW,aj.cF]
      |_=>grind [Tr.sv,SV.aW,aj.cF]
     |o m=>
      have A:aj.o m∉y.ba:=λe=>by grind [aj.cF]
      by_cases h:y.aN=true
      .grind [Tr.aN]
      .have f:y.sv (.aH (.o m) p o n)=.aH (.o m) p o n:=Tr.db y _ (by grind [SV.aW]) (λq=>absurd q h)
       rw[f];have u:Tr.bN.sv (.aH (.o m) p o n)=.dead:=rfl;rw[u]
       cases y <;>rfl
    |_=>simp[Tr.aN]at hk
   .have f:x.sv (.aH r p o n)=.aH r p o n:=Tr.db x _ (by grind [SV.aW]) (λq=>absurd q hk)
    rw[f];refine Tr.db x _ (λq e j=> ?_) (λq=>absurd q hk)
    have:=Tr.dh y (.aH r p o n) [r] (λq e=>by grind [SV.aW]) q e
    cases y with
    |dp c d=>
     grind [Tr.cO,Tr.ba]
    |_=>grind [Tr.cO]
 | .loc r p i o=>by
  by_cases s:r∈x.ba
  .have C:r∉y.ba:=hd r s
   have B:y.aN=true->r.cF=false:=λq=>List.any_eq_false.1 (g q) r s |>λz=>by simpa using z
   have f:y.sv (.loc r p i o)=.loc r p i o:=Tr.db y _ (by grind [SV.aW]) (λq=>by grind [SV.aW])
   rw[f]
   refine(Tr.db y _ (λq e=> ?_) (λhk=> ?_)).symm
   .have:=Tr.dh x (.loc r p i o) x.ba (λq e=>by grind [SV.aW]) q e
    cases x <;>simp only[Tr.cO]at this <;>first |exact hd q this |grind [Tr.ba]
   .have w:=g hk
    refine List.any_eq_false.2 λq e=> ?_
    have:=Tr.dh x (.loc r p i o) x.ba (λq e=>by grind [SV.aW]) q e
    have j:q∈x.ba:=by
     cases x <;>simp only[Tr.cO]at this <;>first |exact this |grind [Tr.ba]
    grind
  .by_cases hk:x.aN=true
   .cases x with
    |bN=>
     cases r with
     |l a b=>
      have f:Tr.bN.sv (.loc (.l a b) p i o)=.loc (.l a b) p i o:=by cases p <;>rfl
      rw[f];refine Tr.db .bN _ (by simp[Tr.ba]) (λ_=>List.any_eq_false.2 λq e=> ?_)
      cases y with
      |dp c d=>grind [Tr.sv,SV.aW,aj.cF]
      |_=>grind [Tr.sv,SV.aW,aj.cF]
     |o m=>
      have A:aj.o m∉y.ba:=λe=>by grind [aj.cF]
      by_cases h:y.aN=true
      .grind [Tr.aN]
      .have f:y.sv (.loc (.o m) p i o)=.loc (.o m) p i o:=Tr.db y _ (by grind [SV.aW]) (λq=>absurd q h)
       rw[f]
       cases p with
       |nil=>exact f.symm
       |cons a p=>
        have u:Tr.bN.sv (.loc (.o m) (a::p) i o)=.dead:=rfl;rw[u]
        cases y <;>rfl
    |_=>simp[Tr.aN]at hk
   .have f:x.sv (.loc r p i o)=.loc r p i o:=Tr.db x _ (by grind [SV.aW]) (λq=>absurd q hk)
    rw[f];refine Tr.db x _ (λq e j=> ?_) (λq=>absurd q hk)
    have:=Tr.dh y (.loc r p i o) [r] (λq e=>by grind [SV.aW]) q e
    cases y with
    |dp c d=>
     grind [Tr.cO,Tr.ba]
    |_=>grind [Tr.cO]
theorem Tr.comms(x y:Tr)(hd:∀r∈x.ba,r∉y.ba)(hx:x.aN=true->y.ba.any aj.cF=false)(g:y.aN=true->x.ba.any aj.cF=false):∀l:List SV,Tr.bG x (Tr.bG y l)=Tr.bG y (Tr.bG x l)
 | []=>rfl
 |v::l=>by simp only[Tr.bG,Tr.comm x y hd hx g v,Tr.comms x y hd hx g l]
end
theorem Wp(x:Tr):∀(a:J Tr) (v:SV),(∀y∈a,(∀r∈x.ba,r∉y.ba)/\(x.aN=true->y.ba.any aj.cF=false)/\(y.aN=true->x.ba.any aj.cF=false))->x.sv (aU a v)=aU a (x.sv v)
 | [],_,_=>rfl
 |y::a,v,h=>by
  have:=Wp x a;grind [aU,Tr.comm]
theorem Ns:∀(a b:J Tr) (v:SV),(∀x∈a,∀y∈b,(∀r∈x.ba,r∉y.ba)/\(x.aN=true->y.ba.any aj.cF=false)/\(y.aN=true->x.ba.any aj.cF=false))->aU a (aU b v)=aU b (aU a v)
 | [],_,_,_=>rfl
 |x::a,b,v,h=>by
  simp only[aU];rw[Wp x b v (h x (by simp)),Ns a b _ (λz c=>h z (by simp[c]))]
theorem jF:∀(a:J Tr) (l:J aj),a.any Tr.bM=false->gh a l=l
 | [],_,_=>rfl
 |x::a,l,h=>by
  simp only[List.any_cons,rk]at h
  have:x.cO l=l:=by cases x <;>first |rfl |simp[Tr.bM]at h
  simp only[gh,this,jF a l h.2]
theorem Nt(a b:J Tr)(l:J aj)(h:a.any Tr.bM=false\/b.any Tr.bM=false):gh a (gh b l)=gh b (gh a l):=by
 grind [jF]
theorem T.cell_iff{e:T}{off:Nat}:(∃x,e.cell off=some x)↔off<e.nc:=by
 constructor
 .simp_all [T.bW]
 .intro h
  cases e with
  |agg a=>simp_all [T.cell,T.nc]
  |d x=>
   cases x with
   |agg l=>simp_all [T.cell,T.nc,D.nc]
   |_=>
    simp only[T.nc,D.nc]at h;obtain rfl:off=0:=by omega
    exact⟨_,rfl⟩
  |own b=>
   simp only[T.nc]at h;obtain rfl:off=0:=by omega
   exact⟨_,rfl⟩
  |dead=>
   simp only[T.nc]at h;obtain rfl:off=0:=by omega
   exact⟨_,rfl⟩
def RelT(kd off:Nat)(e a:T):Prop:=a.nc=e.nc/\(kd=0->a.cell off=e.cell off)/\(kd=1->a.cell off=e.cell off\/∃l b,e.cell off=some (.own l)/\a.cell off=some (.own b)/\b.length=l.length)
def atN(kd i off:Nat)(es es':J T):Prop:=(es[i]? =none/\es'[i]? =none)\/∃e a,es[i]? =some e/\es'[i]? =some a/\RelT kd off e a
def RelN(kd i off:Nat)(a b:U T):Prop:=a=b\/∃es es',a=some (.own es)/\b=some (.own es')/\atN kd i off es es'
theorem RelT.symm{kd off:Nat}{e a:T}(h:RelT kd off e a):RelT kd off a e:=
 ⟨h.1.symm,λq=>(h.2.1 q).symm,λq=>(h.2.2 q).imp Eq.symm λ⟨l,c,d,b,h3⟩=>⟨c,l,b,d,h3.symm⟩⟩
theorem RelN.symm{kd i off:Nat}{a b:U T}(h:RelN kd i off a b):RelN kd i off b a:=by
 obtain h |⟨k,f,j,g,h3⟩:=h
 .exact .inl h.symm
 .refine .inr ⟨f,k,g,j,?_⟩
  obtain⟨c,d⟩ |⟨e,l,c,d,q3⟩:=h3
  .exact .inl ⟨d,c⟩
  .exact .inr ⟨l,e,d,c,q3.symm⟩
theorem Ep{c c' x:T}{s:Nat×Nat}{q:dR}(h:c.put (s::q) x=some c'):∃es e b a,c=.own es/\es[s.1]? =some e/\e.cell s.2=some b/\b.put q x=some a/\c'=.own (es.set s.1 (e.aT s.2 a)):=by
 obtain⟨i,o⟩:=s
 cases c with
 |own es=>
  simp only[T.put,xB,xM]at h
  grind
 |_=>simp[T.put]at h
theorem Rd{c c':T}{q:dR}(h:c.put q .dead=some c'):c'.nc=1/\(∀l,c'≠ .agg l)/\(∀l,c'≠ .d (.agg l)):=by
 cases q with
 |nil=>grind [T.put,T.nc]
 |cons s q=>grind [Ep,T.nc]
theorem Re{kd off i:Nat}:∀(p:dR) (c c':T) (q:dR),c.put q .dead=some c'->sepL kd p i off q=true->RelN kd i off (c.at p) (c'.at p)
 |p,c,c',[],h,m=>by grind [sepL]
 | [],c,c',s::q,h,m=>by
  obtain⟨k,e,A,a,rfl,v,n,h3,rfl⟩:=Ep h;obtain⟨g,d⟩:=s;obtain⟨r,D,E⟩:=Rd h3;refine .inr ⟨k,_,rfl,rfl,?_⟩;have j:g<k.length:=(List.getElem?_eq_some_iff.1 v).1
  by_cases y:g=i
  .subst y
   refine .inr ⟨e,_,v,yK j,T.dd n r,λhk=> ?_,λhk=> ?_⟩
   .by_cases z:d=off
    .simp_all [sepL]
    .obtain f |u:=gk off e.nc
     .grind [T.cell_iff,T.cJ]
     .have o:e.cell off=none:=by
       cases b:e.cell off with
       |none=>rfl
       |some x=>have:=T.bW b;omega
      have t:(e.aT d a).cell off=none:=by
       cases b:(e.aT d a).cell off with
       |none=>rfl
       |some x=>have:=T.bW b;rw[T.dd n r]at this;omega
      rw[o,t]
   .by_cases z:d=off
    .subst z;subst hk
     simp only[sepL,and_self,if_true]at m
     cases q with
     |nil=>simp at m
     |cons G q=>
      grind [Ep,T.cS]
    .left
     obtain f |u:=gk off e.nc
     .grind [T.cell_iff,T.cJ]
     .have o:e.cell off=none:=by
       cases b:e.cell off with
       |none=>rfl
       |some x=>have:=T.bW b;omega
      have t:(e.aT d a).cell off=none:=by
       cases b:(e.aT d a).cell off with
       |none=>rfl
       |some x=>have:=T.bW b;rw[T.dd n r]at this;omega
      rw[o,t]
  .have B:(k.set g (e.aT d a))[i]? =k[i]? :=rj y
   cases b:k[i]? with
   |none=>exact .inl ⟨b,by rw[B,b]⟩
   |some x=>exact .inr ⟨x,x,b,by rw[B,b],rfl,λ_=>rfl,λ_=>.inl rfl⟩
 |F::p,c,c',s::q,h,m=>by
  obtain⟨k,e,A,a,rfl,v,n,h3,rfl⟩:=Ep h;obtain⟨r,D,E⟩:=Rd h3;obtain⟨C,l⟩:=F;obtain⟨g,d⟩:=s;have j:g<k.length:=(List.getElem?_eq_some_iff.1 v).1;simp only[sepL]at m
  by_cases w:(C,l)=(g,d)
  .rw[if_pos w]at m
   have:=Re p A a q h3 m;grind [T.at,T.cS]
  .left
   simp only[T.at]
   by_cases y:g=C
   .subst y
    have z:l≠d:=λe=>w (by rw[e])
    rw[v,yK j];simp only[xS];congr 1
    obtain f |u:=gk l e.nc
    .grind [T.cell_iff,T.cJ]
    .have o:e.cell l=none:=by
      cases b:e.cell l with
      |none=>rfl
      |some x=>have:=T.bW b;omega
     have t:(e.aT d a).cell l=none:=by
      cases b:(e.aT d a).cell l with
      |none=>rfl
      |some x=>have:=T.bW b;rw[T.dd n r]at this;omega
     rw[o,t]
   grind
def Rf(kd:Nat)(r:aj)(p:dR)(i off:Nat)(k k':Wk):Prop:=RelN kd i off ((k.get r).bind (·.at p)) ((k'.get r).bind (·.at p))
section
variable{P:Pz}{call:dH}{h:Hint}{dst:Nat}{ty:TypeId}
theorem zk{t:TypeId}{a:Oz}{b:Oz->SV}{k:Wk}(hl:h.lits.contains dst=false)(c:∀g,a=.global g->False):dF P call h dst ty (.load t a) b k=(hJ P t (b a) k).map (·,k):=by
 grind [dF,opE]
theorem acn{op:Op}{d:Oz->SV}{k k':Wk}{v:SV}{r:aj}{p:dR}{i off kd:Nat}(hx:ue (fY h dst op) op d v=some (r,p,i,off,kd))(A:Rf kd r p i off k k')(e:dF P call h dst ty op d k=some (v,k)):dF P call h dst ty op d k'=some (v,k'):=by
 unfold ue at hx
 split at hx
 .cases hx
 .rename_i t a R
  split at hx
  .cases hx
  rename_i m;have m:=Bool.eq_false_iff.2 m
  have w:hJ P t (d a) k=some v:=by
   have B:(hJ P t (d a) k).map (·,k)=some (v,k):=by rw[<-zk m R];exact e
   simp only[xM,pJ]at B
   obtain⟨u,s,rfl,_⟩:=B;exact s
  suffices hJ P t (d a) k'=some v by
   rw[zk m R,this];rfl
  have V:∀r p i off kd,bD (d a)=.loc r p i off->((kd=1/\∃F E o n,v=.aH F E o n)\/(kd=0/\∃x,v=.d x/\∀l,x≠ .agg l))->Rf kd r p i off k k'->hJ P t (d a) k'=some v:=by
   intro r p i off kd m H A
   have bb:∀(k:Wk),hJ P t (d a) k=(((k.get r).bind (·.at p)).bind λnd=>match nd with
     | .own J=>(J[i]?).bind λe=>(oR P t).bind λG=>
      if G then
       match e with
       | .d (.agg l)=>if off+P.cellsOf t<=l.length then some (.d (.agg (bz l off (P.cellsOf t))))else none
       | .agg L=>if off+P.cellsOf t<=L.length then(kg r p i off (bz L off (P.cellsOf t))).map SV.br else none
       |_=>none
      else(e.cell off).bind (im r p i off)
     |_=>none):=λk=>by
    unfold hJ;rw[m];simp only[xX];rfl
   rw[bb]at w |-
   obtain A |⟨J,K,s,W,h3⟩:=A
   .grind
   .rw[s]at w
    rw[W];simp only[xS]at w |-
    obtain⟨z,C⟩ |⟨X,I,z,C,q3⟩:=h3
    .grind
    .rw[z]at w
     rw[C];simp only[xS,xB]at w |-
     obtain⟨G,a1,D⟩:=w
     refine⟨G,a1,?_⟩
     cases G with
     |true=>
      exfalso;simp only[if_true]at D
      split at D
      .grind
      .grind [xM,SV.br]
      .cases D
     |false=>
      simp only[xH,if_false,xB]at D |-
      obtain⟨ce,c1,Y⟩:=D
      obtain⟨rfl,F,E,o,n,H⟩ |⟨rfl,x,H,hx⟩:=H
      .obtain q |⟨l,l',O,N,Q⟩:=q3.2.2 rfl
       .grind
       grind [im]
      .exact⟨ce,by rw[q3.2.1 rfl];exact c1,Y⟩
  split at hx
  .grind
  .cases hx
  .grind
  .cases hx
 .rename_i t a f
  split at hx
  .rename_i F E M j
   simp only[xJ,pJ]at hx
   obtain⟨rfl,rfl,rfl,rfl,rfl⟩:=hx;have B:(eL P t (d a) f k).map (·,k)=some (.loc F E M j,k):=e;simp only[xM,pJ]at B
   obtain⟨u,s,rfl,_⟩:=B
   show(eL P t (d a) f k').map (·,k')=_
   suffices eL P t (d a) f k'=some (.loc F E M j)by rw[this];rfl
   simp only[eL,xB]at s |-
   obtain⟨⟨o,n,b⟩,Z,g⟩:=s
   refine⟨_,Z,?_⟩
   simp only at g |-
   split at g
   .rename_i T
    rw[if_pos T]
    split at g
    .rename_i r2 U S y m
     split at g
     .rename_i c
      simp only[xJ,SV.loc.injEq]at g
      obtain⟨rfl,rfl,rfl,rfl⟩:=g
      have:o5 k' r2 U S (y+o)=true:=by
       unfold o5 at c |-
       obtain A |⟨J,K,O,N,Q⟩:=A
       .grind
       .rw[O]at c
        rw[N];simp only at c |-
        obtain⟨z,C⟩ |⟨X,I,z,C,q3⟩:=Q
        .grind
        .rw[z]at c
         rw[C];simp only[yD]at c |-
         rw[q3.1];exact c
      grind
     .cases g
    .cases g
    .cases g
   .cases g
  .cases hx
 .cases hx
theorem TH{nv:Nat}{v:SV}{k k':Wk}{l:J T}(a:k.tr=[])(e:gc nv v k=some (l,k')):k'=k\/∃n j,k'.tr=[.kill (.l n j) []]/\(∀r,r≠ .l n j->k'.get r=k.get r)/\k'.get (.l n j)=some .dead/\k'.H=k.H:=by
 unfold gc at e
 split at e
 .grind
 .grind
 .grind
 .grind
 .simp only[xB]at e
  obtain⟨c,f,g,d,e⟩:=e
  split at e
  .split at e
   .rename_i n j
    split at e
    .simp only[xM,pJ]at e
     obtain⟨k2,h3,_,rfl⟩:=e;simp only[Wk.set,xJ]at h3
     subst h3;refine .inr ⟨n,j,by simp[Wk.tell,a],λr b=> ?_,?_,rfl⟩
     .show Go.Am.cont (((n,j),T.dead)::k.ct) k.H r=_
      rw[ju,if_neg b];rfl
     .show Go.Am.cont (((n,j),T.dead)::k.ct) k.H (.l n j)=_
      grind [ju]
    grind
   grind
  .cases e
 .cases e
theorem PA{nv:Nat}{t:TypeId}{r:aj}{q:dR}{o len:Nat}{x v:SV}{k k':Wk}(p:k.tr=[])(e:iA P nv dst t (.aH r q o len) x k=some (v,k')):
  ∃(A:J Tr) (c c':T),k.get r=some c/\c.put q .dead=some c'/\k'.tr=A++[.kill r q,.kill (.l dst 0) []]/\(∀y∈A,∃n j,y=.kill (.l n j) []/\ .l n j≠r)/\
   ∀b,b≠ .l dst 0->b∉A.flatMap Tr.ba->k'.get b=if b=r then some c' else k.get b:=by
 simp only[iA,xB]at e
 obtain⟨C,_,z,_,⟨l,k1⟩,F,e⟩:=e;simp only at e
 split at e
 .simp only[xB]at e
  obtain⟨⟨m,k2⟩,a,e⟩:=e;simp only at e
  split at e
  .simp only[xJ,pJ]at e
   obtain⟨_,rfl⟩:=e
   have i:∀(k1 k2:Wk),qs (P.cellsOf C) l (.aH r q o len) k1=some (m,k2)->∃c c',k1.get r=some c/\c.put q .dead=some c'/\k2.tr=k1.tr++[.kill r q]/\∀b,k2.get b=if b=r then some c' else k1.get b:=by
    intro k1 k2 a;simp only[qs]at a
    split at a
    .simp only[xB]at a
     obtain⟨c,g,I,u,a⟩:=a
     split at a
     .split at a
      .simp only[xB,xM,pJ]at a
       obtain⟨c',h3,H,h4,_,rfl⟩:=a;obtain⟨w,_,D,_⟩:=Wk.c9 h4 ⟨c,g,λ_ _=>trivial⟩
       exact⟨c,c',g,h3,by simp[Wk.tell,D],λb=>w b⟩
      .cases a
     .cases a
    .cases a
   obtain rfl |⟨n,j,t1,w,g2,_⟩:=TH p F
   .rw[p]at a
    obtain⟨c,c',g,u,h3,h4⟩:=i _ _ a
    refine⟨[],c,c',g,u,by grind [Wk.new],by simp,λb B _=> ?_⟩
    show Go.Am.cont (((dst,0),_)::k2.ct) k2.H b=_;rw[ju,if_neg B];exact h4 b
   .by_cases d:(aj.l n j)=r
    .exfalso
     subst d;rw[t1]at a
     have:aU [Tr.kill (.l n j) []] (.aH (.l n j) q o len)=.dead:=by
      show Tr.sv (.kill (.l n j) []) (.aH (.l n j) q o len)=_
      cases q with
      |nil=>simp[Tr.sv]
      |cons s q=>simp[Tr.sv]
     rw[this]at a
     simp[qs]at a
    .rw[t1]at a
     have:aU [Tr.kill (.l n j) []] (.aH r q o len)=.aH r q o len:=by
      show Tr.sv (.kill (.l n j) []) (.aH r q o len)=_;have f:r≠ .l n j:=λh=>d h.symm
      simp[Tr.sv,f]
     rw[this]at a
     obtain⟨c,c',g,u,h3,h4⟩:=i _ _ a;rw[w r (λh=>d h.symm)]at g
     refine⟨[.kill (.l n j) []],c,c',g,u,by grind [Wk.new],λy G=> ?_,λb B f=> ?_⟩
     .grind
     .have E:b≠ .l n j:=λh=>f (by simp[Tr.ba,h])
      show Go.Am.cont (((dst,0),_)::k2.ct) k2.H b=_;rw[ju,if_neg B];show k2.get b=_
      grind
  .cases e
 .cases e
end
mutual
theorem Ji{r:aj}{q:dR}:∀(u:SV),u.dv r q=true->(Tr.kill r q).sv u=u
 | .aH a p o n,h=>by
  grind [SV.dv,Tr.sv]
 | .loc a p i o,h=>by
  grind [SV.dv,Tr.sv]
 |.agg l,h|.aS l,h=>by have:=zm l h;grind [Tr.sv]
 |.d _,_|.rp _ _,_|.clip _ _,_|.ns _,_|.dead,_=>rfl
theorem zm{r:aj}{q:dR}:∀(l:List SV),SV.unhurts r q l=true->Tr.bG (Tr.kill r q) l=l
 | [],_=>rfl
 |v::l,h=>by
  simp only[SV.unhurts,xA]at h
  simp only[Tr.bG,Ji v h.1,zm l h.2]
end
structure Eqv(c d:Cf):Prop where
 get:∀t,d.1.get t=c.1.get t
 ct:∀x,fc d.1.ct x=fc c.1.ct x
 H:d.1.H=c.1.H
 hi:∀t,eZ d.2 t=eZ c.2 t
theorem Eqv.refl(c:Cf):Eqv c c:=⟨λ_=>rfl,λ_=>rfl,rfl,λ_=>rfl⟩
theorem Eqv.trans{a b c:Cf}(x:Eqv a b)(y:Eqv b c):Eqv a c:=⟨λt=>(y.get t).trans (x.get t),λt=>(y.ct t).trans (x.ct t),y.H.trans x.H,λt=>(y.hi t).trans (x.hi t)⟩
def Inv(c:Cf):Prop:=∀t,∀r∈(c.1.get t).aW,r∈eZ c.2 t
theorem Nu{a b:J aj}(h:MB a b=false):∀r∈b,r∉a:=λr c d=>by
 grind [MB]
theorem pf{k k':Wk}{a:J ((Nat×Nat)×T)}(hp:k'.ct=a++k.ct):ga k k'=a.map λp=>aj.l p.1.1 p.1.2:=by
 simp_all [ga]
theorem zn{a:J ((Nat×Nat)×T)}{n j:Nat}(h:aj.l n j∉a.map λp=>aj.l p.1.1 p.1.2):fc a (n,j)=none:=by
 induction a with
 |nil=>rfl
 |cons p a b=>
  grind [fc]
theorem Dn{k k':Wk}(b:∃a,k'.ct=a++k.ct)(n j:Nat)(h:aj.l n j∉ga k k'):fc k'.ct (n,j)=fc k.ct (n,j):=by
 grind [pf,kG,zn]
section
variable{P:Pz}{call:dH}{h:Hint}{ops:J Qz}
theorem fG{o:Qz}{c d:Cf}{f:Fp}(e:er P call h ops o c=some (d,f)):
  ∃w v k,fh P call h ops o c.1=some (w,v,k)/\d=(c.1.fin o.dst v k,dV c.2 k.tr o.dst (fZ o.op c.2 v))/\f=mA h ops o c.2 c.1 w v k:=by
 grind [er,xM]
theorem ib{o:Qz}{c:Cf}{w:Bool}{v:SV}{k:Wk}(e:fh P call h ops o c.1=some (w,v,k)):
  er P call h ops o c=some ((c.1.fin o.dst v k,dV c.2 k.tr o.dst (fZ o.op c.2 v)),mA h ops o c.2 c.1 w v k):=by
 grind [er]
theorem PB{b:Bool}{op:Op}{a τ:Oz->SV}(v:SV)(hx:∀x∈op.operands,a x=τ x):ue b op a v=ue b op τ v:=by
 unfold ue;split
 .rfl
 .grind [Op.operands]
 .rfl
 .rfl
theorem GX{op:Op}{a τ:Oz->SV}(hx:∀x∈op.operands,a x=τ x):y9 op a=y9 op τ:=by
 unfold y9;split
 .grind [Op.operands,Call.operands]
 .rfl
theorem iV{o:Qz}{c d:Cf}{w:Bool}{v:SV}{k k':Wk}(b:∀t∈looks ops o,d.1.get t=c.1.get t)(i:∀t∈looks ops o,eZ d.2 t=eZ c.2 t)(h1:ga d.1.wk k'=ga c.1.wk k)(h2:k'.tr=k.tr):mA h ops o d.2 d.1 w v k'=mA h ops o c.2 c.1 w v k:=by
 unfold mA
 have:(looks ops o).flatMap (eZ d.2)=(looks ops o).flatMap (eZ c.2):=by
  simp only[List.flatMap_def];rw[lY i]
 have a:((looks ops o).flatMap λt=>(d.1.get t).ba)=(looks ops o).flatMap λt=>(c.1.get t).ba:=by
  simp only[List.flatMap_def];rw[lY λt e=>by rw[b t e]]
 have f:=nS (s:=c.1) (s2:=d.1) (op:=o.op) λt e=>b t (gr e)
 have g:((looks ops o).map λt=>d.1.get t)=(looks ops o).map λt=>c.1.get t:=lY b
 rw[this,a,h1,h2,PB v f,GX f,g]
theorem Eqv.sm{c d:Cf}(q:Eqv c d):Sm (λ_=>False) true c.1.wk d.1.wk:=by
 refine⟨λr _=> ?_,λ_=>q.H,rfl,rfl,by simp⟩
 cases r with
 |l n j=>simp only[Wk.get,Go.Am.cont,St.wk,q.ct]
 |o n=>simp only[Wk.get,Go.Am.cont,St.wk,q.H]
theorem cT.keys{b:Bool}{k k' k1 k1':Wk}(p:cT b k k' k1 k1'):ga k' k1'=ga k k1:=by
 obtain⟨pre,c,a⟩:=p.ct
 simp_all [pf]
theorem Nv{op:Op}{a b:pP}{v:SV}(h:∀t,eZ a t=eZ b t):fZ op a v=fZ op b v:=by
 simp_all [fZ]
theorem Kd{o:Qz}{c d b:Cf}{f:Fp}(q:Eqv c d)(e:er P call h ops o c=some (b,f)):∃d1,er P call h ops o d=some (d1,f)/\Eqv b d1:=by
 obtain⟨w,v,k,l,rfl,rfl⟩:=fG e;obtain⟨k2,i,p⟩:=Cg q.sm (λt _=>q.get t) (λh=>by cases h) (λ_ _ t _ r _ h=>h) l
 refine⟨(d.1.fin o.dst v k2,dV d.2 k2.tr o.dst (fZ o.op d.2 v)),by rw[ib i,iV (c:=c) (λt _=>q.get t) (λt _=>q.hi t) p.keys p.tr],λt=> ?_,λx=> ?_,p.H rfl,λt=> ?_⟩
 .simp only[gq,q.get,p.tr]
 .obtain⟨a,j,g⟩:=p.ct
  show fc k2.ct x=fc k.ct x;rw[j,g,kG,kG];show _=(fc a x).or (fc c.1.ct x);rw[<-q.ct];rfl
 .simp only[fE,q.hi,p.tr]
  rw[Nv q.hi]
theorem xi:∀(l:J Qz) {c d b:Cf} {a:J Fp},Eqv c d->dX P call h ops l c=some (b,a)->∃d1,dX P call h ops l d=some (d1,a)/\Eqv b d1
 | [],c,d,b,a,q,e=>by
  grind [dX]
 |o::l,c,d,b,a,q,e=>by
  simp only[dX,xB,xM,pJ]at e
  obtain⟨⟨m,f⟩,k,⟨n,g⟩,j,rfl,rfl⟩:=e;obtain⟨p,r,i⟩:=Kd q k
  have:=xi l i j;grind [dX]
theorem n8{s:St}{o:Qz}{t:Nat}{w:Bool}{v:SV}{k:Wk}(ho:o.op=.move (.tmp t)):fh P call h ops o s=some (w,v,k)↔iu ops s o=some w/\v=(if w=true then s.get t else .aS [])/\k=s.wk:=by
 have e:dF P call h (o.dst.getD 0) o.type (.move (.tmp t)) s.val s.wk=some (s.get t,s.wk):=rfl;simp only[fh,ho,e]
 cases iu ops s o with
 |none=>simp
 |some x=>
  grind
theorem lL{op:Op}(h:iU op=true):∃t,op=.move (.tmp t):=by
 unfold iU at h
 split at h
 .exact⟨_,rfl⟩
 .cases h
theorem gi{op:Op}{hi:pP}{v:SV}(h:iU op=false):fZ op hi v=v.aW:=by
 unfold fZ;split
 .cases h
 .rfl
theorem TI{o:Qz}{c:Cf}{w:Bool}{v:SV}{k:Wk}(hi:Inv c)(e:fh P call h ops o c.1=some (w,v,k)):∀r∈v.aW,r∈fZ o.op c.2 v:=λr f=>by
 cases d:iU o.op with
 |false=>grind [gi]
 |true=>
  obtain⟨t,b⟩:=lL d;obtain⟨_,a,_⟩:=(n8 b).1 e;rw[b];show r∈eZ c.2 t
  cases w with
  |true=>rw[if_pos rfl]at a;exact hi t r (a▸f)
  |false=>grind [SV.aW,SV.srtss]
theorem Inv.step{o:Qz}{c d:Cf}{f:Fp}(hi:Inv c)(e:er P call h ops o c=some (d,f)):Inv d:=by
 obtain⟨w,v,k,b,rfl,rfl⟩:=fG e;intro t r a;simp only[gq,fE]at a |-
 split at a
 .grind [TI]
 .rw[if_neg ‹_›];exact Dl _ _ _ (hi t) r a
theorem aco{w:Bool}{v:SV}{k:Wk}{o:Qz}{c:Cf}(e:fh P call h ops o c.1=some (w,v,k)){L:J aj}
  (f:∀r∈L,r∉(mA h ops o c.2 c.1 w v k).wr) (s:(mA h ops o c.2 c.1 w v k).hw=true->L.any aj.cF=false):
  (∀u:SV,(∀r∈u.aW,r∈L)->aU k.tr u=u)/\(∀M:J aj,(∀r∈M,r∈L)->gh k.tr M=M)/\((mA h ops o c.2 c.1 w v k).hw=false->k.H=c.1.H/\k.tr.any Tr.aN=false):=by
 have b:(mA h ops o c.2 c.1 w v k).wr=ga c.1.wk k++k.tr.flatMap Tr.ba:=rfl;have d:(mA h ops o c.2 c.1 w v k).hw=((w&&fY h (o.dst.getD 0) o.op)&&(hOf h (o.dst.getD 0) o.op || (y8 o.op&&((looks ops o).flatMap λt=>(c.1.get t).ba).any aj.cF) || k.tr.any Tr.aN)):=rfl
 rw[b]at f
 have l:∀r∈L,r∉k.tr.flatMap Tr.ba:=λr m n=>f r m (xR _ n)
 obtain⟨g,j⟩:=mF e
 have q:(mA h ops o c.2 c.1 w v k).hw=false->k.H=c.1.H/\k.tr.any Tr.aN=false:=λa=>by
  cases i:(w&&fY h (o.dst.getD 0) o.op)with
  |false=>rw[j i];exact⟨rfl,rfl⟩
  |true=>
   rw[d,i]at a
   simp only[nw,rk]at a
   refine⟨g.H ⟨a.1.1,λp t x=> ?_⟩,a.2⟩
   grind
 grind [Wo,Jg]
theorem zo{x y:Fp}(hp:rC x y=true):(∀d,x.dst=some d->d∉y.sl)/\(∀d,x.dst=some d->y.dst≠some d)/\(∀d,y.dst=some d->d∉x.sl)/\(∀r∈y.rd,r∉x.wr)/\(∀r∈y.wr,r∉x.wr)/\(∀r∈x.rd,r∉y.wr)/\(x.hw=true->y.hr=false/\y.hw=false)/\(y.hw=true->x.hr=false)/\(x.dp=false\/y.dp=false):=by
 grind [rC,Nu]
theorem ajo{a i:Qz}{c c1 c2:Cf}{fa fi:Fp}(R:iU a.op=false)(K:iU i.op=false)(hi:Inv c)(ea:er P call h ops a c=some (c1,fa))(ei:er P call h ops i c1=some (c2,fi))(hp:rC fa fi=true):
  ∃d1 d2,er P call h ops i c=some (d1,fi)/\er P call h ops a d1=some (d2,fa)/\Eqv c2 d2:=by
 obtain⟨wa,v,k,N,rfl,m⟩:=fG ea;obtain⟨wi,w,B,Z,rfl,s⟩:=fG ei;rw[gi R]at s |-
 rw[gi K];obtain⟨s1,s2,s3,m1,m2,m3,w1,w2,rn⟩:=zo hp;have da:fa.dst=a.dst:=by rw[m];rfl
 have di:fi.dst=i.dst:=by rw[s];rfl
 have la:fa.sl=looks ops a:=by rw[m];rfl
 have li:fi.sl=looks ops i:=by rw[s];rfl
 have S:∀t∈looks ops i,a.dst≠some t:=λt f e=>s1 t (da.trans e) (by rw[li];exact f)
 have aa:∀t∈looks ops a,i.dst≠some t:=λt f e=>s3 t (di.trans e) (by rw[la];exact f)
 have W:∀t,a.dst=some t->i.dst≠some t:=λt e q=>s2 t (da.trans e) (di.trans q)
 simp only at Z
 -- what i leans on
 have aC:fi.rd=(looks ops i).flatMap (eZ (dV c.2 k.tr a.dst v.aW))++w.aW++(if reads i.op then(looks ops i).flatMap λt=>((c.1.fin a.dst v k).get t).ba else []):=by rw[s];simp only[mA,K,xH,if_false]
 have aH:fa.rd=(looks ops a).flatMap (eZ c.2)++v.aW++(if reads a.op then(looks ops a).flatMap λt=>(c.1.get t).ba else []):=by rw[m];simp only[mA,R,xH,if_false]
 have T:∀t∈looks ops i,∀r∈eZ c.2 t,r∈fi.rd:=λt f r g=>by
  grind [fE,GW]
 have U:∀r∈w.aW,r∈fi.rd:=λr g=>by grind
 have aq:reads i.op=true->∀t∈looks ops i,∀r∈((c.1.fin a.dst v k).get t).ba,r∈fi.rd:=λI t f r g=>by grind
 have V:∀t∈looks ops a,∀r∈eZ c.2 t,r∈fa.rd:=λt f r g=>by grind
 have G:∀r∈v.aW,r∈fa.rd:=λr g=>by grind
 have ay:reads a.op=true->∀t∈looks ops a,∀r∈(c.1.get t).ba,r∈fa.rd:=λI t f r g=>by grind
 -- of shared objects
 have ad:fi.hw=true->(wa=true->wT h (a.dst.getD 0) a.op=false)/\fa.rd.any aj.cF=false/\fa.wr.any aj.cF=false/\k.tr.any Tr.aN=false:=λq=>by
  have e:fa.hr=((wa&&wT h (a.dst.getD 0) a.op) || fa.rd.any aj.cF || fa.wr.any aj.cF || k.tr.any Tr.aN):=by rw[m];rfl
  grind
 have an:fa.hw=true->(wi=true->wT h (i.dst.getD 0) i.op=false)/\fi.rd.any aj.cF=false/\fi.wr.any aj.cF=false/\B.tr.any Tr.aN=false:=λq=>by
  have e:fi.hr=((wi&&wT h (i.dst.getD 0) i.op) || fi.rd.any aj.cF || fi.wr.any aj.cF || B.tr.any Tr.aN):=by rw[s];rfl
  grind
 have ac:fa.wr=ga c.1.wk k++k.tr.flatMap Tr.ba:=by rw[m];rfl
 have aL:fi.wr=ga (c.1.fin a.dst v k).wk B++B.tr.flatMap Tr.ba:=by rw[s];rfl
 -- i ahead of a
 have Y:=aco (L:=fi.rd) N (λr g=>by grind) (λq=>by grind)
 rw[<-m]at Y
 obtain⟨t1,t2,t3⟩:=Y
 have H:∀t∈looks ops i,(c.1.fin a.dst v k).get t=c.1.get t:=λt f=>by
  rw[gq,if_neg (S t f)];exact t1 _ (λr g=>T t f r (hi t r g))
 have gA:=(mF N).1.ct
 have ak:Sm (λr=>r∈fa.wr\/(fa.hw=true/\r.cF=true)) (!fa.hw) (c.1.fin a.dst v k).wk c.1.wk:=by
  refine⟨λr g=> ?_,λq=> ?_,rfl,rfl,λq n=>.inr ⟨by simpa using q,rfl⟩⟩
  .cases r with
   |l n j=>
    have:aj.l n j∉ga c.1.wk k:=λhx=>g (.inl (by grind))
    simp only[Wk.get,Go.Am.cont]
    exact(Dn gA n j this).symm
   |o n=>
    have:fa.hw=false:=by cases D:fa.hw with |false=>rfl |true=>exact absurd (.inr ⟨D,rfl⟩) g
    simp only[Wk.get,Go.Am.cont,St.wk,St.fin,(t3 this).1]
  .exact(t3 (by simpa using q)).1.symm
 obtain⟨b,Q,A⟩:=Cg ak (λt f=>(H t f).symm) (λq=>(an (by simpa using q)).1) (λI _ t f r g hz=>by
  grind) Z
 have O:mA h ops i c.2 c.1 wi w b=fi:=by
  rw[s];exact iV (c:=(c.1.fin a.dst v k,dV c.2 k.tr a.dst v.aW)) (d:=c) (λt f=>(H t f).symm) (λt f=>by simp only;rw[fE,if_neg (S t f),t2 _ (T t f)]) A.keys A.tr
 -- a behind it
 have ab:=aco (L:=fa.rd) Q (λr g=>by grind) (λq=>by grind)
 rw[O]at ab
 obtain⟨u1,u2,u3⟩:=ab
 have F:∀t∈looks ops a,(c.1.fin i.dst w b).get t=c.1.get t:=λt f=>by
  rw[gq,if_neg (aa t f)];exact u1 _ (λr g=>V t f r (hi t r g))
 have gI:=(mF Q).1.ct;have ax:fi.wr=ga c.1.wk b++b.tr.flatMap Tr.ba:=by rw[<-O];rfl
 have al:Sm (λr=>r∈fi.wr\/(fi.hw=true/\r.cF=true)) (!fi.hw) c.1.wk (c.1.fin i.dst w b).wk:=by
  refine⟨λr g=> ?_,λq=> ?_,rfl,rfl,λq n=>.inr ⟨by simpa using q,rfl⟩⟩
  .cases r with
   |l n j=>
    have:aj.l n j∉ga c.1.wk b:=λhx=>g (.inl (by grind))
    simp only[Wk.get,Go.Am.cont];exact Dn gI n j this
   |o n=>
    have:fi.hw=false:=by cases D:fi.hw with |false=>rfl |true=>exact absurd (.inr ⟨D,rfl⟩) g
    simp only[Wk.get,Go.Am.cont,St.wk,St.fin,(u3 this).1]
  .exact(u3 (by simpa using q)).1
 obtain⟨M,af,E⟩:=Cg al F (λq=>(ad (by simpa using q)).1) (λI _ t f r g hz=>by
  grind) N
 have ag:mA h ops a (dV c.2 b.tr i.dst w.aW) (c.1.fin i.dst w b) wa v M=fa:=by
  rw[m];exact iV (c:=c) (d:=(c.1.fin i.dst w b,dV c.2 b.tr i.dst w.aW)) F (λt f=>by simp only;rw[fE,if_neg (aa t f),u2 _ (V t f)]) E.keys E.tr
 -- what is X
 have aJ:aU k.tr w=w:=t1 _ U;have ai:aU b.tr v=v:=u1 _ G
 have X:∀x∈B.tr,∀y∈k.tr,(∀r∈x.ba,r∉y.ba)/\(x.aN=true->y.ba.any aj.cF=false)/\(y.aN=true->x.ba.any aj.cF=false):=λx hx y hy=>by
  have ao:∀r∈x.ba,r∈fi.wr:=λr g=>by grind
  have ah:∀r∈y.ba,r∈fa.wr:=λr g=>by grind
  refine⟨λr u h2=>m2 r (ao r u) (ah r h2),λq=> ?_,λq=> ?_⟩
  .have D:fi.hw=true:=by
    cases D:fi.hw with
    |true=>rfl
    |false=>
     have:=(u3 D).2
     rw[A.tr]at this
     grind
   grind
  .have D:fa.hw=true:=by
    cases D:fa.hw with
    |true=>rfl
    |false=>
     grind
   grind
 have av:k.tr.any Tr.bM=false\/B.tr.any Tr.bM=false:=by
  have e1:fa.dp=k.tr.any Tr.bM:=by rw[m];rfl
  have e2:fi.dp=B.tr.any Tr.bM:=by rw[s];rfl
  rw[<-e1,<-e2];exact rn
 refine⟨_,_,(ib Q).trans (congrArg some (kW (by rw[gi K]) O)),(ib (c:=(c.1.fin i.dst w b,dV c.2 b.tr i.dst w.aW)) af).trans (congrArg some (kW (by rw[gi R]) ag)),λt=> ?_,λx=> ?_,?_,λt=> ?_⟩
 .simp only[gq,A.tr,E.tr]
  by_cases u:a.dst=some t
  .rw[if_pos u,if_neg (W t u),if_pos u,<-A.tr,ai]
  grind [Ns]
 .obtain⟨pi,q1,q2⟩:=A.ct
  obtain⟨pa,q3,q4⟩:=E.ct;show fc M.ct x=fc B.ct x;rw[q1,q4];show fc (pa++b.ct) x=fc (pi++k.ct) x;rw[q2,q3,kG,kG,kG,kG];obtain⟨n,j⟩:=x
  by_cases hk:aj.l n j∈pa.map λp=>aj.l p.1.1 p.1.2
  .have u:aj.l n j∈fa.wr:=by rw[ac,pf q3];exact xL _ hk
   have h2:aj.l n j∉pi.map λp=>aj.l p.1.1 p.1.2:=λhx=>m2 _ (by grind [pf]) u
   rw[zn h2];simp
  grind [zn]
 .show M.H=B.H
  cases C:fa.hw with
  |true=>
   have hb:(!fa.hw)=false:=by rw[C];rfl
   have z:(!fi.hw)=true:=by rw[(w1 C).2];rfl
   rw[E.H z]
   exact(A.Hs hb).1.symm
  |false=>
   have hb:(!fa.hw)=true:=by rw[C];rfl
   have u:=A.H hb
   cases J:fi.hw with
   |true=>
    have z:(!fi.hw)=false:=by rw[J];rfl
    rw[(E.Hs z).2];exact u
   |false=>
    have z:(!fi.hw)=true:=by rw[J];rfl
    rw[E.H z,<-u,(t3 C).1,(u3 J).1]
 .simp only[fE,A.tr,E.tr]
  by_cases u:a.dst=some t
  .rw[if_pos u,if_neg (W t u),if_pos u,<-A.tr,u2 _ G]
  grind [Nt]
theorem Nw(x:Tr){y:D}:x.sv (.d y)=.d y:=by cases x <;>rfl
theorem Er(x:Tr):x.sv (.aS [])=.aS []:=by cases x <;>rfl
theorem Ke(x:Tr){u:SV}{b:Bool}(h:x.sv u=.d (.bool b)):u=.d (.bool b):=by
 cases u with
 |d y=>grind [Nw]
 |aH r p o l=>
  cases x <;>simp only[Tr.sv]at h <;>(repeat' split at h) <;>cases h
 |loc r p i o=>
  cases x <;>simp only[Tr.sv]at h <;>(repeat' split at h) <;>cases h
 |_=>grind [Tr.sv]
theorem Nx(x:Tr){u:SV}(h:x.sv u=.aS []):u=.aS []:=by
 cases u with
 |d y=>grind [Nw]
 |aH r p o l=>
  cases x <;>simp only[Tr.sv]at h <;>(repeat' split at h) <;>cases h
 |loc r p i o=>
  cases x <;>simp only[Tr.sv]at h <;>(repeat' split at h) <;>cases h
 |aS l=>
  have:x.sv (.aS l)=.aS (Tr.bG x l):=by cases x <;>rfl
  rw[this]at h
  cases l with
  |nil=>rfl
  |cons a r=>simp[Tr.bG]at h
 |_=>grind [Tr.sv]
theorem xj:∀(l:J Tr) {u:SV} {b:Bool},aU l u=.d (.bool b)->u=.d (.bool b)
 | [],_,_,h=>h
 |x::l,_,_,h=>Ke x (xj l h)
theorem AQ:∀(l:J Tr) {u:SV},aU l u=.aS []->u=.aS []
 | [],_,h=>h
 |x::l,_,h=>Nx x (AQ l h)
theorem GY{s:St}{o:Qz}{w:Bool}{d:U Nat}{v:SV}{k:Wk}(e:iu ops (s.fin d v k) o=some w)(hd:∀t∈looks ops o,d≠some t):iu ops s o=some w:=by
 unfold iu looks at *
 cases a:o.guard with
 |none=>grind
 |some p=>
  grind [gq,xj,AQ]
theorem TJ{s:St}{o:Qz}{w:Bool}{d:U Nat}{v:SV}{k:Wk}(e:iu ops s o=some w)(hd:∀t∈looks ops o,d≠some t):iu ops (s.fin d v k) o=some w:=by
 unfold iu looks at *
 cases a:o.guard with
 |none=>grind
 |some p=>
  obtain⟨j,c⟩:=p
  try rw[a]at e
  try rw[a]at hd
  try rw[a]
  simp only at e hd |-
  cases f:(ops[j]?).bind (·.dst)with
  |none=>grind
  |some t=>
   try rw[f]at e
   try rw[f]at hd
   simp only at e |-
   have m:(s.fin d v k).get t=aU k.tr (s.get t):=by rw[gq,if_neg (hd t (by simp))]
   have i:∀(l:J Tr) (b:Bool),aU l (.d (.bool b))=.d (.bool b):=λl b=>by induction l with |nil=>rfl |cons x l g=>grind [aU,Nw]
   have h:∀(l:J Tr),aU l (.aS [])=.aS []:=λl=>by induction l with |nil=>rfl |cons x l g=>grind [aU,Er]
   grind
theorem Rg{o:Qz}{hi:pP}{s:St}{w:Bool}{v:SV}(a:iU o.op=true):mA h ops o hi s w v s.wk=⟨looks ops o,o.dst,[],[],false,false,false,none,[],none,[]⟩:=by
 obtain⟨t,b⟩:=lL a
 simp_all [mA,ga,St.wk,wT,fY,ue,y9,S8,Gd]
theorem ajp{a i:Qz}{c L G:Cf}{fa fi:Fp}(A:iU a.op=true)(R:er P call h ops a c=some (L,fa))(V:er P call h ops i L=some (G,fi))(hp:rC fa fi=true):
  ∃d1 d2,er P call h ops i c=some (d1,fi)/\er P call h ops a d1=some (d2,fa)/\Eqv G d2:=by
 obtain⟨D,o,Y,v,rfl,p⟩:=fG R;obtain⟨N,g,b,r,rfl,f⟩:=fG V;obtain⟨X,U,s3,_⟩:=zo hp;have H:fa.dst=a.dst:=by rw[p];rfl
 have K:fi.dst=i.dst:=by rw[f];rfl
 have W:fa.sl=looks ops a:=by rw[p];rfl
 have T:fi.sl=looks ops i:=by rw[f];rfl
 have n:∀t∈looks ops i,a.dst≠some t:=λt m e=>X t (H.trans e) (by rw[T];exact m)
 have s:∀t∈looks ops a,i.dst≠some t:=λt m e=>s3 t (K.trans e) (by rw[W];exact m)
 have E:∀t,a.dst=some t->i.dst≠some t:=λt e q=>U t (H.trans e) (K.trans q)
 obtain⟨t0,k⟩:=lL A;obtain⟨S,Q,rfl⟩:=(n8 k).1 v;have z:t0∈looks ops a:=gr (by grind [mV,Op.operands,wo])
 have Z:∀t,aU ([]:J Tr) t=t:=λ_=>rfl
 simp only at r f;have M:∀t∈looks ops i,c.1.get t=(c.1.fin a.dst o c.1.wk).get t:=λt m=>by rw[gq,if_neg (n t m)];rfl
 have y:fh P call h ops i c.1=some (N,g,b):=by
  rw[<-r];exact pd M rfl rfl
 have w:mA h ops i c.2 c.1 N g b=fi:=by
  rw[f];exact iV (c:=(c.1.fin a.dst o c.1.wk,dV c.2 c.1.wk.tr a.dst (fZ a.op c.2 o))) (d:=c) M (λt m=>by simp only;rw[fE,if_neg (n t m)];rfl) rfl rfl
 have F:fZ i.op (dV c.2 c.1.wk.tr a.dst (fZ a.op c.2 o)) g=fZ i.op c.2 g:=by
  cases O:iU i.op with
  |false=>grind [gi]
  |true=>
   obtain⟨u,I⟩:=lL O;rw[I];show eZ _ u=eZ _ u;rw[fE,if_neg (n u (gr (by grind [mV,Op.operands,wo])))];rfl
 have B:(if D=true then(c.1.fin i.dst g b).get t0 else .aS [])=aU b.tr o:=by
  rw[Q]
  cases D with
  |true=>grind [gq]
  |false=>
   have I:∀(l:J Tr),aU l (.aS [])=.aS []:=λl=>by induction l with |nil=>rfl |cons x l ih=>grind [aU,Er]
   grind
 have C:fh P call h ops a (c.1.fin i.dst g b)=some (D,aU b.tr o,(c.1.fin i.dst g b).wk):=(n8 k).2 ⟨TJ S s,B.symm,rfl⟩
 refine⟨_,_,(ib y).trans (congrArg some (kW rfl w)),(ib (c:=(c.1.fin i.dst g b,dV c.2 b.tr i.dst (fZ i.op c.2 g))) C).trans (congrArg some (kW rfl ?_)),λt=> ?_,λx=>rfl,rfl,λt=> ?_⟩
 .grind [Rg]
 .simp only[gq]
  by_cases j:a.dst=some t
  .grind
  .rw[if_neg j,if_neg j];rfl
 .simp only[fE,F]
  by_cases j:a.dst=some t
  .rw[if_pos j,if_neg (E t j),if_pos j,k]
   show eZ _ t0=gh b.tr (eZ c.2 t0)
   grind [fE]
  .rw[if_neg j,if_neg j];rfl
theorem ajq{a i:Qz}{c N I:Cf}{fa fi:Fp}(F:iU i.op=true)(R:er P call h ops a c=some (N,fa))(Y:er P call h ops i N=some (I,fi))(hp:rC fa fi=true):
  ∃d1 d2,er P call h ops i c=some (d1,fi)/\er P call h ops a d1=some (d2,fa)/\Eqv I d2:=by
 obtain⟨S,E,z,y,rfl,j⟩:=fG R;obtain⟨p,W,ki,v,rfl,n⟩:=fG Y;obtain⟨s1,V,s3,_⟩:=zo hp;have K:fa.dst=a.dst:=by rw[j];rfl
 have M:fi.dst=i.dst:=by rw[n];rfl
 have Z:fa.sl=looks ops a:=by rw[j];rfl
 have U:fi.sl=looks ops i:=by rw[n];rfl
 have G:∀t∈looks ops i,a.dst≠some t:=λt o e=>s1 t (K.trans e) (by rw[U];exact o)
 have g:∀t∈looks ops a,i.dst≠some t:=λt o e=>s3 t (M.trans e) (by rw[Z];exact o)
 have s:∀t,a.dst=some t->i.dst≠some t:=λt e q=>V t (K.trans e) (M.trans q)
 obtain⟨t0,k⟩:=lL F;simp only at v n;obtain⟨T,Q,rfl⟩:=(n8 k).1 v;have A:t0∈looks ops i:=gr (by grind [mV,Op.operands,wo])
 have hb:∀(l:J Tr) (b:Bool),aU l (.d (.bool b))=.d (.bool b):=λl b=>by induction l with |nil=>rfl |cons x l X=>grind [aU,Nw]
 have L:∀(l:J Tr),aU l (.aS [])=.aS []:=λl=>by induction l with |nil=>rfl |cons x l X=>grind [aU,Er]
 have B:iu ops c.1 i=some p:=GY T G;have r:fh P call h ops i c.1=some (p,(if p=true then c.1.get t0 else .aS []),c.1.wk):=(n8 k).2 ⟨B,rfl,rfl⟩
 have w:W=aU z.tr (if p=true then c.1.get t0 else .aS []):=by
  rw[Q]
  cases p with
  |true=>grind [gq]
  |false=>grind
 generalize (if p=true then c.1.get t0 else .aS [])=v0 at r w
 subst w;have H:∀t∈looks ops a,(c.1.fin i.dst v0 c.1.wk).get t=c.1.get t:=λt o=>by rw[gq,if_neg (g t o)];rfl
 have D:fh P call h ops a (c.1.fin i.dst v0 c.1.wk)=some (S,E,z):=by
  rw[<-y];exact pd H rfl rfl
 have C:fZ a.op (dV c.2 c.1.wk.tr i.dst (fZ i.op c.2 v0)) E=fZ a.op c.2 E:=by
  cases O:iU a.op with
  |false=>grind [gi]
  |true=>
   obtain⟨u,L⟩:=lL O;rw[L];show eZ _ u=eZ _ u;rw[fE,if_neg (g u (gr (by grind [mV,Op.operands,wo])))];rfl
 refine⟨_,_,(ib r).trans (congrArg some (kW rfl ?_)),(ib (c:=(c.1.fin i.dst v0 c.1.wk,dV c.2 c.1.wk.tr i.dst (fZ i.op c.2 v0))) D).trans (congrArg some (kW rfl ?_)),λt=> ?_,λx=>rfl,rfl,λt=> ?_⟩
 .grind [Rg]
 .rw[j]
  exact iV (c:=c) (d:=(c.1.fin i.dst v0 c.1.wk,dV c.2 c.1.wk.tr i.dst (fZ i.op c.2 v0))) H (λt o=>by simp only;rw[fE,if_neg (g t o)];rfl) rfl rfl
 .simp only[gq]
  by_cases f:a.dst=some t
  .rw[if_pos f,if_neg (s t f),if_pos f];rfl
  .rw[if_neg f,if_neg f]
   by_cases m:i.dst=some t
   .grind
   .rw[if_neg m,if_neg m];rfl
 .simp only[fE,C]
  by_cases f:a.dst=some t
  .rw[if_pos f,if_neg (s t f),if_pos f];rfl
  .rw[if_neg f,if_neg f]
   by_cases m:i.dst=some t
   .rw[if_pos m,if_pos m,k]
    show gh z.tr (eZ c.2 t0)=eZ _ t0
    grind [fE]
   .rw[if_neg m,if_neg m];rfl
theorem Jj{r:aj}{q:dR}:∀(tr:J Tr) (u:SV),u.dv r q=true->(∀x∈tr,x=.kill r q\/(∀a∈x.ba,a∉u.aW)/\x.aN=false)->aU tr u=u
 | [],_,_,_=>rfl
 |x::tr,u,b,c=>by
  have:=Jj tr u b;grind [Ji,Tr.db,aU]
theorem Iz{r:aj}{p:dR}{v:SV}{e:aj}{b:dR}{d f:Nat}(h:bD ((Tr.kill r p).sv v)=.loc e b d f):v=(Tr.kill r p).sv v:=by
 cases v with
 |aH c a o n=>
  grind [Tr.sv,bD]
 |loc c a i o=>
  grind [Tr.sv,bD]
 |agg l=>simp[Tr.sv,bD]at h
 |aS l=>simp[Tr.sv,bD]at h
 |_=>rfl
theorem uu:∀(tr:J Tr) {v:SV} {b:aj} {d:dR} {a c:Nat},(∀x∈tr,∃r p,x=.kill r p)->bD (aU tr v)=.loc b d a c->v=aU tr v
 | [],_,_,_,_,_,_,_=>rfl
 |x::tr,v,b,d,a,c,hk,h=>by
  obtain⟨r,p,rfl⟩:=hk x (by simp)
  have f:=uu tr (v:=(Tr.kill r p).sv v) (λy e=>hk y (AA _ e)) h
  grind [Iz,aU]
theorem PC{op:Op}{t:Nat}(ht:t∈mV op): .tmp t∈op.operands:=by
 simp only[mV,List.mem_filterMap]at ht
 obtain⟨x,b,a⟩:=ht
 cases x <;>simp only[wo,xJ,reduceCtorEq]at a
 grind
theorem acp{op:Op}{c:Oz->SV}{v:SV}{R:aj×dR×Nat×Nat×Nat}{dst:Nat}(hx:ue (fY h dst op) op c v=some R){ty:TypeId}{k k':Wk}(e:dF P call h dst ty op c k=some (v,k')):k'=k/\iU op=false/\∃a,(∀x∈op.operands,x=a)/\∃r p i o,bD (c a)=.loc r p i o:=by
 unfold ue at hx
 split at hx
 .cases hx
 .rename_i t a d
  split at hx
  .cases hx
  rename_i j;have b:(hJ P t (c a) k).map (·,k)=some (v,k'):=by rw[<-zk (Bool.eq_false_iff.2 j) d];exact e
  simp only[xM,pJ]at b
  obtain⟨u,g,_,rfl⟩:=b
  refine⟨rfl,rfl,a,by simp[Op.operands],?_⟩
  grind
 .rename_i t a f
  have b:(eL P t (c a) f k).map (·,k)=some (v,k'):=e;simp only[xM,pJ]at b
  obtain⟨u,g,l,rfl⟩:=b
  refine⟨rfl,rfl,a,by simp[Op.operands],?_⟩
  split at hx
  .grind [eL,xB]
  .cases hx
 .cases hx
theorem acq{op:Op}{b:Oz->SV}{r:aj}{q:dR}(hx:y9 op b=some (r,q)){v:SV}{dst:Nat}{ty:TypeId}{k k':Wk}(e:dF P call h dst ty op b k=some (v,k')):iU op=false/\∃t o n x,iA P h.nv dst t (.aH r q o n) x k=some (v,k'):=by
 unfold y9 at hx
 split at hx
 .rename_i a c
  split at hx
  .rename_i x y i
   split at hx
   .rename_i g f o n d
    simp only[xJ,pJ]at hx
    obtain⟨rfl,rfl⟩:=hx
    refine⟨rfl,?_⟩
    grind [dF,opE]
   .cases hx
  .cases hx
 .cases hx
theorem Rh{k k':Wk}{r:aj}{q:dR}{t:TypeId}{nv dst o n:Nat}{x v:SV}(l:k.tr=[])(e:iA P nv dst t (.aH r q o n) x k=some (v,k')){f:aj}{p:dR}{i off kd:Nat}(G:f=r->sepL kd p i off q=true)(ho:f∉Gd (some (r,q)) k'.tr):
  Rf kd f p i off k k'/\(∀x∈k'.tr,∃r p,x=.kill r p)/\∀u:SV,u.dv r q=true->(∀d∈u.aW,d∉Gd (some (r,q)) k'.tr)->aU k'.tr u=u:=by
 obtain⟨C,c,c',F,D,h3,h4,h5⟩:=PA l e
 have hk:∀x∈k'.tr,∃r p,x=.kill r p:=λy g=>by
  grind
 have h:∀x∈k'.tr,x=.kill r q\/∀d∈x.ba,d∈Gd (some (r,q)) k'.tr:=λy g=>by
  obtain⟨m,s,rfl⟩:=hk y g
  by_cases a:m=r/\s=q
  .grind
  .refine .inr λd b=> ?_
   refine List.mem_flatMap.2 ⟨_,List.mem_filter.2 ⟨g,?_⟩,b⟩
   grind [Tr.killAt]
 refine⟨?_,hk,λu B w=>Jj _ u B λy g=> ?_⟩
 .have A:f≠ .l dst 0:=by
   rintro rfl
   rcases h (.kill (.l dst 0) []) (by rw[h3];simp)with a |a
   .grind [sepL]
   .grind [Tr.ba]
  have z:f∉C.flatMap Tr.ba:=λE=>by
   grind
  unfold Rf;rw[h5 f A z]
  by_cases a:f=r
  .grind [Re]
  .rw[if_neg a];exact .inl rfl
 .obtain a |a:=h y g
  .exact .inl a
  .refine .inr ⟨λd b j=>w d j (a d b),?_⟩
   obtain⟨m,s,rfl⟩:=hk y g;rfl
theorem Dp{x y:Fp}(hp:apartX x y=true):(∀d,x.dst=some d->d∉y.sl)/\(∀d,x.dst=some d->y.dst≠some d)/\(∀d,y.dst=some d->d∉x.sl)/\y.dp=false/\
  ∃a p i off kd r q,x.rx=some (a,p,i,off,kd)/\y.wx=some (r,q)/\(a=r->sepL kd p i off q=true)/\a∉y.ox/\∀u∈x.sx,u.dv r q=true/\∀b∈u.aW,b∉y.ox:=by
 grind [apartX,Nu]
theorem Jk{s s2:St}{o:Qz}{w:Bool}{tr:J Tr}(e:iu ops s o=some w)(f:∀t∈looks ops o,s2.get t=aU tr (s.get t))(ht:∀t∈mV o.op,aU tr (s.get t)=s.get t):∀t∈looks ops o,s2.get t=s.get t:=λt c=>by
 have h:∀(l:J Tr) (b:Bool),aU l (.d (.bool b))=.d (.bool b):=λl b=>by induction l with |nil=>rfl |cons x l d=>grind [aU,Nw]
 have g:∀(l:J Tr),aU l (.aS [])=.aS []:=λl=>by induction l with |nil=>rfl |cons x l d=>grind [aU,Er]
 rw[f t c]
 obtain a |a:=List.mem_append.1 c
 .exact ht t a
 grind [iu]
theorem ajr{a i:Qz}{c c1 c2:Cf}{fa fi:Fp}(ea:er P call h ops a c=some (c1,fa))(ei:er P call h ops i c1=some (c2,fi))(hp:apartX fa fi=true):
  ∃d1 d2,er P call h ops i c=some (d1,fi)/\er P call h ops a d1=some (d2,fa)/\Eqv c2 d2:=by
 obtain⟨U,g,ka,R,rfl,z⟩:=fG ea;obtain⟨Z,n,b,K,rfl,l⟩:=fG ei;obtain⟨s1,s2,s3,rn,r0,p,ix,ak,kd,r,q,hx,hy,D,ah,N⟩:=Dp hp;have da:fa.dst=a.dst:=by rw[z];rfl
 have di:fi.dst=i.dst:=by rw[l];rfl
 have la:fa.sl=looks ops a:=by rw[z];rfl
 have li:fi.sl=looks ops i:=by rw[l];rfl
 have E:∀t∈looks ops i,a.dst≠some t:=λt f e=>s1 t (da.trans e) (by rw[li];exact f)
 have ai:∀t∈looks ops a,i.dst≠some t:=λt f e=>s3 t (di.trans e) (by rw[la];exact f)
 have ag:∀t,a.dst=some t->i.dst≠some t:=λt e q=>s2 t (da.trans e) (di.trans q)
 have m:fa.rx=if U=true then ue (fY h (a.dst.getD 0) a.op) a.op c.1.val g else none:=by rw[z];rfl
 have j:fi.wx=if Z=true then y9 i.op (c.1.fin a.dst g ka).val else none:=by rw[l];rfl
 rw[hx]at m
 rw[hy]at j
 have W:U=true:=by cases U with |true=>rfl |false=>simp at m
 have M:Z=true:=by cases Z with |true=>rfl |false=>simp at j
 subst W;subst M;rw[if_pos rfl]at m j
 have B:∀{s:St} {o:Qz} {v:SV} {k:Wk},fh P call h ops o s=some (true,v,k)->iu ops s o=some true/\dF P call h (o.dst.getD 0) o.type o.op s.val s.wk=some (v,k):=λ{s o v k} e=>by
  simp only[fh,xB]at e
  grind [xM]
 obtain⟨w,A⟩:=B R;obtain⟨rfl,S,x0,af,_⟩:=acp m.symm A;simp only at K l;have T:∀t∈looks ops i,c.1.get t=(c.1.fin a.dst g c.1.wk).get t:=λt f=>by rw[gq,if_neg (E t f)];rfl
 have I:fh P call h ops i c.1=some (true,n,b):=by
  rw[<-K];exact pd T rfl rfl
 have G:mA h ops i c.2 c.1 true n b=fi:=by
  rw[l];exact iV (c:=(c.1.fin a.dst g c.1.wk,dV c.2 c.1.wk.tr a.dst (fZ a.op c.2 g))) (d:=c) T (λt f=>by simp only;rw[fE,if_neg (E t f)];rfl) rfl rfl
 obtain⟨Y,C⟩:=B I;rw[<-GX (nS (s:=(c.1.fin a.dst g c.1.wk)) (s2:=c.1) λt f=>T t (gr f))]at j
 obtain⟨O,tt,oo,nn,xx,J⟩:=acq j.symm C
 have aa:fi.ox=Gd (some (r,q)) b.tr:=by
  rw[<-G];show Gd (if true=true then y9 i.op c.1.val else none) _=_
  rw[if_pos rfl,<-j]
 have F:fa.sx=g::(looks ops a).map λt=>c.1.get t:=by
  rw[z];show S8 (if true=true then ue (fY h (a.dst.getD 0) a.op) a.op c.1.val g else none) _=_
  rw[if_pos rfl,<-m];rfl
 obtain⟨sm,ab,X⟩:=Rh (k:=c.1.wk) rfl J D (by grind)
 have ac:b.tr.any Tr.bM=false:=by
  have Q:fi.dp=b.tr.any Tr.bM:=by rw[l];rfl
  rw[<-Q];exact rn
 have aV:∀u∈fa.sx,aU b.tr u=u:=λu hu=>X u (N u hu).1 (by grind)
 have ad:aU b.tr g=g:=aV g (by rw[F];simp)
 have y:∀t∈looks ops a,(c.1.fin i.dst n b).get t=c.1.get t:=Jk w (λt f=>by grind [gq]) (λt f=>aV _ (by grind [gr]))
 have H:=nS (s:=c.1) (s2:=c.1.fin i.dst n b) (op:=a.op) λt f=>y t (gr f)
 have V:fh P call h ops a (c.1.fin i.dst n b)=some (true,g,(c.1.fin i.dst n b).wk):=by
  have Q:dF P call h (a.dst.getD 0) a.type a.op (c.1.fin i.dst n b).val (c.1.fin i.dst n b).wk=some (g,(c.1.fin i.dst n b).wk):=by
   rw[pb a.op _ H];exact acn m.symm sm A
  simp only[fh,pc y,w,xS,if_true,Q,xQ]
 refine⟨_,_,(ib I).trans (congrArg some (kW rfl G)),(ib (c:=(c.1.fin i.dst n b,dV c.2 b.tr i.dst (fZ i.op c.2 n))) V).trans (congrArg some (kW rfl ?_)),λt=> ?_,λx=>rfl,rfl,λt=> ?_⟩
 .rw[z]
  exact iV (c:=c) (d:=(c.1.fin i.dst n b,dV c.2 b.tr i.dst (fZ i.op c.2 n))) y (λt f=>by grind [fE,jF]) (by simp[ga]) rfl
 .simp only[gq]
  by_cases L:a.dst=some t
  .grind
  .rw[if_neg L,if_neg L];rfl
 .simp only[fE,gi S,gi O]
  by_cases L:a.dst=some t
  .grind [jF]
  .rw[if_neg L,if_neg L];rfl
theorem ajs{a i:Qz}{c c1 c2:Cf}{fa fi:Fp}(ea:er P call h ops a c=some (c1,fa))(ei:er P call h ops i c1=some (c2,fi))(hp:apartX fi fa=true):
  ∃d1 d2,er P call h ops i c=some (d1,fi)/\er P call h ops a d1=some (d2,fa)/\Eqv c2 d2:=by
 obtain⟨Y,u,f,K,rfl,m⟩:=fG ea;obtain⟨wi,g,ki,O,rfl,n⟩:=fG ei;obtain⟨s1,s2,s3,rn,r0,p,ix,ak,kd,r,q,hx,hy,H,ai,S⟩:=Dp hp;have da:fa.dst=a.dst:=by rw[m];rfl
 have di:fi.dst=i.dst:=by rw[n];rfl
 have la:fa.sl=looks ops a:=by rw[m];rfl
 have li:fi.sl=looks ops i:=by rw[n];rfl
 have D:∀t∈looks ops i,a.dst≠some t:=λt b e=>s3 t (da.trans e) (by rw[li];exact b)
 have Q:∀t∈looks ops a,i.dst≠some t:=λt b e=>s1 t (di.trans e) (by rw[la];exact b)
 have N:∀t,a.dst=some t->i.dst≠some t:=λt e q=>s2 t (di.trans q) (da.trans e)
 simp only at O n;have l:fi.rx=if wi=true then ue (fY h (i.dst.getD 0) i.op) i.op (c.1.fin a.dst u f).val g else none:=by rw[n];rfl
 have w:fa.wx=if Y=true then y9 a.op c.1.val else none:=by rw[m];rfl
 rw[hx]at l
 rw[hy]at w
 have aa:Y=true:=by cases Y with |true=>rfl |false=>simp at w
 have R:wi=true:=by cases wi with |true=>rfl |false=>simp at l
 subst aa;subst R;rw[if_pos rfl]at l w
 have B:∀{s:St} {o:Qz} {v:SV} {k:Wk},fh P call h ops o s=some (true,v,k)->iu ops s o=some true/\dF P call h (o.dst.getD 0) o.type o.op s.val s.wk=some (v,k):=λ{s o v k} e=>by
  simp only[fh,xB]at e
  grind [xM]
 obtain⟨T,F⟩:=B K;obtain⟨X,tt,oo,nn,xx,M⟩:=acq w.symm F;obtain⟨E,y⟩:=B O;obtain⟨rfl,U,x0,ab,r9,p9,i9,o9,A⟩:=acp l.symm y
 have ad:fa.ox=Gd (some (r,q)) f.tr:=by
  rw[m];show Gd (if true=true then y9 a.op c.1.val else none) _=_
  rw[if_pos rfl,<-w]
 have J:fi.sx=g::(looks ops i).map λt=>(c.1.fin a.dst u f).get t:=by
  rw[n];show S8 (if true=true then ue (fY h (i.dst.getD 0) i.op) i.op (c.1.fin a.dst u f).val g else none) _=_
  rw[if_pos rfl,<-l];rfl
 obtain⟨sm,af,ac⟩:=Rh (k:=c.1.wk) rfl M H (by grind)
 have ag:f.tr.any Tr.bM=false:=by
  have I:fa.dp=f.tr.any Tr.bM:=by rw[m];rfl
  rw[<-I];exact rn
 have ah:aU f.tr g=g:=ac g (S g (by rw[J];simp)).1 (by grind)
 have j:iu ops c.1 i=some true:=GY E D
 have C:∀t∈looks ops i,(c.1.fin a.dst u f).get t=c.1.get t:=Jk j (λt b=>by rw[gq,if_neg (D t b)]) (λt b=>by
  have hm:=PC b
  have:=ab _ hm
  rw[<-this]at A
  have hl:bD (aU f.tr (c.1.get t))=.loc r9 p9 i9 o9:=by
   have I:(c.1.fin a.dst u f).val (.tmp t)=aU f.tr (c.1.get t):=by
    show(c.1.fin a.dst u f).get t=_
    rw[gq,if_neg (D t (gr b))]
   rw[<-I];exact A
  grind [uu])
 have L:=nS (s:=c.1) (s2:=c.1.fin a.dst u f) (op:=i.op) λt b=>C t (gr b)
 have W:fh P call h ops i c.1=some (true,g,c.1.wk):=by
  have I:dF P call h (i.dst.getD 0) i.type i.op c.1.val c.1.wk=some (g,c.1.wk):=by
   rw[<-pb i.op _ L];exact acn (k:=(c.1.fin a.dst u f).wk) l.symm (RelN.symm sm) y
  simp only[fh,j,xS,if_true,I,xQ]
 have V:mA h ops i c.2 c.1 true g c.1.wk=fi:=by
  rw[n];exact iV (c:=(c.1.fin a.dst u f,dV c.2 f.tr a.dst (fZ a.op c.2 u))) (d:=c) (λt b=>(C t b).symm) (λt b=>by grind [fE,jF]) (by simp[ga]) rfl
 have gA:∀t∈looks ops a,(c.1.fin i.dst g c.1.wk).get t=c.1.get t:=λt b=>by rw[gq,if_neg (Q t b)];rfl
 have Z:fh P call h ops a (c.1.fin i.dst g c.1.wk)=some (true,u,f):=by
  rw[<-K];exact pd gA rfl rfl
 refine⟨_,_,(ib W).trans (congrArg some (kW rfl V)),(ib (c:=(c.1.fin i.dst g c.1.wk,dV c.2 c.1.wk.tr i.dst (fZ i.op c.2 g))) Z).trans (congrArg some (kW rfl ?_)),λt=> ?_,λx=>rfl,rfl,λt=> ?_⟩
 .rw[m]
  exact iV (c:=c) (d:=(c.1.fin i.dst g c.1.wk,dV c.2 c.1.wk.tr i.dst (fZ i.op c.2 g))) gA (λt b=>by simp only;rw[fE,if_neg (Q t b)];rfl) rfl rfl
 .simp only[gq]
  by_cases z:a.dst=some t
  .rw[if_pos z,if_neg (N t z),if_pos z];rfl
  .rw[if_neg z,if_neg z]
   by_cases G:i.dst=some t
   .grind
   .rw[if_neg G,if_neg G];rfl
 .simp only[fE,gi X,gi U]
  by_cases z:a.dst=some t
  .rw[if_pos z,if_neg (N t z),if_pos z];rfl
  .rw[if_neg z,if_neg z]
   by_cases G:i.dst=some t
   .grind [jF]
   .rw[if_neg G,if_neg G];rfl
theorem atO{a i:Qz}{c d b:Cf}{fa fi:Fp}(hi:Inv c)(e:er P call h ops a c=some (d,fa))(g:er P call h ops i d=some (b,fi))(hp:apartFp fa fi=true):
  ∃d1 d2,er P call h ops i c=some (d1,fi)/\er P call h ops a d1=some (d2,fa)/\Eqv b d2:=by
 simp only[apartFp,ic]at hp
 obtain (hp |hp) |hp:=hp
 .cases f:iU a.op with
  |true=>grind [ajp]
  |false=>
   cases j:iU i.op with
   |true=>grind [ajq]
   |false=>grind [ajo]
 .grind [ajr]
 grind [ajs]
theorem acr:∀(A:J Qz) (i:Qz) (B:J Qz) {c c':Cf} {b:J Fp},Inv c->dX P call h ops (A++i::B) c=some (c',b)->(∀fi,b[A.length]? =some fi->∀f∈b.take A.length,apartFp f fi=true)->
  ∃g d fi,b[A.length]? =some fi/\er P call h ops i c=some (g,fi)/\dX P call h ops (A++B) g=some (d,b.take A.length++b.drop (A.length+1))/\Eqv c' d
 | [],i,B,c,c',b,o,e,l=>by
  simp only[gG,dX,xB,xM,pJ]at e
  obtain⟨⟨g,f⟩,k,⟨p,m⟩,j,rfl,rfl⟩:=e
  exact⟨g,p,f,rfl,k,by simpa using j,.refl _⟩
 |a::A,i,B,c,c',b,o,e,l=>by
  simp only[l6,dX,xB,xM,pJ]at e
  obtain⟨⟨H,C⟩,k,⟨p,m⟩,j,rfl,rfl⟩:=e;simp only at j;obtain⟨g,d,fi,r,v,w,u⟩:=acr A i B (o.step k) j (λfi q f z=>l fi (by simpa using q) f (by simp[z]))
  have n:=l fi (by simpa using r) C (by simp)
  obtain⟨s,F,D,E,x⟩:=atO o k v n;obtain⟨t,G,y⟩:=xi _ x w
  refine⟨s,t,fi,by simpa using r,D,?_,u.trans y⟩
  grind [dX]
end
end Go.Am
