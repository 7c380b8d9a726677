/- A part of the proof. -/
import Derived.Test.YtlcnolfmpbdgpaaGreatDoorTl2
import Derived.KernelRfl
import Derived.OrdersIn
import Derived.RangeFuncRecord
import Derived.TacticsIn
set_option linter.unusedSimpArgs false
set_option linter.unusedVariables false
namespace Go.Am
open Go Go.RowKit
def Cx.no(c:Cx):Cx:={c with pm:=fun t b=>t=false∧c.pm t b}
def Cx.lo(c:Cx)(n:Nat):Cx:={c with nO:=n}
mutual
theorem VC.no{c:Cx}:∀(d:D) (cs:List Value),d.imm=true→VC c d cs→VC c.no d cs
 | .int _ _,_,_,hv=>by simpa [VC]using hv
 | .bool _,_,_,hv=>by simpa [VC]using hv
 | .str _,_,_,hv=>by simpa [VC]using hv
 | .nils,_,_,hv=>by simpa [VC]using hv
 | .nilp,_,_,hv=>by simpa [VC]using hv
 | .nilm,_,_,hv=>by simpa [VC]using hv
 | .nilf,_,_,hv=>by simpa [VC]using hv
 | .nili,_,_,hv=>by simpa [VC]using hv
 | .ptr o,cs,_,hv=>by simp only[VC]at hv ⊢;exact hv
 | .map o,cs,_,hv=>by simp only[VC]at hv ⊢;exact hv
 | .yld o,cs,_,hv=>by simp only[VC]at hv ⊢;exact hv
 | .agg l,cs,hi,hv=>by simp only[VC]at hv ⊢;simp only[D.imm]at hi;exact VCs.no l cs hi hv
 | .sl b l,cs,hi,hv=>by
  simp only[VC]at hv ⊢
  simp only[D.imm,xA,Bool.not_eq_true']at hi
  obtain⟨a,len,cap,h1,h2,h3,h4⟩:=hv
  refine⟨a,len,cap,h1,h2,h3,fun hl=> ?_⟩
  obtain⟨ad,sz,h5,h6,h7,h8,h9⟩:=h4 hl
  exact⟨ad,sz,h5,h6,⟨hi.1,h7⟩,h8,VE.no l ad 0 sz hi.2 h9⟩
 | .fn f a b,cs,hi,hv=>by
  simp only[VC]at hv ⊢
  simp only[D.imm,xA]at hi
  obtain⟨av,bv,h1,h2,h3⟩:=hv
  exact⟨av,bv,h1,VVs.no a _ hi.1 h2,VVs.no b _ hi.2 h3⟩
 | .iface t x,cs,hi,hv=>by
  simp only[VC]at hv ⊢
  simp only[D.imm]at hi
  obtain⟨v,h1,h2,h3⟩:=hv
  exact⟨v,h1,VC.no x _ hi h2,h3⟩
 | .rptr l,cs,hi,hv=>by simp[D.imm]at hi
theorem VCs.no{c:Cx}:∀(l:List D) (cs:List Value),D.imms l=true→VCs c l cs→VCs c.no l cs
 | [],_,_,hv=>by simpa [VCs]using hv
 |d::ds,cs,hi,hv=>by
  simp only[VCs]at hv ⊢
  simp only[D.imms,xA]at hi
  obtain⟨v,r,h1,h2,h3⟩:=hv
  exact⟨v,r,h1,VC.no d _ hi.1 h2,VCs.no ds r hi.2 h3⟩
theorem VVs.no{c:Cx}:∀(l:List D) (cs:List Value),D.imms l=true→VVs c l cs→VVs c.no l cs
 | [],_,_,hv=>by simpa [VVs]using hv
 |d::ds,cs,hi,hv=>by
  simp only[VVs]at hv ⊢
  simp only[D.imms,xA]at hi
  obtain⟨v,r,h1,h2,h3,h4⟩:=hv
  exact⟨v,r,h1,VC.no d _ hi.1 h2,h3,VVs.no ds r hi.2 h4⟩
theorem VE.no{c:Cx}:∀(l:List D) (a:Addr) (o sz:Nat),D.imms l=true→VE c l a o sz→VE c.no l a o sz
 | [],_,_,_,_,_=>by simp[VE]
 |d::ds,a,o,sz,hi,hv=>by
  simp only[VE]at hv ⊢
  simp only[D.imms,xA]at hi
  obtain⟨⟨cs,h1,h2,h3⟩,h4⟩:=hv
  exact⟨⟨cs,h1,h2,VC.no d cs hi.1 h3⟩,VE.no ds a (o+sz) sz hi.2 h4⟩
end
mutual
theorem TC.no{c:Cx}:∀(t:T) (cs:List Value) (S:List Nat),t.imm=true→TC c t cs S→TC c.no t cs S
 | .d x,cs,S,hi,hv=>by simp only[TC]at hv ⊢;simp only[T.imm]at hi;exact⟨hv.1,VC.no x cs hi hv.2⟩
 | .dead,cs,S,_,hv=>by simpa only[TC]using hv
 | .agg ts,cs,S,hi,hv=>by simp only[TC]at hv ⊢;simp only[T.imm]at hi;exact TCs.no ts cs S hi hv
 | .own es,cs,S,hi,hv=>by
  simp only[TC]at hv ⊢
  simp only[T.imm]at hi
  rcases hv with hv |⟨g,cap,cur,e,sz,S',h1,h2,h3,h4,h5,h6,h7,h8⟩
  ·exact .inl hv
  ·exact .inr ⟨g,cap,cur,e,sz,S',h1,h2,h3,h4,h5,h6,h7,TE.no es sz _ S' hi h8⟩
theorem TCs.no{c:Cx}:∀(ts:List T) (cs:List Value) (S:List Nat),T.imms ts=true→TCs c ts cs S→TCs c.no ts cs S
 | [],_,_,_,hv=>by simpa only[TCs]using hv
 |t::ts,cs,S,hi,hv=>by
  simp only[TCs]at hv ⊢
  simp only[T.imms,xA]at hi
  obtain⟨v,r,S1,S2,h1,h2,h3,h4⟩:=hv
  exact⟨v,r,S1,S2,h1,h2,TC.no t _ _ hi.1 h3,TCs.no ts _ _ hi.2 h4⟩
theorem TE.no{c:Cx}:∀(ts:List T) (sz:Nat) (cs:List Value) (S:List Nat),T.imms ts=true→TE c ts sz cs S→TE c.no ts sz cs S
 | [],_,_,_,_,hv=>by simpa only[TE]using hv
 |t::ts,sz,cs,S,hi,hv=>by
  simp only[TE]at hv ⊢
  simp only[T.imms,xA]at hi
  obtain⟨c1,c2,S1,S2,h1,h2,h3,h4,h5⟩:=hv
  exact⟨c1,c2,S1,S2,h1,h2,h3,TC.no t _ _ hi.1 h4,TE.no ts sz _ _ hi.2 h5⟩
end
theorem RetAll.no{c:Cx}:∀(ts:List T) (vs:List Value) (M:List Nat),T.imms ts=true→RetAll c ts vs M→RetAll c.no ts vs M
 | [],_,_,_,hp=>hp
 |t::ts,vs,M,hi,hp=>by
  simp only[T.imms,xA]at hi
  obtain⟨v,r,M1,M2,h1,rfl,h3,h4,h5⟩:=hp
  exact⟨v,r,M1,M2,h1,rfl,TC.no t _ _ hi.1 h3,h4,RetAll.no ts r M2 hi.2 h5⟩
mutual
theorem VC.lo{c:Cx}{n:Nat}:∀(d:D) (cs:List Value),d.low n=true→VC c d cs→VC (c.lo n) d cs
 | .int _ _,_,_,hv=>by simpa [VC]using hv
 | .bool _,_,_,hv=>by simpa [VC]using hv
 | .str _,_,_,hv=>by simpa [VC]using hv
 | .nils,_,_,hv=>by simpa [VC]using hv
 | .nilp,_,_,hv=>by simpa [VC]using hv
 | .nilm,_,_,hv=>by simpa [VC]using hv
 | .nilf,_,_,hv=>by simpa [VC]using hv
 | .nili,_,_,hv=>by simpa [VC]using hv
 | .ptr o,cs,hi,hv=>by simp only[VC]at hv ⊢;simp only[D.low,yD]at hi;exact⟨hi,hv.2⟩
 | .map o,cs,hi,hv=>by simp only[VC]at hv ⊢;simp only[D.low,yD]at hi;exact⟨hi,hv.2⟩
 | .yld o,cs,hi,hv=>by simp only[VC]at hv ⊢;simp only[D.low,yD]at hi;exact⟨hi,hv.2⟩
 | .agg l,cs,hi,hv=>by simp only[VC]at hv ⊢;simp only[D.low]at hi;exact VCs.lo l cs hi hv
 | .sl b l,cs,hi,hv=>by
  simp only[VC]at hv ⊢
  simp only[D.low]at hi
  obtain⟨a,len,cap,h1,h2,h3,h4⟩:=hv
  refine⟨a,len,cap,h1,h2,h3,fun hl=> ?_⟩
  obtain⟨ad,sz,h5,h6,h7,h8,h9⟩:=h4 hl
  exact⟨ad,sz,h5,h6,h7,h8,VE.lo l ad 0 sz hi h9⟩
 | .fn f a b,cs,hi,hv=>by
  simp only[VC]at hv ⊢
  simp only[D.low,xA]at hi
  obtain⟨av,bv,h1,h2,h3⟩:=hv
  exact⟨av,bv,h1,VVs.lo a _ hi.1 h2,VVs.lo b _ hi.2 h3⟩
 | .iface t x,cs,hi,hv=>by
  simp only[VC]at hv ⊢
  simp only[D.low]at hi
  obtain⟨v,h1,h2,h3⟩:=hv
  exact⟨v,h1,VC.lo x _ hi h2,h3⟩
 | .rptr l,cs,hi,hv=>by
  simp only[VC]at hv ⊢
  simp only[D.low]at hi
  obtain⟨a,vs,h1,h2,h3,h4,h5⟩:=hv
  exact⟨a,vs,h1,h2,h3,h4,VCs.lo l vs hi h5⟩
theorem VCs.lo{c:Cx}{n:Nat}:∀(l:List D) (cs:List Value),D.lows n l=true→VCs c l cs→VCs (c.lo n) l cs
 | [],_,_,hv=>by simpa [VCs]using hv
 |d::ds,cs,hi,hv=>by
  simp only[VCs]at hv ⊢
  simp only[D.lows,xA]at hi
  obtain⟨v,r,h1,h2,h3⟩:=hv
  exact⟨v,r,h1,VC.lo d _ hi.1 h2,VCs.lo ds r hi.2 h3⟩
theorem VVs.lo{c:Cx}{n:Nat}:∀(l:List D) (cs:List Value),D.lows n l=true→VVs c l cs→VVs (c.lo n) l cs
 | [],_,_,hv=>by simpa [VVs]using hv
 |d::ds,cs,hi,hv=>by
  simp only[VVs]at hv ⊢
  simp only[D.lows,xA]at hi
  obtain⟨v,r,h1,h2,h3,h4⟩:=hv
  exact⟨v,r,h1,VC.lo d _ hi.1 h2,h3,VVs.lo ds r hi.2 h4⟩
theorem VE.lo{c:Cx}{n:Nat}:∀(l:List D) (a:Addr) (o sz:Nat),D.lows n l=true→VE c l a o sz→VE (c.lo n) l a o sz
 | [],_,_,_,_,_=>by simp[VE]
 |d::ds,a,o,sz,hi,hv=>by
  simp only[VE]at hv ⊢
  simp only[D.lows,xA]at hi
  obtain⟨⟨cs,h1,h2,h3⟩,h4⟩:=hv
  exact⟨⟨cs,h1,h2,VC.lo d cs hi.1 h3⟩,VE.lo ds a (o+sz) sz hi.2 h4⟩
end
mutual
theorem TC.lo{c:Cx}{n:Nat}:∀(t:T) (cs:List Value) (S:List Nat),t.low n=true→TC c t cs S→TC (c.lo n) t cs S
 | .d x,cs,S,hi,hv=>by simp only[TC]at hv ⊢;simp only[T.low]at hi;exact⟨hv.1,VC.lo x cs hi hv.2⟩
 | .dead,cs,S,_,hv=>by simpa only[TC]using hv
 | .agg ts,cs,S,hi,hv=>by simp only[TC]at hv ⊢;simp only[T.low]at hi;exact TCs.lo ts cs S hi hv
 | .own es,cs,S,hi,hv=>by
  simp only[TC]at hv ⊢
  simp only[T.low]at hi
  rcases hv with hv |⟨g,cap,cur,e,sz,S',h1,h2,h3,h4,h5,h6,h7,h8⟩
  ·exact .inl hv
  ·exact .inr ⟨g,cap,cur,e,sz,S',h1,h2,h3,h4,h5,h6,h7,TE.lo es sz _ S' hi h8⟩
theorem TCs.lo{c:Cx}{n:Nat}:∀(ts:List T) (cs:List Value) (S:List Nat),T.lows n ts=true→TCs c ts cs S→TCs (c.lo n) ts cs S
 | [],_,_,_,hv=>by simpa only[TCs]using hv
 |t::ts,cs,S,hi,hv=>by
  simp only[TCs]at hv ⊢
  simp only[T.lows,xA]at hi
  obtain⟨v,r,S1,S2,h1,h2,h3,h4⟩:=hv
  exact⟨v,r,S1,S2,h1,h2,TC.lo t _ _ hi.1 h3,TCs.lo ts _ _ hi.2 h4⟩
theorem TE.lo{c:Cx}{n:Nat}:∀(ts:List T) (sz:Nat) (cs:List Value) (S:List Nat),T.lows n ts=true→TE c ts sz cs S→TE (c.lo n) ts sz cs S
 | [],_,_,_,_,hv=>by simpa only[TE]using hv
 |t::ts,sz,cs,S,hi,hv=>by
  simp only[TE]at hv ⊢
  simp only[T.lows,xA]at hi
  obtain⟨c1,c2,S1,S2,h1,h2,h3,h4,h5⟩:=hv
  exact⟨c1,c2,S1,S2,h1,h2,h3,TC.lo t _ _ hi.1 h4,TE.lo ts sz _ _ hi.2 h5⟩
end
theorem RetAll.lo{c:Cx}{n:Nat}:∀(ts:List T) (vs:List Value) (M:List Nat),T.lows n ts=true→RetAll c ts vs M→RetAll (c.lo n) ts vs M
 | [],_,_,_,hp=>hp
 |t::ts,vs,M,hi,hp=>by
  simp only[T.lows,xA]at hi
  obtain⟨v,r,M1,M2,h1,rfl,h3,h4,h5⟩:=hp
  exact⟨v,r,M1,M2,h1,rfl,TC.lo t _ _ hi.1 h3,h4,RetAll.lo ts r M2 hi.2 h5⟩
mutual
theorem VC.low0{c c':Cx}(h:∀b g,c.pm b g→c'.pm b g∧c'.w.heap[g]? =c.w.heap[g]?):∀(d:D) (cs:List Value),d.low 0=true→VC c d cs→VC c' d cs
 | .int _ _,_,_,hv=>by simpa [VC]using hv
 | .bool _,_,_,hv=>by simpa [VC]using hv
 | .str _,_,_,hv=>by simpa [VC]using hv
 | .nils,_,_,hv=>by simpa [VC]using hv
 | .nilp,_,_,hv=>by simpa [VC]using hv
 | .nilm,_,_,hv=>by simpa [VC]using hv
 | .nilf,_,_,hv=>by simpa [VC]using hv
 | .nili,_,_,hv=>by simpa [VC]using hv
 | .ptr o,_,hl,_=>by simp[D.low]at hl
 | .map o,_,hl,_=>by simp[D.low]at hl
 | .yld o,_,hl,_=>by simp[D.low]at hl
 | .agg l,cs,hl,hv=>by simp only[VC]at hv ⊢;simp only[D.low]at hl;exact VCs.low0 h l cs hl hv
 | .sl b l,cs,hl,hv=>by
  simp only[VC]at hv ⊢
  simp only[D.low]at hl
  obtain⟨a,len,cap,h1,h2,h3,h4⟩:=hv
  refine⟨a,len,cap,h1,h2,h3,fun hn=> ?_⟩
  obtain⟨ad,sz,h5,h6,h7,h8,h9⟩:=h4 hn
  exact⟨ad,sz,h5,h6,(h _ _ h7).1,h8,VE.low0 h l ad 0 sz (h _ _ h7).2 hl h9⟩
 | .fn f a b,cs,hl,hv=>by
  simp only[VC]at hv ⊢
  simp only[D.low,xA]at hl
  obtain⟨av,bv,h1,h2,h3⟩:=hv
  exact⟨av,bv,h1,VVs.low0 h a _ hl.1 h2,VVs.low0 h b _ hl.2 h3⟩
 | .iface t x,cs,hl,hv=>by
  simp only[VC]at hv ⊢
  simp only[D.low]at hl
  obtain⟨v,h1,h2,h3⟩:=hv
  exact⟨v,h1,VC.low0 h _ _ hl h2,h3⟩
 | .rptr l,cs,hl,hv=>by
  simp only[VC]at hv ⊢
  simp only[D.low]at hl
  obtain⟨a,vs,h1,h2,h3,h4,h5⟩:=hv
  refine⟨a,vs,h1,h2,(h _ _ h3).1,fun j u hj=> ?_,VCs.low0 h l vs hl h5⟩
  rw[j0 (w:=c.w) (by rw[eJ];exact(h _ _ h3).2)]
  exact h4 j u hj
theorem VCs.low0{c c':Cx}(h:∀b g,c.pm b g→c'.pm b g∧c'.w.heap[g]? =c.w.heap[g]?):∀(l:List D) (cs:List Value),D.lows 0 l=true→VCs c l cs→VCs c' l cs
 | [],_,_,hv=>by simpa [VCs]using hv
 |d::ds,cs,hl,hv=>by
  simp only[VCs]at hv ⊢
  simp only[D.lows,xA]at hl
  obtain⟨v,r,h1,h2,h3⟩:=hv
  exact⟨v,r,h1,VC.low0 h d _ hl.1 h2,VCs.low0 h ds _ hl.2 h3⟩
theorem VVs.low0{c c':Cx}(h:∀b g,c.pm b g→c'.pm b g∧c'.w.heap[g]? =c.w.heap[g]?):∀(l:List D) (cs:List Value),D.lows 0 l=true→VVs c l cs→VVs c' l cs
 | [],_,_,hv=>by simpa [VVs]using hv
 |d::ds,cs,hl,hv=>by
  simp only[VVs]at hv ⊢
  simp only[D.lows,xA]at hl
  obtain⟨v,r,h1,h2,h3,h4⟩:=hv
  exact⟨v,r,h1,VC.low0 h _ _ hl.1 h2,h3,VVs.low0 h ds _ hl.2 h4⟩
theorem VE.low0{c c':Cx}(h:∀b g,c.pm b g→c'.pm b g∧c'.w.heap[g]? =c.w.heap[g]?):∀(l:List D) (a:Addr) (o sz:Nat),c'.w.heap[a.block]? =c.w.heap[a.block]? →D.lows 0 l=true→VE c l a o sz→VE c' l a o sz
 | [],_,_,_,_,_,_=>by simp[VE]
 |d::ds,a,o,sz,hb,hl,hv=>by
  simp only[VE]at hv ⊢
  simp only[D.lows,xA]at hl
  obtain⟨⟨cs,h1,h2,h3⟩,h4⟩:=hv
  refine⟨⟨cs,h1,fun j v hj=> ?_,VC.low0 h d cs hl.1 h3⟩,VE.low0 h ds a (o+sz) sz hb hl.2 h4⟩
  rw[j0 (w:=c.w) (by rw[eJ];exact hb)]
  exact h2 j v hj
end
def cA(A:Av)(sn:Bool)(R:Root→Bool)(S:Root→List Nat)(fl:List Nat)(w:World)(n:Nat)(ρ:Nat→Nat):Av:=
 {w0:=w,F:=fun t b=>A.F t b∨((t=false∨sn=false)∧((∃r,R r=true∧b∈S r)∨b∈fl)),O0:=fun b=>∃r,R r=false∧b∈S r,n0:=n,ρ0:=ρ,mono:=fun b h=>by
    rcases h with h |⟨h,q⟩
    ·exact .inl (A.mono b h)
    ·exact .inr ⟨.inl rfl,q⟩}
def j5(R:Root→Bool)(S:Root→List Nat):Root→List Nat:=fun r=>if R r then []else S r
section
variable{P:Program}{A:Av}{ρ:Nat→Nat}{S:Root→List Nat}{hd:Root→Value}{fl:List Nat}{k k':Wk}{vals:List (SV×Value)}{w:World}
theorem Gz(h:KR A ρ S hd fl k vals w)(sn:Bool)(lk:List Nat)(R:Root→Bool)(H:List Ob)(hR:∀n j,R (.l n j)=true)(hlk:∀n∈lk,R (.o n)=true)(hlen:H.length=k.H.length)
  (h1:∀n,R (.o n)=true→∀ob,H[n]? =some ob→ob=.lock) (h2:∀n,R (.o n)=false→H[n]? =k.H[n]?):
  KR (cA A sn R S fl w H.length ρ) ρ (j5 R S) hd [] {ct:=[],H} [] w∧Ext (cxS sn lk A k.H.length ρ S fl w) (aa (cA A sn R S fl w H.length ρ) H.length ρ (j5 R S) [] w):=by
 have own:∀b,Own (j5 R S) [] b→∃r,R r=false∧b∈S r:=fun b hb=>by
  rcases hb with⟨r,hr⟩ |hb
  ·unfold j5 at hr
   split at hr
   ·simp at hr
   ·rename_i hf;exact⟨r,by simpa using hf,hr⟩
  ·simp at hb
 have ext:Ext (cxS sn lk A k.H.length ρ S fl w) (aa (cA A sn R S fl w H.length ρ) H.length ρ (j5 R S) [] w):=by
  refine⟨fun t b hp=>⟨?_,rfl⟩,by show k.H.length≤H.length;omega,fun _ _=>rfl⟩
  rcases hp with⟨q1,q2,q3⟩ |⟨q1,q2,q3,q4,q5⟩
  ·refine⟨fun ho=> ?_,fun hF=> ?_,q3⟩
   ·obtain⟨r,_,hr⟩:=own b ho;exact q1 (.inl ⟨r,hr⟩)
   ·rcases hF with hF |⟨_,⟨r,_,hr⟩ |hr⟩
    ·exact q2 hF
    ·exact q1 (.inl ⟨r,hr⟩)
    ·exact q1 (.inr hr)
  ·subst q1;subst q2
   refine⟨fun ho=> ?_,fun hF=> ?_,q4⟩
   ·obtain⟨r,hf,hr⟩:=own b ho
    cases r with
    |l n j=>rw[hR]at hf;cases hf
    |o n=>have:=hlk n (q5 n hr);rw[hf]at this;cases this
   ·rcases hF with hF |⟨hF |hF,_⟩
    ·exact q3 hF
    ·cases hF
    ·cases hF
 have extO:Ext (aa A k.H.length ρ S fl w) (aa (cA A sn R S fl w H.length ρ) H.length ρ (j5 R S) [] w):=
  ⟨fun t b hp=>ext.pm t b (.inl hp),ext.nO,fun _ _=>rfl⟩
 have get:∀r,R r=false→({ct:=[],H}:Wk).get r=k.get r:=fun r hr=>by
  cases r with
  |l n j=>rw[hR]at hr;cases hr
  |o n=>simp only[Wk.get,Go.Am.cont,h2 n hr]
 have getN:∀r,R r=true→({ct:=[],H}:Wk).get r=none:=fun r hr=>by
  cases r with
  |l n j=>rfl
  |o n=>
   simp only[Wk.get,Go.Am.cont]
   cases hH:H[n]? with
   |none=>rfl
   |some ob=>rw[h1 n hr ob hH]
 have sF:∀r,R r=false→j5 R S r=S r:=fun r hr=>by simp[j5,hr]
 have sT:∀r,R r=true→j5 R S r=[]:=fun r hr=>by simp[j5,hr]
 have sub:∀r b,b∈j5 R S r→b∈S r∧R r=false:=fun r b hb=>by
  unfold j5 at hb
  split at hb
  ·simp at hb
  ·rename_i hf;exact⟨hb,by simpa using hf⟩
 refine⟨⟨fun r t ht=> ?_,fun r hr hm=> ?_,h.obj,fun n ob he hpl=> ?_,⟨fun r=> ?_,by simp,fun r r' b hb hb'=>h.dis.one r r' b (sub r b hb).1 (sub r' b hb').1,by simp⟩,fun b hb=> ?_,by simp,⟨rfl,rfl,rfl,Nat.le_refl _,fun _ _ _=>rfl,.refl _⟩,fun t b hF=> ?_,⟨Nat.le_refl _,fun _ _=>rfl⟩⟩,ext⟩
 ·cases hr:R r with
  |true=>rw[getN r hr]at ht;cases ht
  |false=>
   rw[get r hr]at ht
   rw[sF r hr];exact TC.ext extO _ _ _ (fun _ _=>rfl) (h.cont r t ht)
 ·cases hr':R r with
  |true=>exact sT r hr'
  |false=>
   rw[get r hr']at hr
   rw[sF r hr'];exact h.gone r hr (fun n ob e he=>hm n ob e (by subst e;rw[h2 n hr'];exact he))
 ·have hr:R (.o n)=false:=by
   cases hr:R (.o n)with
   |false=>rfl
   |true=>have:=h1 n hr _ he;subst this;cases hpl
  simp only at he;rw[h2 n hr]at he
  exact(h.map n ob he hpl).ext extO (fun _ _=>rfl) (sF _ hr) rfl
 ·unfold j5;split
  ·simp
  ·exact h.dis.nd r
 ·obtain⟨r,hf,hr⟩:=own b hb
  have hb':=h.blk b (.inl ⟨r,hr⟩)
  refine⟨hb'.1,fun t hF=> ?_,fun _=>⟨r,hf,hr⟩⟩
  rcases hF with hF |⟨_,⟨r',hr1,hr2⟩ |hr2⟩
  ·exact hb'.2.1 t hF
  ·have:=h.dis.one r r' b hr hr2;subst this;rw[hf]at hr1;cases hr1
  ·exact h.dis.oneF r b hr hr2
 ·have hsz:=h.fr.size
  rcases hF with hF |⟨_,⟨r',hr1,hr2⟩ |hr2⟩
  ·exact yA (h.Fold t b hF) hsz
  ·exact(h.blk b (.inl ⟨r',hr2⟩)).1
  ·exact(h.blk b (.inr hr2)).1
def dX(R:Root→Bool)(n0:Nat):Root→Bool
 | .l n j=>true
 | .o n=>decide (n<n0)&&R (.o n)
def s3(R:Root→Bool)(n0:Nat)(S S2:Root→List Nat):Root→List Nat:=fun r=>if dX R n0 r then S r else S2 r
def hd3(R:Root→Bool)(n0:Nat)(hd hd2:Root→Value):Root→Value:=fun r=>if dX R n0 r then hd r else hd2 r
def zI:Ob→Bool
 | .box c=>c.imm
 | .map es=>es.all fun e=>e.1.imm&&e.2.imm
 | .iter _ _=>true
 | .miter _=>true
 | .frame _ _ _ _ env ct=>env.all (fun p=>p.2.imm)&&ct.all fun p=>p.2.imm
 | .lock=>true
 | .row es=>T.imms es
 | .sset _=>true
structure LeftCall(A:Av)(ρ:Nat→Nat)(S:Root→List Nat)(hd:Root→Value)(fl:List Nat)(k:Wk)(w:World)(sn:Bool)(R:Root→Bool)(H2:List Ob)(ρ':Nat→Nat)(S2:Root→List Nat)(hd2:Root→Value)(M:List Nat)(w':World)(H3:List Ob)(tr':List Tr):Prop where
 kr:∀vals',(∀p∈vals',SO (aa A H3.length ρ' (s3 R k.H.length S S2) (M++fl) w') ({k with H:=H3,tr:=tr'}:Wk).get (hd3 R k.H.length hd hd2) (trv tr' p.1) p.2)→KR A ρ' (s3 R k.H.length S S2) (hd3 R k.H.length hd hd2) (M++fl) {k with H:=H3,tr:=tr'} vals' w'
 ret:∀rs vs,(sn=true→T.imms rs=true)→RetAll (aa (cA A sn R S fl w k.H.length ρ) H2.length ρ' S2 M w') rs vs M→RetAll (aa A H3.length ρ' (s3 R k.H.length S S2) (M++fl) w') rs vs M
 ext:Ext (aa A k.H.length ρ S fl w) (aa A H3.length ρ' (s3 R k.H.length S S2) (M++fl) w')
 hold:∀r q,dX R k.H.length r=true→ot (aa A k.H.length ρ S fl w) (aa A H3.length ρ' (s3 R k.H.length S S2) (M++fl) w') k.get ({k with H:=H3,tr:=tr'}:Wk).get hd (hd3 R k.H.length hd hd2) r q
 rho:∀o,o<k.H.length→ρ' o=ρ o
theorem GB(h:KR A ρ S hd fl k vals w){sn:Bool}{R:Root→Bool}{H2:List Ob}{ρ':Nat→Nat}{S2:Root→List Nat}{hd2:Root→Value}{M:List Nat}{w':World}(hR:∀n j,R (.l n j)=true)
  (g:KR (cA A sn R S fl w k.H.length ρ) ρ' S2 hd2 M {ct:=[],H:=H2} [] w') (H3:List Ob) (tr':List Tr) (hlen:H3.length=H2.length) (h31:∀n,n<k.H.length→R (.o n)=true→H3[n]? =k.H[n]?)
  (h32:∀n,¬(n<k.H.length∧R (.o n)=true)→H3[n]? =H2[n]?) (himm:sn=true→∀n ob,¬(n<k.H.length∧R (.o n)=true)→H2[n]? =some ob→zI ob=true):
  LeftCall A ρ S hd fl k w sn R H2 ρ' S2 hd2 M w' H3 tr':=by
 have hsz:w.heap.size≤w'.heap.size:=g.fr.size;have hrho:∀o,o<k.H.length→ρ' o=ρ o:=g.rho.2
 have hn0:k.H.length≤H2.length:=g.rho.1
 have new:∀b,((∃r,b∈S2 r)∨b∈M)→b<w.heap.size→∃r,R r=false∧b∈S r:=fun b hb hlt=>(g.blk b hb).2.2 hlt
 have own:∀b,Own (s3 R k.H.length S S2) (M++fl) b→((∃r,dX R k.H.length r=true∧b∈S r)∨b∈fl)∨((∃r,b∈S2 r)∨b∈M):=fun b hb=>by
  rcases hb with⟨r,hr⟩ |hb
  ·unfold s3 at hr
   split at hr
   ·rename_i hk;exact .inl (.inl ⟨r,hk,hr⟩)
   ·exact .inr (.inl ⟨r,hr⟩)
  ·rcases List.mem_append.1 hb with hb |hb
   ·exact .inr (.inr hb)
   ·exact .inl (.inr hb)
 have kR:∀r b,dX R k.H.length r=true→b∈S r→R r=true:=fun r b hk hb=>by
  cases r with
  |l n j=>exact hR n j
  |o n=>simp only[dX,xA]at hk;exact hk.2
 have old:∀b,((∃r,dX R k.H.length r=true∧b∈S r)∨b∈fl)→b<w.heap.size∧¬∃r,R r=false∧b∈S r:=fun b hb=>by
  rcases hb with⟨r,hk,hr⟩ |hb
  ·refine⟨(h.blk b (.inl ⟨r,hr⟩)).1,fun⟨r',hf,hr'⟩=> ?_⟩
   have:=h.dis.one r r' b hr hr'
   subst this;rw[kR r b hk hr]at hf;cases hf
  ·exact⟨(h.blk b (.inr hb)).1,fun⟨r',hf,hr'⟩=>h.dis.oneF r' b hr' hb⟩
 have apart:∀b,((∃r,dX R k.H.length r=true∧b∈S r)∨b∈fl)→¬((∃r,b∈S2 r)∨b∈M):=fun b h1 h2=>(old b h1).2 (new b h2 (old b h1).1)
 have same:∀b,b<w.heap.size→(¬∃r,R r=false∧b∈S r)→w'.heap[b]? =w.heap[b]? :=fun b hlt hn=>g.fr.kept b hlt hn
 have ext:Ext (aa A k.H.length ρ S fl w) (aa A H3.length ρ' (s3 R k.H.length S S2) (M++fl) w'):=by
  refine⟨fun t b hp=>⟨⟨fun ho=> ?_,hp.2.1,yA hp.2.2 hsz⟩,same b hp.2.2 (fun⟨r,_,hr⟩=>hp.1 (.inl ⟨r,hr⟩))⟩,by show k.H.length≤H3.length;omega,hrho⟩
  rcases own b ho with(⟨r,_,hr⟩ |hr) |hr
  ·exact hp.1 (.inl ⟨r,hr⟩)
  ·exact hp.1 (.inr hr)
  ·obtain⟨r,_,hr⟩:=new b hr hp.2.2;exact hp.1 (.inl ⟨r,hr⟩)
 have ext2:∀t b,(sn=true→t=false)→(aa (cA A sn R S fl w k.H.length ρ) H2.length ρ' S2 M w').pm t b→(aa A H3.length ρ' (s3 R k.H.length S S2) (M++fl) w').pm t b:=fun t b ht hp=>by
  refine⟨fun ho=> ?_,fun hF=>hp.2.1 (.inl hF),hp.2.2⟩
  have htt:t=false∨sn=false:=by cases sn with |true=>exact .inl (ht rfl) |false=>exact .inr rfl
  rcases own b ho with(⟨r,hk,hr⟩ |hr) |hr
  ·exact hp.2.1 (.inr ⟨htt,.inl ⟨r,kR r b hk hr,hr⟩⟩)
  ·exact hp.2.1 (.inr ⟨htt,.inr hr⟩)
  ·exact hp.1 hr
 have extA:sn=false→Ext (aa (cA A sn R S fl w k.H.length ρ) H2.length ρ' S2 M w') (aa A H3.length ρ' (s3 R k.H.length S S2) (M++fl) w'):=fun hs=>
  ⟨fun t b hp=>⟨ext2 t b (fun h=>by rw[hs]at h;cases h) hp,rfl⟩,by show H2.length≤H3.length;omega,fun _ _=>rfl⟩
 have Hy:Ext (aa (cA A sn R S fl w k.H.length ρ) H2.length ρ' S2 M w').no (aa A H3.length ρ' (s3 R k.H.length S S2) (M++fl) w'):=
  ⟨fun t b hp=>⟨ext2 t b (fun _=>hp.1) hp.2,rfl⟩,by show H2.length≤H3.length;omega,fun _ _=>rfl⟩
 have tc:∀t cs Sx,(sn=true→t.imm=true)→TC (aa (cA A sn R S fl w k.H.length ρ) H2.length ρ' S2 M w') t cs Sx→TC (aa A H3.length ρ' (s3 R k.H.length S S2) (M++fl) w') t cs Sx:=fun t cs Sx hi ht=>by
  cases hs:sn with
  |false=>subst hs;exact TC.ext (extA rfl) _ _ _ (fun _ _=>rfl) ht
  |true=>exact TC.ext Hy _ _ _ (fun _ _=>rfl) (TC.no t cs Sx (hi hs) ht)
 have vv:∀x v,(sn=true→x.imm=true)→VV (aa (cA A sn R S fl w k.H.length ρ) H2.length ρ' S2 M w') x v→VV (aa A H3.length ρ' (s3 R k.H.length S S2) (M++fl) w') x v:=fun x v hi hv=>by
  cases hs:sn with
  |false=>subst hs;exact VV.ext (extA rfl) hv
  |true=>exact⟨VC.ext Hy _ _ (VC.no x _ (hi hs) hv.1),hv.2⟩
 have kept:∀r,dX R k.H.length r=true→∀b∈S r,w'.heap[b]? =w.heap[b]? :=fun r hk b hb=>by
  have:=old b (.inl ⟨r,hk,hb⟩)
  exact same b this.1 this.2
 have getK:∀r,dX R k.H.length r=true→({k with H:=H3,tr:=tr'}:Wk).get r=k.get r:=fun r hk=>by
  cases r with
  |l n j=>rfl
  |o n=>
   simp only[dX,xA,yD]at hk
   simp only[Wk.get,Go.Am.cont,h31 n hk.1 hk.2]
 have getO:∀r,dX R k.H.length r=false→∃n,r=.o n∧¬(n<k.H.length∧R (.o n)=true)∧({k with H:=H3,tr:=tr'}:Wk).get r=({ct:=[],H:=H2}:Wk).get r:=fun r hk=>by
  cases r with
  |l n j=>cases hk
  |o n=>
   have hn:¬(n<k.H.length∧R (.o n)=true):=fun⟨q1,q2⟩=>by simp[dX,q1,q2]at hk
   exact⟨n,rfl,hn,by simp only[Wk.get,Go.Am.cont,h32 n hn]⟩
 refine⟨fun vals' hv=>⟨fun r t ht=> ?_,fun r hr hm=> ?_,fun n=> ?_,fun n ob he hpl=> ?_,⟨fun r=> ?_,?_,fun r r' b hb hb'=> ?_,fun r b hb hb'=> ?_⟩,fun b hb=> ?_,hv,?_,h.Fold,?_⟩,fun rs vs hi hr=> ?_,ext,fun r q hk=> ?_,hrho⟩
 ·cases hk:dX R k.H.length r with
  |true=>
   rw[getK r hk]at ht
   have e1:s3 R k.H.length S S2 r=S r:=by simp[s3,hk]
   have e2:hd3 R k.H.length hd hd2 r=hd r:=by simp[hd3,hk]
   rw[e1,e2];exact TC.ext ext _ _ _ (kept r hk) (h.cont r t ht)
  |false=>
   obtain⟨n,rfl,hn,e⟩:=getO r hk;rw[e]at ht
   have e1:s3 R k.H.length S S2 (.o n)=S2 (.o n):=by simp[s3,hk]
   have e2:hd3 R k.H.length hd hd2 (.o n)=hd2 (.o n):=by simp[hd3,hk]
   rw[e1,e2];refine tc _ _ _ (fun hs=> ?_) (g.cont _ t ht)
   simp only[Wk.get,Go.Am.cont]at ht
   split at ht
   ·rename_i c hc
    simp only[xJ]at ht
    subst ht
    have:=himm hs n _ hn hc
    simp only[zI]at this
    simp[T.imm,T.imms,this]
   ·cases ht
 ·cases hk:dX R k.H.length r with
  |true=>
   rw[getK r hk]at hr
   have e1:s3 R k.H.length S S2 r=S r:=by simp[s3,hk]
   rw[e1];refine h.gone r hr (fun n ob e he=>hm n ob e ?_)
   subst e;simp only[dX,xA,yD]at hk
   show H3[n]? =_;rw[h31 n hk.1 hk.2];exact he
  |false=>
   obtain⟨n,rfl,hn,e⟩:=getO r hk;rw[e]at hr
   have e1:s3 R k.H.length S S2 (.o n)=S2 (.o n):=by simp[s3,hk]
   rw[e1];refine g.gone _ hr (fun m ob e he=>hm m ob e ?_)
   simp only[Root.o.injEq]at e
   subst e;show H3[n]? =_;rw[h32 n hn];exact he
 ·unfold hd3
  split
  ·rename_i hk
   simp only[dX,xA,yD]at hk
   rw[h.obj,hrho n hk.1]
  ·exact g.obj n
 ·cases hk:dX R k.H.length (.o n)with
  |true=>
   have hk':=hk;simp only[dX,xA,yD]at hk'
   simp only at he;rw[h31 n hk'.1 hk'.2]at he
   exact(h.map n ob he hpl).ext ext (kept _ hk) (by simp[s3,hk]) (hrho n hk'.1)
  |false=>
   have hn:¬(n<k.H.length∧R (.o n)=true):=fun⟨q1,q2⟩=>by simp[dX,q1,q2]at hk
   simp only at he;rw[h32 n hn]at he
   have e1:s3 R k.H.length S S2 (.o n)=S2 (.o n):=by simp[s3,hk]
   obtain⟨N,m1,m2⟩:=g.map n ob he hpl
   refine⟨N,e1.trans m1,?_⟩
   cases ob with
   |map es=>
    obtain⟨en,cl,q1,q2,q3⟩:=m2
    have hi:∀a∈es,sn=true→a.1.imm=true∧a.2.imm=true:=fun a ha hs=>by
     have:=himm hs n _ hn he
     simp only[zI]at this
     have:=List.all_eq_true.1 this a ha
     simpa using this
    refine⟨en,cl,q1,q2.imp (fun a ha b q=>vv _ _ (fun hs=>(hi a ha hs).1) q),RetAll.imp _ _ _ (fun t ht cs M' _ h3=> ?_) q3⟩
    obtain⟨a,ha,rfl⟩:=List.mem_map.1 ht;exact tc _ _ _ (fun hs=>(hi a ha hs).2) h3
   |iter s p=>exact m2
   |miter m=>
    obtain⟨q1,q2,q3⟩:=m2
    exact⟨q1,fun o e=>by have:=q2 o e;show o<H3.length;rw[hlen];exact this,q3⟩
   |frame g' ps x y env ct=>
    obtain⟨r,q1,q2,q3,q4,q5,q6,q7⟩:=m2
    have hi:sn=true→(∀p∈env,p.2.imm=true)∧∀p∈ct,p.2.imm=true:=fun hs=>by
     have:=himm hs n _ hn he
     simp only[zI,xA]at this
     exact⟨fun p hp=>List.all_eq_true.1 this.1 p hp,fun p hp=>List.all_eq_true.1 this.2 p hp⟩
    refine⟨r,q1,q2,q3,q4,q5,q6,q7.1.imp (fun _ _=>rfl) (fun p hp x v e q=>vv _ _ (fun hs=> ?_) q) (fun p hp cs M' _ q=>tc _ _ _ (fun hs=>(hi hs).2 p hp) q),q7.2⟩
    have:=(hi hs).1 p hp
    rw[e]at this
    exact this
   |sset ks=>
    obtain⟨es,en,cl,q1,q2,q3,q4⟩:=m2
    refine⟨es,en,cl,q1,q2.imp (fun a ha b q=>vv _ _ (fun hs=> ?_) q),RetAll.imp _ _ _ (fun t ht cs M' _ h3=> ?_) q3,q4⟩
    ·obtain⟨s,_,rfl⟩:=q4.1 a ha
     rfl
    ·obtain⟨a,ha,rfl⟩:=List.mem_map.1 ht
     obtain⟨s,_,rfl⟩:=q4.1 a ha;exact tc _ _ _ (fun hs=>rfl) h3
   |_=>trivial
 ·unfold s3;split
  ·exact h.dis.nd r
  ·exact g.dis.nd r
 ·rw[xT]
  exact⟨g.dis.ndF,h.dis.ndF,fun a ha b hb hab=>apart b (.inr hb) (.inr (hab▸ha))⟩
 ·unfold s3 at hb hb'
  split at hb <;>split at hb'
  ·exact h.dis.one r r' b hb hb'
  ·rename_i q1 q2;exact absurd (.inl ⟨r',hb'⟩) (apart b (.inl ⟨r,q1,hb⟩))
  ·rename_i q1 q2;exact absurd (.inl ⟨r,hb⟩) (apart b (.inl ⟨r',q2,hb'⟩))
  ·exact g.dis.one r r' b hb hb'
 ·unfold s3 at hb
  split at hb
  ·rename_i hk
   rcases List.mem_append.1 hb' with q |q
   ·exact apart b (.inl ⟨r,hk,hb⟩) (.inr q)
   ·exact h.dis.oneF r b hb q
  ·rcases List.mem_append.1 hb' with q |q
   ·exact g.dis.oneF r b hb q
   ·exact apart b (.inr q) (.inl ⟨r,hb⟩)
 ·have hA:=h.fr.size
  rcases own b hb with(⟨r,_,hr⟩ |hr) |hr
  ·have:=h.blk b (.inl ⟨r,hr⟩);exact⟨by omega,this.2⟩
  ·have:=h.blk b (.inr hr);exact⟨by omega,this.2⟩
  ·have hb':=g.blk b hr
   refine⟨hb'.1,fun t hF=>hb'.2.1 t (.inl hF),fun hlt=> ?_⟩
   obtain⟨r,_,hr'⟩:=new b hr (by omega)
   exact(h.blk b (.inl ⟨r,hr'⟩)).2.2 hlt
 ·have hA:=h.fr.size
  refine⟨g.fr.os.trans h.fr.os,g.fr.tape.trans h.fr.tape,g.fr.output.trans h.fr.output,by omega,fun b hlt hO=> ?_,h.fr.recs.trans g.fr.recs⟩
  rw[same b (by omega) (fun⟨r,_,hr⟩=>hO ((h.blk b (.inl ⟨r,hr⟩)).2.2 hlt))]
  exact h.fr.kept b hlt hO
 ·have:=h.rho
  refine⟨?_,fun o ho=> ?_⟩
  ·show A.n0≤H3.length;omega
  ·rw[hrho o (by omega)];exact this.2 o ho
 ·cases hs:sn with
  |false=>subst hs;exact RetAll.ext (extA rfl) _ _ _ (fun _ _=>rfl) hr
  |true=>exact RetAll.ext Hy _ _ _ (fun _ _=>rfl) (RetAll.no rs vs M (hi hs) hr)
 ·intro t es h1 h2
  refine⟨t,es,by rw[getK r hk];exact h1,h2,SameShape.refl _,fun h' hn=> ?_⟩
  have e2:hd3 R k.H.length hd hd2 r=hd r:=by simp[hd3,hk]
  rw[e2];exact NodeH.ext q t _ h' _ (h.cont r t h1) (kept r hk) hn
theorem D2(h:KR A ρ S hd fl k vals w)(sn:Bool)(lk:List Nat):
  KR (cA A sn (fun _=>true) S fl w 0 ρ) ρ (fun _=>[]) hd [] {ct:=[],H:=[]} [] w∧
   ∀t g,(cxS sn lk A k.H.length ρ S fl w).pm t g→(aa (cA A sn (fun _=>true) S fl w 0 ρ) 0 ρ (fun _=>[]) [] w).pm t g∧w.heap[g]? =w.heap[g]? :=by
 have none_own:∀b,¬Own (fun _:Root=>([]:List Nat)) [] b:=fun b hb=>by
  rcases hb with⟨r,hr⟩ |hb
  ·simp at hr
  ·simp at hb
 have getN:∀r,({ct:=[],H:=[]}:Wk).get r=none:=fun r=>by cases r <;>rfl
 refine⟨⟨fun r t ht=>(by rw[getN]at ht;cases ht),fun r _ _=>rfl,h.obj,fun n ob he=>(by simp at he),⟨fun r=>(by simp),(by simp),fun r r' b hb=>(by simp at hb),fun r b hb=>(by simp at hb)⟩,fun b hb=>absurd hb (none_own b),(by simp),⟨rfl,rfl,rfl,Nat.le_refl _,fun _ _ _=>rfl,.refl _⟩,fun t b hF=> ?_,⟨Nat.le_refl _,fun o ho=>by simp[cA]at ho⟩⟩,fun t g hp=>⟨⟨none_own g,fun hF=> ?_,?_⟩,rfl⟩⟩
 ·have hsz:=h.fr.size
  rcases hF with hF |⟨_,⟨r',_,hr2⟩ |hr2⟩
  ·exact yA (h.Fold t b hF) hsz
  ·exact(h.blk b (.inl ⟨r',hr2⟩)).1
  ·exact(h.blk b (.inr hr2)).1
 ·rcases hp with⟨q1,q2,q3⟩ |⟨q1,q2,q3,q4,q5⟩
  ·rcases hF with hF |⟨_,⟨r,_,hr⟩ |hr⟩
   ·exact q2 hF
   ·exact q1 (.inl ⟨r,hr⟩)
   ·exact q1 (.inr hr)
  ·subst q1;subst q2
   rcases hF with hF |⟨hF |hF,_⟩
   ·exact q3 hF
   ·cases hF
   ·cases hF
 ·rcases hp with⟨q1,q2,q3⟩ |⟨q1,q2,q3,q4,q5⟩
  ·exact q3
  ·exact q4
theorem D3(h:KR A ρ S hd fl k vals w){sn:Bool}{H2:List Ob}{ρ':Nat→Nat}{S2:Root→List Nat}{hd2:Root→Value}{M:List Nat}{w':World}
  (g:KR (cA A sn (fun _=>true) S fl w 0 ρ) ρ' S2 hd2 M {ct:=[],H:=H2} [] w') (h0:H2.length=0):
  KR A ρ S hd (M++fl) k vals w'∧∀rs vs,(sn=true→T.imms rs=true)→RetAll (aa (cA A sn (fun _=>true) S fl w 0 ρ) H2.length ρ' S2 M w') rs vs M→RetAll (aa A k.H.length ρ S (M++fl) w') rs vs M:=by
 have hsz:w.heap.size≤w'.heap.size:=g.fr.size;have hH2:H2=[]:=List.length_eq_zero_iff.1 h0;subst hH2
 have new:∀b,b∈M→w.heap.size≤b:=fun b hb=>by
  rcases Nat.lt_or_ge b w.heap.size with q |q
  ·obtain⟨r,hr,_⟩:=(g.blk b (.inr hb)).2.2 q;cases hr
  ·exact q
 have same:∀b,b<w.heap.size→w'.heap[b]? =w.heap[b]? :=fun b hlt=>g.fr.kept b hlt (fun⟨r,hr,_⟩=>by cases hr)
 have own:∀b,Own S (M++fl) b→Own S fl b∨b∈M:=fun b hb=>by
  rcases hb with hb |hb
  ·exact .inl (.inl hb)
  ·rcases List.mem_append.1 hb with hb |hb
   ·exact .inr hb
   ·exact .inl (.inr hb)
 have ws:WS S fl w S (M++fl) w':=by
  refine⟨g.fr.os,g.fr.tape,g.fr.output,hsz,fun b hb _=>same b hb,fun b hb=> ?_,g.fr.recs⟩
  rcases own b hb with q |q
  ·exact .inl q
  ·exact .inr ⟨new b q,(g.blk b (.inr q)).1⟩
 have ext:Ext (aa A k.H.length ρ S fl w) (aa A k.H.length ρ S (M++fl) w'):=ws.ext (Nat.le_refl _) (fun _ _=>rfl)
 have kept:∀r,∀b∈S r,w'.heap[b]? =w.heap[b]? :=fun r b hb=>same b (h.blk b (.inl ⟨r,hb⟩)).1
 refine⟨⟨fun r t ht=>TC.ext ext _ _ _ (kept r) (h.cont r t ht),h.gone,h.obj,fun n ob he hpl=> ?_,⟨h.dis.nd,?_,h.dis.one,fun r b hb hb'=> ?_⟩,ws.blk h,fun p hp=> ?_,ws.frm h,h.Fold,h.rho⟩,fun rs vs hi hr=> ?_⟩
 ·exact(h.map n ob he hpl).ext ext (kept (.o n)) rfl rfl
 ·rw[xT]
  exact⟨g.dis.ndF,h.dis.ndF,fun a ha b hb hab=>by have:=new a ha;have:=(h.blk b (.inr hb)).1;omega⟩
 ·rcases List.mem_append.1 hb' with q |q
  ·have:=new b q;have:=(h.blk b (.inl ⟨r,hb⟩)).1;omega
  ·exact h.dis.oneF r b hb q
 ·exact SO.keep ext (fun r q=>h.hold _ rfl rfl (kept r) q) (h.vals p hp)
 ·have ext2:∀t b,(sn=true→t=false)→(aa (cA A sn (fun _=>true) S fl w 0 ρ) 0 ρ' S2 M w').pm t b→(aa A k.H.length ρ S (M++fl) w').pm t b:=fun t b ht hp=>by
   refine⟨fun ho=> ?_,fun hF=>hp.2.1 (.inl hF),hp.2.2⟩
   have htt:t=false∨sn=false:=by cases sn with |true=>exact .inl (ht rfl) |false=>exact .inr rfl
   rcases own b ho with(⟨r,hr⟩ |hr) |hr
   ·exact hp.2.1 (.inr ⟨htt,.inl ⟨r,rfl,hr⟩⟩)
   ·exact hp.2.1 (.inr ⟨htt,.inr hr⟩)
   ·exact hp.1 (.inr hr)
  cases hs:sn with
  |false=>
   subst hs;exact RetAll.ext (c:=aa (cA A false (fun _=>true) S fl w 0 ρ) 0 ρ' S2 M w') ⟨fun t b hp=>⟨ext2 t b (fun h=>by cases h) hp,rfl⟩,Nat.zero_le _,fun o ho=>absurd ho (Nat.not_lt_zero _)⟩ _ _ _ (fun _ _=>rfl) hr
  |true=>
   subst hs;exact RetAll.ext (c:=(aa (cA A true (fun _=>true) S fl w 0 ρ) 0 ρ' S2 M w').no) ⟨fun t b hp=>⟨ext2 t b (fun _=>hp.1) hp.2,rfl⟩,Nat.zero_le _,fun o ho=>absurd ho (Nat.not_lt_zero _)⟩ _ _ _ (fun _ _=>rfl) (RetAll.no rs vs M (hi rfl) hr)
end
theorem kF:∀(lk:List Nat) (H:List Ob),(bB lk H).length=H.length
 | [],H=>rfl
 |n::lk,H=>by
  show(bB lk (H.set n .lock)).length=_
  rw[kF lk];simp
theorem kG:∀(lk:List Nat) (H:List Ob) (n:Nat),n∉lk→(bB lk H)[n]? =H[n]?
 | [],H,n,_=>rfl
 |m::lk,H,n,h=>by
  show(bB lk (H.set m .lock))[n]? =_
  simp only[xY,not_or]at h
  rw[kG lk _ n h.2,List.getElem?_set_ne (Ne.symm h.1)]
theorem oE:∀(lk:List Nat) (H:List Ob) (n:Nat),H[n]? =some .lock→(bB lk H)[n]? =some .lock
 | [],H,n,h=>h
 |m::lk,H,n,h=>by
  show(bB lk (H.set m .lock))[n]? =_
  refine oE lk _ n ?_
  by_cases hm:m=n
  ·subst hm;rw[yK (List.getElem?_eq_some_iff.1 h).1]
  ·rw[List.getElem?_set_ne hm];exact h
theorem tM:∀(lk:List Nat) (H:List Ob) (n:Nat) (ob:Ob),n∈lk→(bB lk H)[n]? =some ob→ob=.lock
 |m::lk,H,n,ob,h,he=>by
  have hlt:n<H.length:=by
   have:=(List.getElem?_eq_some_iff.1 he).1
   rwa [kF]at this
  by_cases hm:m=n
  ·subst hm
   have h2:(bB lk (H.set m .lock))[m]? =some .lock:=oE lk _ m (yK hlt);have he':(bB lk (H.set m .lock))[m]? =some ob:=he;rw[h2]at he'
   simpa using he'.symm
  ·have:n∈lk:=by
    rcases List.mem_cons.1 h with h |h
    ·exact absurd h.symm hm
    ·exact h
   exact tM lk (H.set m .lock) n ob this he
theorem wN(H0:List Ob):∀(lk:List Nat) (H:List Ob),(dZ H0 lk H).length=H.length
 | [],H=>rfl
 |n::lk,H=>by
  show(dZ H0 lk (match H0[n]? with |some x=>H.set n x |none=>H)).length=_
  rw[wN H0 lk]
  split <;>simp
theorem pU(H0:List Ob):∀(lk:List Nat) (H:List Ob) (n:Nat),¬(n<H0.length∧n∈lk)→(dZ H0 lk H)[n]? =H[n]?
 | [],H,n,_=>rfl
 |m::lk,H,n,h=>by
  show(dZ H0 lk (match H0[m]? with |some x=>H.set m x |none=>H))[n]? =_
  rw[pU H0 lk _ n (fun⟨q1,q2⟩=>h ⟨q1,by simp[q2]⟩)]
  split
  ·rename_i x hx
   have hm:m<H0.length:=(List.getElem?_eq_some_iff.1 hx).1
   by_cases hmn:m=n
   ·subst hmn;exact absurd ⟨hm,by simp⟩ h
   ·rw[List.getElem?_set_ne hmn]
  ·rfl
theorem tN(H0:List Ob):∀(lk:List Nat) (H:List Ob) (n:Nat),n<H0.length→H[n]? =H0[n]? →(dZ H0 lk H)[n]? =H0[n]?
 | [],H,n,_,h=>h
 |m::lk,H,n,hn,h=>by
  show(dZ H0 lk (match H0[m]? with |some x=>H.set m x |none=>H))[n]? =_
  refine tN H0 lk _ n hn ?_;split
  ·rename_i x hx
   by_cases hmn:m=n
   ·subst hmn
    have:m<H.length:=by
     rw[hx]at h
     exact(List.getElem?_eq_some_iff.1 h).1
    rw[yK this,hx]
   ·rw[List.getElem?_set_ne hmn];exact h
  ·exact h
theorem zJ(H0:List Ob):∀(lk:List Nat) (H:List Ob) (n:Nat),n<H0.length→n<H.length→n∈lk→(dZ H0 lk H)[n]? =H0[n]?
 |m::lk,H,n,hn,hl,h=>by
  show(dZ H0 lk (match H0[m]? with |some x=>H.set m x |none=>H))[n]? =_
  by_cases hmn:m=n
  ·subst hmn
   refine tN H0 lk _ m hn ?_;rw[xG hn]
   simp only
   rw[yK hl]
  ·refine zJ H0 lk _ n hn ?_ (by
    rcases List.mem_cons.1 h with h |h
    ·exact absurd h.symm hmn
    ·exact h)
   split <;>simpa using hl
theorem tO:∀(H H2:List Ob) (n:Nat) (c:T),aS H H2=true→H[n]? =some (.box c)→∃c',H2[n]? =some (.box c')∧c'.nc=c.nc
 | [],_,n,c,_,h=>by simp at h
 |a::r,H2,n,c,hs,h=>by
  cases H2 with
  |nil=>cases a <;>simp[aS]at hs
  |cons b r'=>
   cases n with
   |zero=>
    simp only[yE,xJ]at h
    subst h
    cases b with
    |box c'=>simp only[aS,xA,beq_iff_eq]at hs;exact⟨c',rfl,hs.1.symm⟩
    |_=>simp[aS]at hs
   |succ n=>
    have hs':aS r r'=true:=by cases a <;>cases b <;>simp[aS]at hs <;>first |exact hs |exact hs.2
    obtain⟨c',h1,h2⟩:=tO r r' n c hs' (by simpa using h)
    exact⟨c',by simpa using h1,h2⟩
theorem wO:∀(H:List Ob) (n:Nat) (ob:Ob),bE H=true→H[n]? =some ob→zI ob=true
 | [],n,ob,_,h=>by simp at h
 |a::r,n,ob,hi,h=>by
  cases n with
  |zero=>
   simp only[yE,xJ]at h
   subst h
   cases a with
   |box c=>simp only[bE,xA]at hi;exact hi.1
   |map es=>simp only[bE,xA]at hi;exact hi.1
   |iter s p=>rfl
   |miter m=>rfl
   |frame g ps x y env ct=>simp only[bE,xA]at hi;exact by simpa [zI]using hi.1
   |lock=>rfl
   |row es=>simp only[bE,xA]at hi;exact hi.1
   |sset ks=>rfl
  |succ n=>
   have:bE r=true:=by
    cases a with
    |box c=>simp only[bE,xA]at hi;exact hi.2
    |map es=>simp only[bE,xA]at hi;exact hi.2
    |iter s p=>exact hi
    |miter m=>exact hi
    |frame g ps x y env ct=>simp only[bE,xA]at hi;exact hi.2
    |lock=>exact hi
    |row es=>simp only[bE,xA]at hi;exact hi.2
    |sset ks=>exact hi
   exact wO r n ob this (by simpa using h)
section
variable{P:Program}{A:Av}{ρ:Nat→Nat}{S:Root→List Nat}{hd:Root→Value}{fl:List Nat}{k k':Wk}{vals:List (SV×Value)}{w:World}
theorem GC(h:KR A ρ S hd fl k vals w){o:Nat}{c:T}(hH:k.H[o]? =some (.box c)):
  ∃cs1 S1,S (.o o)=ρ o::S1∧(∀(j:Nat) (u:Value),cs1[j]? =some u→w.cell? ((⟨ρ o,0,none⟩:Addr).add j)=some u)∧TC (aa A k.H.length ρ S fl w) c cs1 S1:=by
 have hc:k.get (.o o)=some (.own [c]):=by simp only[Wk.get,Go.Am.cont,hH]
 rcases h.cont _ _ hc with⟨a,_,k2,_⟩ |⟨g,cap,cur,e,sz,S',k1,k2,k3,k4,k5,k6,k7,k8⟩
 ·cases k2
 ·rw[h.obj]at k1
  simp only[xC,and_true,Value.slice.injEq,xJ,Addr.mk.injEq]at k1
  obtain⟨rfl,_⟩:=k1;simp only[TE]at k8
  obtain⟨c1,c2,S1,S2,q1,q2,q3,q4,rfl,rfl⟩:=k8;simp only[List.append_nil]at q1 q2
  subst q2
  refine⟨c1,S',k2,fun j u hj=> ?_,q4⟩
  rw[←q1,xU]at hj
  split at hj
  ·rw[aL]
   simp only[World.cell?,Nat.zero_add]
   have:(aa A k.H.length ρ S fl w).w.heap[ρ o]? =w.heap[ρ o]? :=rfl
   rw[←this,k3]
   simpa using hj
  ·cases hj
theorem IX{H:List Ob}:∀(n:Nat) (x y:D) (v:Value),roD H n x=some y→oq x v→oq y v
 |0,_,_,_,e,_=>by cases e
 |n+1,x,y,v,e,hf=>by
  cases x with
  |ptr o=>
   simp only[roD]at e
   split at e
   ·simp only[xB,xM]at e
    obtain⟨_,_,_,_,rfl⟩:=e;exact hf
   ·cases e
  |agg l=>
   simp only[roD,xM]at e
   obtain⟨_,_,rfl⟩:=e;exact hf
  |_=>simp only[roD,xJ]at e;subst e;exact hf
theorem IY{c:Cx}{x:D}{cs:List Value}(h:VC c x cs):VCs c x.cells cs:=by
 cases x with
 |agg l=>exact h
 |_=>
  have hl:=VC.len _ _ h
  match cs,hl with
  | [u],_=>exact⟨u,[],rfl,h,rfl⟩
theorem IZ(h:KR A ρ S hd fl k vals w){lk:List Nat}(hlk:∀n,n<k.H.length→n∈lk):∀(n:Nat) (x y:D) (cs:List Value),roD k.H n x=some y→VC (cxS true lk A k.H.length ρ S fl w) x cs→VC (cxS true lk A k.H.length ρ S fl w) y cs
 |0,_,_,_,e,_=>by cases e
 |n+1,x,y,cs,e,hv=>by
  have rows:∀(l ys:List D) (cs:List Value),uE (roD k.H n) l=some ys→VCs (cxS true lk A k.H.length ρ S fl w) l cs→VCs (cxS true lk A k.H.length ρ S fl w) ys cs:=by
   intro l
   induction l with
   |nil=>intro ys cs e hv;simp only[uE,xJ]at e;subst e;exact hv
   |cons a l ih=>
    intro ys cs e hv;simp only[uE,xB,xM]at e
    obtain⟨b,e1,r,e2,rfl⟩:=e;simp only[VCs]at hv ⊢
    obtain⟨v,q,rfl,h2,h3⟩:=hv
    exact⟨v,q,rfl,IZ h hlk n a b [v] e1 h2,ih r q e2 h3⟩
  cases x with
  |ptr o=>
   simp only[roD]at e
   split at e
   ·rename_i c hH
    simp only[xB,xM]at e
    obtain⟨d,e1,r,e2,rfl⟩:=e;simp only[VC]at hv
    obtain⟨ho,rfl⟩:=hv;obtain⟨cs1,S1,hS,hcell,ht⟩:=GC h hH
    have lent:∀g∈S (.o o),(cxS true lk A k.H.length ρ S fl w).pm true g:=fun g hg=>by
     have hb:=h.blk g (.inl ⟨.o o,hg⟩);refine .inr ⟨rfl,rfl,hb.2.1 _,hb.1,fun n hn=> ?_⟩
     have:=h.dis.one _ _ g hg hn
     simp only[Root.o.injEq]at this
     subst this;exact hlk _ ho
    have hd1:=T.frz_ok (c':=cxS true lk A k.H.length ρ S fl w) (kE _ _ _) true c d cs1 S1 e1 (fun g hg=>⟨lent g (by rw[hS];simp[hg]),rfl⟩) ht
    simp only[VC]
    exact⟨⟨ρ o,0,none⟩,cs1,rfl,rfl,lent _ (by rw[hS];simp),hcell,rows _ _ _ e2 (IY hd1)⟩
   ·cases e
  |agg l=>
   simp only[roD,xM]at e
   obtain⟨r,e1,rfl⟩:=e;simp only[VC]at hv ⊢
   exact rows _ _ _ e1 hv
  |_=>simp only[roD,xJ]at e;subst e;exact hv
theorem I0(h:KR A ρ S hd fl k vals w){lk:List Nat}(hlk:∀n,n<k.H.length→n∈lk){n:Nat}:∀(l ys:List D) (vs:List Value),uE (roD k.H n) l=some ys→VVs (cxS true lk A k.H.length ρ S fl w) l vs→VVs (cxS true lk A k.H.length ρ S fl w) ys vs
 | [],ys,vs,e,hv=>by simp only[uE,xJ]at e;subst e;exact hv
 |a::l,ys,vs,e,hv=>by
  simp only[uE,xB,xM]at e
  obtain⟨b,e1,r,e2,rfl⟩:=e;simp only[VVs]at hv ⊢
  obtain⟨v,q,rfl,h2,h3,h4⟩:=hv
  exact⟨v,q,rfl,IZ h hlk n a b _ e1 h2,IX n a b v e1 h3,I0 h hlk l r q e2 h4⟩
theorem GA.call{G:Nat→Option D}(hG:GA G A)(h:KR A ρ S hd fl k vals w)(sn:Bool)(R:Root→Bool)(n:Nat):GA G (cA A sn R S fl w n ρ):=fun g d e=>by
 obtain⟨q1,q2,q3⟩:=hG.now h e;obtain⟨_,_,h3,vs,h4,h5⟩:=hG g d e
 refine⟨q2,fun⟨r,_,hr⟩=>q1 (.inl ⟨r,hr⟩),fun t ht=> ?_,vs,h4.same q3,h5⟩
 ·rcases ht with ht |⟨_,⟨r,_,hr⟩ |hr⟩
  ·exact h3 t ht
  ·exact q1 (.inl ⟨r,hr⟩)
  ·exact q1 (.inr hr)
theorem n9{C:CallT}(hC:C.mono){G:Nat→Option D}(hG:GA G A){call:ak}(hc:uQ C G call){hint:Hint}{dst:Nat}{f:FuncId}{ds:List D}{b:Lend}{args:Array Value}{sv:SV}(h:KR A ρ S hd fl k vals w)(hargs:VVs (cxS b.sn b.lk A k.H.length ρ S fl w) ds args.toList)(e:aU call hint dst f ds b k=some (sv,k')):
  C ρ f args w fun e w'=>∃v,Ends sv.isPan e v∧∃ρ' S' hd',KR A ρ' S' hd' fl k' vals w'∧SO (aa A k'.H.length ρ' S' fl w') k'.get hd' sv v:=by
 unfold aU at e
 split at e
 ·rename_i hlow
  simp only[xA]at hlow
  simp only[xB]at e
  obtain⟨⟨rs,H2⟩,e1,e⟩:=e;simp only at e
  split at e
  ·rename_i hh
   obtain⟨hl2,hsn⟩:=hh;have c2:=hc f ds _ rs H2 e1;obtain⟨q1,q2⟩:=D2 h b.sn b.lk;refine hC _ _ _ _ _ _ (c2 (cA A b.sn (fun _=>true) S fl w 0 ρ) _ hd args rfl (hG.call h _ _ _) q1 (VVs.low0 (c':=aa (cA A b.sn (fun _=>true) S fl w 0 ρ) 0 ρ (fun _=>[]) [] w) q2 _ _ hlow.2 hargs)) fun en w' ho=> ?_
   obtain⟨v,hen,ρ',S2,hd2,M,vs,g1,g2,rfl⟩:=ho;obtain⟨kr,ret⟩:=D3 h (sn:=b.sn) g1 hl2;obtain⟨S',hd',r1,r2,_⟩:=Fy kr (ret rs vs hsn g2) e
   exact⟨_,by rw[Cs e];exact hen,_,S',hd',r1,r2⟩
  ·cases e
 split at e
 ·cases e
 ·simp only[xB]at e
  obtain⟨⟨rs,H2⟩,e1,e⟩:=e;simp only at e
  split at e
  ·rename_i hh
   obtain⟨hsn,hsame⟩:=hh;have c2:=hc f ds _ rs H2 e1;have hlen:=kF b.lk k.H
   let R:Root→Bool:=fun r=>match r with | .l _ _=>true | .o n=>b.lk.contains n
   have hRo:∀n,R (.o n)=b.lk.contains n:=fun n=>rfl
   obtain⟨q1,q2⟩:=Gz h b.sn b.lk R (bB b.lk k.H) (fun _ _=>rfl) (fun n hn=>by rw[hRo];simpa using hn) hlen (fun n hn ob=>tM b.lk _ n ob (by rw[hRo]at hn;simpa using hn)) (fun n hn=>kG b.lk _ n (by rw[hRo]at hn;simpa using hn))
   refine hC _ _ _ _ _ _ (c2 (cA A b.sn R S fl w (bB b.lk k.H).length ρ) _ hd args rfl (hG.call h _ _ _) q1 (VVs.ext q2 _ _ hargs)) fun en w' ho=> ?_
   obtain⟨v,hen,ρ',S2,hd2,M,vs,g1,g2,rfl⟩:=ho;rw[hlen]at g1 g2
   have hn0:k.H.length≤H2.length:=g1.rho.1
   have L:=GB h (sn:=b.sn) (R:=R) (fun _ _=>rfl) g1 (dZ k.H b.lk H2) (k.tr++[.killO]) (wN _ _ _) (fun n hn hr=>zJ _ _ _ n hn (by omega) (by rw[hRo]at hr;simpa using hr)) (fun n hn=>pU _ _ _ n (fun⟨p1,p2⟩=>hn ⟨p1,by rw[hRo];simpa using p2⟩))
    (fun hs n ob _ ho=>wO H2 n ob (hsn hs).2 ho)
   have kr:=L.kr vals (fun p hp=>by
    rw[kA];refine SO.killO L.ext (fun r q hq=> ?_) (h.vals p hp)
    cases hk:dX R k.H.length r with
    |true=>exact L.hold r q hk
    |false=>
     cases r with
     |l n j=>cases hk
     |o n=>
      have hq0:=hq n rfl;subst hq0;intro t es h1 h2;have h1':=h1;simp only[Wk.get,Go.Am.cont]at h1'
      split at h1'
      ·rename_i c hcb
       simp only[xJ]at h1'
       subst h1';simp only[T.at,xJ,T.own.injEq]at h2
       subst h2;have hlt:n<k.H.length:=(List.getElem?_eq_some_iff.1 hcb).1;have hnk:n∉b.lk:=fun hc'=>by simp[dX,hRo,hlt,hc']at hk
       obtain⟨c',d1,d2⟩:=tO _ H2 n c hsame (by rw[kG _ _ _ hnk];exact hcb)
       refine⟨.own [c'],[c'],?_,rfl,⟨rfl,fun i e he=> ?_⟩,fun h' hn=> ?_⟩
       ·simp only[Wk.get,Go.Am.cont,pU k.H b.lk H2 n (fun hx=>hnk hx.2),d1]
       ·cases i with
        |zero=>simp at he;subst he;exact⟨c',rfl,d2⟩
        |succ i=>simp at he
       ·simp only[NodeH]at hn ⊢
        rw[hn];have e2:hd3 R k.H.length hd hd2 (.o n)=hd2 (.o n):=by simp[hd3,hk]
        rw[e2,h.obj,g1.obj,L.rho n hlt]
      ·cases h1')
   obtain⟨S',hd',r1,r2,_⟩:=Fy kr (L.ret rs vs (fun hs=>(hsn hs).1) g2) e
   exact⟨_,by rw[Cs e];exact hen,ρ',S',hd',r1,r2⟩
  ·cases e
theorem GD{G:Nat→Option D}{call:ak}(hc:cH P G call){hint:Hint}{dst:Nat}{f:FuncId}{ds:List D}{b:Lend}{r:SV×Wk}(e:cF call hint dst f ds b k=some r):wM P f:=by
 have h0:∀(ds:List D) (b:Lend),aU call hint dst f ds b k=some r→wM P f:=fun ds b e=>by
  unfold aU at e
  split at e
  ·simp only[xB]at e
   obtain⟨x,e1,_⟩:=e;exact hc.1 _ _ _ _ e1
  ·split at e
   ·cases e
   ·simp only[xB]at e
    obtain⟨x,e1,_⟩:=e;exact hc.1 _ _ _ _ e1
 unfold cF at e
 split at e
 ·simp only[xB]at e
  obtain⟨ds',_,e⟩:=e;exact h0 _ _ e
 ·split at e
  ·exact h0 _ _ e
  ·exact h0 _ _ e
theorem Ct{C:CallT}(hC:C.mono){G:Nat→Option D}(hG:GA G A){call:ak}(hc:uQ C G call){hint:Hint}{dst:Nat}{f:FuncId}{ds:List D}{b:Lend}{args:Array Value}{sv:SV}(h:KR A ρ S hd fl k vals w)(hargs:VVs (cxS b.sn b.lk A k.H.length ρ S fl w) ds args.toList)(e:cF call hint dst f ds b k=some (sv,k')):
  C ρ f args w fun e w'=>∃v,Ends sv.isPan e v∧∃ρ' S' hd',KR A ρ' S' hd' fl k' vals w'∧SO (aa A k'.H.length ρ' S' fl w') k'.get hd' sv v:=by
 unfold cF at e
 split at e
 ·simp only[xB]at e
  obtain⟨ds',e1,e⟩:=e;have hx:Ext (cxS b.sn b.lk A k.H.length ρ S fl w) (cxS true (List.range k.H.length++b.lk) A k.H.length ρ S fl w):=wI (b:=b) (b':={sn:=true,lk:=List.range k.H.length++b.lk}) (fun _=>rfl) (fun n hn=>xR _ hn) (fun _ _ hh=>hh)
  have h1:=I0 h (lk:=List.range k.H.length++b.lk) (fun n hn=>xL _ (List.mem_range.2 hn)) ds ds' _ e1 (VVs.ext hx _ _ hargs)
  exact n9 hC hG hc h (b:={sn:=true,lk:=List.range k.H.length++b.lk}) (VVs.lend (AJ _ _ _) _ _ h1) e
 ·split at e
  ·have hx:Ext (cxS b.sn b.lk A k.H.length ρ S fl w) (cxS b.sn (b.lk++pI k.H) A k.H.length ρ S fl w):=wI (b:=b) (b':={sn:=b.sn,lk:=b.lk++pI k.H}) (fun hh=>hh) (fun n hn=>xL _ hn) (fun _ _ hh=>hh)
   exact n9 hC hG hc h (b:={sn:=b.sn,lk:=b.lk++pI k.H}) (VVs.ext hx _ _ hargs) e
  ·exact n9 hC hG hc h hargs e
end
mutual
theorem TC.low0{c c':Cx}(h:∀b g,c.pm b g→c'.pm b g∧c'.w.heap[g]? =c.w.heap[g]?):∀(t:T) (cs:List Value) (S:List Nat),Kept c c' S→t.low 0=true→TC c t cs S→TC c' t cs S
 | .d x,cs,S,_,hl,hv=>by
  simp only[TC]at hv ⊢
  simp only[T.low]at hl
  exact⟨hv.1,VC.low0 h x cs hl hv.2⟩
 | .dead,cs,S,_,_,hv=>by simpa only[TC]using hv
 | .agg ts,cs,S,hk,hl,hv=>by
  simp only[TC]at hv ⊢
  simp only[T.low]at hl
  exact TCs.low0 h ts cs S hk hl hv
 | .own es,cs,S,hk,hl,hv=>by
  simp only[TC]at hv ⊢
  simp only[T.low]at hl
  rcases hv with hv |⟨g,cap,cur,e,sz,S',h1,h2,h3,h4,h5,h6,h7,h8⟩
  ·exact .inl hv
  ·subst h2
   exact .inr ⟨g,cap,cur,e,sz,S',h1,rfl,by rw[hk g (by simp)];exact h3,h4,h5,h6,h7,TE.low0 h es sz _ S' (fun x hx=>hk x (by simp[hx])) hl h8⟩
theorem TCs.low0{c c':Cx}(h:∀b g,c.pm b g→c'.pm b g∧c'.w.heap[g]? =c.w.heap[g]?):∀(ts:List T) (cs:List Value) (S:List Nat),Kept c c' S→T.lows 0 ts=true→TCs c ts cs S→TCs c' ts cs S
 | [],_,_,_,_,hv=>by simpa only[TCs]using hv
 |t::ts,cs,S,hk,hl,hv=>by
  simp only[TCs]at hv ⊢
  simp only[T.lows,xA]at hl
  obtain⟨v,r,S1,S2,h1,h2,h3,h4⟩:=hv;subst h2
  exact⟨v,r,S1,S2,h1,rfl,TC.low0 h t _ _ hk.left hl.1 h3,TCs.low0 h ts _ _ hk.right hl.2 h4⟩
theorem TE.low0{c c':Cx}(h:∀b g,c.pm b g→c'.pm b g∧c'.w.heap[g]? =c.w.heap[g]?):∀(ts:List T) (sz:Nat) (cs:List Value) (S:List Nat),Kept c c' S→T.lows 0 ts=true→TE c ts sz cs S→TE c' ts sz cs S
 | [],_,_,_,_,_,hv=>by simpa only[TE]using hv
 |t::ts,sz,cs,S,hk,hl,hv=>by
  simp only[TE]at hv ⊢
  simp only[T.lows,xA]at hl
  obtain⟨c1,c2,S1,S2,h1,h2,h3,h4,h5⟩:=hv;subst h2
  exact⟨c1,c2,S1,S2,h1,rfl,h3,TC.low0 h t _ _ hk.left hl.1 h4,TE.low0 h ts sz _ _ hk.right hl.2 h5⟩
end
def Wq(A:Av)(S:Root→List Nat)(fl X:List Nat)(w:World)(ρ:Nat→Nat):Av:=
 {w0:=w,F:=fun t b=>A.F t b∨(Own S fl b∧b∉X),O0:=fun b=>b∈X,n0:=0,ρ0:=ρ,mono:=fun b h=>h.imp (A.mono b) id}
def ahh(X:List Nat):Root→List Nat:=fun r=>if r=.l 0 0 then X else []
def agd(hd:Root→Value)(v:Value):Root→Value:=fun r=>if r=.l 0 0 then v else hd r
section
variable{P:Program}{A:Av}{ρ:Nat→Nat}{S:Root→List Nat}{hd:Root→Value}{fl X:List Nat}{k k':Wk}{vals:List (SV×Value)}{w:World}
theorem GA.row{G:Nat→Option D}(hG:GA G A)(h:KR A ρ S hd (X++fl) k vals w):GA G (Wq A S (X++fl) X w ρ):=fun g d e=>by
 obtain⟨q1,q2,q3⟩:=hG.now h e;obtain⟨_,_,h3,vs,h4,h5⟩:=hG g d e
 refine⟨q2,fun hx=>q1 (.inr (by simp[show g∈X from hx])),fun t ht=> ?_,vs,h4.same q3,h5⟩
 rcases ht with ht |ht
 ·exact h3 t ht
 ·exact q1 ht.1
theorem RV{G:Nat→Option D}(hG:GA G A){call:ak}(hc:Qk P G call){hint:Hint}{dst:Nat}{g:FuncId}(hy:¬YB≤g){xs:List SV}{args:List Value}{sv:SV}(h:KR A ρ S hd fl k vals w)(hall:All2 (fun u v=>(u,v)∈vals) xs args)(e:mvE P call hint dst g xs k=some (sv,k')):
  Calls P g args.toArray w fun e w'=>∃v,Ends sv.isPan e v∧∃ρ' S' hd',KR A ρ' S' hd' fl k' vals w'∧SO (aa A k'.H.length ρ' S' fl w') k'.get hd' sv v:=by simp[mvE]at e
end
theorem sE{P:Program}{g:FuncId}{fn:Func}{e:Array Value→Sem Value}{x:Value}{args:Array Value}{w:World}(hf:P.funcs[g]? =some fn)(hname:fn.name≠ "runtime.NumGoroutine")(hb:fn.body.isNone=true)(hn:Extern.findNext fn=none)(he:Extern.find fn=some e)(hr:(e args).run P w=.ok x w):(callFunc g args).run P w=.ok (.value x) w:=by
 rw[run_callFunc_extern hf (by simpa using hname) hb hn he,hr]
 rfl
theorem wP{fn:Func}(h:fn.name= "internal/bytealg.IndexByteString")(ho:fn.origin= ""):Extern.findNext fn=none∧Extern.find fn=some Extern.BytealgIndexByte.indexByte:=by
 constructor
 ·unfold Extern.findNext;simp only[h,ho];kernel_rfl
 ·unfold Extern.find;simp only[h];kernel_rfl
theorem D4{fn:Func}(h:fn.name= "internal/bytealg.CountString")(ho:fn.origin= ""):Extern.findNext fn=none∧Extern.find fn=some Extern.BytealgCount.count:=by
 constructor
 ·unfold Extern.findNext;simp only[h,ho];kernel_rfl
 ·unfold Extern.find;simp only[h];kernel_rfl
theorem yZ{fn:Func}(h:fn.name= "internal/abi.NoEscape")(ho:fn.origin= ""):Extern.findNext fn=none∧Extern.find fn=some Extern.AbiNoEscape.same:=by
 constructor
 ·unfold Extern.findNext;simp only[h,ho];kernel_rfl
 ·unfold Extern.find;simp only[h];kernel_rfl
theorem MP{P:Program}{g:FuncId}{nm:String}{c:Cx}{ds:List D}{vs:List Value}{d:D}{w:World}(hf:ii P g=some nm)(hv:VVs c ds vs)(e:AB nm ds=some d):∃v,(callFunc g vs.toArray).run P w=.ok (.value v) w∧VV c d v:=by
 unfold ii at hf
 split at hf
 ·rename_i fn hfn
  split at hf
  ·rename_i hb
   obtain⟨hb,ho⟩:=hb;simp only[xJ]at hf
   unfold AB at e
   split at e
   ·rename_i s ch
    simp only[VVs]at hv
    obtain⟨v1,r1,rfl,h1,n1,v2,r2,rfl,h2,n2,rfl⟩:=hv;have h1':=VV.inv (c:=c) (d:=.str s) ⟨h1,n1⟩ (by simp)
    have h2':=VV.inv (c:=c) (d:=.int .u8 ch) ⟨h2,n2⟩ (by simp)
    simp only[VC,xC,and_true]at h1' h2'
    obtain⟨b,rfl,rfl⟩:=h1';subst h2'
    split at e
    ·rename_i hnm
     simp only[xJ]at e
     subst e;obtain⟨q1,q2⟩:=wP (hf.trans hnm) ho
     exact⟨_,sE hfn (by rw[hf,hnm];decide) hb q1 q2 (Lib.run_indexByteString b ch w),by simp[VC,Value.cells],rfl⟩
    ·split at e
     ·rename_i hnm
      simp only[xJ]at e
      subst e;obtain⟨q1,q2⟩:=D4 (hf.trans hnm) ho
      exact⟨_,sE hfn (by rw[hf,hnm];decide) hb q1 q2 (Lib.run_countString b ch w),by simp[VC,Value.cells],rfl⟩
     ·cases e
   ·rename_i o
    simp only[VVs]at hv
    obtain⟨v1,r1,rfl,h1,n1,rfl⟩:=hv
    split at e
    ·rename_i hnm
     simp only[xJ]at e
     subst e;obtain⟨q1,q2⟩:=yZ (hf.trans hnm) ho
     exact⟨_,sE hfn (by rw[hf,hnm];decide) hb q1 q2 rfl,⟨h1,n1⟩⟩
    ·cases e
   ·cases e
  ·cases hf
 ·cases hf
theorem VVs.append{c:Cx}:∀(l:List D) (vs:List Value) (l':List D) (vs':List Value),VVs c l vs→VVs c l' vs'→VVs c (l++l') (vs++vs')
 | [],_,_,_,hv,h'=>by simp only[VVs]at hv;subst hv;simpa using h'
 |d::ds,vs,l',vs',hv,h'=>by
  simp only[VVs]at hv
  obtain⟨v,r,rfl,h2,h3,h4⟩:=hv;simp only[List.cons_append,VVs]
  exact⟨v,_,rfl,h2,h3,VVs.append ds r l' vs' h4 h'⟩
section
variable{P:Program}{A:Av}{ρ:Nat→Nat}{S:Root→List Nat}{hd:Root→Value}{fl:List Nat}{k k':Wk}{vals:List (SV×Value)}{w:World}
theorem dC{f:FuncId}{fn:Func}{args:Array Value}(hf:P.funcs[f]? =some fn)(hb:fn.body.isSome=true)(hn:(fn.name== "runtime.NumGoroutine")=false):(callFunc f args).run P w=.ok (.enter f args) w:=by
 obtain⟨c,hb⟩:=Option.isSome_iff_exists.1 hb;simp only[callFunc,Sem.run_bind,run_program,Result.andThen_ok,hf,hn,xH,if_false,hb]
 simp
def FW(ro:Option Nat):Fence:={Fence.wide with round:=ro}
theorem fG{ro:Option Nat}{n:Nat}{f:FuncId}{args:Array Value}{w:World}{R:Ending→World→Prop}:CallsIn (FW ro) n P f args w R↔Calls P f args w R:=callsIn_wide (n:=n)
theorem D5{ro:Option Nat}{n l:Nat}{f:FuncId}{tmps:Array Value}{x y:Code}{w:World}{R:Ending→World→Prop}(h:RoundIn Fence.wide 0 P l f tmps x y w R):RoundIn (FW ro) n P l f tmps x y w R:=
 ⟨trivial,fun c cs _=>h.2 c cs (room_wide _)⟩
theorem tP:CallT.mono (CallsY P):=fun _ _ _ _ _ _ h hr=>h.mono hr
mutual
theorem VC.flat{c c':Cx}:∀(d:D) (cs:List Value),d.flat=true→VC c d cs→VC c' d cs
 | .int _ _,_,_,hv=>by simpa [VC]using hv
 | .bool _,_,_,hv=>by simpa [VC]using hv
 | .str _,_,_,hv=>by simpa [VC]using hv
 | .agg l,cs,hf,hv=>by simp only[VC]at hv ⊢;exact VCs.flat l cs (by simpa [D.flat]using hf) hv
 | .iface t x,cs,hf,hv=>by
  simp only[VC]at hv ⊢
  obtain⟨v,h1,h2,h3⟩:=hv
  exact⟨v,h1,VC.flat x _ (by simpa [D.flat]using hf) h2,h3⟩
 | .nils,_,hf,_=>by simp[D.flat]at hf
 | .sl _ _,_,hf,_=>by simp[D.flat]at hf
 | .nilp,_,hf,_=>by simp[D.flat]at hf
 | .ptr _,_,hf,_=>by simp[D.flat]at hf
 | .nilm,_,hf,_=>by simp[D.flat]at hf
 | .map _,_,hf,_=>by simp[D.flat]at hf
 | .nilf,_,hf,_=>by simp[D.flat]at hf
 | .fn _ _ _,_,hf,_=>by simp[D.flat]at hf
 | .nili,_,hf,_=>by simp[D.flat]at hf
 | .rptr _,_,hf,_=>by simp[D.flat]at hf
 | .yld _,_,hf,_=>by simp[D.flat]at hf
theorem VCs.flat{c c':Cx}:∀(l:List D) (cs:List Value),D.flats l=true→VCs c l cs→VCs c' l cs
 | [],_,_,hv=>by simpa [VCs]using hv
 |d::ds,cs,hf,hv=>by
  simp only[D.flats,xA]at hf
  simp only[VCs]at hv ⊢
  obtain⟨v,r,h1,h2,h3⟩:=hv
  exact⟨v,r,h1,VC.flat d _ hf.1 h2,VCs.flat ds _ hf.2 h3⟩
end
theorem VV.flat{c c':Cx}{d:D}{v:Value}(hf:d.flat=true)(h:VV c d v):VV c' d v:=⟨VC.flat _ _ hf h.1,h.2⟩
theorem Cu{G:Nat→Option D}(hG:GA G A){call:ak}(hc:cH P G call)(h:KR A ρ S hd fl k vals w)(htr:k.tr=[]){hint:Hint}{nv dst:Nat}{o:Oper}{f:Operand}{args:Array Operand}{ats:Array TypeId}{σ:Operand→SV}{a:Act}{g:FuncId}{first cap ds:List D}{b:Lend}{k1:Wk}{sv:SV}
  (hop:o.op=.call {callee:=.value f,args,argTypes:=ats}) (hv:∀x∈o.op.operands,(σ x,a.eval x)∈vals) (hf:σ f=.d (.fn (.func g) first cap)) (hy:¬YB≤g) (e1:dp nv (args.toList.map σ) k {}=some (ds,k1,b)) (e2:cF call hint dst g (canon b.sn (first++ds++cap)) b k1=some (sv,k')):
  ∃vs,(execOp a.eval o).run P w=.ok (.enter g vs) w∧Calls P g vs w fun e w'=>∃v,Ends sv.isPan e v∧∃ρ' S' hd',KR A ρ' S' hd' fl k' vals w'∧SO (aa A k'.H.length ρ' S' fl w') k'.get hd' sv v:=by
 have hfv:=h.vals _ (hv f (by rw[hop];simp[Op.operands,Call.operands]))
 rw[htr]at hfv
 simp only[trv,hf]at hfv
 have hfv':=VV.inv hfv (by simp)
 simp only[VC,xC,and_true]at hfv'
 obtain⟨av,bv,hev,ha,hb⟩:=hfv'
 have hall:All2 (fun u v=>(u,v)∈vals) (args.toList.map σ) (args.toList.map a.eval):=by
  have hso:∀x∈args.toList,(σ x,a.eval x)∈vals:=fun x hx=>hv x (by rw[hop];simp[Op.operands,Call.operands];exact .inr (by simpa using hx))
  revert hso
  generalize args.toList=ps
  induction ps with
  |nil=>intro _;rfl
  |cons p ps ih=>intro hso;exact⟨_,_,rfl,hso p (by simp),ih (fun q hq=>hso q (by simp[hq]))⟩
 obtain⟨S1,g1,g2⟩:=wJ _ _ ds k k1 S {} b h hall e1
 have hx:Ext (aa A k.H.length ρ S fl w) (cxS b.sn b.lk A k1.H.length ρ S1 fl w):=by
  have q:=g1.ext;have p:=kE (A:=A) (ρ:=ρ) (S:=S) (fl:=fl) (w:=w) ({}:Lend).sn ({}:Lend).lk k.H.length
  exact⟨fun t g hp=>⟨(q.pm t g (p.pm t g hp).1).1,rfl⟩,Nat.le_trans p.nO q.nO,fun _ _=>rfl⟩
 have hargs:VVs (cxS b.sn b.lk A k1.H.length ρ S1 fl w) (first++ds++cap) ((av++args.map a.eval)++bv).toList:=by
  simp only[Array.toList_append,Array.toList_map];exact VVs.append _ _ _ _ (VVs.append _ _ _ _ (VVs.ext hx _ _ ha) g2) (VVs.ext hx _ _ hb)
 have hcalls:=Ct (C:=CallsY P) tP hG hc.2.1 g1.kr (VVs.canon (AJ _ _ _) hargs) e2;have hent:=GD hc e2;obtain⟨fn,f1,f2,f3⟩:=hent.resolve_left hy;unfold CallsY at hcalls;rw[if_neg hy]at hcalls
 refine⟨_,?_,hcalls⟩
 obtain⟨odst,op,oty,pos,after,guard⟩:=o;simp only at hop;subst hop;simp only[execOp,resolve,hev,Deferred.ofValue,Sem.run_bind,Sem.run_pure,Result.andThen_ok,invoke];exact dC f1 f2 f3
theorem MQ{G:Nat→Option D}{call:ak}(hc:cH P G call){hint:Hint}{dst:Nat}{g:FuncId}{xs:List SV}{r:SV×Wk}(e:mvE P call hint dst g xs k=some r):wM P g:=by simp[mvE]at e
theorem GF{G:Nat→Option D}(hG:GA G A){call:ak}(hc:cH P G call)(h:KR A ρ S hd fl k vals w)(htr:k.tr=[]){hint:Hint}{dst:Nat}{o:Oper}{f:Operand}{args:Array Operand}{ats:Array TypeId}{σ:Operand→SV}{a:Act}{g:FuncId}{first cap:List D}{sv:SV}
  (hop:o.op=.call {callee:=.value f,args,argTypes:=ats}) (hv:∀x∈o.op.operands,(σ x,a.eval x)∈vals) (hf:σ f=.d (.fn (.func g) first cap)) (hy:¬YB≤g) (hfc:(first.isEmpty&&cap.isEmpty)=true) (e1:mvE P call hint dst g (args.toList.map σ) k=some (sv,k')):
  ∃vs,(execOp a.eval o).run P w=.ok (.enter g vs) w∧Calls P g vs w fun e w'=>∃v,Ends sv.isPan e v∧∃ρ' S' hd',KR A ρ' S' hd' fl k' vals w'∧SO (aa A k'.H.length ρ' S' fl w') k'.get hd' sv v:=by
 simp only[xA,List.isEmpty_iff]at hfc
 obtain⟨rfl,rfl⟩:=hfc;have hfv:=h.vals _ (hv f (by rw[hop];simp[Op.operands,Call.operands]))
 rw[htr]at hfv
 simp only[trv,hf]at hfv
 have hfv':=VV.inv hfv (by simp)
 simp only[VC,xC,and_true]at hfv'
 obtain⟨av,bv,hev,ha,hb⟩:=hfv';simp only[VVs]at ha hb
 have hall:All2 (fun u v=>(u,v)∈vals) (args.toList.map σ) (args.toList.map a.eval):=by
  have hso:∀x∈args.toList,(σ x,a.eval x)∈vals:=fun x hx=>hv x (by rw[hop];simp[Op.operands,Call.operands];exact .inr (by simpa using hx))
  revert hso
  generalize args.toList=ps
  induction ps with
  |nil=>intro _;rfl
  |cons p ps ih=>intro hso;exact⟨_,_,rfl,hso p (by simp),ih (fun q hq=>hso q (by simp[hq]))⟩
 have hcalls:=RV hG hc.2.2 hy h hall e1;obtain⟨fn,f1,f2,f3⟩:=(MQ hc e1).resolve_left hy
 refine⟨(args.toList.map a.eval).toArray,?_,hcalls⟩
 have e2:(av++args.map a.eval)++bv=(args.toList.map a.eval).toArray:=by
  apply Array.ext';simp[ha,hb]
 obtain⟨odst,op,oty,pos,after,guard⟩:=o;simp only at hop;subst hop;simp only[execOp,resolve,hev,Deferred.ofValue,Sem.run_bind,Sem.run_pure,Result.andThen_ok,invoke];rw[←e2];exact dC f1 f2 f3
theorem j6{o:Oper}{f:Operand}{args:Array Operand}{ats:Array TypeId}(hop:o.op=.call {callee:=.value f,args,argTypes:=ats}):∀c,o.op≠ .defer c:=fun c h=>by rw[hop]at h;cases h
theorem zK(h:KR A ρ S hd fl k vals w)(htr:k.tr=[]){o:Oper}{f:Operand}{args:Array Operand}{ats:Array TypeId}{σ:Operand→SV}{a:Act}{g:FuncId}{first cap ds:List D}{nm:String}{y:D}
  (hop:o.op=.call {callee:=.value f,args,argTypes:=ats}) (hv:∀x∈o.op.operands,(σ x,a.eval x)∈vals) (hf:σ f=.d (.fn (.func g) first cap)) (hnm:ii P g=some nm) (e1:SV.pures (args.toList.map σ)=some ds) (e2:AB nm (first++ds++cap)=some y):
  ∃v,(execOp a.eval o).run P w=.ok (.value v) w∧VV (aa A k.H.length ρ S fl w) y v:=by
 have hfv:=h.vals _ (hv f (by rw[hop];simp[Op.operands,Call.operands]))
 rw[htr]at hfv
 simp only[trv,hf]at hfv
 have hfv':=VV.inv hfv (by simp)
 simp only[VC,xC,and_true]at hfv'
 obtain⟨av,bv,hev,ha,hb⟩:=hfv'
 have hall:All2 (SO (aa A k.H.length ρ S fl w) k.get hd) (args.toList.map σ) (args.toList.map a.eval):=by
  have hso:∀x∈args.toList,(σ x,a.eval x)∈vals:=fun x hx=>hv x (by rw[hop];simp[Op.operands,Call.operands];exact .inr (by simpa using hx))
  revert hso
  generalize args.toList=ps
  induction ps with
  |nil=>intro _;rfl
  |cons p ps ih=>
   intro hso
   refine⟨_,_,rfl,?_,ih (fun q hq=>hso q (by simp[hq]))⟩
   have:=h.vals _ (hso p (by simp))
   rw[htr]at this
   exact this
 have hargs:VVs (aa A k.H.length ρ S fl w) (first++ds++cap) ((av++args.map a.eval)++bv).toList:=by
  simp only[Array.toList_append,Array.toList_map];exact VVs.append _ _ _ _ (VVs.append _ _ _ _ ha (SV.pures_VVs _ _ _ e1 hall)) hb
 obtain⟨v,hr,hvv⟩:=MP (P:=P) (g:=g) (w:=w) hnm hargs e2
 refine⟨v,?_,hvv⟩
 obtain⟨odst,op,oty,pos,after,guard⟩:=o;simp only at hop;subst hop;simp only[execOp,resolve,hev,Deferred.ofValue,Sem.run_bind,Sem.run_pure,Result.andThen_ok,invoke];rw[Array.toArray_toList]at hr
 exact hr
theorem Cv{G:Nat→Option D}(hG:GA G A)(h:KR A ρ S hd fl k vals w)(htr:k.tr=[]){hint:Hint}(hgl:∀g d,hint.gl g=some d→G g=some d){dst:Nat}{ty:TypeId}{o:Oper}{σ:Operand→SV}{a:Act}{sv:SV}{ro:Option Nat}(hv:∀x∈o.op.operands,(σ x,a.eval x)∈vals)(e:opE P hint dst ty o.op σ k=some (sv,k'))
  {next:Act→World→Prop} {Q:Exit→Act→World→Prop} (hn:∀v w' ρ' S' hd',KR A ρ' S' hd' fl k' vals w'→SO (aa A k'.H.length ρ' S' fl w') k'.get hd' sv v→next (a.put o.dst v) w'):o.wpIn (FW ro) 0 P a w next Q:=by
 obtain⟨n,v,w',ρ',S',hd',h1,h2,h3,h4⟩:=IW hG h htr hgl (ev:=a.eval) (fun _=>rfl) hv e
 refine⟨fun _ _=>trivial,?_⟩
 rw[Oper.semAt_eq _ _ _ (fun c hc=>by rw[hc]at e;simp[opE]at e),h1]
 rcases h2 with rfl |⟨rfl,rfl⟩
 ·exact hn v w' ρ' S' hd' h3 h4
 ·exact hn undef w' ρ' S' hd' h3 h4
theorem I1{G:Nat→Option D}(hG:GA G A){call:ak}(hc:cH P G call)(h:KR A ρ S hd fl k vals w)(htr:k.tr=[]){hint:Hint}(hgl:∀g d,hint.gl g=some d→G g=some d){dst:Nat}{ty:TypeId}{o:Oper}{σ:Operand→SV}{a:Act}{sv:SV}{ro:Option Nat}(hv:∀x∈o.op.operands,(σ x,a.eval x)∈vals)(e:am P call hint dst ty o.op σ k=some (sv,k'))
  {next:Act→World→Prop} {Q:Exit→Act→World→Prop} (hn:∀v w' ρ' S' hd',KR A ρ' S' hd' fl k' vals w'→SO (aa A k'.H.length ρ' S' fl w') k'.get hd' sv v→next (a.put o.dst v) w'):o.wpIn (FW ro) 0 P a w next Q:=by
 have noP:∀{r:SV×Wk},eH r=some (sv,k')→r=(sv,k')∧sv.isPan=false:=fun{r} e=>by
  unfold eH at e
  split at e
  ·cases e
  ·rename_i hp
   simp only[xJ]at e
   subst e
   exact⟨rfl,by simpa using hp⟩
 unfold am at e
 split at e
 ·rename_i f args ats hop
  split at e
  ·rename_i g first cap hf
   split at e
   ·cases e
   rename_i hy
   split at e
   ·rename_i nm hnm
    simp only[xB,xM,pJ]at e
    obtain⟨ds,e1,y,e2,rfl,rfl⟩:=e;obtain⟨v,hrun,hvv⟩:=zK h htr hop hv hf hnm e1 e2
    refine⟨fun _ _=>trivial,?_⟩
    rw[Oper.semAt_eq _ _ _ (j6 hop),hrun,Oper.uponIn_value];exact hn v w ρ S hd h hvv
   simp only[xB]at e
   obtain⟨⟨ds,k1,b⟩,e1,r,e2,e3⟩:=e;obtain⟨rfl,hnp⟩:=noP e3;obtain⟨vs,hrun,hcalls⟩:=Cu hG hc h htr hop hv hf hy e1 e2
   refine⟨fun _ _=>trivial,?_⟩
   rw[Oper.semAt_eq _ _ _ (j6 hop),hrun,Oper.uponIn_enter]
   refine⟨fun hh=>by simp[FW,Fence.wide]at hh,fG.2 (Calls.mono hcalls fun en w' he=> ?_)⟩
   obtain⟨v,hen,ρ',S',hd',r1,r2⟩:=he;rw[hnp]at hen
   unfold Ends at hen;rw[if_neg (by simp)]at hen
   subst hen;exact hn v w' ρ' S' hd' r1 r2
  ·rename_i yo hf
   simp only[xB]at e
   obtain⟨⟨ds,k1,b⟩,e1,r,e2,e3⟩:=e;obtain⟨rfl,hnp⟩:=noP e3;have hfv:=h.vals _ (hv f (by rw[hop];simp[Op.operands,Call.operands]))
   rw[htr]at hfv
   simp only[trv,hf]at hfv
   have hfv':=VV.inv hfv (by simp)
   simp only[VC,xC,and_true]at hfv'
   obtain⟨hyo,hev⟩:=hfv'
   have hall:All2 (fun u v=>(u,v)∈vals) (args.toList.map σ) (args.toList.map a.eval):=by
    have hso:∀x∈args.toList,(σ x,a.eval x)∈vals:=fun x hx=>hv x (by rw[hop];simp[Op.operands,Call.operands];exact .inr (by simpa using hx))
    revert hso
    generalize args.toList=ps
    induction ps with
    |nil=>intro _;rfl
    |cons p ps ih=>intro hso;exact⟨_,_,rfl,hso p (by simp),ih (fun q hq=>hso q (by simp[hq]))⟩
   obtain⟨S1,g1,g2⟩:=wJ _ _ ds k k1 S {} b h hall e1
   have hargs:VVs (cxS b.sn b.lk A k1.H.length ρ S1 fl w) ds (args.map a.eval).toList:=by
    simp only[Array.toList_map];exact g2
   have hcalls:=Ct (C:=CallsY P) tP hG hc.2.1 g1.kr (VVs.canon (AJ _ _ _) hargs) e2;unfold CallsY at hcalls;rw[if_pos (Nat.le_add_right _ _),Nat.add_sub_cancel_left]at hcalls
   obtain⟨r,q1,q2,q3⟩:=hcalls
   have hrun:(execOp a.eval o).run P w=.ok (.round (ρ yo) r.fn ((r.params.zip (args.map a.eval)).foldl (fun tmps (t,a)=>tmps.setIfInBounds t a) r.tmps) r.assign r.body) w:=by
    obtain⟨odst,op,oty,pos,after,guard⟩:=o;simp only at hop;subst hop;have hev':a.eval f=.func (.yield (ρ yo)) #[] #[]:=hev;simp only[execOp,resolve,hev',Deferred.ofValue,Sem.run_bind,Sem.run_pure,Result.andThen_ok,invoke]
    simpa using run_yield (P:=P) q1 q2
   refine⟨fun _ _=>trivial,?_⟩
   rw[Oper.semAt_eq _ _ _ (j6 hop),hrun,Oper.uponIn_round]
   refine⟨fun hh=>by simp[FW,Fence.wide]at hh,D5 (q3.mono fun en w' he=> ?_)⟩
   obtain⟨v,hen,ρ',S',hd',r1,r2⟩:=he;rw[hnp]at hen
   unfold Ends at hen;rw[if_neg (by simp)]at hen
   subst hen;exact hn v w' ρ' S' hd' r1 r2
  ·cases e
 ·exact Cv hG h htr hgl hv e hn
theorem I2{G:Nat→Option D}(hG:GA G A){call:ak}(hc:cH P G call)(h:KR A ρ S hd fl k vals w)(htr:k.tr=[]){hint:Hint}(hgl:∀g d,hint.gl g=some d→G g=some d){dst:Nat}{ty:TypeId}{o:Oper}{σ:Operand→SV}{a:Act}{t:Option D}{sv:SV}{ro:Option Nat}(hv:∀x∈o.op.operands,(σ x,a.eval x)∈vals)(e:cZ P call hint dst ty o.op σ k=some (t,sv,k'))
  {next:Act→World→Prop} {Q:Exit→Act→World→Prop} (hn:t=none→∀v w' ρ' S' hd',KR A ρ' S' hd' fl k' vals w'→SO (aa A k'.H.length ρ' S' fl w') k'.get hd' sv v→next (a.put o.dst v) w')
  (hp:∀d,t=some d→∀x w' ρ' S' hd',KR A ρ' S' hd' fl k' vals w'→(∀c,VV c d x)→Q (.panic [{v:=x,recovered:=false}]) a w'):o.wpIn (FW ro) 0 P a w next Q:=by
 unfold cZ at e
 split at e
 ·rename_i x hop
  split at e
  ·rename_i tt y hx
   split at e
   ·rename_i hfl
    simp only[xJ,pJ]at e
    obtain⟨rfl,rfl,rfl⟩:=e;have hxv:=h.vals _ (hv x (by rw[hop];simp[Op.operands]))
    rw[htr]at hxv
    simp only[trv,hx]at hxv
    have hflat:(D.iface tt y).flat=true:=by simpa [D.flat]using hfl
    have hxi:=VV.inv (c:=aa A k.H.length ρ S fl w) hxv (by simp)
    simp only[VC,xC,and_true]at hxi
    obtain⟨v',hev,_,_⟩:=hxi
    refine⟨fun _ _=>trivial,?_⟩
    rw[Oper.semAt_eq _ _ _ (fun c hc=>by rw[hop]at hc;cases hc)]
    have hrun:(execOp a.eval o).run P w=.halt (.panic (.iface tt v')) w:=by
     obtain⟨odst,op,oty,pos,after,guard⟩:=o;simp only at hop;subst hop;have hev':a.eval x=.iface tt v':=hev;simp[execOp,Instr.panic,hev',goPanic,Sem.run_bind,Sem.run,Result.andThen]
    rw[hrun,Oper.uponIn_panic];refine hp _ rfl _ _ ρ S hd h fun c=> ?_
    have hev':a.eval x=.iface tt v':=hev;rw[←hev'];exact VV.flat hflat hxv
   ·cases e
  ·cases e
 ·rename_i f args ats hop
  split at e
  ·rename_i g first cap hf
   split at e
   ·cases e
   rename_i hy
   split at e
   ·split at e
    ·rename_i hfc
     simp only[xM,xB,pJ]at e
     obtain⟨⟨v0,k2⟩,⟨⟨v1,k1⟩,e1,e2⟩,rfl,rfl,rfl⟩:=e;unfold eH at e2
     split at e2
     ·cases e2
     rename_i hnp;simp only[xJ,pJ]at e2
     obtain⟨rfl,rfl⟩:=e2;obtain⟨vs,hrun,hcalls⟩:=GF hG hc h htr hop hv hf hy hfc e1
     refine⟨fun _ _=>trivial,?_⟩
     rw[Oper.semAt_eq _ _ _ (j6 hop),hrun,Oper.uponIn_enter]
     refine⟨fun hh=>by simp[FW,Fence.wide]at hh,fG.2 (Calls.mono hcalls fun en w' he=> ?_)⟩
     obtain⟨v,hen,ρ',S',hd',r1,r2⟩:=he;unfold Ends at hen;rw[if_neg hnp]at hen
     subst hen;exact hn rfl v w' ρ' S' hd' r1 r2
    ·cases e
   simp only[xB]at e
   obtain⟨⟨ds,k1,b⟩,e1,⟨v0,k2⟩,e2,e3⟩:=e;obtain⟨vs,hrun,hcalls⟩:=Cu hG hc h htr hop hv hf hy e1 e2
   refine⟨fun _ _=>trivial,?_⟩
   rw[Oper.semAt_eq _ _ _ (j6 hop),hrun,Oper.uponIn_enter]
   refine⟨fun hh=>by simp[FW,Fence.wide]at hh,fG.2 (Calls.mono hcalls fun en w' he=> ?_)⟩
   obtain⟨v,hen,ρ',S',hd',r1,r2⟩:=he;simp only at e3
   split at e3
   ·rename_i d
    split at e3
    ·rename_i hfl
     simp only[xJ,pJ]at e3
     obtain⟨rfl,rfl,rfl⟩:=e3;unfold Ends at hen;rw[if_pos (show SV.isPan (.tup [.d d,.agg []])=true from rfl)]at hen
     obtain⟨x,rfl,rfl⟩:=hen;obtain⟨us,hus,hall⟩:=r2;simp only[Value.tuple.injEq]at hus
     subst hus;obtain⟨u,r,hur,hu,_⟩:=hall;simp only[xC]at hur
     obtain⟨rfl,_⟩:=hur;exact hp d rfl x w' ρ' S' hd' r1 (fun c=>VV.flat hfl hu)
    ·cases e3
   ·rename_i hnp
    simp only[xJ,pJ]at e3
    obtain⟨rfl,rfl,rfl⟩:=e3
    have hnp':v0.isPan=false:=by
     unfold SV.isPan;split
     ·rename_i d;exact absurd rfl (hnp d)
     ·rfl
    rw[hnp']at hen
    unfold Ends at hen;rw[if_neg (by simp)]at hen
    subst hen;exact hn rfl v w' ρ' S' hd' r1 r2
  ·cases e
 ·simp only[xM,pJ]at e
  obtain⟨⟨v0,k2⟩,e1,rfl,rfl,rfl⟩:=e;exact Cv hG h htr hgl hv e1 (hn rfl)
end
section
variable{P:Program}{A:Av}{ρ:Nat→Nat}{S:Root→List Nat}{hd:Root→Value}{fl:List Nat}{k k':Wk}{vals vals':List (SV×Value)}{w:World}
theorem KR.withVals(h:KR A ρ S hd fl k vals w)(hv:∀p∈vals',SO (aa A k.H.length ρ S fl w) k.get hd (trv k.tr p.1) p.2):KR A ρ S hd fl k vals' w:=
 ⟨h.cont,h.gone,h.obj,h.map,h.dis,h.blk,hv,h.fr,h.Fold,h.rho⟩
theorem KR.hush(h:KR A ρ S hd fl k vals w):KR A ρ S hd fl {ct:=k.ct,H:=k.H} [] w:=
 ⟨h.cont,h.gone,h.obj,h.map,h.dis,h.blk,by simp,h.fr,h.Fold,h.rho⟩
def SR(A:Av)(s:St)(a:Act)(w:World):Prop:=
 ∃ρ S hd,KR A ρ S hd [] s.wk [] w∧∀t,SO (aa A s.H.length ρ S [] w) s.wk.get hd (s.get t) (a.tmps.getD t undef)
theorem I3(l:List Tr):trv l .dead=.dead:=by
 induction l with
 |nil=>rfl
 |cons x l ih=>
  have:x.sv .dead=.dead:=by cases x <;>rfl
  simp only[trv,this,ih]
theorem I4(x:Tr)(env:List (Nat×SV))(t:Nat):look (x.env env) t=(look env t).map x.sv:=by
 induction env with
 |nil=>rfl
 |cons p r ih=>
  obtain⟨q,v⟩:=p;simp only[Tr.env,List.map_cons,look]at ih ⊢
  split
  ·rfl
  ·exact ih
theorem Cw(l:List Tr):∀(env:List (Nat×SV)) (t:Nat),look (trs l env) t=(look env t).map (trv l):=by
 induction l with
 |nil=>intro env t;cases h:look env t <;>simp[trs,trv,h]
 |cons x l ih=>
  intro env t;simp only[trs,ih,I4,Option.map_map];congr 1
theorem Cy{env:List (Nat×SV)}{t:Nat}{v:SV}(h:look env t=some v):t∈env.map (·.1):=by
 induction env with
 |nil=>cases h
 |cons p r ih=>
  obtain⟨q,u⟩:=p;simp only[look]at h
  split at h
  ·rename_i e;simp[e]
  ·simp[ih h]
theorem wQ{c:Cx}{K:Root→Option T}{hd:Root→Value}{a:Act}{x:Operand}(hx:∀t,x≠ .tmp t):SO c K hd (B4 x) (a.eval x):=by
 cases x with
 |tmp t=>exact absurd rfl (hx t)
 |const v=>
  simp only[B4,Act.eval];split
  ·rename_i y hy;exact gj hy
  ·trivial
 |global g=>trivial
 |func f=>
  refine VV.one ?_ (by simp)
  simp only[VC]
  exact⟨#[], #[],rfl,rfl,rfl⟩
theorem SR.val{s:St}{a:Act}(hs:∀t,SO (aa A s.H.length ρ S [] w) s.wk.get hd (s.get t) (a.tmps.getD t undef))(x:Operand):SO (aa A s.H.length ρ S [] w) s.wk.get hd (s.val x) (a.eval x):=by
 cases x with
 |tmp t=>exact hs t
 |const v=>exact wQ (x:=.const v) (by simp)
 |global g=>exact wQ (x:=.global g) (by simp)
 |func f=>exact wQ (x:=.func f) (by simp)
theorem SR.fin{s:St}{a:Act}{d:Option Nat}{sv:SV}{v:Value}{k':Wk}{vals:List (SV×Value)}{ρ':Nat→Nat}{S':Root→List Nat}{hd':Root→Value}{w':World}
  (h:KR A ρ' S' hd' [] k' vals w') (hv:SO (aa A k'.H.length ρ' S' [] w') k'.get hd' sv v) (henv:∀t∈s.env.map (·.1),(s.get t,a.tmps.getD t undef)∈vals) (hd:∀t,d=some t→t<a.tmps.size):SR A (s.fin d sv k') (a.put d v) w':=by
 refine⟨ρ',S',hd',h.hush,fun t=> ?_⟩
 have old:SO (aa A k'.H.length ρ' S' [] w') k'.get hd' ((look (trs k'.tr s.env) t).getD .dead) (a.tmps.getD t undef):=by
  rw[Cw]
  cases hl:look s.env t with
  |none=>trivial
  |some u=>
   have:=h.vals _ (henv t (Cy hl))
   simpa [St.get,hl]using this
 cases d with
 |none=>exact old
 |some d=>
  have hlt:=hd d rfl;show SO _ _ _ ((look ((d,sv)::trs k'.tr s.env) t).getD .dead) ((a.tmps.setIfInBounds d v).getD t undef);simp only[look]
  by_cases ht:d=t
  ·subst ht
   rw[if_pos rfl]
   have:(a.tmps.setIfInBounds d v).getD d undef=v:=by simp[hlt]
   rw[this];exact hv
  ·rw[if_neg ht]
   have:(a.tmps.setIfInBounds d v).getD t undef=a.tmps.getD t undef:=by
    simp[yB,Array.getElem?_setIfInBounds_ne ht]
   rw[this];exact old
end
section
variable{P:Program}{A:Av}{ρ:Nat→Nat}{S:Root→List Nat}{hd:Root→Value}{fl:List Nat}{k k':Wk}{vals vals':List (SV×Value)}{w:World}
theorem gk(a:Act)(d:Option Nat)(v:Value):(a.put d v).tmps.size=a.tmps.size:=by cases d <;>simp[Act.put]
theorem Cz(a:Act)(d:Option Nat)(v:Value):(a.put d v).defers=a.defers:=by cases d <;>rfl
theorem wR{s:St}{a:Act}{ops:Array Oper}{o:Oper}{b:Bool}(hs:SR A s a w)(e:dK ops.toList s o=some b):Region.wanted o (yielded ops a.tmps)=b:=by
 obtain⟨ρ,S,hd,_,hv⟩:=hs;unfold dK at e;unfold Region.wanted
 split at e
 ·rename_i hg
  simp only[xJ]at e
  rw[hg];exact e
 ·rename_i j want hg
  rw[hg]
  simp only
  split at e
  ·rename_i t ht
   rw[yM]at ht
   have hvt:=hv t
   split at e
   ·rename_i b' hb
    simp only[xJ]at e
    rw[hb]at hvt
    have hvt:=VV.of_bool hvt
    have hlt:t<a.tmps.size:=by
     rcases Nat.lt_or_ge t a.tmps.size with q |q
     ·exact q
     ·simp[yB,Array.getElem?_eq_none q,undef]at hvt
    have hg2:a.tmps[t]? =some (.bool b'):=by
     rw[Array.getElem?_eq_getElem hlt]
     simpa [hlt]using hvt
    have:yielded ops a.tmps j=some b':=by simp[yielded,ht,hg2]
    rw[this,←e]
    cases b' <;>cases want <;>rfl
   ·rename_i hb
    simp only[xJ]at e
    rw[hb]at hvt
    obtain⟨vs,hvs,_⟩:=hvt
    have:yielded ops a.tmps j=none:=by
     unfold yielded;rw[ht];simp only[xS]
     cases hx:a.tmps[t]? with
     |none=>rfl
     |some x=>
      have:a.tmps.getD t undef=x:=by simp[yB,hx]
      rw[this]at hvs
      subst hvs;rfl
    rw[this,←e];rfl
   ·cases e
  ·cases e
def dY(s:St)(a:Act)(xs:List Operand):List (SV×Value):=s.env.map (fun p=>(s.get p.1,a.tmps.getD p.1 undef))++xs.map fun x=>(s.val x,a.eval x)
def Kp(a0:Act)(ds:List Nat)(a:Act):Prop:=a.defers=a0.defers∧a.tmps.size=a0.tmps.size∧∀t,t∉ds→a.tmps[t]? =a0.tmps[t]?
theorem Kp.refl(a:Act)(ds:List Nat):Kp a ds a:=⟨rfl,rfl,fun _ _=>rfl⟩
theorem Kp.trans{a b c:Act}{ds es:List Nat}(x:Kp a ds b)(y:Kp b es c):Kp a (ds++es) c:=
 ⟨y.1.trans x.1,y.2.1.trans x.2.1,fun t ht=>by simp only[xD,not_or]at ht;exact(y.2.2 t ht.2).trans (x.2.2 t ht.1)⟩
theorem Kp.more{a b:Act}{ds es:List Nat}(x:Kp a ds b)(h:∀t∈ds,t∈es):Kp a es b:=⟨x.1,x.2.1,fun t ht=>x.2.2 t (fun q=>ht (h t q))⟩
theorem Kp.put{a0 a:Act}{ds:List Nat}(x:Kp a0 ds a){dst:Option Nat}(hd:∀d,dst=some d→d∈ds)(v:Value):Kp a0 ds (a.put dst v):=by
 refine⟨(Cz _ _ _).trans x.1,(gk _ _ _).trans x.2.1,fun t ht=> ?_⟩
 rw[←x.2.2 t ht]
 cases dst with
 |none=>rfl
 |some d=>
  have:d≠t:=fun e=>ht (e▸hd d rfl)
  simp[Act.put,Array.getElem?_setIfInBounds_ne this]
theorem wT{G:Nat→Option D}{call:ak}(hc:cH P G call)(hG:GA G A){hint:Hint}(hgl:∀g d,hint.gl g=some d→G g=some d){ops:Array Oper}{o:Oper}{s s':St}{a a0:Act}{ds:List Nat}{ro:Option Nat}(hs:SR A s a w)(hkp:Kp a0 ds a)(hd:∀d,o.dst=some d→d∈ds∧d<a0.tmps.size)(e:ij P call hint ops.toList o s=some s')
  {K:Act→World→Prop} {Q:Exit→Act→World→Prop} (hK:∀a' w',SR A s' a' w'→Kp a0 ds a'→K a' w'):
  if Region.wanted o (yielded ops a.tmps)then o.wpIn (FW ro) 0 P a w K Q else(∀f,o.about P w a.eval=some f→(FW ro).fn f)∧K (a.put o.dst undef) w:=by
 simp only[ij,xB]at e
 obtain⟨b,e1,e⟩:=e;rw[wR hs e1];obtain⟨ρ,S,hd0,h,hv⟩:=hs
 have hk:KR A ρ S hd0 [] s.wk (dY s a o.op.operands.toList) w:=h.withVals (fun p hp=>by
  simp only[dY,xD,List.mem_map]at hp
  rcases hp with⟨q,_,rfl⟩ |⟨x,_,rfl⟩
  ·exact hv q.1
  ·exact SR.val hv x)
 have henv:∀t∈s.env.map (·.1),(s.get t,a.tmps.getD t undef)∈dY s a o.op.operands.toList:=fun t ht=>by
  simp only[List.mem_map]at ht
  obtain⟨q,hq,rfl⟩:=ht;simp only[dY,xD,List.mem_map];exact .inl ⟨q,hq,rfl⟩
 have hlt:∀d,o.dst=some d→d<a.tmps.size:=fun d q=>by rw[hkp.2.1];exact(hd d q).2
 have hin:∀d,o.dst=some d→d∈ds:=fun d q=>(hd d q).1
 cases b
 ·simp only[xH,if_false,xJ]at e ⊢
  subst e
  refine⟨fun _ _=>trivial,hK _ _ ?_ (hkp.put hin _)⟩
  exact SR.fin (vals:=dY s a o.op.operands.toList) hk ⟨#[],rfl,rfl⟩ henv hlt
 ·simp only[if_true,xM]at e ⊢
  obtain⟨⟨sv,k'⟩,e2,rfl⟩:=e;refine I1 hG hc hk rfl hgl (fun x hx=> ?_) e2 (fun v w' ρ' S' hd' g1 g2=> ?_)
  ·simp only[dY,xD,List.mem_map]
   exact .inr ⟨x,by simpa using hx,rfl⟩
  ·exact hK _ _ (SR.fin g1 g2 henv hlt) (hkp.put hin _)
theorem pV{G:Nat→Option D}{call:ak}(hc:cH P G call)(hG:GA G A){hint:Hint}(hgl:∀g d,hint.gl g=some d→G g=some d){ops:Array Oper}{a0:Act}{ds:List Nat}{ro:Option Nat}{Q:Exit→Act→World→Prop}:∀(l:List Oper) {s s':St} {t:Option D} {a:Act} {w:World},SR A s a w→Kp a0 ds a→(∀o∈l,∀d,o.dst=some d→d∈ds∧d<a0.tmps.size)→ck P call hint ops.toList l s=some (t,s')→
  (t=none→∀a' w',SR A s' a' w'→Kp a0 ds a'→Q .normal a' w')→(∀d,t=some d→∀x a' w',SR A s' a' w'→Kp a0 ds a'→(∀c,VV c d x)→Q (.panic [{v:=x,recovered:=false}]) a' w')→wpListIn (FW ro) 0 P ops Q l a w
 | [],s,s',t,a,w,hs,hkp,hd,e,hQ,hP=>by
  simp only[ck,xJ,pJ]at e
  obtain⟨rfl,rfl⟩:=e;exact hQ rfl a w hs hkp
 |o::l,s,s',t,a,w,hs,hkp,hd,e,hQ,hP=>by
  simp only[ck,xB]at e
  obtain⟨b,e1,e⟩:=e;refine wpListIn_step fun K hK=> ?_
  rw[wR hs e1];obtain⟨ρ,S,hd0,h,hv⟩:=hs
  have hk:KR A ρ S hd0 [] s.wk (dY s a o.op.operands.toList) w:=h.withVals (fun p hp=>by
   simp only[dY,xD,List.mem_map]at hp
   rcases hp with⟨q,_,rfl⟩ |⟨x,_,rfl⟩
   ·exact hv q.1
   ·exact SR.val hv x)
  have henv:∀t∈s.env.map (·.1),(s.get t,a.tmps.getD t undef)∈dY s a o.op.operands.toList:=fun t ht=>by
   simp only[List.mem_map]at ht
   obtain⟨q,hq,rfl⟩:=ht;simp only[dY,xD,List.mem_map];exact .inl ⟨q,hq,rfl⟩
  have hlt:∀d,o.dst=some d→d<a.tmps.size:=fun d q=>by rw[hkp.2.1];exact(hd o (by simp) d q).2
  have hin:∀d,o.dst=some d→d∈ds:=fun d q=>(hd o (by simp) d q).1
  have rest:∀o'∈l,∀d,o'.dst=some d→d∈ds∧d<a0.tmps.size:=fun o' ho'=>hd o' (by simp[ho'])
  cases b
  ·simp only[xH,if_false]at e ⊢
   refine⟨fun _ _=>trivial,hK _ _ ?_⟩
   exact pV hc hG hgl l (SR.fin (sv:=.tup []) (v:=undef) (vals:=dY s a o.op.operands.toList) hk ⟨#[],rfl,rfl⟩ henv hlt) (hkp.put hin _) rest e hQ hP
  ·simp only[if_true,xB]at e ⊢
   obtain⟨⟨t1,sv,k'⟩,e2,e⟩:=e;refine I2 hG hc hk rfl hgl (fun x hx=> ?_) e2 (fun ht v w' ρ' S' hd' g1 g2=> ?_) (fun d ht x w' ρ' S' hd' g1 g2=> ?_)
   ·simp only[dY,xD,List.mem_map]
    exact .inr ⟨x,by simpa using hx,rfl⟩
   ·subst ht
    exact hK _ _ (pV hc hG hgl l (SR.fin g1 g2 henv hlt) (hkp.put hin _) rest e hQ hP)
   ·subst ht
    simp only[xJ,pJ]at e
    obtain⟨rfl,rfl⟩:=e;exact hP d rfl x a w' (SR.fin (d:=none) (v:=undef) g1 trivial henv (fun t ht=>by cases ht)) hkp g2
end
theorem kH{l:List SV}{u:SV}(hu:u∈l){p:Nat×Nat}(hp:p∈u.roots):p∈SV.rootss l:=by
 induction l with
 |nil=>cases hu
 |cons a r ih=>
  simp only[SV.rootss,xD]
  rcases List.mem_cons.1 hu with rfl |hu
  ·exact .inl hp
  ·exact .inr (ih hu)
theorem kI{ct:List ((Nat×Nat)×T)}:∀(l:List (Nat×Nat)) (x:Nat×Nat),aZ (pick ct l) x=if x∈l then aZ ct x else none
 | [],x=>by simp[pick,aZ]
 |a::r,x=>by
  simp only[pick];split
  ·rename_i t ht
   simp only[aZ]
   by_cases h:a=x
   ·subst h;simp[ht]
   ·rw[if_neg h,kI r x]
    simp[Ne.symm h]
  ·rename_i ht
   rw[kI r x]
   by_cases h:a=x
   ·subst h;simp[ht]
   ·simp[Ne.symm h]
section
variable{c c':Cx}{K K':Root→Option T}{hd hd':Root→Value}
theorem SO.on(hx:Ext c c')(G:Root→Prop)(hh:∀r q,G r→ot c c' K K' hd hd' r q)(hO:∀n,G (.o n)){u:SV}{v:Value}(hg:∀p∈u.roots,G (.l p.1 p.2))(h:SO c K hd u v):SO c' K' hd' u v:=by
 have sb:∀(u:SV) (v:Value),(∀p∈u.roots,G (.l p.1 p.2))→SB c K hd u v→SB c' K' hd' u v:=fun u v hg h=>by
  cases u with
  |bor r p off len=>exact SB.keep_bor (hh r p (by cases r with |l n j=>exact hg (n,j) (by simp[SV.roots]) |o n=>exact hO n)) h
  |loc r p i off=>exact SB.keep_loc (hh r p (by cases r with |l n j=>exact hg (n,j) (by simp[SV.roots]) |o n=>exact hO n)) h
  |_=>exact SB.keep_rest hx (by simp) (by simp) h
 have co:∀(u:SV) (v:Value),(∀p∈u.roots,G (.l p.1 p.2))→CO c K hd u v→CO c' K' hd' u v:=fun u v hg h=>by
  by_cases hy:∃y,u=.d y
  ·obtain⟨y,rfl⟩:=hy
   exact VC.ext hx y _ h
  ·have hy':∀y,u≠ .d y:=fun y e=>hy ⟨y,e⟩
   have h2:=sb u v hg (CO.to_SB hy' h)
   cases u <;>first |exact absurd rfl (hy' _) |exact h2
 have s1:∀(u:SV) (v:Value),(∀p∈u.roots,G (.l p.1 p.2))→S1 c K hd u v→S1 c' K' hd' u v:=fun u v hg h=>by
  by_cases hu:∃l,u=.agg l
  ·obtain⟨l,rfl⟩:=hu
   obtain⟨cs,h1,h2⟩:=h
   exact⟨cs,h1,h2.imp (fun a ha b hab=>co a b (fun p hp=>hg p (kH ha hp)) hab)⟩
  ·have hu':∀l,u≠ .agg l:=fun l e=>hu ⟨l,e⟩
   exact S1.of_SB hu' (sb u v hg (S1.to_SB hu' h))
 by_cases hu:∃l,u=.tup l
 ·obtain⟨l,rfl⟩:=hu
  obtain⟨cs,h1,h2⟩:=h
  exact⟨cs,h1,h2.imp (fun a ha b hab=>s1 a b (fun p hp=>hg p (kH ha hp)) hab)⟩
 ·have hu':∀l,u≠ .tup l:=fun l e=>hu ⟨l,e⟩
  exact SO.of_S1 hu' (s1 u v hg (SO.to_S1 hu' h))
end
section
variable{P:Program}{A:Av}{ρ:Nat→Nat}{S:Root→List Nat}{hd:Root→Value}{fl:List Nat}{k k':Wk}{vals vals':List (SV×Value)}{w:World}
theorem KR.forget(h:KR A ρ S hd fl k vals w)(L:List (Nat×Nat)){ct:List ((Nat×Nat)×T)}(hct:∀x,aZ ct x=if x∈L then aZ k.ct x else none):
  ∃S',KR A ρ S' hd fl {ct,H:=k.H} [] w∧∀u v,(∀p∈u.roots,p∈L)→SO (aa A k.H.length ρ S fl w) k.get hd u v→SO (aa A k.H.length ρ S' fl w) ({ct,H:=k.H}:Wk).get hd u v:=by
 let G:Root→Bool:=fun r=>match r with | .l n j=>decide ((n,j)∈L) | .o _=>true
 let S':Root→List Nat:=fun r=>if G r then S r else []
 have hS':∀r b,b∈S' r→b∈S r:=fun r b hb=>by
  simp only[S']at hb
  split at hb
  ·exact hb
  ·simp at hb
 have own:∀b,Own S' fl b→Own S fl b:=fun b hb=>hb.imp (fun⟨r,hr⟩=>⟨r,hS' r b hr⟩) id
 have ws:WS S fl w S' fl w:=WS.stay own;have ext:Ext (aa A k.H.length ρ S fl w) (aa A k.H.length ρ S' fl w):=ws.ext (Nat.le_refl _) (fun _ _=>rfl)
 have get:∀r,G r=true→({ct,H:=k.H}:Wk).get r=k.get r:=fun r hr=>by
  cases r with
  |l n j=>simp only[G,yD]at hr;simp only[Wk.get,Go.Am.cont,hct,if_pos hr]
  |o n=>rfl
 have getN:∀r,G r=false→({ct,H:=k.H}:Wk).get r=none∧∀n,r≠ .o n:=fun r hr=>by
  cases r with
  |l n j=>simp only[G,decide_eq_false_iff_not]at hr;exact⟨by simp only[Wk.get,Go.Am.cont,hct,if_neg hr],by simp⟩
  |o n=>cases hr
 refine⟨S',⟨fun r t ht=> ?_,fun r hr hm=> ?_,h.obj,fun n ob he hpl=> ?_,⟨fun r=> ?_,h.dis.ndF,fun r r' b hb hb'=>h.dis.one r r' b (hS' r b hb) (hS' r' b hb'),fun r b hb=>h.dis.oneF r b (hS' r b hb)⟩,ws.blk h,by simp,h.fr,h.Fold,h.rho⟩,fun u v hu hv=> ?_⟩
 ·cases hg:G r with
  |true=>
   rw[get r hg]at ht
   have:S' r=S r:=by simp[S',hg]
   rw[this];exact TC.ext ext _ _ _ (fun _ _=>rfl) (h.cont r t ht)
  |false=>rw[(getN r hg).1]at ht;cases ht
 ·cases hg:G r with
  |true=>
   rw[get r hg]at hr
   have:S' r=S r:=by simp[S',hg]
   rw[this];exact h.gone r hr hm
  |false=>simp[S',hg]
 ·exact(h.map n ob he hpl).ext ext (fun _ _=>rfl) (by simp[S',G]) rfl
 ·simp only[S'];split
  ·exact h.dis.nd r
  ·simp
 ·refine SO.on ext (fun r=>G r=true) (fun r q hg=>h.hold _ (get r hg) rfl (fun _ _=>rfl) q) (fun n=>rfl) (fun p hp=> ?_) hv
  simp only[G,yD];exact hu p hp
theorem zL(live:List Nat)(f:Nat→SV)(t:Nat):look (live.map fun t=>(t,f t)) t=if t∈live then some (f t)else none:=by
 induction live with
 |nil=>simp[look]
 |cons a r ih=>
  simp only[List.map_cons,look]
  by_cases h:a=t
  ·subst h;simp
  ·rw[if_neg h,ih];simp[Ne.symm h]
theorem SR.prune{s:St}{a:Act}(hs:SR A s a w)(live:List Nat):SR A (Go.Am.prune live s) a w:=by
 obtain⟨ρ,S,hd,h,hv⟩:=hs;obtain⟨S',g1,g2⟩:=h.forget (fu (SV.rootss ((live.map fun t=>(t,s.get t)).map (·.2)))) (ct:=pick s.ct (fu (SV.rootss ((live.map fun t=>(t,s.get t)).map (·.2))))) (fun x=>kI _ x)
 refine⟨ρ,S',hd,g1,fun t=> ?_⟩
 have hget:(Go.Am.prune live s).get t=if t∈live then s.get t else .dead:=by
  show(look (live.map fun t=>(t,s.get t)) t).getD .dead=_
  rw[zL]
  split <;>rfl
 rw[hget];split
 ·rename_i ht
  refine g2 _ _ (fun p hp=> ?_) (hv t)
  rw[fC];refine kH (u:=s.get t) ?_ hp;simp only[List.map_map,List.mem_map]
  exact⟨t,ht,rfl⟩
 ·trivial
end
theorem TC.lo'{A:Av}{ρ:Nat→Nat}{S:Root→List Nat}{fl:List Nat}{w:World}{n n2:Nat}{t:T}{cs:List Value}{M:List Nat}(hl:n2=n∨t.low n2=true)(h:TC (aa A n ρ S fl w) t cs M):TC ((aa A n ρ S fl w).lo n2) t cs M:=by
 rcases hl with rfl |hl
 ·exact h
 ·exact TC.lo _ _ _ hl h
theorem VV.lo'{A:Av}{ρ:Nat→Nat}{S:Root→List Nat}{fl:List Nat}{w:World}{n n2:Nat}{x:D}{v:Value}(hl:n2=n∨x.low n2=true)(h:VV (aa A n ρ S fl w) x v):VV ((aa A n ρ S fl w).lo n2) x v:=by
 rcases hl with rfl |hl
 ·exact h
 ·exact⟨VC.lo _ _ hl h.1,h.2⟩
section
variable{P:Program}{A:Av}{ρ:Nat→Nat}{S:Root→List Nat}{hd:Root→Value}{fl:List Nat}{k k':Wk}{vals:List (SV×Value)}{w:World}
theorem KR.cut(h:KR A ρ S hd fl k vals w){n2:Nat}(hn:n2≤k.H.length)(hA:A.n0≤n2)(hl:n2=k.H.length∨∀ob∈k.H.take n2,ob.low n2=true):
  ∃S',KR A ρ S' hd fl {ct:=[],H:=k.H.take n2} [] w∧Ext ((aa A k.H.length ρ S fl w).lo n2) (aa A n2 ρ S' fl w):=by
 let G:Root→Bool:=fun r=>match r with | .l _ _=>false | .o n=>decide (n<n2)
 let S':Root→List Nat:=fun r=>if G r then S r else []
 have hlen:(k.H.take n2).length=n2:=by simp;omega
 have hS':∀r b,b∈S' r→b∈S r:=fun r b hb=>by
  simp only[S']at hb
  split at hb
  ·exact hb
  ·simp at hb
 have own:∀b,Own S' fl b→Own S fl b:=fun b hb=>hb.imp (fun⟨r,hr⟩=>⟨r,hS' r b hr⟩) id
 have ext:Ext ((aa A k.H.length ρ S fl w).lo n2) (aa A n2 ρ S' fl w):=⟨fun t g hp=>⟨⟨fun ho=>hp.1 (own g ho),hp.2.1,hp.2.2⟩,rfl⟩,Nat.le_refl _,fun _ _=>rfl⟩
 have lowAt:∀n ob,n<n2→k.H[n]? =some ob→n2=k.H.length∨ob.low n2=true:=fun n ob hlt he=>hl.imp id (fun hl=>hl ob (yS (i:=n) (by rw[xU,if_pos hlt];exact he)))
 have hat:∀n ob,(k.H.take n2)[n]? =some ob→n<n2∧k.H[n]? =some ob:=fun n ob he=>by
  rw[xU]at he
  split at he
  ·exact⟨‹_›,he⟩
  ·cases he
 have ws:WS S fl w S' fl w:=WS.stay own
 refine⟨S',⟨fun r t ht=> ?_,fun r hr hm=> ?_,h.obj,fun n ob he hpl=> ?_,⟨fun r=> ?_,h.dis.ndF,fun r r' b hb hb'=>h.dis.one r r' b (hS' r b hb) (hS' r' b hb'),fun r b hb=>h.dis.oneF r b (hS' r b hb)⟩,ws.blk h,by simp,h.fr,h.Fold,⟨by rw[hlen];exact hA,h.rho.2⟩⟩,ext⟩
 ·rw[hlen]
  cases r with
  |l n j=>cases ht
  |o n=>
   simp only[Wk.get,Go.Am.cont]at ht
   split at ht
   ·rename_i c hc
    obtain⟨h1,h2⟩:=hat n _ hc;have hk:k.get (.o n)=some t:=by simp only[Wk.get,Go.Am.cont,h2];exact ht
    have:S' (.o n)=S (.o n):=by simp[S',G,h1]
    rw[this];refine TC.ext ext _ _ _ (fun _ _=>rfl) (TC.lo' ?_ (h.cont _ t hk))
    rcases lowAt n _ h1 h2 with q |q
    ·exact .inl q
    ·right
     simp only[xJ]at ht
     subst ht
     simpa [T.low,T.lows,Ob.low]using q
   ·cases ht
 ·simp only[S']
  split
  ·rename_i hg
   cases r with
   |l n j=>cases hg
   |o n=>
    simp only[G,yD]at hg
    refine h.gone _ ?_ (fun n' ob e he=> ?_)
    ·simp only[Wk.get,Go.Am.cont,xU,if_pos hg]at hr ⊢;exact hr
    ·cases e
     refine hm n ob rfl ?_;simp only[xU,if_pos hg];exact he
  ·rfl
 ·rw[hlen]
  obtain⟨h1,h2⟩:=hat n _ he;have hS:S' (.o n)=S (.o n):=by simp[S',G,h1]
  obtain⟨N,m1,m2⟩:=h.map n ob h2 hpl
  refine⟨N,hS.trans m1,?_⟩
  cases ob with
  |map es=>
   obtain⟨en,cl,q1,q2,q3⟩:=m2
   have hlo:∀a∈es,n2=k.H.length∨(a.1.low n2=true∧a.2.low n2=true):=fun a ha=>(lowAt n _ h1 h2).imp id (fun q=>by
    simp only[Ob.low]at q
    have:=List.all_eq_true.1 q a ha
    simpa using this)
   refine⟨en,cl,q1,q2.imp (fun a ha b q=>VV.ext ext (VV.lo' ((hlo a ha).imp id (·.1)) q)),RetAll.imp _ _ _ (fun t ht cs M' _ h3=> ?_) q3⟩
   obtain⟨a,ha,rfl⟩:=List.mem_map.1 ht;exact TC.ext ext _ _ _ (fun _ _=>rfl) (TC.lo' ((hlo a ha).imp id (·.2)) h3)
  |iter s p=>exact m2
  |miter m=>
   obtain⟨q1,q2,q3⟩:=m2
   refine⟨q1,fun o e=> ?_,q3⟩
   rcases lowAt n _ h1 h2 with q |q
   ·show o<n2
    rw[q];exact q2 o e
   ·subst e
    show o<n2
    simpa [Ob.low]using q
  |frame g ps x y env ct=>
   obtain⟨r,q1,q2,q3,q4,q5,q6,q7⟩:=m2
   have hlo:n2=k.H.length∨((∀p∈env,p.2.low n2=true)∧∀p∈ct,p.2.low n2=true):=(lowAt n _ h1 h2).imp id (fun q=>by
    simp only[Ob.low,xA]at q
    exact⟨fun p hp=>List.all_eq_true.1 q.1 p hp,fun p hp=>List.all_eq_true.1 q.2 p hp⟩)
   refine⟨r,q1,q2,q3,q4,q5,q6,q7.1.imp (fun _ _=>rfl) (fun p hp x v e q=>VV.ext ext (VV.lo' (hlo.imp id (fun h=> ?_)) q)) (fun p hp cs M' _ q=>TC.ext ext _ _ _ (fun _ _=>rfl) (TC.lo' (hlo.imp id (fun h=>h.2 p hp)) q)),q7.2⟩
   have:=h.1 p hp
   rw[e]at this
   exact this
  |sset ks=>
   obtain⟨es,en,cl,q1,q2,q3,q4⟩:=m2
   refine⟨es,en,cl,q1,q2.imp (fun a ha b q=>VV.ext ext (VV.lo' (.inr ?_) q)),RetAll.imp _ _ _ (fun t ht cs M' _ h3=> ?_) q3,q4⟩
   ·obtain⟨s,_,rfl⟩:=q4.1 a ha
    rfl
   ·obtain⟨a,ha,rfl⟩:=List.mem_map.1 ht
    obtain⟨s,_,rfl⟩:=q4.1 a ha;exact TC.ext ext _ _ _ (fun _ _=>rfl) (TC.lo' (.inr rfl) h3)
  |_=>trivial
 ·simp only[S'];split
  ·exact h.dis.nd r
  ·simp
theorem D6(ts:List T)(cs:Array Value):j3 (T.mkAgg ts) (.agg cs):=by
 unfold T.mkAgg;split
 ·exact⟨cs,rfl⟩
 ·exact⟨cs,rfl⟩
theorem AK{c:Cx}{K:Root→Option T}{nv:Nat}{v:SV}{val:Value}{t:T}(hv:SO c K hd (trv k.tr v) val)(e:bD nv v k=some (t,k')):j3 t val:=by
 by_cases hag:∃l,v=.agg l
 ·obtain⟨l,rfl⟩:=hag
  simp only[bD,xM]at e
  obtain⟨⟨ts,k1⟩,e1,e2⟩:=e;simp only[pJ]at e2
  obtain⟨rfl,rfl⟩:=e2;rw[uM]at hv
  obtain⟨cs,rfl,_⟩:=hv;exact D6 ts cs
 ·have hne:∀l,v≠ .agg l:=fun l hl=>hag ⟨l,hl⟩
  have e':ar nv (trv k.tr v) k=some (t,k'):=by
   revert e hne
   cases v <;>intro e hne <;>first |exact e |exact absurd rfl (hne _)
  revert hv e'
  generalize trv k.tr v=u;intro hv e'
  cases u with
  |d x=>
   simp only[ar,xJ,pJ]at e'
   obtain⟨rfl,rfl⟩:=e';exact hv.2
  |clip b l=>
   simp only[ar,xJ,pJ]at e'
   obtain⟨rfl,rfl⟩:=e';exact VC.one _ _ hv.1
  |ns b=>
   simp only[ar,xJ,pJ]at e'
   obtain⟨rfl,rfl⟩:=e';exact VC.one (c:=c) _ _ (Fv hv)
  |bor r p off len=>
   have h1:val.oneCell'=true:=by
    obtain⟨_,_,h',_,_,_,_,hw⟩:=hv;obtain⟨_,_,_,_,_,_,rfl,_⟩:=hw;rfl
   have nag:(∀l,t≠ .d (.agg l))∧(∀l,t≠ .agg l):=by
    simp only[ar,xB]at e'
    obtain⟨c0,_,nd,_,e'⟩:=e'
    split at e'
    ·split at e'
     ·split at e'
      ·simp only[xM,pJ]at e'
       obtain⟨_,_,rfl,_⟩:=e'
       simp
      ·simp only[xB,xM,pJ]at e'
       obtain⟨_,_,_,_,rfl,_⟩:=e'
       simp
     ·simp only[xB,xM,pJ]at e'
      obtain⟨_,_,_,_,_,_,rfl,_⟩:=e'
      simp
    ·cases e'
   cases t with
   |d x=>cases x <;>first |exact h1 |exact absurd rfl (nag.1 _)
   |agg l=>exact absurd rfl (nag.2 l)
   |_=>exact h1
  |_=>simp[ar]at e'
theorem pW:∀(l:List SV) (vs:List Value) (ts:List T) (k k':Wk) (S:Root→List Nat) (fl:List Nat),KR A ρ S hd fl k vals w→All2 (fun u v=>(u,v)∈vals) l vs→er l k=some (ts,k')→
  ∃S' M,KR A ρ S' hd (M++fl) k' vals w∧Ext (aa A k.H.length ρ S fl w) (aa A k'.H.length ρ S' (M++fl) w)∧RetAll (aa A k'.H.length ρ S' (M++fl) w) ts vs M∧k'.H.length=k.H.length
 | [],vs,ts,k,k',S,fl,h,hall,e=>by
  simp only[er,xJ,pJ]at e
  obtain⟨rfl,rfl⟩:=e;rw[show vs=[]from hall]
  exact⟨S,[],by simpa using h,by simpa using(⟨fun _ _ hp=>⟨hp,rfl⟩,Nat.le_refl _,fun _ _=>rfl⟩:Ext _ _),⟨rfl,rfl⟩,rfl⟩
 |u::l,vs,ts,k,k',S,fl,h,hall,e=>by
  simp only[er,xB,xM]at e
  obtain⟨⟨t,k1⟩,e1,⟨ts',k2⟩,e2,e3⟩:=e;simp only[pJ]at e3
  obtain⟨rfl,rfl⟩:=e3;obtain⟨v,r,rfl,hv,hr⟩:=hall;obtain⟨S1,M1,g1,g2,g3,g4⟩:=hD h hv e1;have hf:=AK (h.vals _ hv) e1;obtain⟨S2,M2,p1,p2,p3,p4⟩:=pW l r ts' k1 k2 S1 (M1++fl) g1 hr e2
  have hperm:(M2++(M1++fl)).Perm ((M1++M2)++fl):=by
   rw[xK];exact List.perm_append_comm_assoc M2 M1 fl
  obtain⟨p1',e1'⟩:=p1.perm hperm;rw[e1']at p2 p3
  refine⟨S2,M1++M2,p1',⟨fun b g hp=> ?_,Nat.le_trans g2.nO p2.nO,fun o ho=>rfl⟩,⟨v,r,M1,M2,rfl,rfl,TC.ext p2 _ _ _ (fun _ _=>rfl) g3,hf,p3⟩,p4.trans g4⟩
  have q1:=g2.pm b g hp;have q2:=p2.pm b g q1.1
  exact⟨q2.1,q2.2.trans q1.2⟩
theorem All2.tail1{α β:Type}{p:α→β→Prop}:∀(l:List α) (r:List β) (a:α) (b:β),All2 p l r→p a b→All2 p (l++[a]) (r++[b])
 | [],r,a,b,h,hp=>by rw[show r=[]from h];exact⟨b,[],rfl,hp,rfl⟩
 |x::l,r,a,b,h,hp=>by
  obtain⟨y,q,rfl,h1,h2⟩:=h
  exact⟨y,_,rfl,h1,All2.tail1 l q a b h2 hp⟩
theorem All2.turned{α β:Type}{p:α→β→Prop}:∀(l:List α) (r:List β),All2 p l r→All2 p l.reverse r.reverse
 | [],r,h=>by rw[show r=[]from h];rfl
 |x::l,r,h=>by
  obtain⟨y,q,rfl,h1,h2⟩:=h;rw[List.reverse_cons,List.reverse_cons];exact All2.tail1 _ _ _ _ (All2.turned l q h2) h1
theorem RetAll.tail1{c:Cx}{t:T}{v:Value}{N:List Nat}(h1:TC c t v.cells.toList N)(h2:j3 t v):∀(ts:List T) (vs:List Value) (M:List Nat),RetAll c ts vs M→RetAll c (ts++[t]) (vs++[v]) (M++N)
 | [],vs,M,h=>by
  obtain⟨rfl,rfl⟩:=h
  exact⟨v,[],N,[],rfl,by simp,h1,h2,rfl,rfl⟩
 |u::ts,vs,M,h=>by
  obtain⟨x,r,M1,M2,rfl,rfl,q1,q2,q3⟩:=h
  exact⟨x,_,M1,M2++N,rfl,by rw[xK],q1,q2,RetAll.tail1 h1 h2 ts r M2 q3⟩
theorem RetAll.turned{c:Cx}:∀(ts:List T) (vs:List Value) (M:List Nat),RetAll c ts vs M→∃M',M.Perm M'∧RetAll c ts.reverse vs.reverse M'
 | [],vs,M,h=>by
  obtain⟨rfl,rfl⟩:=h
  exact⟨[],List.Perm.refl _,rfl,rfl⟩
 |u::ts,vs,M,h=>by
  obtain⟨x,r,M1,M2,rfl,rfl,q1,q2,q3⟩:=h;obtain⟨M',p1,p2⟩:=RetAll.turned ts r M2 q3
  refine⟨M'++M1,List.perm_append_comm.trans (p1.append_right M1),?_⟩
  rw[List.reverse_cons,List.reverse_cons];exact RetAll.tail1 q1 q2 _ _ _ p2
theorem D7(l:List SV)(vs:List Value)(ts:List T)(k k':Wk)(S:Root→List Nat)(fl:List Nat)(h:KR A ρ S hd fl k vals w)(hall:All2 (fun u v=>(u,v)∈vals) l vs)(e:gP l k=some (ts,k')):
  ∃S' M,KR A ρ S' hd (M++fl) k' vals w∧Ext (aa A k.H.length ρ S fl w) (aa A k'.H.length ρ S' (M++fl) w)∧RetAll (aa A k'.H.length ρ S' (M++fl) w) ts vs M∧k'.H.length=k.H.length:=by
 unfold gP at e
 split at e
 ·unfold AF at e
  simp only[xM,pJ]at e
  obtain⟨⟨us,k1⟩,e1,rfl,rfl⟩:=e;obtain⟨S',M,g1,g2,g3,g4⟩:=pW l.reverse vs.reverse us k k1 S fl h (All2.turned _ _ hall) e1;obtain⟨M',p1,p2⟩:=RetAll.turned _ _ _ g3;rw[List.reverse_reverse]at p2
  obtain⟨q1,q2⟩:=g1.perm (p1.append_right fl);rw[q2]at g2 p2
  exact⟨S',M',q1,g2,p2,g4⟩
 ·exact pW l vs ts k k' S fl h hall e
theorem I5{v:Value}{t:TypeId}{val:Value}(h:(Instr.loadAt t v).run P w=.ok val w):((do loadVar t (←asAddr v)):Sem Value).run P w=.ok val w:=by
 cases v with
 |pointer a=>
  cases a with
  |some a=>exact h
  |none=>simp[Instr.loadAt,Instr.sureAddr,stuck,Sem.run_bind]at h
 |_=>simp[Instr.loadAt,Instr.sureAddr,stuck,Sem.run_bind]at h
end
end Go.Am
namespace Go.Am
open Go
theorem kJ{r x:SV×Wk}(e:eH r=some x):r=x∧x.1.isPan=false:=by
 unfold eH at e
 split at e
 ·cases e
 ·rename_i h
  simp only[xJ]at e
  subst e
  exact⟨rfl,by simpa using h⟩
theorem gQ{l:List Operand}{σ τ:Operand→SV}(h:∀x∈l,σ x=τ x):l.map σ=l.map τ:=List.map_congr_left h
theorem tQ{l:List (Nat×Operand)}{σ τ:Operand→SV}(h:∀x∈l.map (·.2),σ x=τ x):l.map (fun p=>(p.1,σ p.2))=l.map (fun p=>(p.1,τ p.2)):=
 List.map_congr_left fun p hp=>by rw[h p.2 (List.mem_map.2 ⟨p,hp,rfl⟩)]
section
variable{P:Program}{call:ak}{h:Hint}{dst:Nat}{ty:TypeId}
theorem GG(op:Op){σ τ:Operand→SV}(k:Wk)(hx:∀x∈op.operands,σ x=τ x):opE P h dst ty op σ k=opE P h dst ty op τ k:=by
 unfold opE
 cases op <;>simp only[Op.operands]at hx <;>simp only
 case build t ps=>rw[tQ fun x hm=>hx x (by simpa using hm)]
 case buildSlice t n ps=>rw[tQ fun x hm=>hx x (by simpa using hm)]
 case makeFunc fn a c=>rw[gQ (l:=a.toList) fun x hm=>hx x (by simp at hm;simp[hm]),gQ (l:=c.toList) fun x hm=>hx x (by simp at hm;simp[hm])]
 case makeMap t r=>cases r <;>simp_all
 case slice t x lo hi mx=>cases lo <;>cases hi <;>cases mx <;>simp_all
 case load t a=>
  have:=hx a (by simp)
  cases a <;>simp_all
 case call c=>
  obtain⟨callee,args,ats⟩:=c;have ha:args.toList.map σ=args.toList.map τ:=gQ fun x hm=>hx x (by simp at hm;simp[Call.operands,hm])
  cases callee with
  |builtin b=>
   cases b <;>simp only
   all_goals
    generalize args.toList=l at ha hx ⊢
    generalize ats.toList=tl
    match l with
    | []=>rfl
    | [x]=>simp at ha;first |rfl |(simp only[ha];done) |(match tl with | []=>rfl | [_]=>simp only[ha] |_::_::_=>rfl)
    | [x,y]=>simp at ha;first |rfl |(simp only[ha];done) |(obtain⟨h1,h2⟩:=ha;match tl with | []=>rfl | [_]=>rfl | [_,_]=>simp only[h1,h2] |_::_::_::_=>rfl)
    |_::_::_::_=>rfl
  |_=>rfl
 all_goals (first |rfl |(simp_all;done))
theorem hU{u:SV}:(asLoc u).rts=u.rts:=by
 unfold asLoc;split
 ·rfl
 ·rfl
 ·rfl
theorem qV{t:TypeId}{u:SV}{k k2:Wk}(hr:∀r∈u.rts,k2.get r=k.get r):dW P t u k2=dW P t u k:=by
 rw[←hU]at hr
 unfold dW;split
 ·rename_i r p i off he
  rw[he]at hr
  rw[hr r (by simp[SV.rts])]
 ·rfl
 ·rfl
theorem CA{k k2:Wk}{r:Root}{p:aE}{i off:Nat}(hr:k2.get r=k.get r):lM k2 r p i off=lM k r p i off:=by
 unfold lM;rw[hr]
theorem I6{n:Nat}{k k2:Wk}{r:Root}{p:aE}{o m:Nat}(hr:k2.get r=k.get r):lN n r p o m k2=lN n r p o m k:=by
 unfold lN;rw[hr]
theorem y5{t:TypeId}{u:SV}{f:Nat}{k k2:Wk}(hr:∀r∈u.rts,k2.get r=k.get r):cz P t u f k2=cz P t u f k:=by
 rw[←hU]at hr
 unfold cz;congr 1;funext ⟨o,n,_⟩
 simp only
 split
 ·split
  ·rename_i r p i off he
   rw[he]at hr
   rw[CA (hr r (by simp[SV.rts]))]
  ·rfl
  ·rfl
 ·rfl
theorem y6{t:TypeId}{u i:SV}{k k2:Wk}(hr:∀r∈u.rts,k2.get r=k.get r):cy P t u i k2=cy P t u i k:=by
 unfold cy;split
 ·split
  ·split
   ·rfl
   ·rfl
   ·rename_i r p off len
    rw[hr r (by simp[SV.rts])]
   ·rfl
  ·rw[←hU]at hr
   split
   ·rename_i r p j off he
    rw[he]at hr
    rw[CA (hr r (by simp[SV.rts]))]
   ·rfl
   ·rfl
  ·rfl
 ·rfl
theorem GI{t:TypeId}{u:SV}{lo hi mx:Option SV}{k k2:Wk}(hr:∀r∈u.rts,k2.get r=k.get r):fw P t u lo hi mx k2=fw P t u lo hi mx k:=by
 unfold fw;split
 ·rfl
 ·rfl
 ·rfl
 ·rename_i r p off len
  have:∀n o m,lN n r p o m k2=lN n r p o m k:=fun n o m=>I6 (hr r (by simp[SV.rts]))
  simp only[this]
 ·rfl
theorem D8{t:TypeId}{m key:SV}{ok:Bool}{H H2:List Ob}(hr:H2=H∨m.rts.any Root.isO=false):gO P t m key ok H2=gO P t m key ok H:=by
 rcases hr with rfl |hr
 ·rfl
 ·unfold gO
  congr 1;funext ⟨kt,e⟩
  simp only
  split
  ·split
   ·split
    ·rfl
    ·simp[SV.rts,Root.isO]at hr
    ·rfl
   ·rfl
  ·rfl
theorem MR{t:TypeId}{u:SV}{H H2:List Ob}(hr:H2=H∨u.rts.any Root.isO=false):vZ P t H2 u=vZ P t H u:=by
 rcases hr with rfl |hr
 ·rfl
 ·unfold vZ
  split <;>first |rfl |simp[SV.rts,Root.isO]at hr
theorem CB{nv:Nat}{x:D}{k:Wk}:bD nv (.d x) k=some (.d x,k):=by
 simp only[bD,Qi,ar]
theorem zM{nv:Nat}:∀(l:List (Nat×SV)) (k:Wk),l.all (fun p=>isD p.2)=true→∃ps,∀k,bU nv l k=some (ps,k)
 | [],k,_=>⟨[],fun _=>rfl⟩
 |(i,v)::l,k,h=>by
  simp only[List.all_cons,xA]at h
  obtain⟨ps,hp⟩:=zM (nv:=nv) l k h.2
  cases v with
  |d x=>exact⟨(i,.d x)::ps,fun k=>by simp only[bU,CB,xS,hp,xQ]⟩
  |_=>simp[isD]at h
theorem wU{op:Op}{σ:Operand→SV}{k k':Wk}{v:SV}(hc:∀c,op=.call c→∃b,c.callee=.builtin b)(he:cW h dst op=false)(e:opE P h dst ty op σ k=some (v,k')):
  k'=k∧∀k2:Wk,(reads op=true→∀x∈op.operands,∀r∈(σ x).rts,k2.get r=k.get r)→(reads op=true→k2.H=k.H∨∀x∈op.operands,(σ x).rts.any Root.isO=false)→opE P h dst ty op σ k2=some (v,k2):=by
 unfold opE at e ⊢
 cases op <;>simp only[cW,Bool.true_eq_false]at he <;>simp only[Op.operands]at e ⊢
 case move x=>simp only[xJ,pJ]at e;obtain⟨rfl,rfl⟩:=e;exact⟨rfl,fun _ _ _=>rfl⟩
 case pick c a b=>split at e <;>simp only[xJ,pJ,reduceCtorEq]at e;obtain⟨rfl,rfl⟩:=e;exact⟨rfl,fun _ _ _=>rfl⟩
 case build t ps=>simp only[xM,pJ]at e;obtain⟨_,e1,rfl,rfl⟩:=e;exact⟨rfl,fun _ _ _=>by rw[e1];rfl⟩
 case buildSlice t n ps=>
  simp only[Bool.not_eq_false']at he
  rw[he]at e ⊢
  simp only[bN,xB]at e ⊢
  obtain⟨ty,h1,z,h2,⟨p1,k1⟩,h3,e⟩:=e
  split at e
  ·rename_i hh
   simp only[xB,if_true]at e
   obtain⟨es,hes,e⟩:=e
   split at e
   ·rename_i hall
    obtain⟨p2,hp⟩:=zM (nv:=h.nv) _ k hall;rw[hp k]at h3
    simp only[xJ,pJ]at h3
    obtain⟨rfl,rfl⟩:=h3;simp only[xM,pJ]at e
    obtain⟨ds,hds,rfl,rfl⟩:=e
    refine⟨rfl,fun k2 _ _=>⟨ty,h1,z,h2,(p2,k2),hp k2,?_⟩⟩
    simp only
    rw[if_pos hh,hes];simp only[xS,if_true];rw[if_pos hall,hds];rfl
   ·cases e
  ·cases e
 case load t a=>
  cases a with
  |global g=>
   simp only[xB]at e
   obtain⟨d,e0,e⟩:=e
   split at e
   case isFalse=>cases e
   rename_i ho;simp only[xM,pJ]at e
   obtain⟨_,e1,rfl,rfl⟩:=e
   exact⟨rfl,fun k2 _ _=>by simp only[e0,xS];rw[if_pos ho];rw[qV (k:=k) (fun r hr=>by simp[SV.rts]at hr),e1];rfl⟩
  |_=>
   simp only[he,xH,if_false]at e ⊢
   simp only[xM,pJ]at e;obtain⟨_,e1,rfl,rfl⟩:=e
   exact⟨rfl,fun k2 hr _=>by rw[qV (hr rfl _ (by simp)),e1];rfl⟩
 case nilCheck x=>split at e <;>simp only[xJ,pJ,reduceCtorEq]at e <;>(obtain⟨rfl,rfl⟩:=e;first |exact⟨rfl,fun _ _ _=>rfl⟩ |exact⟨rfl,fun _ _ _=>trivial⟩)
 case binOp=>simp only[xM,pJ]at e;obtain⟨_,e1,rfl,rfl⟩:=e;exact⟨rfl,fun _ _ _=>by rw[e1];rfl⟩
 case unOp=>simp only[xM,pJ]at e;obtain⟨_,e1,rfl,rfl⟩:=e;exact⟨rfl,fun _ _ _=>by rw[e1];rfl⟩
 case convert=>simp only[xM,pJ]at e;obtain⟨_,e1,rfl,rfl⟩:=e;exact⟨rfl,fun _ _ _=>by rw[e1];rfl⟩
 case makeFunc f a c=>
  simp only[xB,xM,pJ]at e ⊢
  obtain⟨a1,h1,a2,h2,rfl,rfl⟩:=e
  exact⟨rfl,fun k2 _ _=>⟨a1,h1,a2,h2,by simp⟩⟩
 case slice t x lo hi mx=>
  simp only[xM,pJ]at e;obtain⟨_,e1,rfl,rfl⟩:=e
  exact⟨rfl,fun k2 hr _=>by rw[GI (hr rfl x (by simp)),e1];rfl⟩
 case fieldAddr t x f=>
  simp only[xM,pJ]at e;obtain⟨_,e1,rfl,rfl⟩:=e
  exact⟨rfl,fun k2 hr _=>by rw[y5 (hr rfl x (by simp)),e1];rfl⟩
 case field=>simp only[xM,pJ]at e;obtain⟨_,e1,rfl,rfl⟩:=e;exact⟨rfl,fun _ _ _=>by rw[e1];rfl⟩
 case indexAddr t x i=>
  simp only[xM,pJ]at e;obtain⟨_,e1,rfl,rfl⟩:=e
  exact⟨rfl,fun k2 hr _=>by rw[y6 (hr rfl x (by simp)),e1];rfl⟩
 case index=>simp only[xM,pJ]at e;obtain⟨_,e1,rfl,rfl⟩:=e;exact⟨rfl,fun _ _ _=>by rw[e1];rfl⟩
 case lookup t m key ok=>
  simp only[Bool.or_eq_false_iff]at he
  simp only[he.1,he.2,xH,if_false]at e ⊢
  simp only[xM,pJ]at e;obtain⟨_,e1,rfl,rfl⟩:=e
  exact⟨rfl,fun k2 _ hh=>by rw[D8 ((hh rfl).imp id fun q=>q m (by simp)),e1];rfl⟩
 case extract x n=>
  split at e
  ·simp only[xM,pJ]at e;obtain⟨_,e1,rfl,rfl⟩:=e;exact⟨rfl,fun _ _ _=>by rw[e1];rfl⟩
  ·cases e
 case call c=>
  obtain⟨b,hb⟩:=hc c rfl;obtain⟨callee,args,ats⟩:=c;simp only at hb;subst hb
  cases b <;>simp only[cW,Bool.true_eq_false]at he
  case len=>
   simp only at e ⊢
   split at e
   ·rename_i x t hx ht
    simp only[xM,pJ]at e
    obtain⟨n,e1,rfl,rfl⟩:=e
    refine⟨rfl,fun k2 _ hh=> ?_⟩
    rw[MR ((hh rfl).imp id fun q=>q x ?_),e1]
    ·rfl
    ·have:x∈args:=by rw[←Array.mem_toList_iff,hx];simp
     simp[Call.operands,this]
   ·cases e
  case min=>
   simp only at e ⊢
   split at e
   ·simp only[xM,pJ]at e
    obtain⟨n,e1,rfl,rfl⟩:=e
    exact⟨rfl,fun k2 _ _=>by rw[e1];rfl⟩
   ·cases e
  case max=>
   simp only at e ⊢
   split at e
   ·simp only[xM,pJ]at e
    obtain⟨n,e1,rfl,rfl⟩:=e
    exact⟨rfl,fun k2 _ _=>by rw[e1];rfl⟩
   ·cases e
end
structure Grown(b:Prop)(k k':Wk):Prop where
 ct:∃pre,k'.ct=pre++k.ct
 H:b→k'.H=k.H
theorem Grown.refl(b:Prop)(k:Wk):Grown b k k:=⟨⟨[],rfl⟩,fun _=>rfl⟩
theorem Grown.trans{b:Prop}{k k1 k2:Wk}(x:Grown b k k1)(y:Grown b k1 k2):Grown b k k2:=by
 obtain⟨p,hp⟩:=x.ct;obtain⟨q,hq⟩:=y.ct
 exact⟨⟨q++p,by rw[hq,hp,xK]⟩,fun h=>(y.H h).trans (x.H h)⟩
theorem Grown.tell{b:Prop}{k k':Wk}(h:Grown b k k')(x:Tr):Grown b k (k'.tell x):=⟨h.ct,h.H⟩
theorem Grown.new{b:Prop}{k k':Wk}(h:Grown b k k')(n j:Nat)(t:T):Grown b k (k'.new n j t):=by
 obtain⟨p,hp⟩:=h.ct
 exact⟨⟨((n,j),t)::p,by simp[Wk.new,hp]⟩,h.H⟩
theorem Grown.imp{b c:Prop}{k k':Wk}(h:Grown b k k')(f:c→b):Grown c k k':=⟨h.ct,fun hc=>h.H (f hc)⟩
theorem Grown.set{k k':Wk}{r:Root}{t:T}(h:k.set r t=some k'):Grown (r.isO=false) k k':=by
 cases r with
 |l n j=>simp only[Wk.set,xJ]at h;subst h;exact⟨⟨[((n,j),t)],rfl⟩,fun _=>rfl⟩
 |o n=>
  simp only[Wk.set]at h
  split at h
  ·simp only[xJ]at h;subst h;exact⟨⟨[],rfl⟩,fun h=>by cases h⟩
  ·cases h
abbrev NoO(v:SV):Prop:=v.rts.any Root.isO=false
theorem NoO.bor{r:Root}{p:aE}{o l:Nat}:NoO (.bor r p o l)↔r.isO=false:=by simp[NoO,SV.rts]
theorem NoO.loc{r:Root}{p:aE}{i o:Nat}:NoO (.loc r p i o)↔r.isO=false:=by simp[NoO,SV.rts]
theorem CC{f:Root→Bool}:∀(l:List SV),(SV.rtss l).any f=false↔∀v∈l,v.rts.any f=false
 | []=>by simp[SV.rtss]
 |v::l=>by simp only[SV.rtss,List.any_append,Bool.or_eq_false_iff,CC l,List.forall_mem_cons]
mutual
theorem Tr.noO(x:Tr):∀(v:SV),NoO v→NoO (x.sv v)
 | .d y,h=>by cases x <;>exact h
 | .bor r p o l,h=>by
  rw[NoO.bor]at h
  cases x <;>simp only[Tr.sv] <;>(repeat' split) <;>first |(simp[NoO,SV.rts,Root.isO];done) |(rw[NoO.bor];exact h)
 | .loc r p i o,h=>by
  rw[NoO.loc]at h
  cases x <;>simp only[Tr.sv] <;>(repeat' split) <;>first |(simp[NoO,SV.rts,Root.isO];done) |(rw[NoO.loc];exact h) |simp_all
 | .rp _ _,h=>by cases x <;>exact h
 | .clip _ _,h=>by cases x <;>exact h
 | .ns _,h=>by cases x <;>exact h
 | .dead,h=>by cases x <;>exact h
 | .agg l,h=>by
  have:x.sv (.agg l)=.agg (Tr.svs x l):=by cases x <;>rfl
  rw[this];exact Tr.noOs x l h
 | .tup l,h=>by
  have:x.sv (.tup l)=.tup (Tr.svs x l):=by cases x <;>rfl
  rw[this];exact Tr.noOs x l h
theorem Tr.noOs(x:Tr):∀(l:List SV),(SV.rtss l).any Root.isO=false→(SV.rtss (Tr.svs x l)).any Root.isO=false
 | [],h=>h
 |v::l,h=>by
  simp only[SV.rtss,Tr.svs,List.any_append,Bool.or_eq_false_iff]at h ⊢
  exact⟨Tr.noO x v h.1,Tr.noOs x l h.2⟩
end
theorem qW:∀(a:List Tr) (v:SV),NoO v→NoO (trv a v)
 | [],_,h=>h
 |x::a,v,h=>qW a _ (Tr.noO x v h)
theorem oF{nv:Nat}{v:SV}{k k':Wk}{t:T}(e:ar nv v k=some (t,k')):Grown (NoO v) k k':=by
 cases v with
 |d x=>simp only[ar,xJ,pJ]at e;rw[←e.2];exact .refl _ _
 |clip b l=>simp only[ar,xJ,pJ]at e;rw[←e.2];exact .refl _ _
 |ns b=>simp only[ar,xJ,pJ]at e;rw[←e.2];exact .refl _ _
 |bor r p off len=>
  simp only[ar,xB]at e
  obtain⟨c,_,nd,_,e⟩:=e
  split at e
  ·split at e
   ·split at e
    ·simp only[xM,pJ]at e
     obtain⟨k1,h1,_,rfl⟩:=e
     exact((Grown.set h1).tell _).imp NoO.bor.1
    ·simp only[xB,xM,pJ]at e
     obtain⟨_,_,k1,h1,_,rfl⟩:=e
     exact((Grown.set h1).tell _).imp NoO.bor.1
   ·simp only[xB,xM,pJ]at e
    obtain⟨_,_,_,_,k1,h1,_,rfl⟩:=e
    exact((Grown.set h1).tell _).imp NoO.bor.1
  ·cases e
 |_=>simp[ar]at e
theorem oG{nv:Nat}:∀(l:List SV) {k k':Wk} {ts:List T},cj nv l k=some (ts,k')→Grown (∀v∈l,NoO v) k k'
 | [],k,k',ts,e=>by simp only[cj,xJ,pJ]at e;rw[←e.2];exact .refl _ _
 |v::l,k,k',ts,e=>by
  simp only[cj,xB,xM,pJ]at e
  obtain⟨⟨t,k1⟩,e1,⟨ts',k2⟩,e2,_,rfl⟩:=e
  exact((oF e1).imp fun h=>qW _ _ (h v (by simp))).trans ((oG l e2).imp fun h u hu=>h u (by simp[hu]))
theorem cL{nv:Nat}{v:SV}{k k':Wk}{t:T}(e:bD nv v k=some (t,k')):Grown (NoO v) k k':=by
 by_cases hv:∃l,v=.agg l
 ·obtain⟨l,rfl⟩:=hv
  simp only[bD,xM,pJ]at e
  obtain⟨⟨ts,k1⟩,e1,_,rfl⟩:=e
  exact(oG l e1).imp fun h=>(CC l).1 h
 ·have e':ar nv (trv k.tr v) k=some (t,k'):=by
   revert e hv
   cases v <;>intro e hv <;>first |exact e |exact absurd ⟨_,rfl⟩ hv
  exact(oF e').imp (qW _ _)
theorem oH{nv:Nat}:∀(l:List (Nat×SV)) {k k':Wk} {ts:List (Nat×T)},bU nv l k=some (ts,k')→Grown (∀v∈l,NoO v.2) k k'
 | [],k,k',ts,e=>by simp only[bU,xJ,pJ]at e;rw[←e.2];exact .refl _ _
 |(i,v)::l,k,k',ts,e=>by
  simp only[bU,xB,xM,pJ]at e
  obtain⟨⟨t,k1⟩,e1,⟨ts',k2⟩,e2,_,rfl⟩:=e
  exact((cL e1).imp fun h=>h (i,v) (by simp)).trans ((oH l e2).imp fun h u hu=>h u (by simp[hu]))
theorem oI{nv:Nat}{v:SV}{k k':Wk}{t:T}(e:dB nv v k=some (t,k')):Grown (NoO v) k k':=by
 simp only[dB,xM,pJ]at e
 obtain⟨⟨t0,k0⟩,e,rfl,rfl⟩:=e;exact cL e
theorem GJ{v:SV}(h:NoO v):NoO (asLoc v):=by rw[NoO,hU];exact h
section
variable{P:Program}{h:Hint}{dst:Nat}{ty:TypeId}
theorem AL{nv:Nat}{t:TypeId}{a v:SV}{k k':Wk}(e:gB P nv t a v k=some k'):Grown (NoO a∧NoO v) k k':=by
 simp only[gB,xB]at e
 obtain⟨⟨x,k1⟩,e1,e⟩:=e;have g1:=(oI e1).imp (c:=NoO a∧NoO v) (·.2);simp only at e
 split at e
 ·rename_i r p i off hl
  split at e
  ·simp only[xB]at e
   obtain⟨c,_,nd,_,e⟩:=e
   split at e
   ·simp only[xB]at e
    obtain⟨el,_,e⟩:=e
    split at e
    ·simp only[xB,xM]at e
     obtain⟨c',_,k2,h2,rfl⟩:=e
     have hr:NoO a∧NoO v→r.isO=false:=fun q=>by
      have:=GJ (qW k1.tr a q.1)
      rw[hl]at this
      exact NoO.loc.1 this
     have g2:=g1.trans ((Grown.set h2).imp hr);split
     ·exact g2.tell _
     ·exact g2
    ·cases e
   ·cases e
  ·cases e
 ·cases e
theorem CE{nv:Nat}{v:SV}{k k':Wk}{l:List T}(e:dj nv v k=some (l,k')):Grown True k k':=by
 cases v with
 |d x=>cases x <;>simp only[dj,xJ,pJ,reduceCtorEq]at e <;>(rw[←e.2];exact .refl _ _)
 |clip b l=>simp only[dj,xJ,pJ]at e;rw[←e.2];exact .refl _ _
 |ns b=>simp only[dj,xJ,pJ]at e;rw[←e.2];exact .refl _ _
 |bor r p off len=>
  simp only[dj,xB]at e
  obtain⟨c,_,nd,_,e⟩:=e
  split at e
  ·split at e
   ·split at e
    ·simp only[xM,pJ]at e
     obtain⟨k1,h1,_,rfl⟩:=e
     exact((Grown.set h1).imp fun _=>rfl).tell _
    ·split at e
     ·simp only[xJ,pJ]at e;rw[←e.2];exact .refl _ _
     ·cases e
   ·split at e
    ·simp only[xJ,pJ]at e;rw[←e.2];exact .refl _ _
    ·cases e
  ·cases e
 |_=>simp[dj]at e
theorem y7{nv:Nat}{t:TypeId}{s x v:SV}{k k':Wk}(e:eo P nv dst t s x k=some (v,k')):Grown (NoO s) k k':=by
 simp only[eo,oz,xB]at e
 obtain⟨ety,_,z,_,⟨news,k1⟩,e1,e⟩:=e;have g1:=(CE e1).imp (c:=NoO s) fun _=>trivial
 split at e
 ·simp only[xB]at e
  obtain⟨⟨olds,k2⟩,e2,e⟩:=e
  have g2:Grown (NoO s) k1 k2:=by
   split at e2
   ·simp only[xJ,pJ]at e2;rw[←e2.2];exact .refl _ _
   ·simp only[xJ,pJ]at e2;rw[←e2.2];exact .refl _ _
   ·rename_i r p off len hs
    split at e2
    ·simp only[xB]at e2
     obtain⟨c,_,nd,_,e2⟩:=e2
     split at e2
     ·split at e2
      ·simp only[xB,xM,pJ]at e2
       obtain⟨c',_,k3,h3,_,rfl⟩:=e2
       refine((Grown.set h3).imp fun q=> ?_).tell _
       have:=qW k1.tr s q
       rw[hs]at this
       exact NoO.bor.1 this
      ·cases e2
     ·cases e2
    ·cases e2
   ·cases e2
  simp only at e
  split at e
  ·simp only[xJ,pJ]at e
   rw[←e.2]
   exact(g1.trans g2).new _ _ _
  ·cases e
 ·cases e
theorem I7{t:TypeId}{m x v:SV}{k k':Wk}(e:v8 P dst t m x k=some (v,k')):∃pre,k'.ct=pre++k.ct:=by simp[v8]at e
theorem CF{t:TypeId}{m x v:SV}{k k':Wk}(e:ig P t m x k=some (v,k')):k'.ct=k.ct:=by simp[ig]at e
theorem I8{v u:SV}{k k':Wk}(e:ow dst v k=some (u,k')):∃pre,k'.ct=pre++k.ct:=by
 unfold ow at e
 split at e
 ·simp only[xB]at e
  obtain⟨c,_,nd,_,e⟩:=e
  split at e
  ·split at e
   ·simp only[xB,xM,pJ]at e
    obtain⟨c',_,k1,h1,_,rfl⟩:=e;obtain⟨pre,hp⟩:=(Grown.set h1).ct
    exact⟨_::pre,congrArg (List.cons _) hp⟩
   ·cases e
  ·cases e
 ·cases e
theorem oJ{b:Bool}{x:SV}{k k':Wk}{v:SV}(e:bm dst b x k=some (v,k')):Grown True k k':=by
 unfold bm at e
 split at e
 ·split at e <;>simp only[xJ,pJ]at e <;>rw[←e.2]
  ·exact(Grown.refl _ _).new _ _ _
  ·exact .refl _ _
 ·split at e
  ·simp only[xJ,pJ]at e;rw[←e.2];exact .refl _ _
  ·simp only[xB]at e
   obtain⟨c,_,e⟩:=e
   split at e
   ·split at e <;>simp only[xJ,pJ]at e <;>rw[←e.2]
    ·refine(Grown.new ?_ _ _ _).tell _
     exact⟨⟨[_],rfl⟩,fun _=>rfl⟩
    ·exact .refl _ _
   ·cases e
 ·simp only[xJ,pJ]at e;rw[←e.2];exact .refl _ _
theorem GK{op:Op}{σ:Operand→SV}{k k':Wk}{v:SV}(e:opE P h dst ty op σ k=some (v,k')):Grown (hOf h dst op=false∧∀x∈op.operands,NoO (σ x)) k k':=by
 unfold opE at e
 cases op <;>simp only at e
 case move x=>simp only[xJ,pJ]at e;rw[←e.2];exact .refl _ _
 case assign x=>exact(oJ e).imp fun _=>trivial
 case pick c a b=>split at e <;>simp only[xJ,pJ,reduceCtorEq]at e;rw[←e.2];exact .refl _ _
 case alloc t=>
  simp only[xB]at e
  obtain⟨z,_,e⟩:=e;unfold wb at e
  split at e
  ·cases e
  ·split at e <;>simp only[xJ,pJ]at e <;>rw[←e.2]
   ·rename_i hc;exact⟨⟨[],rfl⟩,fun q=>by simp[hOf,hc]at q;exact absurd hc (by simp[q.1])⟩
   ·exact(Grown.refl _ _).new _ _ _
 case box t x=>
  simp only[xB]at e
  obtain⟨⟨y,k1⟩,e1,e⟩:=e;have g1:=oI e1;simp only at e
  split at e
  ·unfold wb at e
   split at e
   ·cases e
   ·split at e <;>simp only[xJ,pJ]at e <;>rw[←e.2]
    ·rename_i hc;exact⟨g1.ct,fun q=>by simp[hOf,hc]at q;exact absurd hc (by simp[q.1])⟩
    ·exact(g1.imp fun q=>q.2 x (by simp[Op.operands])).new _ _ _
  ·cases e
 case build t ps=>simp only[xM,pJ]at e;obtain⟨_,_,_,rfl⟩:=e;exact .refl _ _
 case buildSlice t n ps=>
  simp only[bN,xB]at e
  obtain⟨ety,_,z,_,⟨p1,k1⟩,h3,e⟩:=e
  have g1:=(oH _ h3).imp (c:=hOf h dst (.buildSlice t n ps)=false∧∀x∈(Op.buildSlice t n ps).operands,NoO (σ x)) (fun q u hu=>by
   simp only[List.mem_map]at hu
   obtain⟨p,hp,rfl⟩:=hu
   exact q.2 p.2 (by simp only[Op.operands,List.mem_toArray,List.mem_map];exact⟨p,hp,rfl⟩))
  split at e
  ·simp only[xB]at e
   obtain⟨es,_,e⟩:=e
   split at e
   ·split at e
    ·simp only[xM,pJ]at e;obtain⟨_,_,_,rfl⟩:=e;exact g1
    ·cases e
   ·simp only[xJ,pJ]at e;rw[←e.2];exact g1.new _ _ _
  ·cases e
 case load t a=>
  cases a with
  |global g=>
   simp only[xB]at e
   obtain⟨_,_,e⟩:=e
   split at e
   ·simp only[xM,pJ]at e
    obtain⟨_,_,_,rfl⟩:=e;exact .refl _ _
   ·cases e
  |_=>
   simp only at e
   split at e
   ·simp only[xB]at e
    obtain⟨u,_,e⟩:=e
    exact⟨I8 e,fun q=>by simp[hOf]at q⟩
   ·simp only[xM,pJ]at e;obtain⟨_,_,_,rfl⟩:=e;exact .refl _ _
 case range t x=>
  refine⟨?_,fun q=>by simp[hOf]at q⟩
  unfold mf at e
  split at e
  ·simp only[xJ,pJ]at e;rw[←e.2];exact⟨[],rfl⟩
  ·simp only[xJ,pJ]at e;rw[←e.2];exact⟨[],rfl⟩
  ·split at e
   ·simp only[xJ,pJ]at e;rw[←e.2];exact⟨[],rfl⟩
   ·cases e
  ·cases e
 case next x str=>
  refine⟨?_,fun q=>by simp[hOf]at q⟩
  unfold tF at e
  split at e
  ·split at e
   ·split at e
    ·simp only[xJ,pJ]at e;rw[←e.2];exact⟨[],rfl⟩
    ·simp only[xJ,pJ]at e;rw[←e.2];exact⟨[],rfl⟩
   ·simp only[xJ,pJ]at e;rw[←e.2];exact⟨[],rfl⟩
   ·split at e
    ·simp only[xJ,pJ]at e;rw[←e.2];exact⟨[],rfl⟩
    ·cases e
   ·cases e
  ·cases e
 case store t a x=>
  simp only[xM,pJ]at e
  obtain⟨k1,e1,_,rfl⟩:=e
  exact(AL e1).imp fun q=>⟨q.2 a (by simp[Op.operands]),q.2 x (by simp[Op.operands])⟩
 case nilCheck x=>split at e <;>simp only[xJ,pJ,reduceCtorEq]at e <;>(rw[←e.2];exact .refl _ _)
 case makeMap t r=>
  cases r with
  |none=>simp only[xJ,pJ]at e;rw[←e.2];exact⟨⟨[],rfl⟩,fun q=>by simp[hOf]at q⟩
  |some n=>
   simp only at e
   split at e
   ·simp only[xJ,pJ]at e;rw[←e.2];exact⟨⟨[],rfl⟩,fun q=>by simp[hOf]at q⟩
   ·cases e
 case makeSlice t l c=>
  unfold v7 at e
  split at e
  ·simp only[xB]at e
   obtain⟨_,_,_,_,e⟩:=e
   split at e
   ·simp only[xJ,pJ]at e;rw[←e.2];exact(Grown.refl _ _).new _ _ _
   ·cases e
  ·cases e
 case makeFunc f a c=>
  simp only[xB,xM,pJ]at e
  obtain⟨_,_,_,_,_,rfl⟩:=e;exact .refl _ _
 case extract x n=>
  split at e
  ·simp only[xM,pJ]at e;obtain⟨_,_,_,rfl⟩:=e;exact .refl _ _
  ·cases e
 case lookup t m key ok=>
  refine⟨?_,fun q=>by simp[hOf]at q⟩
  split at e
  ·split at e
   ·cases e
   ·exact I7 e
  split at e
  ·split at e
   ·cases e
   ·exact⟨[],by simpa using CF e⟩
  simp only[xM,pJ]at e
  obtain⟨_,_,_,rfl⟩:=e
  exact⟨[],rfl⟩
 case mapUpdate t m key x=>
  simp only[xM,pJ]at e
  obtain⟨k1,e1,_,rfl⟩:=e;simp only[cD,xB]at e1
  obtain⟨⟨kt,_⟩,_,e1⟩:=e1
  refine⟨?_,fun q=>by simp[hOf]at q⟩
  simp only at e1
  split at e1
  ·split at e1
   ·simp only[xB]at e1
    obtain⟨⟨y,k2⟩,e2,e1⟩:=e1;simp only at e1
    split at e1
    ·simp only[xM]at e1
     obtain⟨_,_,rfl⟩:=e1
     exact(cL e2).ct
    ·simp only[xM]at e1
     obtain⟨_,_,rfl⟩:=e1
     exact(cL e2).ct
    ·simp only[xM]at e1
     obtain⟨_,_,rfl⟩:=e1
     exact(cL e2).ct
    ·cases e1
   ·cases e1
  ·cases e1
 case insert t m key x=>
  simp only[xM,pJ]at e
  obtain⟨k1,e1,_,rfl⟩:=e;simp only[cD,xB]at e1
  obtain⟨⟨kt,_⟩,_,e1⟩:=e1
  refine⟨?_,fun q=>by simp[hOf]at q⟩
  simp only at e1
  split at e1
  ·split at e1
   ·simp only[xB]at e1
    obtain⟨⟨y,k2⟩,e2,e1⟩:=e1;simp only at e1
    split at e1
    ·simp only[xM]at e1
     obtain⟨_,_,rfl⟩:=e1
     exact(cL e2).ct
    ·simp only[xM]at e1
     obtain⟨_,_,rfl⟩:=e1
     exact(cL e2).ct
    ·simp only[xM]at e1
     obtain⟨_,_,rfl⟩:=e1
     exact(cL e2).ct
    ·cases e1
   ·cases e1
  ·cases e1
 case call c=>
  obtain⟨callee,args,ats⟩:=c
  cases callee with
  |builtin b=>
   cases b <;>simp only[reduceCtorEq]at e
   case len=>
    split at e
    ·simp only[xM,pJ]at e;obtain⟨_,_,_,rfl⟩:=e;exact .refl _ _
    ·cases e
   case min=>
    split at e
    ·simp only[xM,pJ]at e;obtain⟨_,_,_,rfl⟩:=e;exact .refl _ _
    ·cases e
   case max=>
    split at e
    ·simp only[xM,pJ]at e;obtain⟨_,_,_,rfl⟩:=e;exact .refl _ _
    ·cases e
   case append=>
    split at e
    ·rename_i x y t u hx ht
     split at e
     ·refine(y7 e).imp fun q=>q.2 x ?_
      have:x∈args:=by rw[←Array.mem_toList_iff,hx];simp
      simp[Op.operands,Call.operands,this]
     ·cases e
    ·cases e
  |_=>simp at e
 all_goals first |(cases e;done) |(simp only[xM,pJ]at e;obtain⟨_,_,_,rfl⟩:=e;exact .refl _ _)
theorem tR{nv:Nat}{v:SV}{k k':Wk}{b b':Lend}{x:D}(e:bH nv v k b=some (x,k',b')):Grown True k k':=by
 cases v with
 |d x=>simp only[bH,xJ,pJ]at e;rw[←e.2.1];exact .refl _ _
 |clip t l=>simp only[bH,xJ,pJ]at e;rw[←e.2.1];exact .refl _ _
 |ns b=>simp only[bH,xJ,pJ]at e;rw[←e.2.1];exact .refl _ _
 |bor r p off len=>
  simp only[bH,xB]at e
  obtain⟨c,_,nd,_,e⟩:=e
  split at e
  ·split at e
   ·simp only[xJ,pJ]at e;rw[←e.2.1];exact .refl _ _
   split at e
   ·split at e
    ·simp only[xB,xM,pJ]at e
     obtain⟨l,_,k1,h1,_,rfl,_⟩:=e
     exact((Grown.set h1).imp fun _=>rfl).tell _
    ·simp only[xM,pJ]at e;obtain⟨_,_,_,rfl,_⟩:=e;exact .refl _ _
   ·simp only[xM,pJ]at e;obtain⟨_,_,_,rfl,_⟩:=e;exact .refl _ _
   ·simp only[xM,pJ]at e;obtain⟨_,_,_,rfl,_⟩:=e;exact .refl _ _
  ·cases e
 |_=>simp[bH]at e
theorem tS{nv:Nat}:∀(l:List SV) {k k':Wk} {b b':Lend} {xs:List D},ft nv l k b=some (xs,k',b')→Grown True k k'
 | [],k,k',b,b',xs,e=>by simp only[ft,xJ,pJ]at e;rw[←e.2.1];exact .refl _ _
 |v::l,k,k',b,b',xs,e=>by
  simp only[ft,xB,xM,pJ]at e
  obtain⟨⟨x,k1,b1⟩,e1,⟨ys,k2,b2⟩,e2,_,rfl,_⟩:=e
  exact(tR e1).trans (tS l e2)
theorem D9{nv:Nat}{v:SV}{k k':Wk}{b b':Lend}{x:D}(e:om nv v k b=some (x,k',b')):Grown True k k':=by
 by_cases hv:∃l,v=.agg l
 ·obtain⟨l,rfl⟩:=hv
  simp only[om,xM,pJ]at e
  obtain⟨⟨xs,k1,b1⟩,e1,_,rfl,_⟩:=e;exact tS l e1
 ·have e':bH nv (trv k.tr v) k b=some (x,k',b'):=by
   revert e hv
   cases v <;>intro e hv <;>first |exact e |exact absurd ⟨_,rfl⟩ hv
  exact tR e'
theorem mr{nv:Nat}:∀(l:List SV) {k k':Wk} {b b':Lend} {xs:List D},dp nv l k b=some (xs,k',b')→Grown True k k'
 | [],k,k',b,b',xs,e=>by simp only[dp,xJ,pJ]at e;rw[←e.2.1];exact .refl _ _
 |v::l,k,k',b,b',xs,e=>by
  simp only[dp,xB,xM,pJ]at e
  obtain⟨⟨x,k1,b1⟩,e1,⟨ys,k2,b2⟩,e2,_,rfl,_⟩:=e
  exact(D9 e1).trans (mr l e2)
theorem jn{j j':Nat}{t:T}{k k':Wk}{v:SV}(e:bV dst j t k=some (v,j',k')):Grown True k k':=by
 cases t <;>simp only[bV,xJ,pJ,reduceCtorEq]at e <;>rw[←e.2.2]
 ·exact .refl _ _
 ·exact(Grown.refl _ _).new _ _ _
theorem mu:∀(l:List T) {j j':Nat} {k k':Wk} {vs:List SV},bO dst j l k=some (vs,j',k')→Grown True k k'
 | [],j,j',k,k',vs,e=>by simp only[bO,xJ,pJ]at e;rw[←e.2.2];exact .refl _ _
 |t::l,j,j',k,k',vs,e=>by
  simp only[bO,xB,xM,pJ]at e
  obtain⟨⟨v,j1,k1⟩,e1,⟨ws,j2,k2⟩,e2,_,_,rfl⟩:=e
  exact(jn e1).trans (mu l e2)
theorem Ea{j j':Nat}{t:T}{k k':Wk}{v:SV}(e:eU dst j t k=some (v,j',k')):Grown True k k':=by
 cases t with
 |agg ts=>
  simp only[eU,xM,pJ]at e
  obtain⟨⟨vs,j1,k1⟩,e1,_,_,rfl⟩:=e;exact mu ts e1
 |d x=>exact jn (dst:=dst) (t:=.d x) e
 |own es=>exact jn (dst:=dst) (t:=.own es) e
 |dead=>simp[eU,bV]at e
theorem qX:∀(l:List T) {j:Nat} {k k':Wk} {vs:List SV},cS dst j l k=some (vs,k')→Grown True k k'
 | [],j,k,k',vs,e=>by simp only[cS,xJ,pJ]at e;rw[←e.2];exact .refl _ _
 |t::l,j,k,k',vs,e=>by
  simp only[cS,xB,xM,pJ]at e
  obtain⟨⟨v,j1,k1⟩,e1,⟨ws,k2⟩,e2,_,rfl⟩:=e
  exact(Ea e1).trans (qX l e2)
theorem wV{rs:List T}{k k':Wk}{v:SV}(e:iT dst rs k=some (v,k')):Grown True k k':=by
 simp only[iT,xM,pJ]at e
 obtain⟨⟨vs,k1⟩,e1,_,rfl⟩:=e;exact qX rs e1
theorem kK{call:ak}{f:FuncId}{ds:List D}{b:Lend}{k k':Wk}{v:SV}(e:aU call h dst f ds b k=some (v,k')):Grown (h.keep.contains dst=true) k k':=by
 unfold aU at e
 split at e
 ·simp only[xB]at e
  obtain⟨⟨rs,H2⟩,_,e⟩:=e;simp only at e
  split at e
  ·exact(wV e).imp fun _=>trivial
  ·cases e
 split at e
 ·cases e
 ·rename_i hk
  simp only[xB]at e
  obtain⟨⟨rs,H2⟩,_,e⟩:=e;simp only at e
  split at e
  ·exact⟨(wV e).ct,fun q=>absurd q hk⟩
  ·cases e
theorem tT{call:ak}{f:FuncId}{ds:List D}{b:Lend}{k k':Wk}{v:SV}(e:cF call h dst f ds b k=some (v,k')):Grown (h.keep.contains dst=true) k k':=by
 unfold cF at e
 split at e
 ·simp only[xB]at e
  obtain⟨_,_,e⟩:=e;exact kK e
 ·split at e
  ·exact kK e
  ·exact kK e
theorem CG{call:ak}{op:Op}{σ:Operand→SV}{k k':Wk}{v:SV}(e:am P call h dst ty op σ k=some (v,k')):Grown (hOf h dst op=false∧(pK op=true→∀x∈op.operands,NoO (σ x))) k k':=by
 unfold am at e
 split at e
 ·rename_i f args ats
  split at e
  ·split at e
   ·cases e
   split at e
   ·simp only[xB,xM,pJ]at e
    obtain⟨_,_,_,_,_,rfl⟩:=e;exact .refl _ _
   simp only[xB]at e
   obtain⟨⟨ds,k1,b⟩,e1,r,e2,e3⟩:=e;obtain⟨rfl,_⟩:=kJ e3
   refine((mr _ e1).imp fun _=>trivial).trans ((tT e2).imp fun q=> ?_)
   simpa [hOf]using q.1
  ·simp only[xB]at e
   obtain⟨⟨ds,k1,b⟩,e1,r,e2,e3⟩:=e;obtain⟨rfl,_⟩:=kJ e3
   refine((mr _ e1).imp fun _=>trivial).trans ((tT e2).imp fun q=> ?_)
   simpa [hOf]using q.1
  ·cases e
 ·rename_i hne
  by_cases ha:∃x,op=.assign x
  ·obtain⟨x,rfl⟩:=ha
   exact(oJ e).imp fun _=>trivial
  refine(GK e).imp fun q=>⟨q.1,q.2 ?_⟩
  unfold pK;split
  ·exact absurd rfl (hne _ _ _)
  ·exact absurd ⟨_,rfl⟩ ha
  ·rfl
end
structure Sm(Z:Root→Prop)(b:Bool)(k k':Wk):Prop where
 get:∀r,¬Z r→k'.get r=k.get r
 H:b=true→k'.H=k.H
 tr:k'.tr=k.tr
 nr:k.tr.any Tr.isRen=false
 obj:b=false→∀n,Z (.o n)
structure Par(b:Bool)(k k' k1 k1':Wk):Prop where
 ct:∃pre,k1.ct=pre++k.ct∧k1'.ct=pre++k'.ct
 H:b=true→k1'.H=k1.H
 Hs:b=false→k1.H=k.H∧k1'.H=k'.H
 tr:k1'.tr=k1.tr
section
variable{Z:Root→Prop}{b:Bool}{k k' k1 k1' k2 k2':Wk}
theorem Par.refl(s:Sm Z b k k'):Par b k k' k k':=⟨⟨[],rfl,rfl⟩,s.H,fun _=>⟨rfl,rfl⟩,s.tr⟩
theorem Par.trans(x:Par b k k' k1 k1')(y:Par b k1 k1' k2 k2'):Par b k k' k2 k2':=by
 obtain⟨p,h1,h2⟩:=x.ct;obtain⟨q,h3,h4⟩:=y.ct
 exact⟨⟨q++p,by rw[h3,h1,xK],by rw[h4,h2,xK]⟩,y.H,fun h=>⟨(y.Hs h).1.trans (x.Hs h).1,(y.Hs h).2.trans (x.Hs h).2⟩,y.tr⟩
theorem dQ(p l:List ((Nat×Nat)×T))(x:Nat×Nat):aZ (p++l) x=(aZ p x).or (aZ l x):=by
 induction p with
 |nil=>simp[aZ]
 |cons a p ih=>obtain⟨y,t⟩:=a;simp only[List.cons_append,aZ];split <;>simp[ih]
theorem Sm.next(s:Sm Z b k k')(p:Par b k k' k1 k1')(hn:k1.tr.any Tr.isRen=false):Sm Z b k1 k1':=by
 obtain⟨pre,h1,h2⟩:=p.ct
 refine⟨fun r hr=> ?_,p.H,p.tr,hn,s.obj⟩
 cases r with
 |l n j=>
  have:=s.get _ hr
  simp only[Wk.get,Go.Am.cont]at this ⊢
  rw[h1,h2,dQ,dQ,this]
 |o n=>
  cases b with
  |true=>simp only[Wk.get,Go.Am.cont,p.H rfl]
  |false=>exact absurd (s.obj rfl n) hr
theorem Par.tell(p:Par b k k' k1 k1')(x:Tr):Par b k k' (k1.tell x) (k1'.tell x):=⟨p.ct,p.H,p.Hs,by simp[Wk.tell,p.tr]⟩
theorem Par.new(p:Par b k k' k1 k1')(n j:Nat)(t:T):Par b k k' (k1.new n j t) (k1'.new n j t):=by
 obtain⟨pre,h1,h2⟩:=p.ct
 exact⟨⟨((n,j),t)::pre,by simp[Wk.new,h1],by simp[Wk.new,h2]⟩,p.H,p.Hs,by simp[Wk.new,p.tr]⟩
theorem MS(s:Sm Z b k k'){r:Root}(hr:¬Z r){t:T}(e:k.set r t=some k1):∃k1',k'.set r t=some k1'∧Par b k k' k1 k1'∧k1.tr=k.tr:=by
 cases r with
 |l n j=>
  simp only[Wk.set,xJ]at e
  subst e
  exact⟨_,rfl,⟨⟨[((n,j),t)],rfl,rfl⟩,s.H,fun _=>⟨rfl,rfl⟩,s.tr⟩,rfl⟩
 |o n=>
  cases b with
  |false=>exact absurd (s.obj rfl n) hr
  |true=>
   simp only[Wk.set]at e ⊢
   split at e
   ·simp only[xJ]at e
    subst e
    exact⟨_,rfl,⟨⟨[],rfl,rfl⟩,fun _=>by simp[s.H rfl],by simp,s.tr⟩,rfl⟩
   ·cases e
mutual
theorem Tr.rts_le(x:Tr)(hx:x.isRen=false):∀(v:SV),∀r∈(x.sv v).rts,r∈v.rts
 | .d y,r,hr=>by cases x <;>exact hr
 | .rp _ _,r,hr=>by cases x <;>exact hr
 | .clip _ _,r,hr=>by cases x <;>exact hr
 | .ns _,r,hr=>by cases x <;>exact hr
 | .dead,r,hr=>by cases x <;>exact hr
 | .bor q p o m,r,hr=>by
  cases x with
  |ren a b=>simp[Tr.isRen]at hx
  |_=>simp only[Tr.sv]at hr;(repeat' split at hr) <;>simp[SV.rts]at hr ⊢ <;>exact hr
 | .loc q p i o,r,hr=>by
  cases x with
  |ren a b=>simp[Tr.isRen]at hx
  |_=>simp only[Tr.sv]at hr;(repeat' split at hr) <;>simp[SV.rts]at hr ⊢ <;>exact hr
 | .agg l,r,hr=>by
  have e:x.sv (.agg l)=.agg (Tr.svs x l):=by cases x <;>rfl
  rw[e]at hr
  exact Tr.rtss_le x hx l r hr
 | .tup l,r,hr=>by
  have e:x.sv (.tup l)=.tup (Tr.svs x l):=by cases x <;>rfl
  rw[e]at hr
  exact Tr.rtss_le x hx l r hr
theorem Tr.rtss_le(x:Tr)(hx:x.isRen=false):∀(l:List SV),∀r∈SV.rtss (Tr.svs x l),r∈SV.rtss l
 | [],r,hr=>hr
 |v::l,r,hr=>by
  simp only[Tr.svs,SV.rtss,xD]at hr ⊢
  rcases hr with hr |hr
  ·exact .inl (Tr.rts_le x hx v r hr)
  ·exact .inr (Tr.rtss_le x hx l r hr)
end
theorem wW:∀(a:List Tr),a.any Tr.isRen=false→∀(v:SV),∀r∈(trv a v).rts,r∈v.rts
 | [],_,_,_,hr=>hr
 |x::a,h,v,r,hr=>by
  simp only[List.any_cons,Bool.or_eq_false_iff]at h
  exact Tr.rts_le x h.1 v r (wW a h.2 _ r hr)
abbrev Off(Z:Root→Prop)(v:SV):Prop:=∀r∈v.rts,¬Z r
theorem Off.trv{v:SV}(h:Off Z v){a:List Tr}(ha:a.any Tr.isRen=false):Off Z (trv a v):=fun r hr=>h r (wW a ha v r hr)
theorem Off.bor{r:Root}{p:aE}{o l:Nat}(h:Off Z (.bor r p o l)):¬Z r:=h r (by simp[SV.rts])
theorem Off.loc{r:Root}{p:aE}{i o:Nat}(h:Off Z (.loc r p i o)):¬Z r:=h r (by simp[SV.rts])
theorem Off.asLoc{v:SV}(h:Off Z v):Off Z (asLoc v):=by unfold Off;rw[hU];exact h
theorem Off.mem{l:List SV}(h:Off Z (.agg l)){v:SV}(hv:v∈l):Off Z v:=fun r hr=>h r (by
 show r∈SV.rtss l
 induction l with
 |nil=>cases hv
 |cons a l ih=>
  simp only[SV.rtss,xD]
  rcases List.mem_cons.1 hv with rfl |hv
  ·exact .inl hr
  ·exact .inr (ih (fun r hr=>h r (by show r∈SV.rtss (a::l);simp only[SV.rtss,xD];exact .inr hr)) hv))
def Step1(Z:Root→Prop)(b:Bool)(k k' k1 k1':Wk):Prop:=Par b k k' k1 k1'∧k1.tr.any Tr.isRen=false
theorem Step1.refl(s:Sm Z b k k'):Step1 Z b k k' k k':=⟨Par.refl s,s.nr⟩
theorem Step1.trans(x:Step1 Z b k k' k1 k1')(y:Step1 Z b k1 k1' k2 k2'):Step1 Z b k k' k2 k2':=⟨x.1.trans y.1,y.2⟩
theorem Sm.step(s:Sm Z b k k')(x:Step1 Z b k k' k1 k1'):Sm Z b k1 k1':=s.next x.1 x.2
theorem Step1.tell(x:Step1 Z b k k' k1 k1'){t:Tr}(ht:t.isRen=false):Step1 Z b k k' (k1.tell t) (k1'.tell t):=⟨x.1.tell t,by simp[Wk.tell,x.2,ht]⟩
theorem Step1.new(x:Step1 Z b k k' k1 k1')(n j:Nat)(t:T):Step1 Z b k k' (k1.new n j t) (k1'.new n j t):=⟨x.1.new n j t,by simp[Wk.new,x.2,Tr.isRen]⟩
theorem CH(s:Sm Z b k k'){r:Root}(hr:¬Z r){t:T}(e:k.set r t=some k1):∃k1',k'.set r t=some k1'∧Step1 Z b k k' k1 k1':=by
 obtain⟨k1',h1,h2,h3⟩:=MS s hr e
 exact⟨k1',h1,h2,by rw[h3];exact s.nr⟩
theorem tU(s:Sm Z b k k'){nv:Nat}{v:SV}{t:T}(ho:Off Z v)(e:ar nv v k=some (t,k1)):∃k1',ar nv v k'=some (t,k1')∧Step1 Z b k k' k1 k1':=by
 cases v with
 |d x=>simp only[ar,xJ,pJ]at e ⊢;obtain⟨rfl,rfl⟩:=e;exact⟨k',⟨rfl,rfl⟩,.refl s⟩
 |clip c l=>simp only[ar,xJ,pJ]at e ⊢;obtain⟨rfl,rfl⟩:=e;exact⟨k',⟨rfl,rfl⟩,.refl s⟩
 |ns b=>simp only[ar,xJ,pJ]at e ⊢;obtain⟨rfl,rfl⟩:=e;exact⟨k',⟨rfl,rfl⟩,.refl s⟩
 |bor r p off len=>
  simp only[ar,s.get r ho.bor,xB]at e ⊢
  obtain⟨c,hc,nd,hnd,e⟩:=e
  split at e
  ·rename_i es
   split at e
   ·split at e
    ·rename_i n j hcond
     simp only[xM,pJ]at e
     obtain⟨k2,h1,rfl,rfl⟩:=e;obtain⟨k2',h2,h3⟩:=CH s ho.bor h1
     exact⟨_,⟨c,hc,_,hnd,by simp only;rw[if_pos hcond,h2];rfl⟩,h3.tell rfl⟩
    ·rename_i n j hcond
     simp only[xB,xM,pJ]at e
     obtain⟨l,hl,k2,h1,rfl,rfl⟩:=e;obtain⟨k2',h2,h3⟩:=CH s ho.bor h1
     exact⟨_,⟨c,hc,_,hnd,by simp only;rw[if_neg hcond,hl];simp only[xS,h2,xQ]⟩,h3.tell rfl⟩
   ·rename_i r0 p0 hne
    simp only[xB,xM,pJ]at e
    obtain⟨l,hl,c',hc',k2,h1,rfl,rfl⟩:=e;obtain⟨k2',h2,h3⟩:=CH s ho.bor h1
    refine⟨_,⟨c,hc,_,hnd,?_⟩,h3.tell rfl⟩
    simp only[hl,xS,hc',h2,xQ]
  ·cases e
 |_=>simp[ar]at e
theorem tV{nv:Nat}:∀(l:List SV) {k k' k1:Wk} {ts:List T},Sm Z b k k'→(∀v∈l,Off Z v)→cj nv l k=some (ts,k1)→∃k1',cj nv l k'=some (ts,k1')∧Step1 Z b k k' k1 k1'
 | [],k,k',k1,ts,s,_,e=>by simp only[cj,xJ,pJ]at e ⊢;obtain⟨rfl,rfl⟩:=e;exact⟨k',⟨rfl,rfl⟩,.refl s⟩
 |v::l,k,k',k1,ts,s,ho,e=>by
  simp only[cj,xB,xM,pJ]at e
  obtain⟨⟨t,k2⟩,e1,⟨ts',k3⟩,e2,rfl,rfl⟩:=e;obtain⟨k2',h1,h2⟩:=tU s ((ho v (by simp)).trv s.nr) e1
  obtain⟨k3',h3,h4⟩:=tV l (s.step h2) (fun u hu=>ho u (by simp[hu])) e2
  exact⟨k3',by simp only[cj,s.tr,h1,xS,h3,xQ],h2.trans h4⟩
theorem kL(s:Sm Z b k k'){nv:Nat}{v:SV}{t:T}(ho:Off Z v)(e:bD nv v k=some (t,k1)):∃k1',bD nv v k'=some (t,k1')∧Step1 Z b k k' k1 k1':=by
 by_cases hv:∃l,v=.agg l
 ·obtain⟨l,rfl⟩:=hv
  simp only[bD,xM,pJ]at e
  obtain⟨⟨ts,k2⟩,e1,rfl,rfl⟩:=e;obtain⟨k2',h1,h2⟩:=tV l s (fun v hv=>ho.mem hv) e1
  exact⟨k2',by simp only[bD,h1,xQ],h2⟩
 ·have eq:∀k:Wk,bD nv v k=ar nv (trv k.tr v) k:=fun k=>by
   cases v <;>first |rfl |exact absurd ⟨_,rfl⟩ hv
  rw[eq]at e
  rw[eq,s.tr];exact tU s (ho.trv s.nr) e
theorem tW{nv:Nat}:∀(l:List (Nat×SV)) {k k' k1:Wk} {ts:List (Nat×T)},Sm Z b k k'→(∀v∈l,Off Z v.2)→bU nv l k=some (ts,k1)→∃k1',bU nv l k'=some (ts,k1')∧Step1 Z b k k' k1 k1'
 | [],k,k',k1,ts,s,_,e=>by simp only[bU,xJ,pJ]at e ⊢;obtain⟨rfl,rfl⟩:=e;exact⟨k',⟨rfl,rfl⟩,.refl s⟩
 |(i,v)::l,k,k',k1,ts,s,ho,e=>by
  simp only[bU,xB,xM,pJ]at e
  obtain⟨⟨t,k2⟩,e1,⟨ts',k3⟩,e2,rfl,rfl⟩:=e;obtain⟨k2',h1,h2⟩:=kL s (ho (i,v) (by simp)) e1
  obtain⟨k3',h3,h4⟩:=tW l (s.step h2) (fun u hu=>ho u (by simp[hu])) e2
  exact⟨k3',by simp only[bU,h1,xS,h3,xQ],h2.trans h4⟩
variable{P:Program}{h:Hint}{dst:Nat}{ty:TypeId}
theorem tX(s:Sm Z b k k'){nv:Nat}{v:SV}{t:T}(ho:Off Z v)(e:dB nv v k=some (t,k1)):∃k1',dB nv v k'=some (t,k1')∧Step1 Z b k k' k1 k1':=by
 simp only[dB,xM,pJ]at e
 obtain⟨⟨t0,k0⟩,e,rfl,rfl⟩:=e;obtain⟨k1',h1,h2⟩:=kL s ho e
 exact⟨k1',by simp only[dB,h1,xQ],h2⟩
theorem Eb(s:Sm Z b k k'){nv:Nat}{t:TypeId}{a v:SV}(ha:Off Z a)(hv:Off Z v)(e:gB P nv t a v k=some k1):∃k1',gB P nv t a v k'=some k1'∧Step1 Z b k k' k1 k1':=by
 simp only[gB,xB]at e
 obtain⟨⟨x,k2⟩,e1,e⟩:=e;obtain⟨k2',h1,h2⟩:=tX s hv e1;have s2:=s.step h2;simp only at e
 split at e
 ·rename_i r p i off hl
  have hr:¬Z r:=by
   have:=(ha.trv s2.nr).asLoc
   rw[hl]at this
   exact this.loc
  split at e
  ·rename_i hc
   simp only[xB]at e
   obtain⟨c,q1,nd,q2,e⟩:=e
   split at e
   ·rename_i es
    simp only[xB]at e
    obtain⟨el,q3,e⟩:=e
    split at e
    ·rename_i hlt
     simp only[xB,xM]at e
     obtain⟨c',q4,k3,q5,rfl⟩:=e;obtain⟨k3',h3,h4⟩:=CH s2 hr q5
     refine⟨if mb el then k3'.tell (.killN r (p.length+1))else k3',?_,?_⟩
     ·simp only[gB,h1,xS,s2.tr,hl]
      rw[if_pos hc,s2.get r hr,q1];simp only[xS,q2,q3];rw[if_pos hlt,q4];simp only[xS,h3,xQ]
     ·split
      ·exact h2.trans (h4.tell rfl)
      ·exact h2.trans h4
    ·cases e
   ·cases e
  ·cases e
 ·cases e
theorem GL(s:Sm Z b k k'){nv:Nat}{v:SV}{l:List T}(ho:Off Z v)(e:dj nv v k=some (l,k1)):∃k1',dj nv v k'=some (l,k1')∧Step1 Z b k k' k1 k1':=by
 cases v with
 |d x=>cases x <;>simp only[dj,xJ,pJ,reduceCtorEq]at e ⊢ <;>(obtain⟨rfl,rfl⟩:=e;exact⟨k',⟨rfl,rfl⟩,.refl s⟩)
 |clip c l=>simp only[dj,xJ,pJ]at e ⊢;obtain⟨rfl,rfl⟩:=e;exact⟨k',⟨rfl,rfl⟩,.refl s⟩
 |ns b=>simp only[dj,xJ,pJ]at e ⊢;obtain⟨rfl,rfl⟩:=e;exact⟨k',⟨rfl,rfl⟩,.refl s⟩
 |bor r p off len=>
  simp only[dj,s.get r ho.bor,xB]at e ⊢
  obtain⟨c,hc,nd,hnd,e⟩:=e
  split at e
  ·split at e
   ·rename_i es n j
    split at e
    ·rename_i hcond
     simp only[xM,pJ]at e
     obtain⟨k2,h1,rfl,rfl⟩:=e;obtain⟨k2',h2,h3⟩:=CH s ho.bor h1
     exact⟨_,⟨c,hc,_,hnd,by simp only;rw[if_pos hcond,h2];rfl⟩,h3.tell rfl⟩
    ·rename_i hcond
     split at e
     ·rename_i hp
      simp only[xJ,pJ]at e
      obtain⟨rfl,rfl⟩:=e
      exact⟨k',⟨c,hc,_,hnd,by simp only;rw[if_neg hcond,if_pos hp]⟩,.refl s⟩
     ·cases e
   ·split at e
    ·rename_i hp
     simp only[xJ,pJ]at e
     obtain⟨rfl,rfl⟩:=e
     exact⟨k',⟨c,hc,_,hnd,by simp only;rw[if_pos hp]⟩,.refl s⟩
    ·cases e
  ·cases e
 |_=>simp[dj]at e
theorem GM(s:Sm Z b k k'){n:Nat}{news olds:List T}{v:SV}(ho:Off Z v)(e:oz n news v k=some (olds,k1)):∃k1',oz n news v k'=some (olds,k1')∧Step1 Z b k k' k1 k1':=by
 unfold oz at e
 split at e
 ·simp only[xJ,pJ]at e;obtain⟨rfl,rfl⟩:=e;exact⟨k',rfl,.refl s⟩
 ·simp only[xJ,pJ]at e;obtain⟨rfl,rfl⟩:=e;exact⟨k',rfl,.refl s⟩
 ·rename_i r p off len
  split at e
  ·rename_i h0
   simp only[xB]at e
   obtain⟨c,q1,nd,q2,e⟩:=e
   split at e
   ·split at e
    ·rename_i hc2
     simp only[xB,xM,pJ]at e
     obtain⟨c',q3,k4,q4,rfl,rfl⟩:=e;obtain⟨k4',h3,h4⟩:=CH s ho.bor q4
     refine⟨_,?_,h4.tell rfl⟩
     unfold oz
     simp only
     rw[if_pos h0,s.get r ho.bor,q1];simp only[xS,q2];rw[if_pos hc2,q3];simp only[xS,h3,xQ]
    ·cases e
   ·cases e
  ·cases e
 ·cases e
theorem CJ(s:Sm Z b k k'){nv:Nat}{t:TypeId}{x y v:SV}(hx:Off Z x)(hy:Off Z y)(e:eo P nv dst t x y k=some (v,k1)):∃k1',eo P nv dst t x y k'=some (v,k1')∧Step1 Z b k k' k1 k1':=by
 simp only[eo,xB]at e
 obtain⟨ety,u1,z,u2,⟨news,k2⟩,e1,e⟩:=e;obtain⟨k2',h1,h2⟩:=GL s hy e1;have s2:=s.step h2
 split at e
 ·rename_i hcond
  simp only[xB]at e
  obtain⟨⟨olds,k3⟩,e2,e⟩:=e;obtain⟨k3',h3,h4⟩:=GM s2 (hx.trv s2.nr) e2;simp only at e
  split at e
  ·rename_i hr
   simp only[xJ,pJ]at e
   obtain⟨rfl,rfl⟩:=e
   refine⟨k3'.new dst 0 (.own (olds++news)),?_,(h2.trans h4).new _ _ _⟩
   simp only[eo,u1,u2,xS,h1];rw[if_pos hcond,s2.tr,h3];simp only[xS];rw[if_pos hr]
  ·cases e
 ·cases e
theorem CK(s:Sm Z b k k'){sl:Bool}{u v:SV}(ho:Off Z u)(e:bm dst sl u k=some (v,k1)):∃k1',bm dst sl u k'=some (v,k1')∧Par b k k' k1 k1':=by
 have plain:(∀k:Wk,bm dst sl u k=some (u,k))→∃k1',bm dst sl u k'=some (v,k1')∧Par b k k' k1 k1':=fun hp=>by
  rw[hp]at e ⊢
  simp only[xJ,pJ]at e
  obtain⟨rfl,rfl⟩:=e
  exact⟨k',rfl,Par.refl s⟩
 cases u with
 |d x=>
  cases x with
  |nils=>
   simp only[bm]at e ⊢
   split at e <;>simp only[xJ,pJ]at e <;>obtain⟨rfl,rfl⟩:=e
   ·rename_i hs;exact⟨_,by rw[if_pos hs],(Par.refl s).new _ _ _⟩
   ·rename_i hs;exact⟨_,by rw[if_neg hs],Par.refl s⟩
  |_=>exact plain fun _=>rfl
 |bor r p off len=>
  cases r with
  |o n=>exact plain fun _=>rfl
  |l n j=>
   cases p with
   |cons _ _=>exact plain fun _=>rfl
   |nil=>
    cases off with
    |succ _=>exact plain fun _=>rfl
    |zero=>
     simp only[bm]at e ⊢
     split at e
     ·rename_i hc
      simp only[xJ,pJ]at e
      obtain⟨rfl,rfl⟩:=e
      exact⟨_,by rw[if_pos hc],Par.refl s⟩
     ·rename_i hc
      simp only[xB]at e
      obtain⟨c,hg,e⟩:=e;rw[if_neg hc,s.get _ ho.bor,hg];simp only[xS]
      split at e
      ·split at e <;>simp only[xJ,pJ]at e <;>obtain⟨rfl,rfl⟩:=e
       ·rename_i es hl
        exact⟨_,if_pos hl,⟨⟨[((dst,0),.own es),((n,j),.dead)],rfl,rfl⟩,s.H,fun _=>⟨rfl,rfl⟩,by simp[Wk.tell,Wk.new,s.tr]⟩⟩
       ·rename_i hl;exact⟨_,if_neg hl,Par.refl s⟩
      ·cases e
 |_=>exact plain fun _=>rfl
theorem GN{t:TypeId}{u:SV}{r:Root}{p:aE}{o len:Nat}(e:dW P t u k=some (.bor r p o len)):r∈u.rts:=by
 have mk:∀l:List SV,SV.mkAgg l≠ .bor r p o len:=fun l=>by unfold SV.mkAgg;split <;>simp
 rw[←hU];unfold dW at e
 split at e
 ·rename_i r' p' i off he
  rw[he];simp only[xB]at e
  obtain⟨c,_,nd,_,e⟩:=e
  split at e
  ·simp only[xB]at e
   obtain⟨e0,_,ag,_,e⟩:=e
   split at e
   ·split at e
    ·split at e <;>simp at e
    ·split at e
     ·simp only[xM]at e
      obtain⟨_,_,e⟩:=e;exact absurd e (mk _)
     ·cases e
    ·cases e
   ·simp only[xB]at e
    obtain⟨ct,_,e⟩:=e
    cases ct with
    |d x=>cases x <;>simp[dy,D.sv1]at e
    |own es'=>
     simp only[dy,xJ,SV.bor.injEq]at e
     rw[←e.1];simp[SV.rts]
    |_=>simp[dy]at e
  ·cases e
 ·simp only[xB]at e
  obtain⟨ag,_,e⟩:=e
  split at e
  ·split at e <;>simp at e
  ·simp only[xB]at e
   obtain⟨x,_,e⟩:=e
   cases x <;>simp[D.sv1]at e
 ·cases e
theorem GO(s:Sm Z b k k'){u v:SV}(ho:∀r p o len,u=.bor r p o len→¬Z r)(e:ow dst u k=some (v,k1)):∃k1',ow dst u k'=some (v,k1')∧Par b k k' k1 k1':=by
 unfold ow at e ⊢
 split at e
 ·rename_i r p len
  have hz:=ho _ _ _ _ rfl;simp only[xB]at e ⊢
  obtain⟨c,e1,nd,e2,e⟩:=e
  split at e
  ·rename_i es
   split at e
   ·rename_i hc
    simp only[xB,xM,pJ]at e
    obtain⟨c',e3,k2,e4,rfl,rfl⟩:=e;obtain⟨k2',h1,h2⟩:=CH s hz e4
    exact⟨_,⟨c,by rw[s.get r hz];exact e1,_,e2,by simp only;rw[if_pos hc,e3];simp only[xS,h1,xQ]⟩,((h2.1.tell _).new _ _ _)⟩
   ·cases e
  ·cases e
 ·cases e
theorem MT(s:Sm Z b k k'){op:Op}{σ:Operand→SV}{v:SV}(hh:b=false→oo h dst op=false)(ho:∀x∈op.operands,Off Z (σ x))(e:opE P h dst ty op σ k=some (v,k1)):∃k1',opE P h dst ty op σ k'=some (v,k1')∧Par b k k' k1 k1':=by
 have pt:b=true∨∀n,Z (.o n):=by cases b with |true=>exact .inl rfl |false=>exact .inr (s.obj rfl)
 have mapAt:∀{x:Operand} {o:Nat},x∈op.operands→σ x=.d (.map o)→b=true:=fun{x o} hx hm=>by
  rcases pt with q |q
  ·exact q
  ·exact absurd (q o) (ho x hx _ (by rw[hm];simp[SV.rts]))
 by_cases hef:cW h dst op=false∧∀c,op=.call c→∃b,c.callee=.builtin b
 ·obtain⟨rfl,hr⟩:=wU hef.2 hef.1 e
  refine⟨k',hr k' (fun _ x hx r hrr=>s.get r (ho x hx r hrr)) (fun _=> ?_),Par.refl s⟩
  rcases pt with q |q
  ·exact .inl (s.H q)
  ·right
   intro x hx;refine List.any_eq_false.2 fun r hr=> ?_
   cases r with
   |l n j=>simp[Root.isO]
   |o n=>exact absurd (q n) (ho x hx _ hr)
 unfold opE at e ⊢
 cases op <;>simp only at e ⊢ <;>simp only[Op.operands]at ho <;>try (exact absurd ⟨rfl,by simp⟩ hef)
 case assign x=>exact CK s (ho x (by simp)) e
 case alloc t=>
  simp only[xB]at e ⊢
  obtain⟨z,hz,e⟩:=e;unfold wb at e ⊢
  split at e
  ·cases e
  ·rename_i hn
   split at e <;>simp only[xJ,pJ]at e <;>obtain⟨rfl,rfl⟩:=e
   ·rename_i hc
    have hb:b=true:=by cases b with |true=>rfl |false=>have:=hh rfl;simp only[oo]at this;rw[hc]at this;cases this
    have hH:=s.H hb
    refine⟨{k' with H:=k'.H++[.box (T.ofZero z)]},⟨z,hz,by rw[if_neg hn,if_pos hc,hH]⟩,⟨⟨[],rfl,rfl⟩,fun _=>by simp[hH],(fun q=>by rw[hb]at q;cases q),s.tr⟩⟩
   ·rename_i hc;exact⟨_,⟨z,hz,by rw[if_neg hn,if_neg hc]⟩,(Par.refl s).new _ _ _⟩
 case box t x=>
  simp only[xB]at e ⊢
  obtain⟨⟨y,k2⟩,e1,e⟩:=e;obtain⟨k2',h1,h2⟩:=tX s (ho x (by simp)) e1
  simp only at e
  split at e
  ·rename_i hnc
   unfold wb at e ⊢
   split at e
   ·cases e
   ·rename_i hn
    split at e <;>simp only[xJ,pJ]at e <;>obtain⟨rfl,rfl⟩:=e
    ·rename_i hc
     have hb:b=true:=by cases b with |true=>rfl |false=>have:=hh rfl;simp only[oo]at this;rw[hc]at this;cases this
     have hH:=h2.1.H hb
     exact⟨{k2' with H:=k2'.H++[.box y]},⟨_,h1,by simp only;rw[if_pos hnc,if_neg hn,if_pos hc,hH]⟩,⟨h2.1.ct,fun _=>by simp[hH],(fun q=>by rw[hb]at q;cases q),h2.1.tr⟩⟩
    ·rename_i hc;exact⟨_,⟨_,h1,by simp only;rw[if_pos hnc,if_neg hn,if_neg hc]⟩,h2.1.new _ _ _⟩
  ·cases e
 case buildSlice t n ps=>
  simp only[bN,xB]at e
  obtain⟨ety,u1,z,u2,⟨p1,k2⟩,e1,e⟩:=e
  obtain⟨k2',h1,h2⟩:=tW _ s (fun u hu=>by
   simp only[List.mem_map]at hu
   obtain⟨p,hp,rfl⟩:=hu
   exact ho p.2 (by simp only[List.mem_toArray,List.mem_map];exact⟨p,hp,rfl⟩)) e1
  split at e
  ·rename_i hcond
   simp only[xB]at e
   obtain⟨es,u3,e⟩:=e
   have goal:∀r:Option (SV×Wk),(∃w1,(if(h.lits.contains dst)=true then(if(ps.toList.map fun p=>(p.1,σ p.2)).all (fun p=>isD p.2)=true then(T.frzs false es).map fun ds=>(.d (.sl false ds),k2')else none)else some (.bor (.l dst 0) [] 0 n,k2'.new dst 0 (.own es)))=some (v,w1)∧Par b k k' k1 w1)→
     ∃k1',bN P h.nv dst (h.lits.contains dst) t n (ps.toList.map fun p=>(p.1,σ p.2)) k'=some (v,k1')∧Par b k k' k1 k1':=fun _ ⟨w1,q1,q2⟩=>by
    refine⟨w1,?_,q2⟩
    simp only[bN,u1,u2,xS,h1];rw[if_pos hcond,u3]
    simpa using q1
   refine goal none ?_
   split at e
   ·rename_i hl
    split at e
    ·rename_i hall
     simp only[xM,pJ]at e
     obtain⟨ds,u4,rfl,rfl⟩:=e
     exact⟨k2',by rw[if_pos hl,if_pos hall,u4];rfl,h2.1⟩
    ·cases e
   ·rename_i hl
    simp only[xJ,pJ]at e
    obtain⟨rfl,rfl⟩:=e
    exact⟨_,by rw[if_neg hl],h2.1.new _ _ _⟩
  ·cases e
 case load t a=>
  by_cases hl:h.lits.contains dst=true
  ·have hoa:Off Z (σ a):=ho a (by simp)
   cases a with
   |global g=>
    simp only[xB]at e ⊢
    obtain⟨d,e0,e⟩:=e
    split at e
    case isFalse=>cases e
    rename_i hg;simp only[xM,pJ]at e
    obtain⟨u,e1,rfl,rfl⟩:=e
    exact⟨k',⟨d,e0,by rw[if_pos hg,qV (k:=k) (fun r hr=>by simp[SV.rts]at hr),e1];rfl⟩,Par.refl s⟩
   |_=>
    simp only[hl,if_true,xB]at e ⊢
    obtain⟨u,e1,e2⟩:=e;obtain⟨k1',h1,h2⟩:=GO s (fun r p o len hu=>hoa r (by subst hu;exact GN e1)) e2
    exact⟨k1',⟨u,by rw[qV (k:=k) (fun r hr=>s.get r (hoa r hr)),e1],h1⟩,h2⟩
  ·exact absurd ⟨by unfold cW;exact Bool.eq_false_iff.2 hl,by simp⟩ hef
 case range t x=>
  have hb:b=true:=by cases b with |true=>rfl |false=>have:=hh rfl;simp[oo]at this
  have hH:=s.H hb;unfold mf at e ⊢
  rw[hH];have par:∀ob,Par b k k' {k with H:=k.H++[ob]} {k' with H:=k.H++[ob]}:=fun ob=>⟨⟨[],rfl,rfl⟩,fun _=>rfl,(fun q=>by rw[hb]at q;cases q),s.tr⟩
  split at e
  ·simp only[xJ,pJ]at e;obtain⟨rfl,rfl⟩:=e;exact⟨_,rfl,par _⟩
  ·simp only[xJ,pJ]at e;obtain⟨rfl,rfl⟩:=e;exact⟨_,rfl,par _⟩
  ·split at e
   ·rename_i hes
    simp only[xJ,pJ]at e;obtain⟨rfl,rfl⟩:=e
    exact⟨_,by simp only[hes],par _⟩
   ·cases e
  ·cases e
 case next x str=>
  have hb:b=true:=by cases b with |true=>rfl |false=>have:=hh rfl;simp[oo]at this
  have hH:=s.H hb;unfold tF at e ⊢
  rw[hH];have par:∀n ob,Par b k k' {k with H:=k.H.set n ob} {k' with H:=k.H.set n ob}:=fun n ob=>⟨⟨[],rfl,rfl⟩,fun _=>rfl,(fun q=>by rw[hb]at q;cases q),s.tr⟩
  split at e
  ·split at e
   ·rename_i hes
    simp only[hes]
    split at e
    ·rename_i hp
     simp only[xJ,pJ]at e;obtain⟨rfl,rfl⟩:=e
     exact⟨_,by rw[if_pos hp],par _ _⟩
    ·rename_i hp
     simp only[xJ,pJ]at e;obtain⟨rfl,rfl⟩:=e
     exact⟨k',by rw[if_neg hp],Par.refl s⟩
   ·rename_i hes
    simp only[xJ,pJ]at e;obtain⟨rfl,rfl⟩:=e
    exact⟨k',rfl,Par.refl s⟩
   ·rename_i hes
    split at e
    ·rename_i hm
     simp only[xJ,pJ]at e;obtain⟨rfl,rfl⟩:=e
     exact⟨k',by simp only[hm],Par.refl s⟩
    ·cases e
   ·cases e
  ·cases e
 case makeInterface t x=>
  simp only[xM,pJ]at e ⊢
  obtain⟨u,e1,rfl,rfl⟩:=e
  exact⟨k',⟨u,e1,rfl,rfl⟩,Par.refl s⟩
 case typeAssert x xt u ok=>
  simp only[xM,pJ]at e ⊢
  obtain⟨w,e1,rfl,rfl⟩:=e
  exact⟨k',⟨w,e1,rfl,rfl⟩,Par.refl s⟩
 case store t a x=>
  simp only[xM,pJ]at e ⊢
  obtain⟨k2,e1,rfl,rfl⟩:=e;obtain⟨k2',h1,h2⟩:=Eb s (ho a (by simp)) (ho x (by simp)) e1
  exact⟨k2',⟨k2',h1,rfl,rfl⟩,h2.1⟩
 case makeMap t r=>
  have hb:b=true:=by cases b with |true=>rfl |false=>have:=hh rfl;simp[oo]at this
  have hH:=s.H hb
  cases r with
  |none=>
   simp only[xJ,pJ]at e ⊢
   obtain⟨rfl,rfl⟩:=e
   exact⟨_,⟨by rw[hH],rfl⟩,⟨⟨[],rfl,rfl⟩,fun _=>by simp[hH],(fun q=>by rw[hb]at q;cases q),s.tr⟩⟩
  |some n=>
   simp only at e ⊢
   split at e
   ·simp only[xJ,pJ]at e
    obtain⟨rfl,rfl⟩:=e
    exact⟨{k' with H:=k'.H++[.map []]},by rw[hH],⟨⟨[],rfl,rfl⟩,fun _=>by simp[hH],(fun q=>by rw[hb]at q;cases q),s.tr⟩⟩
   ·cases e
 case makeSlice t l c=>
  unfold v7 at e ⊢
  split at e
  ·simp only[xB]at e ⊢
   obtain⟨ety,u1,z,u2,e⟩:=e
   split at e
   ·rename_i hc
    simp only[xJ,pJ]at e
    obtain⟨rfl,rfl⟩:=e
    exact⟨_,⟨ety,u1,z,u2,by rw[if_pos hc]⟩,(Par.refl s).new _ _ _⟩
   ·cases e
  ·cases e
 case lookup t m key ok=>
  split at e
  ·rename_i hl
   rw[if_pos hl]
   split at e
   ·cases e
   ·rename_i hok
    rw[if_neg hok];simp[v8]at e
  ·rename_i hl
   rw[if_neg hl]
   split at e
   ·rename_i ho'
    rw[if_pos ho']
    split at e
    ·cases e
    ·rename_i hok
     rw[if_neg hok];simp[ig]at e
   ·rename_i ho'
    exact absurd ⟨by unfold cW;rw[Bool.eq_false_iff.2 hl,Bool.eq_false_iff.2 ho'];rfl,by simp⟩ hef
 case mapUpdate t m key x=>
  simp only[xM,pJ]at e ⊢
  obtain⟨k2,e1,rfl,rfl⟩:=e;simp only[cD,xB]at e1
  obtain⟨⟨kt,et⟩,u1,e1⟩:=e1;simp only at e1
  split at e1
  ·rename_i o kd hm hk
   have hb:=mapAt (x:=m) (by simp[Op.operands]) hm
   split at e1
   ·rename_i hc
    simp only[xB]at e1
    obtain⟨⟨y,k3⟩,e2,e1⟩:=e1;obtain⟨k3',h1,h2⟩:=kL s (ho x (by simp)) e2
    have hH:=h2.1.H hb;simp only at e1
    split at e1
    ·rename_i y' es hes
     simp only[xM]at e1
     obtain⟨es',u2,rfl⟩:=e1
     refine⟨_,⟨{k3' with H:=k3'.H.set o (.map es')},?_,rfl,rfl⟩,⟨h2.1.ct,fun _=>by simp[hH],(fun q=>by rw[hb]at q;cases q),h2.1.tr⟩⟩
     simp only[cD,u1,xS];rw[hm,hk]
     simp only
     rw[if_pos hc,h1];simp only[xS,hH,hes,u2,xQ]
    ·rename_i y' es hes
     simp only[xM]at e1
     obtain⟨es',u2,rfl⟩:=e1
     refine⟨_,⟨{k3' with H:=k3'.H.set o (.map es')},?_,rfl,rfl⟩,⟨h2.1.ct,fun _=>by simp[hH],(fun q=>by rw[hb]at q;cases q),h2.1.tr⟩⟩
     simp only[cD,u1,xS];rw[hm,hk]
     simp only
     rw[if_pos hc,h1];simp only[xS,hH,hes,u2,xQ]
    ·rename_i y' es hes
     simp only[xM]at e1
     obtain⟨es',u2,rfl⟩:=e1
     refine⟨_,⟨{k3' with H:=k3'.H.set o (.sset es')},?_,rfl,rfl⟩,⟨h2.1.ct,fun _=>by simp[hH],(fun q=>by rw[hb]at q;cases q),h2.1.tr⟩⟩
     simp only[cD,u1,xS];rw[hm,hk]
     simp only
     rw[if_pos hc,h1];simp only[xS,hH,hes,u2,xQ]
    ·cases e1
   ·cases e1
  ·cases e1
 case insert t m key x=>
  simp only[xM,pJ]at e ⊢
  obtain⟨k2,e1,rfl,rfl⟩:=e;simp only[cD,xB]at e1
  obtain⟨⟨kt,et⟩,u1,e1⟩:=e1;simp only at e1
  split at e1
  ·rename_i o kd hm hk
   have hb:=mapAt (x:=m) (by simp[Op.operands]) hm
   split at e1
   ·rename_i hc
    simp only[xB]at e1
    obtain⟨⟨y,k3⟩,e2,e1⟩:=e1;obtain⟨k3',h1,h2⟩:=kL s (ho x (by simp)) e2
    have hH:=h2.1.H hb;simp only at e1
    split at e1
    ·rename_i y' es hes
     simp only[xM]at e1
     obtain⟨es',u2,rfl⟩:=e1
     refine⟨_,⟨{k3' with H:=k3'.H.set o (.map es')},?_,rfl,rfl⟩,⟨h2.1.ct,fun _=>by simp[hH],(fun q=>by rw[hb]at q;cases q),h2.1.tr⟩⟩
     simp only[cD,u1,xS];rw[hm,hk]
     simp only
     rw[if_pos hc,h1];simp only[xS,hH,hes,u2,xQ]
    ·rename_i y' es hes
     simp only[xM]at e1
     obtain⟨es',u2,rfl⟩:=e1
     refine⟨_,⟨{k3' with H:=k3'.H.set o (.map es')},?_,rfl,rfl⟩,⟨h2.1.ct,fun _=>by simp[hH],(fun q=>by rw[hb]at q;cases q),h2.1.tr⟩⟩
     simp only[cD,u1,xS];rw[hm,hk]
     simp only
     rw[if_pos hc,h1];simp only[xS,hH,hes,u2,xQ]
    ·rename_i y' es hes
     simp only[xM]at e1
     obtain⟨es',u2,rfl⟩:=e1
     refine⟨_,⟨{k3' with H:=k3'.H.set o (.sset es')},?_,rfl,rfl⟩,⟨h2.1.ct,fun _=>by simp[hH],(fun q=>by rw[hb]at q;cases q),h2.1.tr⟩⟩
     simp only[cD,u1,xS];rw[hm,hk]
     simp only
     rw[if_pos hc,h1];simp only[xS,hH,hes,u2,xQ]
    ·cases e1
   ·cases e1
  ·cases e1
 case call c=>
  obtain⟨callee,args,ats⟩:=c
  cases callee with
  |builtin bi=>
   cases bi <;>simp only[reduceCtorEq]at e ⊢
   case len=>exact absurd ⟨rfl,fun c hc=>by cases hc;exact⟨_,rfl⟩⟩ hef
   case min=>exact absurd ⟨rfl,fun c hc=>by cases hc;exact⟨_,rfl⟩⟩ hef
   case max=>exact absurd ⟨rfl,fun c hc=>by cases hc;exact⟨_,rfl⟩⟩ hef
   case append=>
    split at e
    ·rename_i x y t u hx ht
     have hmx:x∈args:=by rw[←Array.mem_toList_iff,hx];simp
     have hmy:y∈args:=by rw[←Array.mem_toList_iff,hx];simp
     split at e
     ·rename_i htu
      obtain⟨k1',h1,h2⟩:=CJ s (ho x (by simp[Call.operands,hmx])) (ho y (by simp[Call.operands,hmy])) e
      exact⟨k1',by rw[if_pos htu];exact h1,h2.1⟩
     ·cases e
    ·cases e
  |_=>simp at e
 all_goals (cases e)
theorem zN(s:Sm Z b k k'){nv:Nat}{v:SV}{l l':Lend}{x:D}(ho:Off Z v)(e:bH nv v k l=some (x,k1,l')):∃k1',bH nv v k' l=some (x,k1',l')∧Step1 Z b k k' k1 k1':=by
 cases v with
 |d y=>simp only[bH,xJ,pJ]at e ⊢;obtain⟨rfl,rfl,rfl⟩:=e;exact⟨k',⟨rfl,rfl,rfl⟩,.refl s⟩
 |clip c y=>simp only[bH,xJ,pJ]at e ⊢;obtain⟨rfl,rfl,rfl⟩:=e;exact⟨k',⟨rfl,rfl,rfl⟩,.refl s⟩
 |ns b=>simp only[bH,xJ,pJ]at e ⊢;obtain⟨rfl,rfl,rfl⟩:=e;exact⟨k',⟨rfl,rfl,rfl⟩,.refl s⟩
 |bor r p off len=>
  simp only[bH,s.get r ho.bor,xB]at e ⊢
  obtain⟨c,hc,nd,hnd,e⟩:=e
  split at e
  ·split at e
   ·rename_i hem
    simp only[xJ,pJ]at e
    obtain⟨rfl,rfl,rfl⟩:=e
    exact⟨k',⟨c,hc,_,hnd,by simp only;rw[if_pos hem]⟩,.refl s⟩
   rename_i hem
   split at e
   ·rename_i es n j
    split at e
    ·rename_i hcond
     simp only[xB,xM,pJ]at e
     obtain⟨y,hy,k2,h1,rfl,rfl,rfl⟩:=e;obtain⟨k2',h2,h3⟩:=CH s ho.bor h1
     exact⟨_,⟨c,hc,_,hnd,by simp only;rw[if_neg hem,if_pos hcond,hy];simp only[xS,h2,xQ]⟩,h3.tell rfl⟩
    ·rename_i hcond
     simp only[xM,pJ]at e
     obtain⟨y,hy,rfl,rfl,rfl⟩:=e
     exact⟨k',⟨c,hc,_,hnd,by simp only;rw[if_neg hem,if_neg hcond,hy];rfl⟩,.refl s⟩
   ·rename_i es n j hne
    simp only[xM,pJ]at e
    obtain⟨y,hy,rfl,rfl,rfl⟩:=e
    refine⟨k',⟨c,hc,_,hnd,?_⟩,.refl s⟩
    cases p with
    |nil=>exact absurd rfl hne
    |cons a p=>simp only;rw[if_neg hem];simp only[hy,xQ]
   ·rename_i es n
    simp only[xM,pJ]at e
    obtain⟨y,hy,rfl,rfl,rfl⟩:=e
    exact⟨k',⟨c,hc,_,hnd,by simp only;rw[if_neg hem];simp only[hy,xQ]⟩,.refl s⟩
  ·cases e
 |_=>simp[bH]at e
theorem zO{nv:Nat}:∀(l:List SV) {k k' k1:Wk} {d d':Lend} {xs:List D},Sm Z b k k'→(∀v∈l,Off Z v)→ft nv l k d=some (xs,k1,d')→∃k1',ft nv l k' d=some (xs,k1',d')∧Step1 Z b k k' k1 k1'
 | [],k,k',k1,d,d',xs,s,_,e=>by simp only[ft,xJ,pJ]at e ⊢;obtain⟨rfl,rfl,rfl⟩:=e;exact⟨k',⟨rfl,rfl,rfl⟩,.refl s⟩
 |v::l,k,k',k1,d,d',xs,s,ho,e=>by
  simp only[ft,xB,xM,pJ]at e
  obtain⟨⟨x,k2,d2⟩,e1,⟨ys,k3,d3⟩,e2,rfl,rfl,rfl⟩:=e;obtain⟨k2',h1,h2⟩:=zN s ((ho v (by simp)).trv s.nr) e1
  obtain⟨k3',h3,h4⟩:=zO l (s.step h2) (fun u hu=>ho u (by simp[hu])) e2
  exact⟨k3',by simp only[ft,s.tr,h1,xS,h3,xQ],h2.trans h4⟩
theorem I9(s:Sm Z b k k'){nv:Nat}{v:SV}{d d':Lend}{x:D}(ho:Off Z v)(e:om nv v k d=some (x,k1,d')):∃k1',om nv v k' d=some (x,k1',d')∧Step1 Z b k k' k1 k1':=by
 by_cases hv:∃l,v=.agg l
 ·obtain⟨l,rfl⟩:=hv
  simp only[om,xM,pJ]at e
  obtain⟨⟨xs,k2,d2⟩,e1,rfl,rfl,rfl⟩:=e;obtain⟨k2',h1,h2⟩:=zO l s (fun v hv=>ho.mem hv) e1
  exact⟨k2',by simp only[om,h1,xQ],h2⟩
 ·have eq:∀k:Wk,om nv v k d=bH nv (trv k.tr v) k d:=fun k=>by
   cases v <;>first |rfl |exact absurd ⟨_,rfl⟩ hv
  rw[eq]at e
  rw[eq,s.tr];exact zN s (ho.trv s.nr) e
theorem sG{nv:Nat}:∀(l:List SV) {k k' k1:Wk} {d d':Lend} {xs:List D},Sm Z b k k'→(∀v∈l,Off Z v)→dp nv l k d=some (xs,k1,d')→∃k1',dp nv l k' d=some (xs,k1',d')∧Step1 Z b k k' k1 k1'
 | [],k,k',k1,d,d',xs,s,_,e=>by simp only[dp,xJ,pJ]at e ⊢;obtain⟨rfl,rfl,rfl⟩:=e;exact⟨k',⟨rfl,rfl,rfl⟩,.refl s⟩
 |v::l,k,k',k1,d,d',xs,s,ho,e=>by
  simp only[dp,xB,xM,pJ]at e
  obtain⟨⟨x,k2,d2⟩,e1,⟨ys,k3,d3⟩,e2,rfl,rfl,rfl⟩:=e;obtain⟨k2',h1,h2⟩:=I9 s (ho v (by simp)) e1
  obtain⟨k3',h3,h4⟩:=sG l (s.step h2) (fun u hu=>ho u (by simp[hu])) e2
  exact⟨k3',by simp only[dp,h1,xS,h3,xQ],h2.trans h4⟩
theorem mw(s:Sm Z b k k'){j j':Nat}{t:T}{v:SV}(e:bV dst j t k=some (v,j',k1)):∃k1',bV dst j t k'=some (v,j',k1')∧Step1 Z b k k' k1 k1':=by
 cases t <;>simp only[bV,xJ,pJ,reduceCtorEq]at e ⊢ <;>obtain⟨rfl,rfl,rfl⟩:=e
 ·exact⟨k',⟨rfl,rfl,rfl⟩,.refl s⟩
 ·exact⟨_,⟨rfl,rfl,rfl⟩,(Step1.refl s).new _ _ _⟩
theorem qY:∀(l:List T) {j j':Nat} {k k' k1:Wk} {vs:List SV},Sm Z b k k'→bO dst j l k=some (vs,j',k1)→∃k1',bO dst j l k'=some (vs,j',k1')∧Step1 Z b k k' k1 k1'
 | [],j,j',k,k',k1,vs,s,e=>by simp only[bO,xJ,pJ]at e ⊢;obtain⟨rfl,rfl,rfl⟩:=e;exact⟨k',⟨rfl,rfl,rfl⟩,.refl s⟩
 |t::l,j,j',k,k',k1,vs,s,e=>by
  simp only[bO,xB,xM,pJ]at e
  obtain⟨⟨v,j1,k2⟩,e1,⟨ws,j2,k3⟩,e2,rfl,rfl,rfl⟩:=e;obtain⟨k2',h1,h2⟩:=mw s e1;obtain⟨k3',h3,h4⟩:=qY l (s.step h2) e2
  exact⟨k3',by simp only[bO,h1,xS,h3,xQ],h2.trans h4⟩
theorem Ja(s:Sm Z b k k'){j j':Nat}{t:T}{v:SV}(e:eU dst j t k=some (v,j',k1)):∃k1',eU dst j t k'=some (v,j',k1')∧Step1 Z b k k' k1 k1':=by
 cases t with
 |agg ts=>
  simp only[eU,xM,pJ]at e
  obtain⟨⟨vs,j1,k2⟩,e1,rfl,rfl,rfl⟩:=e;obtain⟨k2',h1,h2⟩:=qY ts s e1
  exact⟨k2',by simp only[eU,h1,xQ],h2⟩
 |d x=>exact mw (dst:=dst) (t:=.d x) s e
 |own es=>exact mw (dst:=dst) (t:=.own es) s e
 |dead=>simp[eU,bV]at e
theorem wX:∀(l:List T) {j:Nat} {k k' k1:Wk} {vs:List SV},Sm Z b k k'→cS dst j l k=some (vs,k1)→∃k1',cS dst j l k'=some (vs,k1')∧Step1 Z b k k' k1 k1'
 | [],j,k,k',k1,vs,s,e=>by simp only[cS,xJ,pJ]at e ⊢;obtain⟨rfl,rfl⟩:=e;exact⟨k',⟨rfl,rfl⟩,.refl s⟩
 |t::l,j,k,k',k1,vs,s,e=>by
  simp only[cS,xB,xM,pJ]at e
  obtain⟨⟨v,j1,k2⟩,e1,⟨ws,k3⟩,e2,rfl,rfl⟩:=e;obtain⟨k2',h1,h2⟩:=Ja s e1;obtain⟨k3',h3,h4⟩:=wX l (s.step h2) e2
  exact⟨k3',by simp only[cS,h1,xS,h3,xQ],h2.trans h4⟩
theorem CM(s:Sm Z b k k'){rs:List T}{v:SV}(e:iT dst rs k=some (v,k1)):∃k1',iT dst rs k'=some (v,k1')∧Step1 Z b k k' k1 k1':=by
 simp only[iT,xM,pJ]at e
 obtain⟨⟨vs,k2⟩,e1,rfl,rfl⟩:=e;obtain⟨k2',h1,h2⟩:=wX rs s e1
 exact⟨k2',by simp only[iT,h1,xQ],h2⟩
theorem pX(s:Sm Z b k k')(hb:b=false→h.keep.contains dst=true){call:ak}{f:FuncId}{ds:List D}{d:Lend}{v:SV}(e:aU call h dst f ds d k=some (v,k1)):∃k1',aU call h dst f ds d k'=some (v,k1')∧Par b k k' k1 k1':=by
 unfold aU at e ⊢
 split at e
 ·rename_i hk
  rw[if_pos hk];simp only[xB]at e ⊢
  obtain⟨⟨rs,H2⟩,e1,e⟩:=e;simp only at e
  split at e
  ·rename_i hc
   obtain⟨k1',h1,h2⟩:=CM s e
   exact⟨k1',⟨_,e1,by simp only;rw[if_pos hc];exact h1⟩,h2.1⟩
  ·cases e
 rename_i hk0;rw[if_neg hk0]
 split at e
 ·cases e
 ·rename_i hk
  have hbt:b=true:=by
   cases b with
   |true=>rfl
   |false=>exact absurd (hb rfl) hk
  subst hbt;rw[if_neg hk,s.H rfl];simp only[xB]at e ⊢
  obtain⟨⟨rs,H2⟩,e1,e⟩:=e;simp only at e
  split at e
  ·rename_i hc
   have s2:Sm (fun r=>Z r∨r.isO=true) true {k with H:=dZ k.H d.lk H2,tr:=k.tr++[.killO]} {k' with H:=dZ k.H d.lk H2,tr:=k'.tr++[.killO]}:=by
    refine⟨fun r hr=> ?_,fun _=>rfl,by simp[s.tr],by simp[s.nr,Tr.isRen],by simp⟩
    cases r with
    |l n j=>exact s.get (.l n j) (fun hz=>hr (.inl hz))
    |o n=>exact absurd (.inr rfl) hr
   obtain⟨k1',h1,h2⟩:=CM s2 e;obtain⟨pre,p1,p2⟩:=h2.1.ct
   exact⟨k1',⟨_,e1,by simp only;rw[if_pos hc];exact h1⟩,⟨⟨pre,p1,p2⟩,h2.1.H,by simp,h2.1.tr⟩⟩
  ·cases e
theorem zP(s:Sm Z b k k')(hb:b=false→(h.keep.contains dst=true∧h.ro.contains dst=false)∧h.lkn.contains dst=false){call:ak}{f:FuncId}{ds:List D}{d:Lend}{v:SV}(e:cF call h dst f ds d k=some (v,k1)):∃k1',cF call h dst f ds d k'=some (v,k1')∧Par b k k' k1 k1':=by
 unfold cF at e ⊢
 split at e
 ·rename_i hro
  simp only[xB]at e
  obtain⟨ds',e1,e⟩:=e
  have hbt:b=true:=by
   cases b with
   |true=>rfl
   |false=>rw[(hb rfl).1.2]at hro;cases hro
  subst hbt;obtain⟨k1',h1,h2⟩:=pX s (fun q=>by cases q) e
  exact⟨k1',by rw[if_pos hro,s.H rfl,e1];exact h1,h2⟩
 ·rename_i hro
  rw[if_neg hro]
  split at e
  ·rename_i hl
   have hbt:b=true:=by
    cases b with
    |true=>rfl
    |false=>rw[(hb rfl).2]at hl;cases hl.1
   subst hbt;obtain⟨k1',h1,h2⟩:=pX s (fun q=>by cases q) e
   exact⟨k1',by rw[if_pos hl,s.H rfl];exact h1,h2⟩
  ·rename_i hl
   obtain⟨k1',h1,h2⟩:=pX s (fun q=>(hb q).1.1) e
   exact⟨k1',by rw[if_neg hl];exact h1,h2⟩
theorem GP(s:Sm Z b k k'){call:ak}{op:Op}{σ:Operand→SV}{v:SV}(hh:b=false→oo h dst op=false)(ho:∀x∈op.operands,Off Z (σ x))(e:am P call h dst ty op σ k=some (v,k1)):∃k1',am P call h dst ty op σ k'=some (v,k1')∧Par b k k' k1 k1':=by
 have plain:opE P h dst ty op σ k=some (v,k1)→∃k1',opE P h dst ty op σ k'=some (v,k1')∧Par b k k' k1 k1':=fun e=>MT s hh ho e
 unfold am at e ⊢
 split at e
 ·rename_i f args ats
  have hb:b=false→(h.keep.contains dst=true∧h.ro.contains dst=false)∧h.lkn.contains dst=false:=fun q=>by
   have:=hh q
   simp only[oo,Bool.or_eq_false_iff,Bool.not_eq_false']at this
   exact this
  simp only
  split at e
  ·rename_i g first cap hf
   split at e
   ·cases e
   rename_i hy;rw[if_neg hy]
   split at e
   ·rename_i nm hnm
    simp only[xB,xM,pJ]at e ⊢
    obtain⟨ds,e1,y,e2,rfl,rfl⟩:=e
    exact⟨k',⟨ds,e1,y,e2,rfl,rfl⟩,Par.refl s⟩
   simp only[xB]at e ⊢
   obtain⟨⟨ds,k2,d⟩,e1,r,e2,e3⟩:=e;obtain⟨rfl,hnp⟩:=kJ e3
   obtain⟨k2',h1,h2⟩:=sG _ s (fun u hu=>by
    simp only[List.mem_map]at hu
    obtain⟨x,hx,rfl⟩:=hu
    exact ho x (by simp[Op.operands,Call.operands];exact .inr (by simpa using hx))) e1
   obtain⟨k1',h3,h4⟩:=zP (s.step h2) hb e2
   exact⟨k1',⟨_,h1,_,h3,by simp only at hnp;simp[eH,hnp]⟩,h2.1.trans h4⟩
  ·rename_i yo hf
   simp only[xB]at e ⊢
   obtain⟨⟨ds,k2,d⟩,e1,r,e2,e3⟩:=e;obtain⟨rfl,hnp⟩:=kJ e3
   obtain⟨k2',h1,h2⟩:=sG _ s (fun u hu=>by
    simp only[List.mem_map]at hu
    obtain⟨x,hx,rfl⟩:=hu
    exact ho x (by simp[Op.operands,Call.operands];exact .inr (by simpa using hx))) e1
   obtain⟨k1',h3,h4⟩:=zP (s.step h2) hb e2
   exact⟨k1',⟨_,h1,_,h3,by simp only at hnp;simp[eH,hnp]⟩,h2.1.trans h4⟩
  ·cases e
 ·rename_i hne
  obtain⟨k1',h1,h2⟩:=plain e
  exact⟨k1',h1,h2⟩
end
theorem CN{α β:Type}(f:α→β)(l:List (Nat×α))(t:Nat):look (l.map fun p=>(p.1,f p.2)) t=(look l t).map f:=by
 induction l with
 |nil=>rfl
 |cons p r ih=>obtain⟨q,v⟩:=p;simp only[List.map_cons,look];split <;>simp_all
theorem dR(s:St)(d:Option Nat)(v:SV)(k:Wk)(t:Nat):(s.fin d v k).get t=if d=some t then v else trv k.tr (s.get t):=by
 have h0:(look (trs k.tr s.env) t).getD .dead=trv k.tr (s.get t):=by
  rw[Cw];unfold St.get
  cases look s.env t with
  |none=>simp[I3]
  |some u=>rfl
 cases d with
 |none=>simpa [St.fin,St.get]using h0
 |some d=>
  simp only[St.fin,St.get,look,xJ]at h0 ⊢
  split
  ·rfl
  ·exact h0
theorem wY:∀(a:List Tr),bQ a []=[]
 | []=>rfl
 |x::a=>by
  have:x.hist []=[]:=by cases x <;>simp[Tr.hist]
  simp only[bQ,this,wY a]
theorem cM(hi:jl)(tr:List Tr)(d:Option Nat)(L:List Root)(t:Nat):aW (aF hi tr d L) t=if d=some t then L else bQ tr (aW hi t):=by
 have h0:(look (hi.map fun p=>(p.1,bQ tr p.2)) t).getD []=bQ tr (aW hi t):=by
  rw[CN];unfold aW
  cases look hi t with
  |none=>simp[wY]
  |some u=>rfl
 cases d with
 |none=>simpa [aF,aW]using h0
 |some d=>
  simp only[aF,aW,look,xJ]at h0 ⊢
  split
  ·rfl
  ·exact h0
theorem Tr.hist_sub(x:Tr)(l:List Root):∀r∈l,r∈x.hist l:=fun r hr=>by
 cases x <;>simp only[Tr.hist] <;>first |exact hr |(split <;>simp[hr])
theorem wZ:∀(a:List Tr) (l:List Root),∀r∈l,r∈bQ a l
 | [],_,r,hr=>hr
 |x::a,l,r,hr=>wZ a _ r (Tr.hist_sub x l r hr)
theorem Tr.hist_id(x:Tr)(l:List Root)(h:∀r∈l,r∉x.rts):x.hist l=l:=by
 cases x <;>simp only[Tr.hist] <;>try rfl
 rename_i a b;rw[if_neg];intro hc;simp only[List.any_eq_true,yD]at hc
 obtain⟨r,hr,rfl⟩:=hc;exact h _ hr (by simp[Tr.rts])
theorem zQ:∀(a:List Tr) (l:List Root),(∀r∈l,r∉a.flatMap Tr.rts)→bQ a l=l
 | [],_,_=>rfl
 |x::a,l,h=>by
  simp only[bQ];rw[Tr.hist_id x l (fun r hr hx=>h r hr (by simp[hx])),zQ a l (fun r hr hx=>h r hr (by simp only[List.flatMap_cons,xD];exact .inr hx))]
mutual
theorem Tr.rts_sub(x:Tr):∀(v:SV) (L:List Root),(∀r∈v.srts,r∈L)→∀r∈(x.sv v).srts,r∈x.hist L
 | .d y,L,h,r,hr=>by cases x <;>simp[Tr.sv,SV.srts]at hr
 | .rp _ _,L,h,r,hr=>by cases x <;>simp[Tr.sv,SV.srts]at hr
 | .clip _ _,L,h,r,hr=>by cases x <;>simp[Tr.sv,SV.srts]at hr
 | .ns _,L,h,r,hr=>by cases x <;>simp[Tr.sv,SV.srts]at hr
 | .dead,L,h,r,hr=>by cases x <;>simp[Tr.sv,SV.srts]at hr
 | .bor q p o n,L,h,r,hr=>by
  have hq:q∈L:=h q (by simp[SV.srts])
  cases x with
  |ren a b=>
   simp only[Tr.sv,Tr.hist]at hr ⊢
   split at hr
   ·rename_i e
    simp only[SV.srts,yQ]at hr
    subst hr;rw[if_pos (by simp only[List.any_eq_true,yD];exact⟨q,hq,e⟩)]
    simp
   ·simp only[SV.srts,yQ]at hr
    subst hr
    split <;>simp[hq]
  |_=>
   simp only[Tr.sv,Tr.hist]at hr ⊢
   (repeat' split at hr) <;>simp[SV.srts]at hr <;>(subst hr;exact hq)
 | .loc q p i o,L,h,r,hr=>by
  have hq:q∈L:=h q (by simp[SV.srts])
  cases x with
  |ren a b=>
   simp only[Tr.sv,Tr.hist]at hr ⊢
   split at hr
   ·rename_i e
    simp only[SV.srts,yQ]at hr
    subst hr;rw[if_pos (by simp only[List.any_eq_true,yD];exact⟨q,hq,e⟩)]
    simp
   ·simp only[SV.srts,yQ]at hr
    subst hr
    split <;>simp[hq]
  |_=>
   simp only[Tr.sv,Tr.hist]at hr ⊢
   (repeat' split at hr) <;>simp[SV.srts]at hr <;>(subst hr;exact hq)
 | .agg l,L,h,r,hr=>by
  have:x.sv (.agg l)=.agg (Tr.svs x l):=by cases x <;>rfl
  rw[this]at hr
  exact Tr.rtss_sub x l L h r hr
 | .tup l,L,h,r,hr=>by
  have:x.sv (.tup l)=.tup (Tr.svs x l):=by cases x <;>rfl
  rw[this]at hr
  exact Tr.rtss_sub x l L h r hr
theorem Tr.rtss_sub(x:Tr):∀(l:List SV) (L:List Root),(∀r∈SV.srtss l,r∈L)→∀r∈SV.srtss (Tr.svs x l),r∈x.hist L
 | [],L,h,r,hr=>by simp[Tr.svs,SV.srtss]at hr
 |v::l,L,h,r,hr=>by
  simp only[Tr.svs,SV.srtss,xD]at h hr
  rcases hr with hr |hr
  ·exact Tr.rts_sub x v L (fun q hq=>h q (.inl hq)) r hr
  ·exact Tr.rtss_sub x l L (fun q hq=>h q (.inr hq)) r hr
end
theorem tY:∀(a:List Tr) (v:SV) (L:List Root),(∀r∈v.srts,r∈L)→∀r∈(trv a v).srts,r∈bQ a L
 | [],_,_,h=>h
 |x::a,v,L,h=>tY a _ _ (Tr.rts_sub x v L h)
mutual
theorem Tr.sv_id(x:Tr):∀(v:SV),(∀r∈v.srts,r∉x.rts)→(x.isKillO=true→v.srts.any Root.isO=false)→x.sv v=v
 | .d _,_,_=>by cases x <;>rfl
 | .rp _ _,_,_=>by cases x <;>rfl
 | .clip _ _,_,_=>by cases x <;>rfl
 | .ns _,_,_=>by cases x <;>rfl
 | .dead,_,_=>by cases x <;>rfl
 | .bor q p o n,h,hk=>by
  have hq:=h q (by simp[SV.srts])
  cases x with
  |killO=>
   have:q.isO=false:=by simpa [SV.srts]using hk rfl
   cases q with
   |l n j=>rfl
   |o n=>cases this
  |ren a b=>simp only[Tr.rts,xY,not_or]at hq;simp only[Tr.sv];rw[if_neg hq.1]
  |kill r p'=>simp only[Tr.rts,yQ]at hq;simp only[Tr.sv];rw[if_neg hq]
  |killN r m=>simp only[Tr.rts,yQ]at hq;simp only[Tr.sv];rw[if_neg (fun e=>hq e.1)]
  |frz r p' l=>simp only[Tr.rts,yQ]at hq;simp only[Tr.sv];rw[if_neg hq]
 | .loc q p i o,h,hk=>by
  have hq:=h q (by simp[SV.srts])
  cases x with
  |killO=>
   have:q.isO=false:=by simpa [SV.srts]using hk rfl
   cases q with
   |l n j=>cases p <;>rfl
   |o n=>cases this
  |ren a b=>simp only[Tr.rts,xY,not_or]at hq;simp only[Tr.sv];rw[if_neg hq.1]
  |kill r p'=>simp only[Tr.rts,yQ]at hq;simp only[Tr.sv];rw[if_neg hq]
  |killN r m=>simp only[Tr.rts,yQ]at hq;simp only[Tr.sv];rw[if_neg (fun e=>hq e.1)]
  |frz r p' l=>simp only[Tr.rts,yQ]at hq;simp only[Tr.sv];rw[if_neg hq]
 | .agg l,h,hk=>by
  have:x.sv (.agg l)=.agg (Tr.svs x l):=by cases x <;>rfl
  rw[this,Tr.svs_id x l h hk]
 | .tup l,h,hk=>by
  have:x.sv (.tup l)=.tup (Tr.svs x l):=by cases x <;>rfl
  rw[this,Tr.svs_id x l h hk]
theorem Tr.svs_id(x:Tr):∀(l:List SV),(∀r∈SV.srtss l,r∉x.rts)→(x.isKillO=true→(SV.srtss l).any Root.isO=false)→Tr.svs x l=l
 | [],_,_=>rfl
 |v::l,h,hk=>by
  simp only[SV.srtss,xD]at h
  simp only[SV.srtss,List.any_append,Bool.or_eq_false_iff]at hk
  simp only[Tr.svs];rw[Tr.sv_id x v (fun r hr=>h r (.inl hr)) (fun q=>(hk q).1),Tr.svs_id x l (fun r hr=>h r (.inr hr)) (fun q=>(hk q).2)]
end
theorem Jb:∀(a:List Tr) (v:SV),(∀r∈v.srts,r∉a.flatMap Tr.rts)→(a.any Tr.isKillO=true→v.srts.any Root.isO=false)→trv a v=v
 | [],_,_,_=>rfl
 |x::a,v,h,hk=>by
  simp only[List.any_cons,Bool.or_eq_true]at hk
  simp only[trv];rw[Tr.sv_id x v (fun r hr hx=>h r hr (by simp[hx])) (fun q=>hk (.inl q)),Jb a v (fun r hr hx=>h r hr (by simp only[List.flatMap_cons,xD];exact .inr hx)) (fun q=>hk (.inr q))]
theorem Ec{v:Value}{x:D}(h:D.ofCell v=some x):SV.rts (.d x)=[]:=by
 unfold D.ofCell at h
 split at h <;>simp only[xJ,reduceCtorEq]at h <;>subst h <;>rfl
theorem zR(x:Operand):(B4 x).rts=[]:=by
 unfold B4;split
 ·rename_i v
  cases hv:D.ofVal v with
  |none=>rfl
  |some x=>
   simp only
   unfold D.ofVal at hv
   split at hv
   ·simp only[xM]at hv
    obtain⟨l,_,rfl⟩:=hv;rfl
   ·exact Ec hv
 ·rfl
 ·rfl
theorem AM{op:Op}{t:Nat}(h: .tmp t∈op.operands):t∈kw op:=by
 simp only[kw,List.mem_filterMap]
 exact⟨.tmp t,by simpa using h,rfl⟩
section
variable{P:Program}{call:ak}{h:Hint}{ops:List Oper}
theorem tZ{dst:Nat}{ty:TypeId}(op:Op){σ τ:Operand→SV}(k:Wk)(hx:∀x∈op.operands,σ x=τ x):am P call h dst ty op σ k=am P call h dst ty op τ k:=by
 have hp:=GG (P:=P) (h:=h) (dst:=dst) (ty:=ty) op k hx;unfold am
 cases op with
 |call c=>
  obtain⟨callee,args,ats⟩:=c
  cases callee with
  |value f=>
   simp only
   rw[hx f (by simp[Op.operands,Call.operands]),gQ (l:=args.toList) fun x hm=>hx x (by simp at hm;simp[Op.operands,Call.operands,hm])]
  |_=>exact hp
 |_=>exact hp
theorem sH{s s2:St}{op:Op}(hx:∀t∈kw op,s2.get t=s.get t):∀x∈op.operands,s2.val x=s.val x:=fun x hm=>by
 cases x with
 |tmp t=>exact hx t (AM hm)
 |_=>rfl
theorem dS{o:Oper}{t:Nat}(ht:t∈kw o.op):t∈looks ops o:=xL _ ht
theorem my{s s2:St}{o:Oper}(hx:∀t∈looks ops o,s2.get t=s.get t):dK ops s2 o=dK ops s o:=by
 unfold dK;split
 ·rfl
 ·rename_i j want hg
  cases hj:(ops[j]?).bind (·.dst)with
  |none=>rfl
  |some t=>simp only;rw[hx t (by simp[looks,hg,hj])]
theorem t6{s s2:St}{o:Oper}(hx:∀t∈looks ops o,s2.get t=s.get t)(hc:s2.ct=s.ct)(hH:s2.H=s.H):bP P call h ops o s2=bP P call h ops o s:=by
 unfold bP;have hw:s2.wk=s.wk:=by simp only[St.wk,hc,hH]
 rw[my hx,hw,tZ o.op s.wk (sH fun t ht=>hx t (dS ht))]
theorem CP{h:Hint}{dst:Nat}{op:Op}(hr:reads op=false):cW h dst op=false∧∀c,op≠ .call c:=by
 cases op <;>simp[reads]at hr <;>simp[cW]
theorem mz{dst:Nat}{ty:TypeId}{op:Op}(hc:∀c,op=.call c→∃b,c.callee=.builtin b)(σ:Operand→SV)(k:Wk):am P call h dst ty op σ k=opE P h dst ty op σ k:=by
 unfold am
 cases op with
 |call c=>
  obtain⟨b,hb⟩:=hc c rfl;obtain⟨callee,args,ats⟩:=c;simp only at hb;subst hb;rfl
 |_=>rfl
theorem sI{Z:Root→Prop}{b:Bool}{s s2:St}{o:Oper}{w:Bool}{v:SV}{k:Wk}(sm:Sm Z b s.wk s2.wk)(hg:∀t∈looks ops o,s2.get t=s.get t)(hh:b=false→w=true→oo h (o.dst.getD 0) o.op=false)(ho:reads o.op=true→w=true→∀t∈looks ops o,Off Z (s.get t))
  (e:bP P call h ops o s=some (w,v,k)):∃k2,bP P call h ops o s2=some (w,v,k2)∧Par b s.wk s2.wk k k2:=by
 simp only[bP,xB]at e
 obtain⟨w0,e0,e⟩:=e;have hv:=sH (s:=s) (s2:=s2) (op:=o.op) fun t ht=>hg t (dS ht)
 split at e
 ·rename_i hw0
  subst hw0;simp only[xM,pJ]at e
  obtain⟨⟨v',k'⟩,e1,rfl,rfl,rfl⟩:=e
  have fin:∀k2,am P call h (o.dst.getD 0) o.type o.op s.val s2.wk=some (v',k2)→bP P call h ops o s2=some (true,v',k2):=fun k2 q=>by
   simp only[bP,my hg,e0,xS,if_true,tZ o.op s2.wk hv,q,xQ]
  cases hrd:reads o.op with
  |true=>
   obtain⟨k2,h1,h2⟩:=GP sm (fun q=>hh q rfl) (fun x hx=>by
    cases x with
    |tmp t=>exact ho hrd rfl t (dS (AM hx))
    |_=>intro r hr;simp only[St.val]at hr;rw[zR]at hr;cases hr) e1
   exact⟨k2,fin k2 h1,h2⟩
  |false=>
   obtain⟨q1,q2⟩:=CP (h:=h) (dst:=o.dst.getD 0) hrd;have hc:∀c,o.op=.call c→∃b,c.callee=.builtin b:=fun c q=>absurd q (q2 c)
   rw[mz hc]at e1
   obtain⟨rfl,hr⟩:=wU hc q1 e1
   exact⟨s2.wk,fin _ (by rw[mz hc];exact hr s2.wk (fun q=>by rw[hrd]at q;cases q) (fun q=>by rw[hrd]at q;cases q)),Par.refl sm⟩
 ·rename_i hw0
  simp only[xJ,pJ]at e
  obtain⟨rfl,rfl,rfl⟩:=e
  have:w0=false:=by simpa using hw0
  exact⟨s2.wk,by simp only[bP,my hg,e0,xS,this,xH,if_false],Par.refl sm⟩
theorem gm{s:St}{o:Oper}{w:Bool}{v:SV}{k:Wk}(e:bP P call h ops o s=some (w,v,k)):Grown (hOf h (o.dst.getD 0) o.op=false∧(pK o.op=true→∀t∈looks ops o,NoO (s.get t))) s.wk k∧((w&&cW h (o.dst.getD 0) o.op)=false→k=s.wk):=by
 simp only[bP,xB]at e
 obtain⟨w0,e0,e⟩:=e
 split at e
 ·rename_i hw0
  subst hw0;simp only[xM,pJ]at e
  obtain⟨⟨v',k'⟩,e1,rfl,_,rfl⟩:=e
  refine⟨(CG e1).imp fun q=>⟨q.1,fun hlo x hx=> ?_⟩,fun he=> ?_⟩
  ·cases x with
   |tmp t=>exact q.2 hlo t (dS (AM hx))
   |_=>simp only[St.val];rw[NoO,zR];rfl
  ·simp only[Bool.true_and]at he
   have hc:∀c,o.op=.call c→∃b,c.callee=.builtin b:=fun c hcc=>by
    obtain⟨callee,args,ats⟩:=c;rw[hcc]at he
    cases callee with
    |builtin b=>exact⟨b,rfl⟩
    |value f=>simp[cW]at he
    |invoke r m=>simp[cW]at he
   rw[mz hc]at e1
   exact(wU hc he e1).1
 ·simp only[xJ,pJ]at e
  rw[←e.2.2]
  exact⟨.refl _ _,fun _=>rfl⟩
end
mutual
theorem Tr.comm(x y:Tr)(hd:∀r∈x.rts,r∉y.rts)(hx:x.isKillO=true→y.rts.any Root.isO=false)(hy:y.isKillO=true→x.rts.any Root.isO=false):∀v:SV,x.sv (y.sv v)=y.sv (x.sv v)
 | .d _=>by cases x <;>cases y <;>rfl
 | .rp _ _=>by cases x <;>cases y <;>rfl
 | .clip _ _=>by cases x <;>cases y <;>rfl
 | .ns _=>by cases x <;>cases y <;>rfl
 | .dead=>by cases x <;>cases y <;>rfl
 | .agg l=>by
  have ex:∀l,x.sv (.agg l)=.agg (Tr.svs x l):=fun l=>by cases x <;>rfl
  have ey:∀l,y.sv (.agg l)=.agg (Tr.svs y l):=fun l=>by cases y <;>rfl
  rw[ex,ey,ex,ey,Tr.comms x y hd hx hy l]
 | .tup l=>by
  have ex:∀l,x.sv (.tup l)=.tup (Tr.svs x l):=fun l=>by cases x <;>rfl
  have ey:∀l,y.sv (.tup l)=.tup (Tr.svs y l):=fun l=>by cases y <;>rfl
  rw[ex,ey,ex,ey,Tr.comms x y hd hx hy l]
 | .bor r p o n=>by
  by_cases h1:r∈x.rts
  ·have h2:r∉y.rts:=hd r h1
   have ok:y.isKillO=true→r.isO=false:=fun q=>List.any_eq_false.1 (hy q) r h1 |>fun z=>by simpa using z
   have e1:y.sv (.bor r p o n)=.bor r p o n:=Tr.sv_id y _ (by simpa [SV.srts]using h2) (fun q=>by simpa [SV.srts]using ok q)
   rw[e1]
   refine(Tr.sv_id y _ (fun q hq=> ?_) (fun hk=> ?_)).symm
   ·have:=Tr.rts_sub x (.bor r p o n) x.rts (fun q hq=>by simp[SV.srts]at hq;subst hq;exact h1) q hq
    cases x <;>simp only[Tr.hist]at this <;>first |exact hd q this |(split at this <;>first |exact hd q this |(rcases List.mem_cons.1 this with rfl |this <;>first |exact hd q this |exact hd _ (by simp[Tr.rts])))
   ·have hno:=hy hk
    refine List.any_eq_false.2 fun q hq=> ?_
    have:=Tr.rts_sub x (.bor r p o n) x.rts (fun q hq=>by simp[SV.srts]at hq;subst hq;exact h1) q hq
    have hin:q∈x.rts:=by
     cases x <;>simp only[Tr.hist]at this <;>first |exact this |(split at this <;>first |exact this |(rcases List.mem_cons.1 this with rfl |this <;>first |exact this |simp[Tr.rts]))
    exact List.any_eq_false.1 hno q hin
  ·by_cases hk:x.isKillO=true
   ·cases x with
    |killO=>
     cases r with
     |l a b=>
      have e1:Tr.killO.sv (.bor (.l a b) p o n)=.bor (.l a b) p o n:=rfl;rw[e1];refine Tr.sv_id .killO _ (by simp[Tr.rts]) (fun _=>List.any_eq_false.2 fun q hq=> ?_)
      cases y with
      |ren c d=>simp only[Tr.sv]at hq;split at hq <;>simp[SV.srts]at hq <;>subst hq <;>simp[Root.isO]
      |_=>simp only[Tr.sv]at hq;(repeat' split at hq) <;>simp[SV.srts]at hq <;>subst hq <;>simp[Root.isO]
     |o m=>
      have hym:Root.o m∉y.rts:=fun hq=>by have:=List.any_eq_false.1 (hx rfl) _ hq;simp[Root.isO]at this
      by_cases hyk:y.isKillO=true
      ·cases y <;>simp[Tr.isKillO]at hyk;rfl
      ·have e1:y.sv (.bor (.o m) p o n)=.bor (.o m) p o n:=Tr.sv_id y _ (by simpa [SV.srts]using hym) (fun q=>absurd q hyk)
       rw[e1];have e2:Tr.killO.sv (.bor (.o m) p o n)=.dead:=rfl;rw[e2]
       cases y <;>rfl
    |_=>simp[Tr.isKillO]at hk
   ·have e1:x.sv (.bor r p o n)=.bor r p o n:=Tr.sv_id x _ (by simpa [SV.srts]using h1) (fun q=>absurd q hk)
    rw[e1];refine Tr.sv_id x _ (fun q hq hin=> ?_) (fun q=>absurd q hk)
    have:=Tr.rts_sub y (.bor r p o n) [r] (fun q hq=>by simpa [SV.srts]using hq) q hq
    cases y with
    |ren c d=>
     simp only[Tr.hist]at this
     split at this
     ·rcases List.mem_cons.1 this with rfl |this
      ·exact hd _ hin (by simp[Tr.rts])
      ·simp at this;subst this;exact h1 hin
     ·simp at this;subst this;exact h1 hin
    |_=>simp only[Tr.hist,yQ]at this;subst this;exact h1 hin
 | .loc r p i o=>by
  by_cases h1:r∈x.rts
  ·have h2:r∉y.rts:=hd r h1
   have ok:y.isKillO=true→r.isO=false:=fun q=>List.any_eq_false.1 (hy q) r h1 |>fun z=>by simpa using z
   have e1:y.sv (.loc r p i o)=.loc r p i o:=Tr.sv_id y _ (by simpa [SV.srts]using h2) (fun q=>by simpa [SV.srts]using ok q)
   rw[e1]
   refine(Tr.sv_id y _ (fun q hq=> ?_) (fun hk=> ?_)).symm
   ·have:=Tr.rts_sub x (.loc r p i o) x.rts (fun q hq=>by simp[SV.srts]at hq;subst hq;exact h1) q hq
    cases x <;>simp only[Tr.hist]at this <;>first |exact hd q this |(split at this <;>first |exact hd q this |(rcases List.mem_cons.1 this with rfl |this <;>first |exact hd q this |exact hd _ (by simp[Tr.rts])))
   ·have hno:=hy hk
    refine List.any_eq_false.2 fun q hq=> ?_
    have:=Tr.rts_sub x (.loc r p i o) x.rts (fun q hq=>by simp[SV.srts]at hq;subst hq;exact h1) q hq
    have hin:q∈x.rts:=by
     cases x <;>simp only[Tr.hist]at this <;>first |exact this |(split at this <;>first |exact this |(rcases List.mem_cons.1 this with rfl |this <;>first |exact this |simp[Tr.rts]))
    exact List.any_eq_false.1 hno q hin
  ·by_cases hk:x.isKillO=true
   ·cases x with
    |killO=>
     cases r with
     |l a b=>
      have e1:Tr.killO.sv (.loc (.l a b) p i o)=.loc (.l a b) p i o:=by cases p <;>rfl
      rw[e1];refine Tr.sv_id .killO _ (by simp[Tr.rts]) (fun _=>List.any_eq_false.2 fun q hq=> ?_)
      cases y with
      |ren c d=>simp only[Tr.sv]at hq;split at hq <;>simp[SV.srts]at hq <;>subst hq <;>simp[Root.isO]
      |_=>simp only[Tr.sv]at hq;(repeat' split at hq) <;>simp[SV.srts]at hq <;>subst hq <;>simp[Root.isO]
     |o m=>
      have hym:Root.o m∉y.rts:=fun hq=>by have:=List.any_eq_false.1 (hx rfl) _ hq;simp[Root.isO]at this
      by_cases hyk:y.isKillO=true
      ·cases y <;>simp[Tr.isKillO]at hyk;rfl
      ·have e1:y.sv (.loc (.o m) p i o)=.loc (.o m) p i o:=Tr.sv_id y _ (by simpa [SV.srts]using hym) (fun q=>absurd q hyk)
       rw[e1]
       cases p with
       |nil=>exact e1.symm
       |cons a p=>
        have e2:Tr.killO.sv (.loc (.o m) (a::p) i o)=.dead:=rfl;rw[e2]
        cases y <;>rfl
    |_=>simp[Tr.isKillO]at hk
   ·have e1:x.sv (.loc r p i o)=.loc r p i o:=Tr.sv_id x _ (by simpa [SV.srts]using h1) (fun q=>absurd q hk)
    rw[e1];refine Tr.sv_id x _ (fun q hq hin=> ?_) (fun q=>absurd q hk)
    have:=Tr.rts_sub y (.loc r p i o) [r] (fun q hq=>by simpa [SV.srts]using hq) q hq
    cases y with
    |ren c d=>
     simp only[Tr.hist]at this
     split at this
     ·rcases List.mem_cons.1 this with rfl |this
      ·exact hd _ hin (by simp[Tr.rts])
      ·simp at this;subst this;exact h1 hin
     ·simp at this;subst this;exact h1 hin
    |_=>simp only[Tr.hist,yQ]at this;subst this;exact h1 hin
theorem Tr.comms(x y:Tr)(hd:∀r∈x.rts,r∉y.rts)(hx:x.isKillO=true→y.rts.any Root.isO=false)(hy:y.isKillO=true→x.rts.any Root.isO=false):∀l:List SV,Tr.svs x (Tr.svs y l)=Tr.svs y (Tr.svs x l)
 | []=>rfl
 |v::l=>by simp only[Tr.svs,Tr.comm x y hd hx hy v,Tr.comms x y hd hx hy l]
end
theorem Jc(x:Tr):∀(a:List Tr) (v:SV),(∀y∈a,(∀r∈x.rts,r∉y.rts)∧(x.isKillO=true→y.rts.any Root.isO=false)∧(y.isKillO=true→x.rts.any Root.isO=false))→x.sv (trv a v)=trv a (x.sv v)
 | [],_,_=>rfl
 |y::a,v,h=>by
  obtain⟨h1,h2,h3⟩:=h y (by simp)
  simp only[trv];rw[Jc x a _ (fun z hz=>h z (by simp[hz])),Tr.comm x y h1 h2 h3]
theorem CQ:∀(a b:List Tr) (v:SV),(∀x∈a,∀y∈b,(∀r∈x.rts,r∉y.rts)∧(x.isKillO=true→y.rts.any Root.isO=false)∧(y.isKillO=true→x.rts.any Root.isO=false))→trv a (trv b v)=trv b (trv a v)
 | [],_,_,_=>rfl
 |x::a,b,v,h=>by
  simp only[trv];rw[Jc x b v (h x (by simp)),CQ a b _ (fun z hz=>h z (by simp[hz]))]
theorem eX:∀(a:List Tr) (l:List Root),a.any Tr.isRen=false→bQ a l=l
 | [],_,_=>rfl
 |x::a,l,h=>by
  simp only[List.any_cons,Bool.or_eq_false_iff]at h
  have:x.hist l=l:=by cases x <;>first |rfl |simp[Tr.isRen]at h
  simp only[bQ,this,eX a l h.2]
theorem CR(a b:List Tr)(l:List Root)(h:a.any Tr.isRen=false∨b.any Tr.isRen=false):bQ a (bQ b l)=bQ b (bQ a l):=by
 rcases h with h |h
 ·rw[eX a _ h,eX a _ h]
 ·rw[eX b _ h,eX b _ h]
def RelT(kd off:Nat)(e e':T):Prop:=e'.nc=e.nc∧(kd=0→e'.cell off=e.cell off)∧(kd=1→e'.cell off=e.cell off∨∃l l',e.cell off=some (.own l)∧e'.cell off=some (.own l')∧l'.length=l.length)
def adR(kd i off:Nat)(es es':List T):Prop:=(es[i]? =none∧es'[i]? =none)∨∃e e',es[i]? =some e∧es'[i]? =some e'∧RelT kd off e e'
def RelN(kd i off:Nat)(a b:Option T):Prop:=a=b∨∃es es',a=some (.own es)∧b=some (.own es')∧adR kd i off es es'
theorem RelT.symm{kd off:Nat}{e e':T}(h:RelT kd off e e'):RelT kd off e' e:=
 ⟨h.1.symm,fun q=>(h.2.1 q).symm,fun q=>(h.2.2 q).imp Eq.symm fun⟨l,l',h1,h2,h3⟩=>⟨l',l,h2,h1,h3.symm⟩⟩
theorem RelN.symm{kd i off:Nat}{a b:Option T}(h:RelN kd i off a b):RelN kd i off b a:=by
 rcases h with h |⟨es,es',h1,h2,h3⟩
 ·exact .inl h.symm
 ·refine .inr ⟨es',es,h2,h1,?_⟩
  rcases h3 with⟨q1,q2⟩ |⟨e,e',q1,q2,q3⟩
  ·exact .inl ⟨q2,q1⟩
  ·exact .inr ⟨e',e,q2,q1,q3.symm⟩
def age(kd:Nat)(r:Root)(p:aE)(i off:Nat)(k k':Wk):Prop:=RelN kd i off ((k.get r).bind (·.at p)) ((k'.get r).bind (·.at p))
section
variable{P:Program}{call:ak}{h:Hint}{dst:Nat}{ty:TypeId}
end
mutual
theorem GQ{r:Root}{q:aE}:∀(u:SV),u.unhurt r q=true→(Tr.kill r q).sv u=u
 | .bor r' p o n,h=>by
  simp only[SV.unhurt,Bool.or_eq_true,yD,xA,Bool.not_eq_true',decide_eq_false_iff_not]at h
  simp only[Tr.sv]
  by_cases e:r'=r
  ·subst e
   rcases h with h |⟨h1,h2⟩
   ·exact absurd rfl h
   ·simp[Ne.symm h1,h2]
  ·simp[e]
 | .loc r' p i o,h=>by
  simp only[SV.unhurt,Bool.or_eq_true,yD,xA,Bool.not_eq_true',decide_eq_false_iff_not]at h
  simp only[Tr.sv]
  by_cases e:r'=r
  ·subst e
   rcases h with h |⟨h1,h2⟩
   ·exact absurd rfl h
   ·simp[Ne.symm h1,h2]
  ·simp[e]
 | .agg l,h=>by simp only[SV.unhurt]at h;simp only[Tr.sv];rw[pY l h]
 | .tup l,h=>by simp only[SV.unhurt]at h;simp only[Tr.sv];rw[pY l h]
 | .d _,_=>rfl
 | .rp _ _,_=>rfl
 | .clip _ _,_=>rfl
 | .ns _,_=>rfl
 | .dead,_=>rfl
theorem pY{r:Root}{q:aE}:∀(l:List SV),SV.unhurts r q l=true→Tr.svs (Tr.kill r q) l=l
 | [],_=>rfl
 |v::l,h=>by
  simp only[SV.unhurts,xA]at h
  simp only[Tr.svs,GQ v h.1,pY l h.2]
end
end Go.Am
