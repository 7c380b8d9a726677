/- The abstract machine: data without lent parts, data without late objects. -/
import Derived.Test.YtabkianhbgpfgaaAmRes
namespace Go.Am
open Go Go.RowKit
set_option linter.unusedSimpArgs false
set_option linter.unusedVariables false

/-- nothing lent -/
def Cx.no (c : Cx) : Cx := { c with pm := fun t b => t = false ∧ c.pm t b }
/-- no object from number n on -/
def Cx.lo (c : Cx) (n : Nat) : Cx := { c with nO := n }

mutual
theorem VC.no {c : Cx} : ∀ (d : D) (cs : List Value), d.imm = true → VC c d cs → VC c.no d cs
  | .int _ _, _, _, hv => by simpa [VC] using hv
  | .bool _, _, _, hv => by simpa [VC] using hv
  | .str _, _, _, hv => by simpa [VC] using hv
  | .nils, _, _, hv => by simpa [VC] using hv
  | .nilp, _, _, hv => by simpa [VC] using hv
  | .nilm, _, _, hv => by simpa [VC] using hv
  | .nilf, _, _, hv => by simpa [VC] using hv
  | .nili, _, _, hv => by simpa [VC] using hv
  | .ptr o, cs, _, hv => by simp only [VC] at hv ⊢; exact hv
  | .map o, cs, _, hv => by simp only [VC] at hv ⊢; exact hv
  | .agg l, cs, hi, hv => by simp only [VC] at hv ⊢; simp only [D.imm] at hi; exact VCs.no l cs hi hv
  | .sl b l, cs, hi, hv => by
    simp only [VC] at hv ⊢
    simp only [D.imm, Bool.and_eq_true, Bool.not_eq_true'] at hi
    obtain ⟨a, len, cap, h1, h2, h3, h4⟩ := hv
    refine ⟨a, len, cap, h1, h2, h3, fun hl => ?_⟩
    obtain ⟨ad, sz, h5, h6, h7, h8, h9⟩ := h4 hl
    exact ⟨ad, sz, h5, h6, ⟨hi.1, h7⟩, h8, VE.no l ad 0 sz hi.2 h9⟩
  | .fn f a b, cs, hi, hv => by
    simp only [VC] at hv ⊢
    simp only [D.imm, Bool.and_eq_true] at hi
    obtain ⟨av, bv, h1, h2, h3⟩ := hv
    exact ⟨av, bv, h1, VVs.no a _ hi.1 h2, VVs.no b _ hi.2 h3⟩
  | .iface t x, cs, hi, hv => by
    simp only [VC] at hv ⊢
    simp only [D.imm] at hi
    obtain ⟨v, h1, h2, h3⟩ := hv
    exact ⟨v, h1, VC.no x _ hi h2, h3⟩
theorem VCs.no {c : Cx} : ∀ (l : List D) (cs : List Value), D.imms l = true → VCs c l cs → VCs c.no l cs
  | [], _, _, hv => by simpa [VCs] using hv
  | d :: ds, cs, hi, hv => by
    simp only [VCs] at hv ⊢
    simp only [D.imms, Bool.and_eq_true] at hi
    obtain ⟨v, r, h1, h2, h3⟩ := hv
    exact ⟨v, r, h1, VC.no d _ hi.1 h2, VCs.no ds r hi.2 h3⟩
theorem VVs.no {c : Cx} : ∀ (l : List D) (cs : List Value), D.imms l = true → VVs c l cs → VVs c.no l cs
  | [], _, _, hv => by simpa [VVs] using hv
  | d :: ds, cs, hi, hv => by
    simp only [VVs] at hv ⊢
    simp only [D.imms, Bool.and_eq_true] at hi
    obtain ⟨v, r, h1, h2, h3, h4⟩ := hv
    exact ⟨v, r, h1, VC.no d _ hi.1 h2, h3, VVs.no ds r hi.2 h4⟩
theorem VE.no {c : Cx} : ∀ (l : List D) (a : Addr) (o sz : Nat), D.imms l = true → VE c l a o sz → VE c.no l a o sz
  | [], _, _, _, _, _ => by simp [VE]
  | d :: ds, a, o, sz, hi, hv => by
    simp only [VE] at hv ⊢
    simp only [D.imms, Bool.and_eq_true] at hi
    obtain ⟨⟨cs, h1, h2, h3⟩, h4⟩ := hv
    exact ⟨⟨cs, h1, h2, VC.no d cs hi.1 h3⟩, VE.no ds a (o + sz) sz hi.2 h4⟩
end
mutual
theorem TC.no {c : Cx} : ∀ (t : T) (cs : List Value) (S : List Nat), t.imm = true → TC c t cs S → TC c.no t cs S
  | .d x, cs, S, hi, hv => by simp only [TC] at hv ⊢; simp only [T.imm] at hi; exact ⟨hv.1, VC.no x cs hi hv.2⟩
  | .dead, cs, S, _, hv => by simpa only [TC] using hv
  | .agg ts, cs, S, hi, hv => by simp only [TC] at hv ⊢; simp only [T.imm] at hi; exact TCs.no ts cs S hi hv
  | .own es, cs, S, hi, hv => by
    simp only [TC] at hv ⊢
    simp only [T.imm] at hi
    rcases hv with hv | ⟨g, cap, cur, e, sz, S', h1, h2, h3, h4, h5, h6, h7, h8⟩
    · exact .inl hv
    · exact .inr ⟨g, cap, cur, e, sz, S', h1, h2, h3, h4, h5, h6, h7, TE.no es sz _ S' hi h8⟩
theorem TCs.no {c : Cx} : ∀ (ts : List T) (cs : List Value) (S : List Nat), T.imms ts = true → TCs c ts cs S → TCs c.no ts cs S
  | [], _, _, _, hv => by simpa only [TCs] using hv
  | t :: ts, cs, S, hi, hv => by
    simp only [TCs] at hv ⊢
    simp only [T.imms, Bool.and_eq_true] at hi
    obtain ⟨v, r, S1, S2, h1, h2, h3, h4⟩ := hv
    exact ⟨v, r, S1, S2, h1, h2, TC.no t _ _ hi.1 h3, TCs.no ts _ _ hi.2 h4⟩
theorem TE.no {c : Cx} : ∀ (ts : List T) (sz : Nat) (cs : List Value) (S : List Nat), T.imms ts = true → TE c ts sz cs S → TE c.no ts sz cs S
  | [], _, _, _, _, hv => by simpa only [TE] using hv
  | t :: ts, sz, cs, S, hi, hv => by
    simp only [TE] at hv ⊢
    simp only [T.imms, Bool.and_eq_true] at hi
    obtain ⟨c1, c2, S1, S2, h1, h2, h3, h4, h5⟩ := hv
    exact ⟨c1, c2, S1, S2, h1, h2, h3, TC.no t _ _ hi.1 h4, TE.no ts sz _ _ hi.2 h5⟩
end
theorem RetAll.no {c : Cx} : ∀ (ts : List T) (vs : List Value) (M : List Nat), T.imms ts = true → RetAll c ts vs M → RetAll c.no ts vs M
  | [], _, _, _, hp => hp
  | t :: ts, vs, M, hi, hp => by
    simp only [T.imms, Bool.and_eq_true] at hi
    obtain ⟨v, r, M1, M2, h1, rfl, h3, h4, h5⟩ := hp
    exact ⟨v, r, M1, M2, h1, rfl, TC.no t _ _ hi.1 h3, h4, RetAll.no ts r M2 hi.2 h5⟩

mutual
theorem VC.lo {c : Cx} {n : Nat} : ∀ (d : D) (cs : List Value), d.low n = true → VC c d cs → VC (c.lo n) d cs
  | .int _ _, _, _, hv => by simpa [VC] using hv
  | .bool _, _, _, hv => by simpa [VC] using hv
  | .str _, _, _, hv => by simpa [VC] using hv
  | .nils, _, _, hv => by simpa [VC] using hv
  | .nilp, _, _, hv => by simpa [VC] using hv
  | .nilm, _, _, hv => by simpa [VC] using hv
  | .nilf, _, _, hv => by simpa [VC] using hv
  | .nili, _, _, hv => by simpa [VC] using hv
  | .ptr o, cs, hi, hv => by simp only [VC] at hv ⊢; simp only [D.low, decide_eq_true_eq] at hi; exact ⟨hi, hv.2⟩
  | .map o, cs, hi, hv => by simp only [VC] at hv ⊢; simp only [D.low, decide_eq_true_eq] at hi; exact ⟨hi, hv.2⟩
  | .agg l, cs, hi, hv => by simp only [VC] at hv ⊢; simp only [D.low] at hi; exact VCs.lo l cs hi hv
  | .sl b l, cs, hi, hv => by
    simp only [VC] at hv ⊢
    simp only [D.low] at hi
    obtain ⟨a, len, cap, h1, h2, h3, h4⟩ := hv
    refine ⟨a, len, cap, h1, h2, h3, fun hl => ?_⟩
    obtain ⟨ad, sz, h5, h6, h7, h8, h9⟩ := h4 hl
    exact ⟨ad, sz, h5, h6, h7, h8, VE.lo l ad 0 sz hi h9⟩
  | .fn f a b, cs, hi, hv => by
    simp only [VC] at hv ⊢
    simp only [D.low, Bool.and_eq_true] at hi
    obtain ⟨av, bv, h1, h2, h3⟩ := hv
    exact ⟨av, bv, h1, VVs.lo a _ hi.1 h2, VVs.lo b _ hi.2 h3⟩
  | .iface t x, cs, hi, hv => by
    simp only [VC] at hv ⊢
    simp only [D.low] at hi
    obtain ⟨v, h1, h2, h3⟩ := hv
    exact ⟨v, h1, VC.lo x _ hi h2, h3⟩
theorem VCs.lo {c : Cx} {n : Nat} : ∀ (l : List D) (cs : List Value), D.lows n l = true → VCs c l cs → VCs (c.lo n) l cs
  | [], _, _, hv => by simpa [VCs] using hv
  | d :: ds, cs, hi, hv => by
    simp only [VCs] at hv ⊢
    simp only [D.lows, Bool.and_eq_true] at hi
    obtain ⟨v, r, h1, h2, h3⟩ := hv
    exact ⟨v, r, h1, VC.lo d _ hi.1 h2, VCs.lo ds r hi.2 h3⟩
theorem VVs.lo {c : Cx} {n : Nat} : ∀ (l : List D) (cs : List Value), D.lows n l = true → VVs c l cs → VVs (c.lo n) l cs
  | [], _, _, hv => by simpa [VVs] using hv
  | d :: ds, cs, hi, hv => by
    simp only [VVs] at hv ⊢
    simp only [D.lows, Bool.and_eq_true] at hi
    obtain ⟨v, r, h1, h2, h3, h4⟩ := hv
    exact ⟨v, r, h1, VC.lo d _ hi.1 h2, h3, VVs.lo ds r hi.2 h4⟩
theorem VE.lo {c : Cx} {n : Nat} : ∀ (l : List D) (a : Addr) (o sz : Nat), D.lows n l = true → VE c l a o sz → VE (c.lo n) l a o sz
  | [], _, _, _, _, _ => by simp [VE]
  | d :: ds, a, o, sz, hi, hv => by
    simp only [VE] at hv ⊢
    simp only [D.lows, Bool.and_eq_true] at hi
    obtain ⟨⟨cs, h1, h2, h3⟩, h4⟩ := hv
    exact ⟨⟨cs, h1, h2, VC.lo d cs hi.1 h3⟩, VE.lo ds a (o + sz) sz hi.2 h4⟩
end
mutual
theorem TC.lo {c : Cx} {n : Nat} : ∀ (t : T) (cs : List Value) (S : List Nat), t.low n = true → TC c t cs S → TC (c.lo n) t cs S
  | .d x, cs, S, hi, hv => by simp only [TC] at hv ⊢; simp only [T.low] at hi; exact ⟨hv.1, VC.lo x cs hi hv.2⟩
  | .dead, cs, S, _, hv => by simpa only [TC] using hv
  | .agg ts, cs, S, hi, hv => by simp only [TC] at hv ⊢; simp only [T.low] at hi; exact TCs.lo ts cs S hi hv
  | .own es, cs, S, hi, hv => by
    simp only [TC] at hv ⊢
    simp only [T.low] at hi
    rcases hv with hv | ⟨g, cap, cur, e, sz, S', h1, h2, h3, h4, h5, h6, h7, h8⟩
    · exact .inl hv
    · exact .inr ⟨g, cap, cur, e, sz, S', h1, h2, h3, h4, h5, h6, h7, TE.lo es sz _ S' hi h8⟩
theorem TCs.lo {c : Cx} {n : Nat} : ∀ (ts : List T) (cs : List Value) (S : List Nat), T.lows n ts = true → TCs c ts cs S → TCs (c.lo n) ts cs S
  | [], _, _, _, hv => by simpa only [TCs] using hv
  | t :: ts, cs, S, hi, hv => by
    simp only [TCs] at hv ⊢
    simp only [T.lows, Bool.and_eq_true] at hi
    obtain ⟨v, r, S1, S2, h1, h2, h3, h4⟩ := hv
    exact ⟨v, r, S1, S2, h1, h2, TC.lo t _ _ hi.1 h3, TCs.lo ts _ _ hi.2 h4⟩
theorem TE.lo {c : Cx} {n : Nat} : ∀ (ts : List T) (sz : Nat) (cs : List Value) (S : List Nat), T.lows n ts = true → TE c ts sz cs S → TE (c.lo n) ts sz cs S
  | [], _, _, _, _, hv => by simpa only [TE] using hv
  | t :: ts, sz, cs, S, hi, hv => by
    simp only [TE] at hv ⊢
    simp only [T.lows, Bool.and_eq_true] at hi
    obtain ⟨c1, c2, S1, S2, h1, h2, h3, h4, h5⟩ := hv
    exact ⟨c1, c2, S1, S2, h1, h2, h3, TC.lo t _ _ hi.1 h4, TE.lo ts sz _ _ hi.2 h5⟩
end
theorem RetAll.lo {c : Cx} {n : Nat} : ∀ (ts : List T) (vs : List Value) (M : List Nat), T.lows n ts = true → RetAll c ts vs M → RetAll (c.lo n) ts vs M
  | [], _, _, _, hp => hp
  | t :: ts, vs, M, hi, hp => by
    simp only [T.lows, Bool.and_eq_true] at hi
    obtain ⟨v, r, M1, M2, h1, rfl, h3, h4, h5⟩ := hp
    exact ⟨v, r, M1, M2, h1, rfl, TC.lo t _ _ hi.1 h3, h4, RetAll.lo ts r M2 hi.2 h5⟩
end Go.Am
