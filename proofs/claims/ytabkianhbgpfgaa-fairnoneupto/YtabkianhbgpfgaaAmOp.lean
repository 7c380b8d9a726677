/- The abstract machine: one operation of a region, wanted or not. -/
import Derived.Test.YtabkianhbgpfgaaAmSt
namespace Go.Am
open Go Go.RowKit
set_option linter.unusedSimpArgs false
set_option linter.unusedVariables false

section
variable {P : Program} {A : Av} {ρ : Nat → Nat} {S : Root → List Nat} {hd : Root → Value} {fl : List Nat} {k k' : Wk} {vals vals' : List (SV × Value)} {w : World}

theorem put_size (a : Act) (d : Option Nat) (v : Value) : (a.put d v).tmps.size = a.tmps.size := by cases d <;> simp [Act.put]
theorem put_defers' (a : Act) (d : Option Nat) (v : Value) : (a.put d v).defers = a.defers := by cases d <;> rfl

theorem wantE_ok {s : St} {a : Act} {ops : Array Oper} {o : Oper} {b : Bool} (hs : SR A s a w) (e : wantE ops.toList s o = some b) : Region.wanted o (yielded ops a.tmps) = b := by
  obtain ⟨ρ, S, hd, _, hv⟩ := hs
  unfold wantE at e
  unfold Region.wanted
  split at e
  · rename_i hg
    simp only [Option.some.injEq] at e
    rw [hg]; exact e
  · rename_i j want hg
    rw [hg]
    simp only
    split at e
    · rename_i t ht
      rw [Array.getElem?_toList] at ht
      have hvt := hv t
      split at e
      · rename_i b' hb
        simp only [Option.some.injEq] at e
        rw [hb] at hvt
        have hvt := VV.of_bool hvt
        have hlt : t < a.tmps.size := by
          rcases Nat.lt_or_ge t a.tmps.size with q | q
          · exact q
          · simp [Array.getD_eq_getD_getElem?, Array.getElem?_eq_none q, undef] at hvt
        have hg2 : a.tmps[t]? = some (.bool b') := by
          rw [Array.getElem?_eq_getElem hlt]
          simpa [hlt] using hvt
        have : yielded ops a.tmps j = some b' := by simp [yielded, ht, hg2]
        rw [this, ← e]
        cases b' <;> cases want <;> rfl
      · rename_i hb
        simp only [Option.some.injEq] at e
        rw [hb] at hvt
        obtain ⟨vs, hvs, _⟩ := hvt
        have : yielded ops a.tmps j = none := by
          unfold yielded
          rw [ht]
          simp only [Option.bind_some]
          cases hx : a.tmps[t]? with
          | none => rfl
          | some x =>
            have : a.tmps.getD t undef = x := by simp [Array.getD_eq_getD_getElem?, hx]
            rw [this] at hvs
            subst hvs
            rfl
        rw [this, ← e]
        rfl
      · cases e
    · cases e

/-- the pairs of a slot each, and of each operand -/
def pairs (s : St) (a : Act) (xs : List Operand) : List (SV × Value) := s.env.map (fun p => (s.get p.1, a.tmps.getD p.1 undef)) ++ xs.map fun x => (s.val x, a.eval x)

theorem runOp_ok {call : CallF} (hc : CallOK P call) {hint : Hint} {ops : Array Oper} {o : Oper} {s s' : St} {a : Act} (hs : SR A s a w) (hd : ∀ d, o.dst = some d → d < a.tmps.size) (e : runOp P call hint ops.toList o s = some s')
    {K : Act → World → Prop} {Q : Exit → Act → World → Prop} (hK : ∀ a' w', SR A s' a' w' → a'.defers = a.defers → a'.tmps.size = a.tmps.size → K a' w') :
    if Region.wanted o (yielded ops a.tmps) then o.wp P a w K Q else K (a.put o.dst undef) w := by
  simp only [runOp, Option.bind_eq_some_iff] at e
  obtain ⟨b, e1, e⟩ := e
  rw [wantE_ok hs e1]
  obtain ⟨ρ, S, hd0, h, hv⟩ := hs
  have hk : KR A ρ S hd0 [] s.wk (pairs s a o.op.operands.toList) w := h.withVals (fun p hp => by
    simp only [pairs, List.mem_append, List.mem_map] at hp
    rcases hp with ⟨q, _, rfl⟩ | ⟨x, _, rfl⟩
    · exact hv q.1
    · exact SR.val hv x)
  have henv : ∀ t ∈ s.env.map (·.1), (s.get t, a.tmps.getD t undef) ∈ pairs s a o.op.operands.toList := fun t ht => by
    simp only [List.mem_map] at ht
    obtain ⟨q, hq, rfl⟩ := ht
    simp only [pairs, List.mem_append, List.mem_map]
    exact .inl ⟨q, hq, rfl⟩
  cases b
  · simp only [Bool.false_eq_true, if_false, Option.some.injEq] at e ⊢
    subst e
    refine hK _ _ ?_ (put_defers' _ _ _) (put_size _ _ _)
    exact SR.fin (vals := pairs s a o.op.operands.toList) hk ⟨#[], rfl, rfl⟩ henv hd
  · simp only [if_true, Option.map_eq_some_iff] at e ⊢
    obtain ⟨⟨sv, k'⟩, e2, rfl⟩ := e
    refine stepE_ok hc hk rfl (fun x hx => ?_) e2 (fun v w' ρ' S' hd' g1 g2 => ?_)
    · simp only [pairs, List.mem_append, List.mem_map]
      exact .inr ⟨x, by simpa using hx, rfl⟩
    · refine hK _ _ ?_ (put_defers' _ _ _) (put_size _ _ _)
      exact SR.fin g1 g2 henv hd
end
end Go.Am
