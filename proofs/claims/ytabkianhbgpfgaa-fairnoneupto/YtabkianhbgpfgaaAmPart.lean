/- The abstract machine: comparing, parts of structs, arrays, slices. -/
import Derived.Test.YtabkianhbgpfgaaAmPure
namespace Go.Am
open Go Go.RowKit
set_option linter.unusedSimpArgs false
set_option linter.unusedVariables false

section
variable {P : Program} {c : Cx} {K : Root → Option T} {hd : Root → Value} {w : World}

section
variable (d : Nat) (t : TypeId) {b : Bool}
theorem eqIn_slice {e : TypeId} (hu : P.underlying t = some (.slice e)) (a : Option Addr) (l k : Nat) : (Op.equalIn (d + 1) t (.slice a l k) (.slice none 0 0)).run P w = .ok a.isNone w ∧ (Op.equalIn (d + 1) t (.slice none 0 0) (.slice a l k)).run P w = .ok a.isNone w := by
  constructor <;> cases a <;> simp [Op.equalIn, run_underlying hu]
theorem eqIn_pointer {e : TypeId} (hu : P.underlying t = some (.pointer e)) (a : Option Addr) : (Op.equalIn (d + 1) t (.pointer a) (.pointer none)).run P w = .ok a.isNone w ∧ (Op.equalIn (d + 1) t (.pointer none) (.pointer a)).run P w = .ok a.isNone w := by
  constructor <;> cases a <;> simp [Op.equalIn, run_underlying hu]
theorem eqIn_map {x y : TypeId} (hu : P.underlying t = some (.map x y)) (a : Option Nat) : (Op.equalIn (d + 1) t (.map a) (.map none)).run P w = .ok a.isNone w ∧ (Op.equalIn (d + 1) t (.map none) (.map a)).run P w = .ok a.isNone w := by
  constructor <;> cases a <;> simp [Op.equalIn, run_underlying hu]
theorem eqIn_func {x y : Array TypeId} {z : Bool} (hu : P.underlying t = some (.func x y z)) (f : Fn) (a c : Array Value) : (Op.equalIn (d + 1) t (.func f a c) .nilFunc).run P w = .ok false w ∧ (Op.equalIn (d + 1) t .nilFunc (.func f a c)).run P w = .ok false w ∧ (Op.equalIn (d + 1) t .nilFunc .nilFunc).run P w = .ok true w := by
  refine ⟨?_, ?_, ?_⟩ <;> simp [Op.equalIn, run_underlying hu]
theorem eqIn_iface {x : Array (String × TypeId)} (hu : P.underlying t = some (.interface x)) (f : TypeId) (v : Value) : (Op.equalIn (d + 1) t (.iface f v) .nilIface).run P w = .ok false w ∧ (Op.equalIn (d + 1) t .nilIface (.iface f v)).run P w = .ok false w ∧ (Op.equalIn (d + 1) t .nilIface .nilIface).run P w = .ok true w := by
  refine ⟨?_, ?_, ?_⟩ <;> simp [Op.equalIn, run_underlying hu]
end

theorem isNilV_ok {cst b : Bool} {t : TypeId} {n : D} {x : SV} {ox oy : Operand} {v nv : Value} (hn : VV c n nv) (hx : SO c K hd x v) (hc : cst = true → isConst ox = true ∨ isConst oy = true) (e : isNilV P cst t n x = some b) :
    EqRun P w t ox oy v nv b ∧ EqRun P w t ox oy nv v b := by
  have key : ∀ v u, (∀ op, eqGuard op t ox oy v u = pure ()) → (∀ u' a, ¬ (v = .int u' a)) → (∀ u' a, ¬ (u = .int u' a)) → (Op.equal t v u).run P w = .ok b w → (binOp .eql t v u = do pure (.bool (← Op.equal t v u))) → (binOp .neq t v u = do pure (.bool (!(← Op.equal t v u)))) → EqRun P w t ox oy v u b := by
    intro v u h1 _ _ h2 h3 h4
    refine ⟨?_, ?_⟩
    · simp [h1, h3, h2]
    · simp [h1, h4, h2]
  unfold isNilV at e
  split at e
  · -- slices
    have hnv : nv = .slice none 0 0 := by have := hn.inv (by simp); simpa [VC] using this
    subst hnv
    split at e
    · rename_i el hu
      have fin : ∀ a l k, (b = a.isNone) → EqRun P w t ox oy (.slice a l k) (.slice none 0 0) b ∧ EqRun P w t ox oy (.slice none 0 0) (.slice a l k) b := fun a l k hb => by
        subst hb
        constructor
        · exact key _ _ (fun op => eqGuard_at_slice ..) (by simp) (by simp) (eqIn_slice 9999 t hu ..).1 rfl rfl
        · exact key _ _ (fun op => eqGuard_at_slice ..) (by simp) (by simp) (eqIn_slice 9999 t hu ..).2 rfl rfl
      split at e <;> simp only [Option.some.injEq, reduceCtorEq] at e <;> subst e
      · have := VV.inv hx (by simp); simp only [VC, List.cons.injEq, and_true] at this; subst this; exact fin _ _ _ rfl
      · have := VV.inv hx (by simp)
        simp only [VC, List.cons.injEq, and_true] at this
        obtain ⟨a, len, cap, rfl, _, _, h4⟩ := this
        obtain ⟨ad, sz, rfl, _⟩ := h4 (by simp)
        exact fin _ _ _ rfl
      · obtain ⟨h1, a, rfl⟩ := hx
        simp only [VC, List.cons.injEq, and_true] at h1
        obtain ⟨a', len, cap, h1, _, _, h4⟩ := h1
        obtain ⟨ad, sz, rfl, _⟩ := h4 (by simp)
        simp only [Value.slice.injEq] at h1
        rw [h1.1]
        exact fin _ _ _ rfl
      · obtain ⟨t0, es, h', b1, b2, b3, b4, b5⟩ := hx
        obtain ⟨a, n, cap, a', cap', m1, m2, m3, m4, m5⟩ := b5
        obtain ⟨g, el', n1, n2, n3⟩ := m5 (by omega)
        subst m2; subst n3
        exact fin _ _ _ rfl
    · cases e
  · have hnv : nv = .pointer none := by have := hn.inv (by simp); simpa [VC] using this
    subst hnv
    split at e
    · rename_i el hu
      have fin : ∀ a, (b = a.isNone) → EqRun P w t ox oy (.pointer a) (.pointer none) b ∧ EqRun P w t ox oy (.pointer none) (.pointer a) b := fun a hb => by
        subst hb
        constructor
        · exact key _ _ (fun op => eqGuard_at_pointer ..) (by simp) (by simp) (eqIn_pointer 9999 t hu ..).1 rfl rfl
        · exact key _ _ (fun op => eqGuard_at_pointer ..) (by simp) (by simp) (eqIn_pointer 9999 t hu ..).2 rfl rfl
      split at e <;> simp only [Option.some.injEq, reduceCtorEq] at e <;> subst e
      · have := VV.inv hx (by simp); simp only [VC, List.cons.injEq, and_true] at this; subst this; exact fin _ rfl
      · have := VV.inv hx (by simp); simp only [VC, List.cons.injEq, and_true] at this; rw [this.2]; exact fin _ rfl
      · obtain ⟨t0, es, g, n, cap, el', h1, h2, h3, h4, h5, rfl⟩ := hx; exact fin _ rfl
      · obtain ⟨a, vs, rfl, _⟩ := hx; exact fin _ rfl
    · cases e
  · have hnv : nv = .map none := by have := hn.inv (by simp); simpa [VC] using this
    subst hnv
    split at e
    · rename_i el hu
      have fin : ∀ a, (b = a.isNone) → EqRun P w t ox oy (.map a) (.map none) b ∧ EqRun P w t ox oy (.map none) (.map a) b := fun a hb => by
        subst hb
        constructor
        · exact key _ _ (fun op => eqGuard_at_map ..) (by simp) (by simp) (eqIn_map 9999 t hu ..).1 rfl rfl
        · exact key _ _ (fun op => eqGuard_at_map ..) (by simp) (by simp) (eqIn_map 9999 t hu ..).2 rfl rfl
      split at e <;> simp only [Option.some.injEq, reduceCtorEq] at e <;> subst e
      · have := VV.inv hx (by simp); simp only [VC, List.cons.injEq, and_true] at this; subst this; exact fin _ rfl
      · have := VV.inv hx (by simp); simp only [VC, List.cons.injEq, and_true] at this; rw [this.2]; exact fin _ rfl
    · cases e
  · have hnv : nv = .nilFunc := by have := hn.inv (by simp); simpa [VC] using this
    subst hnv
    split at e
    · rename_i el hu hu
      split at e <;> simp only [Option.some.injEq, reduceCtorEq] at e <;> subst e
      · have := VV.inv hx (by simp); simp only [VC, List.cons.injEq, and_true] at this; subst this
        constructor
        · exact key _ _ (fun op => eqGuard_at_nilFunc ..) (by simp) (by simp) (eqIn_func 9999 t hu (.func 0) #[] #[]).2.2 rfl rfl
        · exact key _ _ (fun op => eqGuard_at_nilFunc ..) (by simp) (by simp) (eqIn_func 9999 t hu (.func 0) #[] #[]).2.2 rfl rfl
      · have := VV.inv hx (by simp); simp only [VC, List.cons.injEq, and_true] at this
        obtain ⟨av, bv, rfl, _⟩ := this
        constructor
        · exact key _ _ (fun op => eqGuard_at_func ..) (by simp) (by simp) (eqIn_func 9999 t hu ..).1 rfl rfl
        · exact key _ _ (fun op => eqGuard_at_nilFunc ..) (by simp) (by simp) (eqIn_func 9999 t hu ..).2.1 rfl rfl
    · cases e
  · have hnv : nv = .nilIface := by have := hn.inv (by simp); simpa [VC] using this
    subst hnv
    split at e
    · rename_i el hu
      split at e
      · have := VV.inv hx (by simp); simp only [VC, List.cons.injEq, and_true] at this; subst this
        split at e
        · rename_i hcst
          simp only [Option.some.injEq] at e; subst e
          have hg : ∀ op, eqGuard op t ox oy .nilIface .nilIface = pure () := fun op => by
            rcases hc hcst with h | h
            · cases ox with
              | const x => exact eqGuard_nil_constL ..
              | _ => simp [isConst] at h
            · cases oy with
              | const x => exact eqGuard_nil_constR ..
              | _ => simp [isConst] at h
          constructor
          · exact key _ _ hg (by simp) (by simp) (eqIn_iface 9999 t hu 0 .nilIface).2.2 rfl rfl
          · exact key _ _ hg (by simp) (by simp) (eqIn_iface 9999 t hu 0 .nilIface).2.2 rfl rfl
        · cases e
      · simp only [Option.some.injEq] at e; subst e
        have := VV.inv hx (by simp); simp only [VC, List.cons.injEq, and_true] at this
        obtain ⟨v, rfl, _⟩ := this
        constructor
        · exact key _ _ (fun op => eqGuard_at_iface ..) (by simp) (by simp) (eqIn_iface 9999 t hu ..).1 rfl rfl
        · exact key _ _ (fun op => eqGuard_nil_iface ..) (by simp) (by simp) (eqIn_iface 9999 t hu ..).2.1 rfl rfl
      · cases e
    · cases e
  · cases e

theorem eqV_ok {cst b : Bool} {t : TypeId} {x y : SV} {ox oy : Operand} {v u : Value} (hx : SO c K hd x v) (hy : SO c K hd y u) (hc : cst = true → isConst ox = true ∨ isConst oy = true) (e : eqV P cst t x y = some b) : EqRun P w t ox oy v u b := by
  unfold eqV at e
  split at e
  · split at e
    · rename_i hu
      simp only [Option.some.injEq] at e; subst e
      rw [VV.of_bool hx, VV.of_bool hy]
      refine ⟨?_, ?_⟩ <;> simp [eqGuard_at_bool, binOp, Op.equal, Op.maxDepth, run_equalIn_bool' w _ _ _ _ hu]
    · cases e
  · simp only [Option.bind_eq_some_iff] at e
    obtain ⟨ks, h1, e⟩ := e
    obtain ⟨xs, rfl, hx'⟩ := VV.inv_agg hx
    obtain ⟨ys, rfl, hy'⟩ := VV.inv_agg hy
    obtain ⟨_, _, _, hm, _⟩ := plainS_ok h1
    have := eqS_ok (w := w) (d0 := 9998) h1 hx' hy' e
    refine ⟨?_, ?_⟩
    · simp [run_eqGuard_agg w _ t ox oy xs ys hm, run_eql_struct, this]
    · simp [run_eqGuard_agg w _ t ox oy xs ys hm, run_neq_struct, this]
  · split at e
    · rename_i h1
      simp only [Option.some.injEq] at e; subst e
      exact (isNilV_ok hy hx hc h1).1
    · split at e
      · exact (isNilV_ok hx hy hc e).2
      · cases e
  · exact (isNilV_ok hx hy hc e).2
  · cases e

theorem binE_ok {cst : Bool} {op : BinOp} {t : TypeId} {x y : SV} {ox oy : Operand} {v u : Value} {d : D} (hx : SO c K hd x v) (hy : SO c K hd y u) (hc : cst = true → isConst ox = true ∨ isConst oy = true) (e : binE P cst op t x y = some d) :
    ∃ r, (do eqGuard op t ox oy v u; binOp op t v u : Sem Value).run P w = .ok r w ∧ VV c d r := by
  unfold binE at e
  split at e
  · rw [VV.of_int hx, VV.of_int hy, eqGuard_at_int]
    obtain ⟨r, h1, h2⟩ := binE_int (P := P) (c := c) (w := w) (cst := cst) (op := op) (t := t) (d := d) (by unfold binE; exact e)
    exact ⟨r, by simp [h1], h2⟩
  · obtain ⟨a, rfl, rfl⟩ := VV.of_str hx
    obtain ⟨a', rfl, rfl⟩ := VV.of_str hy
    rw [eqGuard_at_string]
    obtain ⟨r, h1, h2⟩ := strOp_ok (P := P) (c := c) (w := w) (t := t) e
    exact ⟨r, by simp [h1], h2⟩
  · split at e
    · simp only [Option.map_eq_some_iff] at e
      obtain ⟨b, e, rfl⟩ := e
      exact ⟨_, (eqV_ok hx hy hc e).1, VV.mk_bool _⟩
    · simp only [Option.map_eq_some_iff] at e
      obtain ⟨b, e, rfl⟩ := e
      exact ⟨_, (eqV_ok hx hy hc e).2, VV.mk_bool _⟩
    · cases e
end
end Go.Am
