/- The abstract machine: the operations that change nothing. -/
import Derived.Test.YtabkianhbgpfgaaAmAppend
namespace Go.Am
open Go Go.RowKit
set_option linter.unusedSimpArgs false
set_option linter.unusedVariables false

section
variable {P : Program} {c : Cx} {K : Root → Option T} {hd : Root → Value} {w : World}

theorem VV.of_int {k : IntKind} {n : Int} {v : Value} (h : VV c (.int k n) v) : v = .int k n := by have := h.inv (by simp); simpa [VC] using this
theorem VV.of_bool {b : Bool} {v : Value} (h : VV c (.bool b) v) : v = .bool b := by have := h.inv (by simp); simpa [VC] using this
theorem VV.of_str {s : List UInt8} {v : Value} (h : VV c (.str s) v) : ∃ b : ByteArray, v = .string b ∧ b.data.toList = s := by
  have := h.inv (by simp)
  simp only [VC, List.cons.injEq, and_true] at this
  exact this
theorem VV.mk_int (k : IntKind) (n : Int) : VV c (.int k n) (.int k n) := VV.one (by simp [VC]) (by simp)
theorem VV.mk_bool (b : Bool) : VV c (.bool b) (.bool b) := VV.one (by simp [VC]) (by simp)
theorem VV.mk_str {b : ByteArray} {s : List UInt8} (h : b.data.toList = s) : VV c (.str s) (.string b) := VV.one (by simp only [VC]; exact ⟨b, rfl, h⟩) (by simp)

/-! ### numbers and texts -/
theorem binE_int {cst : Bool} {op : BinOp} {t : TypeId} {k k' : IntKind} {a b : Int} {d : D} (e : binE P cst op t (.d (.int k a)) (.d (.int k' b)) = some d) :
    ∃ v, (binOp op t (.int k a) (.int k' b)).run P w = .ok v w ∧ VV c d v := by
  cases op <;> simp only [binE, shiftOp, intOp] at e <;> (repeat' split at e) <;> simp only [Option.some.injEq, reduceCtorEq] at e <;> subst_vars <;>
    first
    | exact ⟨_, by simp [binOp, Op.intArith, Op.intDiv, Op.intBits, Op.intCmp, Op.shift, *], VV.mk_int _ _⟩
    | exact ⟨_, by simp [binOp, Op.intArith, Op.intDiv, Op.intBits, Op.intCmp, Op.shift, *], VV.mk_int _ _⟩
    | exact ⟨_, by simp [binOp, Op.intArith, Op.intDiv, Op.intBits, Op.intCmp, Op.shift, *], VV.mk_bool _⟩
    | exact ⟨_, by simp [binOp, Op.intArith, Op.intDiv, Op.intBits, Op.intCmp, Op.shift, *], VV.mk_bool _⟩
theorem strOp_ok {op : BinOp} {t : TypeId} {x y : ByteArray} {d : D} (e : strOp op x.data.toList y.data.toList = some d) : ∃ v, (binOp op t (.string x) (.string y)).run P w = .ok v w ∧ VV c d v := by
  cases op <;> simp only [strOp] at e <;> (repeat' split at e) <;> simp only [Option.some.injEq, reduceCtorEq] at e <;> subst_vars
  · rename_i h
    have h' : x.size + y.size ≤ 9223372036854775807 := by
      simp only [Array.length_toList] at h
      exact h
    exact ⟨.string (x ++ y), by simp only [binOp]; exact run_string_add_sum w x y h', VV.mk_str (by simp)⟩
  all_goals exact ⟨_, by simp [binOp, Op.stringOp, ByteArray.toList_eq], VV.mk_bool _⟩
theorem unE_ok {op : UnOp} {x : SV} {v : Value} {d : D} (hx : SO c K hd x v) (e : unE op x = some d) : ∃ u, (Op.unary op v).run P w = .ok u w ∧ VV c d u := by
  unfold unE at e
  split at e
  · rw [VV.of_bool hx]
    split at e
    · simp only [Option.some.injEq] at e; subst e; exact ⟨_, by simp [Op.unary], VV.mk_bool _⟩
    · cases e
  · rw [VV.of_int hx]
    split at e
    · simp only [intOp, Option.some.injEq] at e; subst e; exact ⟨_, by simp [Op.unary, Op.intArith], VV.mk_int _ _⟩
    · simp only [intOp, Option.some.injEq] at e; subst e; exact ⟨_, by simp [Op.unary, Op.intBits], VV.mk_int _ _⟩
    · cases e
  · cases e
theorem convE_ok {src dst : TypeId} {x : SV} {v : Value} {d : D} (hx : SO c K hd x v) (e : convE P src dst x = some d) : ∃ u, (convert src dst v).run P w = .ok u w ∧ VV c d u := by
  unfold convE at e
  split at e
  · rw [VV.of_int hx]
    split at e
    · rename_i h1 h2
      simp only [Option.some.injEq] at e; subst e
      exact ⟨_, by simp [convert, run_underlying h1, run_underlying h2, Conv.intToInt], VV.mk_int _ _⟩
    · rename_i h1 h2
      simp only [Option.some.injEq] at e; subst e
      exact ⟨_, by simp [convert, run_underlying h1, run_underlying h2, Conv.intToString], VV.mk_str rfl⟩
    · cases e
  · obtain ⟨b, rfl, hb⟩ := VV.of_str hx
    split at e
    · rename_i h1 h2
      simp only [Option.some.injEq] at e; subst e
      exact ⟨_, by simp [convert, run_underlying h1, run_underlying h2], VV.mk_str hb⟩
    · cases e
  · cases e

/-! ### equal -/
/-- comparing the two, as an operation does -/
def EqRun (P : Program) (w : World) (t : TypeId) (ox oy : Operand) (v u : Value) (b : Bool) : Prop :=
  ((do eqGuard .eql t ox oy v u; binOp .eql t v u : Sem Value).run P w = .ok (.bool b) w) ∧ ((do eqGuard .neq t ox oy v u; binOp .neq t v u : Sem Value).run P w = .ok (.bool (!b)) w)

theorem kindOf_ok {t : TypeId} {n : Nat} (h : kindOf P t = some n) : (n = 0 ∧ ∃ k, P.underlying t = some (.int k)) ∨ (n = 1 ∧ P.underlying t = some .string) ∨ (n = 2 ∧ P.underlying t = some .bool) := by
  unfold kindOf at h
  split at h <;> simp only [Option.some.injEq, reduceCtorEq] at h <;> subst h
  · exact .inl ⟨rfl, _, ‹_›⟩
  · exact .inr (.inl ⟨rfl, ‹_›⟩)
  · exact .inr (.inr ⟨rfl, ‹_›⟩)
theorem kindOf_agg {t : TypeId} {n : Nat} (h : kindOf P t = some n) : aggO P t = some false := by
  rcases kindOf_ok h with ⟨_, k, hu⟩ | ⟨_, hu⟩ | ⟨_, hu⟩ <;> simp [aggO, hu]
theorem eqK_ok {t : TypeId} {n d0 : Nat} {x y : D} {u v : Value} {b : Bool} (h : kindOf P t = some n) (hx : VC c x [u]) (hy : VC c y [v]) (e : eqK n x y = some b) : (Op.equalIn (d0 + 1) t u v).run P w = .ok b w := by
  unfold eqK at e
  split at e
  · split at e <;> simp only [Option.some.injEq, reduceCtorEq] at e
    subst e
    simp only [VC, List.cons.injEq, and_true] at hx hy
    subst hx; subst hy
    rcases kindOf_ok h with ⟨_, k, hu⟩ | ⟨h0, hu⟩ | ⟨h0, hu⟩ <;> first | (subst_vars; exact run_equalIn_int w _ _ _ _ _ _ hu) | cases h0
  · simp only [Option.some.injEq] at e
    subst e
    simp only [VC, List.cons.injEq, and_true] at hx hy
    obtain ⟨a, rfl, rfl⟩ := hx
    obtain ⟨a', rfl, rfl⟩ := hy
    rcases kindOf_ok h with ⟨h0, k, hu⟩ | ⟨_, hu⟩ | ⟨h0, hu⟩ <;> first | (rw [run_equalIn_string w _ _ _ _ hu, ByteArray.toList_eq, ByteArray.toList_eq]) | cases h0
  · simp only [Option.some.injEq] at e
    subst e
    simp only [VC, List.cons.injEq, and_true] at hx hy
    subst hx; subst hy
    rcases kindOf_ok h with ⟨h0, k, hu⟩ | ⟨h0, hu⟩ | ⟨_, hu⟩ <;> first | (exact run_equalIn_bool' w _ _ _ _ hu) | cases h0
  · cases e
theorem run_part_one {t : TypeId} {cs : Array Value} {off : Nat} {v : Value} (h : aggO P t = some false) (hc : cs[off]? = some v) : (part t cs off).run P w = .ok v w := by
  simp [part, (run_isAgg h w).1, hc]
theorem run_part_agg {t : TypeId} {cs : Array Value} {off : Nat} (h : aggO P t = some true) : (part t cs off).run P w = .ok (.agg (cs.extract off (off + P.cellsOf t))) w := by
  simp [part, (run_isAgg h w).1, (run_isAgg h w).2]
theorem eqFields_ok {xs ys : Array Value} {d0 : Nat} : ∀ (fs : List Field) (i : Nat) (ks : List Nat) (as bs : List D) (b : Bool), kindsF P i fs = some ks → VCs c as (xs.toList.drop i) → VCs c bs (ys.toList.drop i) → eqKs ks as bs = some b →
    (Op.eqFields (d0 + 1) xs ys fs).run P w = .ok b w
  | [], i, ks, as, bs, b, hk, _, _, e => by
    simp only [kindsF, Option.some.injEq] at hk
    subst hk
    cases as <;> cases bs <;> simp [eqKs] at e
    subst e
    simp [Op.eqFields]
  | f :: fs, i, ks, as, bs, b, hk, ha, hb, e => by
    simp only [kindsF] at hk
    split at hk
    · rename_i hf
      obtain ⟨rfl, hn⟩ := hf
      simp only [Option.bind_eq_some_iff, Option.map_eq_some_iff] at hk
      obtain ⟨n, h1, ns, h2, rfl⟩ := hk
      match as, bs, e with
      | a :: r, b0 :: q, e =>
        simp only [eqKs, Option.bind_eq_some_iff, Option.map_eq_some_iff] at e
        obtain ⟨x, e1, y, e2, rfl⟩ := e
        simp only [VCs] at ha hb
        obtain ⟨v, r1, k1, k2, k3⟩ := ha
        obtain ⟨u, r2, m1, m2, m3⟩ := hb
        have hg : ∀ (zs : Array Value) (z : Value) (r : List Value), zs.toList.drop f.offset = z :: r → zs[f.offset]? = some z ∧ zs.toList.drop (f.offset + 1) = r := fun zs z r hz => by
          constructor
          · have : (zs.toList.drop f.offset)[0]? = some z := by rw [hz]; rfl
            rw [List.getElem?_drop, Nat.add_zero, Array.getElem?_toList] at this
            exact this
          · have : (zs.toList.drop f.offset).drop 1 = r := by rw [hz]; rfl
            rwa [List.drop_drop] at this
        obtain ⟨g1, g2⟩ := hg xs v r1 k1
        obtain ⟨g3, g4⟩ := hg ys u r2 m1
        have ih := eqFields_ok (d0 := d0) fs (f.offset + 1) ns r q y h2 (by rw [g2]; exact k3) (by rw [g4]; exact m3) e2
        have he := eqK_ok (w := w) (d0 := d0) h1 k2 m2 e1
        have hag := kindOf_agg h1
        simp only [Op.eqFields, ne_eq, hn, not_false_eq_true, if_true, Sem.run_bind, run_part_one hag g1, run_part_one hag g3, Result.andThen_ok, he]
        cases x
        · simp
        · simpa using ih
    · cases hk
theorem plainS_ok {t : TypeId} {ks : List Nat} (h : plainS P t = some ks) : ∃ fs, P.underlying t = some (.struct fs) ∧ P.stoodInHeld t = false ∧ P.eqGuardType P.depth t = false ∧ kindsF P 0 fs.toList = some ks := by
  unfold plainS at h
  split at h
  · split at h
    · rename_i h1; exact ⟨_, ‹_›, h1.1, h1.2, h⟩
    · cases h
  · cases h
theorem eqS_ok {t : TypeId} {ks : List Nat} {d0 : Nat} {as bs : List D} {xs ys : Array Value} {b : Bool} (h : plainS P t = some ks) (ha : VCs c as xs.toList) (hb : VCs c bs ys.toList) (e : eqKs ks as bs = some b) :
    (Op.equalIn (d0 + 2) t (.agg xs) (.agg ys)).run P w = .ok b w := by
  obtain ⟨fs, h1, h2, _, h4⟩ := plainS_ok h
  have hf : P.fieldsOf t = fs := by simp [Program.fieldsOf, h1]
  rw [run_equalIn_struct w (d0 + 1) t xs ys (by rw [hf]; exact h1) h2, hf]
  exact eqFields_ok (d0 := d0) fs.toList 0 ks as bs b h4 (by simpa using ha) (by simpa using hb) e
end
end Go.Am
