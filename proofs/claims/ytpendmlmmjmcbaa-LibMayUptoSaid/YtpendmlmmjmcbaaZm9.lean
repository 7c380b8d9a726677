/- 'LibMayUptoSaid': each model may be. Condition: what is read is of bulk at most 1048576. -/
import Derived.Test.YtpendmlmmjmcbaaZm8
import Derived.Test.YtpendmlmmjmcbaaRows
import Derived.WalkKit
import Derived.ProofKit
import Derived.OpenShut
import Derived.JoinedCond
import Derived.Carry
import Derived.ChangeArms
/- LibMay at closed arguments. -/
namespace Go.Lib
open Go Go.Am Go.Proofs
set_option linter.unusedSimpArgs false
set_option linter.unusedVariables false
set_option maxRecDepth 20000
theorem wu2 : IntKind.u64.wrap 2 = 2 := by decide
theorem sh1 (c : Bool) : binE P c .shr 39 (.d (.int .u64 1)) (.d (.int .u64 2)) = some (.int .u64 0) := by cases c <;> kernel_rfl
theorem sh2 (c : Bool) : binE P c .shr 39 (.d (.int .u64 2)) (.d (.int .u64 2)) = some (.int .u64 0) := by cases c <;> kernel_rfl
theorem sh3 (c : Bool) : binE P c .shr 39 (.d (.int .u64 3)) (.d (.int .u64 2)) = some (.int .u64 0) := by cases c <;> kernel_rfl
attribute [go_sem] wu2 sh1 sh2 sh3
variable {ρ : Type}
theorem gl3 (s : St) (κ : Ex × St → Option ρ) : go P hints hint3 L3_0 s κ = go P hints hint3 (loopBody L3_0) s (kLoop P hints hint3 L3_0 κ) := go_turn s κ
theorem u_abp1 : call 3 [.int .u8 0, .int .i64 1] [] = some ([.d (.bool true)], []) := by
  simp -implicitDefEqProofs (maxSteps := 1000000) [go_sem, ge3, gg3_0, gg3_1, gg3_2, gg3_3, gg3_4, gg3_5, gg3_6, gg3_7, gg3_8, gg3_9, gg3_10, gg3_11, gg3_12, gg3_13, gg3_14, gl3]
theorem u_abp2 : call 3 [.int .u8 0, .int .i64 2] [] = some ([.d (.bool true)], []) := by
  simp -implicitDefEqProofs (maxSteps := 1000000) [go_sem, ge3, gg3_0, gg3_1, gg3_2, gg3_3, gg3_4, gg3_5, gg3_6, gg3_7, gg3_8, gg3_9, gg3_10, gg3_11, gg3_12, gg3_13, gg3_14, gl3]
theorem u_abp3 : call 3 [.int .u8 0, .int .i64 3] [] = some ([.d (.bool true)], []) := by
  simp -implicitDefEqProofs (maxSteps := 1000000) [go_sem, ge3, gg3_0, gg3_1, gg3_2, gg3_3, gg3_4, gg3_5, gg3_6, gg3_7, gg3_8, gg3_9, gg3_10, gg3_11, gg3_12, gg3_13, gg3_14, gl3]
theorem u_mutex2 : call 3 [.int .u8 1, .int .i64 2] [] = some ([.d (.bool true)], []) := by
  simp -implicitDefEqProofs (maxSteps := 1000000) [go_sem, ge3, gg3_0, gg3_1, gg3_2, gg3_3, gg3_4, gg3_5, gg3_6, gg3_7, gg3_8, gg3_9, gg3_10, gg3_11, gg3_12, gg3_13, gg3_14, gl3]
theorem u_mutex3 : call 3 [.int .u8 1, .int .i64 3] [] = some ([.d (.bool true)], []) := by
  simp -implicitDefEqProofs (maxSteps := 1000000) [go_sem, ge3, gg3_0, gg3_1, gg3_2, gg3_3, gg3_4, gg3_5, gg3_6, gg3_7, gg3_8, gg3_9, gg3_10, gg3_11, gg3_12, gg3_13, gg3_14, gl3]
theorem u_pair1 : call 3 [.int .u8 2, .int .i64 1] [] = some ([.d (.bool true)], []) := by
  simp -implicitDefEqProofs (maxSteps := 1000000) [go_sem, ge3, gg3_0, gg3_1, gg3_2, gg3_3, gg3_4, gg3_5, gg3_6, gg3_7, gg3_8, gg3_9, gg3_10, gg3_11, gg3_12, gg3_13, gg3_14, gl3]
theorem u_pair2 : call 3 [.int .u8 2, .int .i64 2] [] = some ([.d (.bool true)], []) := by
  simp -implicitDefEqProofs (maxSteps := 1000000) [go_sem, ge3, gg3_0, gg3_1, gg3_2, gg3_3, gg3_4, gg3_5, gg3_6, gg3_7, gg3_8, gg3_9, gg3_10, gg3_11, gg3_12, gg3_13, gg3_14, gl3]
theorem u_pair3 : call 3 [.int .u8 2, .int .i64 3] [] = some ([.d (.bool true)], []) := by
  simp -implicitDefEqProofs (maxSteps := 1000000) [go_sem, ge3, gg3_0, gg3_1, gg3_2, gg3_3, gg3_4, gg3_5, gg3_6, gg3_7, gg3_8, gg3_9, gg3_10, gg3_11, gg3_12, gg3_13, gg3_14, gl3]
theorem u_ring2 : call 3 [.int .u8 3, .int .i64 2] [] = some ([.d (.bool true)], []) := by
  simp -implicitDefEqProofs (maxSteps := 1000000) [go_sem, ge3, gg3_0, gg3_1, gg3_2, gg3_3, gg3_4, gg3_5, gg3_6, gg3_7, gg3_8, gg3_9, gg3_10, gg3_11, gg3_12, gg3_13, gg3_14, gl3]
theorem u_ring3 : call 3 [.int .u8 3, .int .i64 3] [] = some ([.d (.bool true)], []) := by
  simp -implicitDefEqProofs (maxSteps := 1000000) [go_sem, ge3, gg3_0, gg3_1, gg3_2, gg3_3, gg3_4, gg3_5, gg3_6, gg3_7, gg3_8, gg3_9, gg3_10, gg3_11, gg3_12, gg3_13, gg3_14, gl3]
theorem u_toss1 : call 3 [.int .u8 4, .int .i64 1] [] = some ([.d (.bool true)], []) := by
  simp -implicitDefEqProofs (maxSteps := 1000000) [go_sem, ge3, gg3_0, gg3_1, gg3_2, gg3_3, gg3_4, gg3_5, gg3_6, gg3_7, gg3_8, gg3_9, gg3_10, gg3_11, gg3_12, gg3_13, gg3_14, gl3]
theorem u_toss2 : call 3 [.int .u8 4, .int .i64 2] [] = some ([.d (.bool true)], []) := by
  simp -implicitDefEqProofs (maxSteps := 1000000) [go_sem, ge3, gg3_0, gg3_1, gg3_2, gg3_3, gg3_4, gg3_5, gg3_6, gg3_7, gg3_8, gg3_9, gg3_10, gg3_11, gg3_12, gg3_13, gg3_14, gl3]
theorem u_toss3 : call 3 [.int .u8 4, .int .i64 3] [] = some ([.d (.bool true)], []) := by
  simp -implicitDefEqProofs (maxSteps := 1000000) [go_sem, ge3, gg3_0, gg3_1, gg3_2, gg3_3, gg3_4, gg3_5, gg3_6, gg3_7, gg3_8, gg3_9, gg3_10, gg3_11, gg3_12, gg3_13, gg3_14, gl3]
end Go.Lib
/- Loops in plain Lean: what 'iter' comes to; facts of lists. -/
namespace Go.Am
open Go
section
variable {α β γ δ σ : Type}
theorem iter_inv {f : α → Option (α ⊕ β)} (I : α → Prop) (Q : β → Prop) (μ : α → Nat)
    (h : ∀ x, I x → (∃ y, f x = some (.inl y) ∧ I y ∧ μ y < μ x) ∨ (∃ z, f x = some (.inr z) ∧ Q z)) : ∀ x, I x → ∃ z, iter f x = some z ∧ Q z := by
  have : ∀ (n : Nat) (x : α), μ x < n → I x → ∃ z, iter f x = some z ∧ Q z := by
    intro n
    induction n with
    | zero => intro x hx; omega
    | succ n ih =>
      intro x hx hI
      rcases h x hI with ⟨y, e, hy, hm⟩ | ⟨z, e, hz⟩
      · rw [iter_inl e]; exact ih y (by omega) hy
      · exact ⟨z, iter_inr e, hz⟩
  exact fun x hx => this (μ x + 1) x (by omega) hx
theorem iter_lock {f : α → Option (α ⊕ β)} {g : γ → Option (γ ⊕ δ)} (R : α → γ → Prop) (Q : β → δ → Prop) (μ : α → Nat)
    (h : ∀ x y, R x y → (∃ x' y', f x = some (.inl x') ∧ g y = some (.inl y') ∧ R x' y' ∧ μ x' < μ x) ∨ (∃ z w, f x = some (.inr z) ∧ g y = some (.inr w) ∧ Q z w)) :
    ∀ x y, R x y → ∃ z w, iter f x = some z ∧ iter g y = some w ∧ Q z w := by
  have : ∀ (n : Nat) (x : α) (y : γ), μ x < n → R x y → ∃ z w, iter f x = some z ∧ iter g y = some w ∧ Q z w := by
    intro n
    induction n with
    | zero => intro x y hx; omega
    | succ n ih =>
      intro x y hx hI
      rcases h x y hI with ⟨x', y', e, e', hy, hm⟩ | ⟨z, w, e, e', hz⟩
      · rw [iter_inl e, iter_inl e']; exact ih x' y' (by omega) hy
      · exact ⟨z, w, iter_inr e, iter_inr e', hz⟩
  exact fun x y hx => this (μ x + 1) x y (by omega) hx
/-- step by step -/
theorem iter_steps {f : α → Option (α ⊕ β)} (s : Nat → α) (n : Nat) (z : β) (h : ∀ k, k < n → f (s k) = some (.inl (s (k + 1)))) (e : f (s n) = some (.inr z)) : iter f (s 0) = some z := by
  have : ∀ k, k ≤ n → iter f (s 0) = iter f (s k) := by
    intro k
    induction k with
    | zero => intro _; rfl
    | succ k ih => intro hk; rw [ih (by omega), iter_inl (h k (by omega))]
  rw [this n (Nat.le_refl _), iter_inr e]
theorem iter_steps0 {f : α → Option (α ⊕ β)} (s : Nat → α) (n : Nat) {x : α} {z : β} (h0 : s 0 = x) (h : ∀ k, k < n → f (s k) = some (.inl (s (k + 1)))) (e : f (s n) = some (.inr z)) : iter f x = some z := by
  subst h0; exact iter_steps s n z h e
/-- a search: the first that is found, or the end -/
theorem iter_find {f : Int → Option (Int ⊕ (γ ⊕ Int))} (n : Nat) (g : Nat → Option γ)
    (h : ∀ k : Nat, k < n → f k = some (match g k with | some c => .inr (.inl c) | none => .inl ((k : Int) + 1)))
    (e : f n = some (.inr (.inr n))) : iter f 0 = some (((List.range n).findSome? g).elim (.inr (n : Int)) .inl) := by
  have : ∀ j k : Nat, k + j = n → iter f k = some (((List.range' k j).findSome? g).elim (.inr (n : Int)) .inl) := by
    intro j
    induction j with
    | zero => intro k hk; obtain rfl : k = n := by omega
              rw [iter_inr e]; rfl
    | succ j ih =>
      intro k hk
      have h1 := h k (by omega)
      rw [List.range'_succ, List.findSome?_cons]
      cases hg : g k with
      | some c => rw [hg] at h1; rw [iter_inr h1]; rfl
      | none => rw [hg] at h1; rw [iter_inl h1]; exact ih (k + 1) (by omega)
  have := this n 0 (by omega)
  rw [List.range_eq_range']
  exact this
/-- does any fail? -/
theorem iter_any {f : Int → Option (Int ⊕ (Unit ⊕ Int))} (n : Nat) (p : Nat → Bool)
    (h : ∀ k : Nat, k < n → f k = some (if p k = true then .inl ((k : Int) + 1) else .inr (.inl ())))
    (e : f n = some (.inr (.inr n))) : iter f 0 = some (if (List.range n).all p = true then .inr (n : Int) else .inl ()) := by
  rw [iter_find n (fun k => if p k = true then none else some ()) ?_ e]
  · congr 1
    have : ∀ l : List Nat, (l.findSome? (fun k => if p k = true then none else some ())).elim (Sum.inr (n : Int)) Sum.inl = if l.all p = true then .inr (n : Int) else .inl () := by
      intro l
      induction l with
      | nil => rfl
      | cons a l ih =>
        rw [List.findSome?_cons]
        by_cases ha : p a = true
        · simpa [ha] using ih
        · simp [ha]
    exact this _
  · intro k hk
    rw [h k hk]
    by_cases hp : p k = true <;> simp [hp]
theorem all_range_get {l : List α} {p : α → Bool} : (List.range l.length).all (fun k => (l[k]?).any p) = l.all p := by
  rw [Bool.eq_iff_iff, List.all_eq_true, List.all_eq_true]
  constructor
  · intro h x hx
    obtain ⟨k, hk, rfl⟩ := List.getElem_of_mem hx
    have := h k (List.mem_range.2 hk)
    simpa [hk] using this
  · intro h k hk
    have hk := List.mem_range.1 hk
    simpa [hk] using h _ (List.getElem_mem hk)
/-- a list that grows by one at each step -/
theorem range_map_succ {g : Nat → α} {n : Nat} : (List.range (n + 1)).map g = (List.range n).map g ++ [g n] := by simp [List.range_succ]
theorem snoc_ind {P : List α → Prop} (h0 : P []) (h1 : ∀ l x, P l → P (l ++ [x])) (l : List α) : P l := by
  have : ∀ m : List α, P m.reverse := by
    intro m
    induction m with
    | nil => exact h0
    | cons a m ih => rw [List.reverse_cons]; exact h1 _ _ ih
  have h := this l.reverse
  rwa [List.reverse_reverse] at h
theorem nodup_len [DecidableEq α] : ∀ (l m : List α), l.Nodup → (∀ x ∈ l, x ∈ m) → l.length ≤ m.length
  | [], m, _, _ => by simp
  | a :: l, m, hn, h => by
    have ha := h a (by simp)
    rw [List.nodup_cons] at hn
    have h1 := nodup_len l (m.erase a) hn.2 fun x hx => by
      have hne : x ≠ a := fun e => hn.1 (e ▸ hx)
      exact (List.mem_erase_of_ne hne).2 (h x (by simp [hx]))
    rw [List.length_erase_of_mem ha] at h1
    have : 0 < m.length := List.length_pos_of_mem ha
    simp only [List.length_cons]
    omega
end
theorem wrap64 {x : Int} (h1 : -9223372036854775808 ≤ x) (h2 : x ≤ 9223372036854775807) : IntKind.i64.wrap x = x := wrap_i64 h1 h2
theorem wrapS {k : Nat} (h : k < 4611686018427387904) : IntKind.i64.wrap ((k : Int) + 1) = (k : Int) + 1 := wrap_i64 (by omega) (by omega)
end Go.Am
/- LibMay answers true, whatever the numbers. -/
namespace Go.Lib
open Go Go.Am Go.Proofs
theorem law_LibMay (w n : Int) (h0 : 0 ≤ w) (h1 : w ≤ 255) : call 3 [.int .u8 w, .int .i64 n] [] = some ([.d (.bool true)], []) := by
  have hw : IntKind.i64.wrap w = w := wrap64 (by omega) (by omega)
  have hm : w.tmod 5 = w % 5 := Int.tmod_eq_emod_of_nonneg h0
  rcases (show w.tmod 5 = 0 ∨ w.tmod 5 = 1 ∨ w.tmod 5 = 2 ∨ w.tmod 5 = 3 ∨ w.tmod 5 = 4 by rw [hm]; omega) with hr | hr | hr | hr | hr
  · rw [lm_w0 w n hw hr]
    by_cases hb : n < 1 ∨ 3 < n
    · exact lm_abp n hb
    · rcases (show n = 1 ∨ n = 2 ∨ n = 3 by omega) with rfl | rfl | rfl
      · exact u_abp1
      · exact u_abp2
      · exact u_abp3
  · rw [lm_w1 w n hw hr]
    by_cases hb : n < 2 ∨ 3 < n
    · exact lm_mutex n hb
    · rcases (show n = 2 ∨ n = 3 by omega) with rfl | rfl
      · exact u_mutex2
      · exact u_mutex3
  · rw [lm_w2 w n hw hr]
    by_cases hb : n < 1 ∨ 3 < n
    · exact lm_pair n hb
    · rcases (show n = 1 ∨ n = 2 ∨ n = 3 by omega) with rfl | rfl | rfl
      · exact u_pair1
      · exact u_pair2
      · exact u_pair3
  · rw [lm_w3 w n hw hr]
    by_cases hb : n < 2 ∨ 3 < n
    · exact lm_ring n hb
    · rcases (show n = 2 ∨ n = 3 by omega) with rfl | rfl
      · exact u_ring2
      · exact u_ring3
  · rw [lm_w4 w n hw hr]
    by_cases hb : n < 1 ∨ 3 < n
    · exact lm_toss n hb
    · rcases (show n = 1 ∨ n = 2 ∨ n = 3 by omega) with rfl | rfl | rfl
      · exact u_toss1
      · exact u_toss2
      · exact u_toss3
end Go.Lib
/- The abstract machine: from the reading of a law's arguments to pure data; from what the abstract machine answers to the row's post. -/
namespace Go.Am
open Go Go.RowKit Go.ChangeShapes Go.WideShapes Go.ChangeAt
set_option linter.unusedSimpArgs false
set_option linter.unusedVariables false
open Go.Proofs.Ytpendmlmmjmcbaa (Rows.uptoBulk Rows.uptoBulkAll)
abbrev bulkW {H : Type} (d : DataW H) : Nat := Go.Proofs.Ytpendmlmmjmcbaa.Rows.uptoBulk d
abbrev bulkAllW {H : Type} (l : List (DataW H)) : Nat := Go.Proofs.Ytpendmlmmjmcbaa.Rows.uptoBulkAll l

/-! ### data of a type -/
mutual
/-- how many values and letters -/
def D.bulk : D → Nat
  | .str s => s.length + 1
  | .sl _ l => D.bulks l + 1
  | .agg l => D.bulks l
  | _ => 1
def D.bulks : List D → Nat
  | [] => 0
  | x :: r => x.bulk + D.bulks r
end
theorem D.bulks_append : ∀ (a b : List D), D.bulks (a ++ b) = D.bulks a + D.bulks b
  | [], b => by simp [D.bulks]
  | x :: a, b => by simp only [List.cons_append, D.bulks, D.bulks_append a b]; omega
theorem D.bulks_cells (x : D) : D.bulks x.cells = x.bulk := by cases x <;> simp [D.cells, D.bulk, D.bulks]

def Ty (P : Program) : Nat → TypeId → D → Prop
  | 0, _, _ => False
  | n + 1, t, x =>
    match P.underlying t with
    | some .bool => ∃ b, x = .bool b
    | some (.int k) => ∃ m, x = .int k m ∧ k.min ≤ m ∧ m ≤ k.max
    | some .string => ∃ s, x = .str s
    | some (.slice e) => ∃ l, x = .sl false l ∧ ∀ y ∈ l, Ty P n e y
    | some (.struct fs) => ∃ ys : List D, x = .agg (ys.flatMap D.cells) ∧ All2 (fun (f : Field) y => Ty P n f.type y) fs.toList ys
    | some (.array m e) => ∃ ys : List D, x = .agg (ys.flatMap D.cells) ∧ ys.length = m ∧ ∀ y ∈ ys, Ty P n e y
    | _ => False
/-- the fields stand one behind the other -/
def inRow (P : Program) : Nat → List Field → Option Nat
  | o, [] => some o
  | o, f :: r => if f.offset = o then inRow P (o + P.cellsOf f.type) r else none
def tyOk (P : Program) : Nat → TypeId → Bool
  | 0, _ => false
  | n + 1, t =>
    match P.underlying t with
    | some .bool => true
    | some (.int _) => true
    | some .string => true
    | some (.slice e) => tyOk P n e && decide (0 < P.cellsOf e)
    | some (.struct fs) => fs.toList.all (fun f => tyOk P n f.type) && (inRow P 0 fs.toList == some (P.cellsOf t))
    | some (.array m e) => tyOk P n e && decide (P.cellsOf t = m * P.cellsOf e)
    | _ => false

/-- the world that a law's call begins in: everything may be read -/
def c0 (W : World) : Cx := { w := W, pm := fun _ b => b < W.heap.size, nO := 0, ρ := id }

theorem mapM_all2 {α β : Type} {f : α → Option β} : ∀ {l : List α} {r : List β}, l.mapM f = some r → All2 (fun a b => f a = some b) l r
  | [], r, h => by simp at h; subst h; rfl
  | a :: l, r, h => by
    rw [List.mapM_cons] at h
    simp only [Option.bind_eq_bind, Option.bind_eq_some_iff, Option.pure_def, Option.some.injEq] at h
    obtain ⟨b, h1, bs, h2, rfl⟩ := h
    exact ⟨b, bs, rfl, h1, mapM_all2 h2⟩
theorem VC.to_cells {c : Cx} {x : D} {cs : List Value} (h : VC c x cs) : VCs c x.cells cs := by
  have hl := VC.len x cs h
  cases x with
  | agg l => exact h
  | _ =>
    simp only [D.nc] at hl
    match cs, hl with
    | [u], _ => exact ⟨u, [], rfl, h, rfl⟩
section
variable {H : Type} {enc : TypeId × Value → H} {P : Program} {W : World} {spare : Nat → Bool}
theorem bulkAll_le {l : List (DataW H)} {d : DataW H} (h : d ∈ l) : bulkW d ≤ bulkAllW l := by
  induction l with
  | nil => cases h
  | cons x r ih =>
    simp only [bulkAllW, Go.Proofs.Ytpendmlmmjmcbaa.Rows.uptoBulkAll] at ih ⊢
    rcases List.mem_cons.1 h with rfl | h
    · exact Nat.le_add_right _ _
    · exact Nat.le_trans (ih h) (Nat.le_add_left _ _)

theorem bulkAll_nil : bulkAllW ([] : List (DataW H)) = 0 := by simp [bulkAllW, Go.Proofs.Ytpendmlmmjmcbaa.Rows.uptoBulkAll]
theorem bulkAll_cons (d : DataW H) (l : List (DataW H)) : bulkAllW (d :: l) = bulkW d + bulkAllW l := by simp [bulkAllW, bulkW, Go.Proofs.Ytpendmlmmjmcbaa.Rows.uptoBulkAll]

theorem read_elems {n fuel : Nat} {e : TypeId} {a : Addr} (ha : a.spot = none) (ih : ∀ (cs : List Value) (d : DataW H) (ps : List MemPlace), DataW.trod enc P W 0 spare true fuel e cs = some (d, ps) → ∃ x, VC (c0 W) x cs ∧ Ty P n e x ∧ x.bulk ≤ bulkW d) :
    ∀ (es : List (DataW H × List MemPlace)) (o : Nat), (∀ j, j < es.length → (W.cells? 0 (a.add ((o + j) * P.cellsOf e)) (P.cellsOf e)).bind (DataW.trod enc P W 0 spare true fuel e) = es[j]?) →
      ∃ ys, VE (c0 W) ys a (o * P.cellsOf e) (P.cellsOf e) ∧ (∀ y ∈ ys, Ty P n e y) ∧ D.bulks ys ≤ bulkAllW (es.map (·.1)) ∧ ys.length = es.length
  | [], o, _ => ⟨[], by simp [VE], by simp, by simp [D.bulks], rfl⟩
  | x :: es, o, h => by
    obtain ⟨ys, q1, q2, q3, q4⟩ := read_elems ha ih es (o + 1) (fun j hj => by
      have := h (j + 1) (by simp; omega)
      rw [show o + (j + 1) = o + 1 + j by omega] at this
      simpa using this)
    have h0 := h 0 (by simp)
    simp only [Nat.add_zero, List.getElem?_cons_zero, Option.bind_eq_some_iff] at h0
    obtain ⟨cs, hc, ht⟩ := h0
    obtain ⟨_, hl, hcell⟩ := World.cells?_some hc
    obtain ⟨y, r1, r2, r3⟩ := ih cs x.1 x.2 ht
    refine ⟨y :: ys, ?_, ?_, ?_, by simp [q4]⟩
    · simp only [VE]
      refine ⟨⟨cs, hl, fun j v hj => ?_, r1⟩, by rw [show o * P.cellsOf e + P.cellsOf e = (o + 1) * P.cellsOf e by rw [Nat.add_mul, Nat.one_mul]]; exact q1⟩
      have hjl : j < cs.length := (List.getElem?_eq_some_iff.1 hj).1
      have := hcell j (by omega)
      rw [add_add _ _ _ ha] at this
      rw [← hj]; exact this
    · intro z hz
      rcases List.mem_cons.1 hz with rfl | hz
      · exact r2
      · exact q2 z hz
    · simp only [D.bulks, List.map_cons, bulkAll_cons]; omega

theorem read_fields {n fuel : Nat} {cs : List Value} (ih : ∀ (t : TypeId) (cs : List Value) (d : DataW H) (ps : List MemPlace), tyOk P n t = true → DataW.trod enc P W 0 spare true fuel t cs = some (d, ps) → ∃ x, VC (c0 W) x cs ∧ Ty P n t x ∧ x.bulk ≤ bulkW d) :
    ∀ (fs : List Field) (xs : List (DataW H × List MemPlace)) (o e : Nat), inRow P o fs = some e → (∀ f ∈ fs, tyOk P n f.type = true) → All2 (fun (f : Field) x => DataW.trod enc P W 0 spare true fuel f.type ((cs.drop f.offset).take (P.cellsOf f.type)) = some x) fs xs → e ≤ cs.length →
      ∃ ys, All2 (fun (f : Field) y => Ty P n f.type y) fs ys ∧ VCs (c0 W) (ys.flatMap D.cells) ((cs.drop o).take (e - o)) ∧ D.bulks (ys.flatMap D.cells) ≤ bulkAllW (xs.map (·.1)) ∧ o ≤ e
  | [], xs, o, e, hr, _, ha, _ => by
    simp only [inRow, Option.some.injEq] at hr
    subst hr
    exact ⟨[], rfl, by simp [VCs], by simp [D.bulks], Nat.le_refl _⟩
  | f :: fs, xs, o, e, hr, hok, ha, he => by
    simp only [inRow] at hr
    split at hr
    · rename_i ho
      obtain ⟨x, r, rfl, h1, h2⟩ := ha
      obtain ⟨ys, q1, q2, q3, q4⟩ := read_fields ih fs r _ e hr (fun g hg => hok g (by simp [hg])) h2 he
      obtain ⟨y, r1, r2, r3⟩ := ih f.type _ x.1 x.2 (hok f (by simp)) h1
      refine ⟨y :: ys, ⟨y, ys, rfl, r2, q1⟩, ?_, ?_, by omega⟩
      · rw [List.flatMap_cons]
        have hsp : (cs.drop o).take (e - o) = (cs.drop o).take (P.cellsOf f.type) ++ (cs.drop (o + P.cellsOf f.type)).take (e - (o + P.cellsOf f.type)) := by
          rw [show e - o = P.cellsOf f.type + (e - (o + P.cellsOf f.type)) by omega, List.take_add, List.drop_drop]
        rw [hsp]
        rw [ho] at r1
        exact VCs.append _ _ _ _ (VC.to_cells r1) q2
      · rw [List.flatMap_cons, D.bulks_append, D.bulks_cells, List.map_cons, bulkAll_cons]; omega
    · cases hr

theorem read_items {n fuel : Nat} {t : TypeId} {cs : List Value} (ih : ∀ (cs : List Value) (d : DataW H) (ps : List MemPlace), DataW.trod enc P W 0 spare true fuel t cs = some (d, ps) → ∃ x, VC (c0 W) x cs ∧ Ty P n t x ∧ x.bulk ≤ bulkW d) :
    ∀ (m k : Nat) (xs : List (DataW H × List MemPlace)), All2 (fun (i : Nat) x => DataW.trod enc P W 0 spare true fuel t ((cs.drop (i * P.cellsOf t)).take (P.cellsOf t)) = some x) (List.range' k m) xs →
      ∃ ys : List D, ys.length = m ∧ (∀ y ∈ ys, Ty P n t y) ∧ VCs (c0 W) (ys.flatMap D.cells) ((cs.drop (k * P.cellsOf t)).take (m * P.cellsOf t)) ∧ D.bulks (ys.flatMap D.cells) ≤ bulkAllW (xs.map (·.1))
  | 0, k, xs, ha => ⟨[], rfl, by simp, by simp [VCs], by simp [D.bulks]⟩
  | m + 1, k, xs, ha => by
    rw [List.range'_succ] at ha
    obtain ⟨x, r, rfl, h1, h2⟩ := ha
    obtain ⟨ys, q1, q2, q3, q4⟩ := read_items ih m (k + 1) r h2
    obtain ⟨y, r1, r2, r3⟩ := ih _ x.1 x.2 h1
    refine ⟨y :: ys, by simp [q1], ?_, ?_, ?_⟩
    · intro z hz
      rcases List.mem_cons.1 hz with rfl | hz
      · exact r2
      · exact q2 z hz
    · rw [List.flatMap_cons]
      have hsp : (cs.drop (k * P.cellsOf t)).take ((m + 1) * P.cellsOf t) = (cs.drop (k * P.cellsOf t)).take (P.cellsOf t) ++ (cs.drop ((k + 1) * P.cellsOf t)).take (m * P.cellsOf t) := by
        rw [show (m + 1) * P.cellsOf t = P.cellsOf t + m * P.cellsOf t by rw [Nat.add_mul, Nat.one_mul, Nat.add_comm], List.take_add, List.drop_drop, show (k + 1) * P.cellsOf t = k * P.cellsOf t + P.cellsOf t by rw [Nat.add_mul, Nat.one_mul]]
      rw [hsp]
      exact VCs.append _ _ _ _ (VC.to_cells r1) q3
    · rw [List.flatMap_cons, D.bulks_append, D.bulks_cells, List.map_cons, bulkAll_cons]; omega

/-- A READING IS PURE DATA OF ITS TYPE -/
theorem read_ok : ∀ (fuel n : Nat) (t : TypeId) (cs : List Value) (d : DataW H) (ps : List MemPlace), tyOk P n t = true → DataW.trod enc P W 0 spare true fuel t cs = some (d, ps) →
    ∃ x, VC (c0 W) x cs ∧ Ty P n t x ∧ x.bulk ≤ bulkW d := by
  intro fuel
  induction fuel with
  | zero => intro n t cs d ps _ h; cases h
  | succ fuel ih =>
    intro n t cs d ps hok h
    cases n with
    | zero => cases hok
    | succ n =>
      simp only [tyOk] at hok
      split at hok
      · rename_i hu
        obtain ⟨b, rfl, hx⟩ := DataW.trod_bool hu h
        simp only [Prod.mk.injEq] at hx
        obtain ⟨rfl, rfl⟩ := hx
        exact ⟨.bool b, by simp [VC], by simp [Ty, hu], by simp [D.bulk, bulkW, Go.Proofs.Ytpendmlmmjmcbaa.Rows.uptoBulk]⟩
      · rename_i k hu
        obtain ⟨m, rfl, hx, hw⟩ := DataW.trod_int hu h
        simp only [Prod.mk.injEq] at hx
        obtain ⟨rfl, rfl⟩ := hx
        simp only [Lit.wf, Bool.and_eq_true, decide_eq_true_eq] at hw
        exact ⟨.int k m, by simp [VC], by simp only [Ty, hu]; exact ⟨m, rfl, hw⟩, by simp [D.bulk, bulkW, Go.Proofs.Ytpendmlmmjmcbaa.Rows.uptoBulk]⟩
      · rename_i hu
        obtain ⟨s, rfl, hx, hw⟩ := DataW.trod_string hu h
        simp only [Prod.mk.injEq] at hx
        obtain ⟨rfl, rfl⟩ := hx
        exact ⟨.str s.data.toList, by simp only [VC]; exact ⟨s, rfl, rfl⟩, by simp only [Ty, hu]; exact ⟨_, rfl⟩, by simp [D.bulk, bulkW, Go.Proofs.Ytpendmlmmjmcbaa.Rows.uptoBulk]⟩
      · rename_i e hu
        simp only [Bool.and_eq_true, decide_eq_true_eq] at hok
        rcases DataW.trod_slice hu h with ⟨rfl, hx⟩ | ⟨a, len, cap, elems, rest, fuel', hf, rfl, hx, hb, hlc, hcm, hel, helem, _, _⟩
        · simp only [Prod.mk.injEq] at hx
          obtain ⟨rfl, rfl⟩ := hx
          exact ⟨.sl false [], by simp only [VC]; exact ⟨none, 0, 0, rfl, rfl, Nat.le_refl _, fun h => absurd rfl h⟩, by simp only [Ty, hu]; exact ⟨[], rfl, by simp⟩, by simp [D.bulk, D.bulks, bulkW, Go.Proofs.Ytpendmlmmjmcbaa.Rows.uptoBulk]⟩
        · simp only [Nat.add_right_cancel_iff] at hf
          subst hf
          simp only [Prod.mk.injEq] at hx
          obtain ⟨rfl, rfl⟩ := hx
          have hsl : bulkAllW (elems.map (·.1)) + 1 ≤ bulkW (DataW.slice (elems.map (·.1)) (rest.map (·.1))) := by
            simp only [bulkW, bulkAllW, Go.Proofs.Ytpendmlmmjmcbaa.Rows.uptoBulk]; omega
          by_cases hl0 : elems.length = 0
          · have : elems = [] := List.eq_nil_of_length_eq_zero hl0
            subst this
            refine ⟨.sl false [], by simp only [VC]; exact ⟨some a, len, cap, rfl, by simp at hel; simp [← hel], hlc, fun h => absurd rfl h⟩, by simp only [Ty, hu]; exact ⟨[], rfl, by simp⟩, ?_⟩
            simp only [D.bulk, D.bulks]; omega
          · have h0 := helem 0 (by omega)
            have hl' : 0 < elems.length := by omega
            rw [List.getElem?_eq_getElem hl', Option.bind_eq_some_iff] at h0
            obtain ⟨cs0, hc0, _⟩ := h0
            obtain ⟨_, hcl, hcell⟩ := World.cells?_some hc0
            have h00 := hcell 0 hok.2
            rw [List.getElem?_eq_getElem (by omega)] at h00
            have hadd : (a.add (0 * P.cellsOf e)).add 0 = a := by simp [Addr.add]
            rw [hadd] at h00
            have hspot : a.spot = none ∧ a.block < W.heap.size := by
              unfold World.cell? at h00
              split at h00
              · rename_i hb
                split at h00
                · cases h00
                · rename_i hs
                  exact ⟨by simpa using hs, (Array.getElem?_eq_some_iff.1 hb).1⟩
              · cases h00
            obtain ⟨ys, q1, q2, q3, q4⟩ := read_elems (n := n) (e := e) hspot.1 (fun cs d ps ht => ih n e cs d ps hok.1 ht) elems 0 (fun j hj => by rw [Nat.zero_add]; exact helem j (by omega))
            refine ⟨.sl false ys, ?_, by simp only [Ty, hu]; exact ⟨ys, rfl, q2⟩, by simp only [D.bulk]; omega⟩
            simp only [VC]
            exact ⟨some a, len, cap, rfl, by omega, hlc, fun _ => ⟨a, P.cellsOf e, rfl, hspot.1, hspot.2, hok.2, by rwa [Nat.zero_mul] at q1⟩⟩
      · rename_i fs hu
        simp only [Bool.and_eq_true, List.all_eq_true, beq_iff_eq] at hok
        obtain ⟨xs, fuel', hf, hx, hl, hxl, hfs⟩ := DataW.trod_struct hu h
        simp only [Nat.add_right_cancel_iff] at hf
        subst hf
        simp only [Prod.mk.injEq] at hx
        obtain ⟨rfl, rfl⟩ := hx
        have hall : ∀ (l : List Field) (xs : List (DataW H × List MemPlace)), xs.length = l.length → (∀ (i : Nat) (f : Field), l[i]? = some f → DataW.trod enc P W 0 spare true fuel f.type ((cs.drop f.offset).take (P.cellsOf f.type)) = xs[i]?) →
            All2 (fun (f : Field) x => DataW.trod enc P W 0 spare true fuel f.type ((cs.drop f.offset).take (P.cellsOf f.type)) = some x) l xs := by
          intro l
          induction l with
          | nil => intro xs hl _; exact List.eq_nil_of_length_eq_zero hl
          | cons f l ihl =>
            intro xs hl hh
            cases xs with
            | nil => cases hl
            | cons x xs => exact ⟨x, xs, rfl, by simpa using hh 0 f rfl, ihl xs (by simpa using hl) (fun i g hg => by simpa using hh (i + 1) g (by simpa using hg))⟩
        obtain ⟨ys, q1, q2, q3, _⟩ := read_fields (n := n) (fun t cs d ps hk ht => ih n t cs d ps hk ht) fs.toList xs 0 (P.cellsOf t) hok.2 hok.1 (hall _ _ (by simpa using hxl) (fun i f hf => hfs i f (by rw [← Array.getElem?_toList]; exact hf))) (by omega)
        refine ⟨.agg (ys.flatMap D.cells), ?_, by simp only [Ty, hu]; exact ⟨ys, rfl, q1⟩, ?_⟩
        · simp only [VC]
          rw [List.drop_zero, Nat.sub_zero, List.take_of_length_le (by omega)] at q2
          exact q2
        · simp only [D.bulk]
          refine Nat.le_trans q3 ?_
          simp only [bulkW, bulkAllW, Go.Proofs.Ytpendmlmmjmcbaa.Rows.uptoBulk]; omega
      · rename_i m e hu
        simp only [Bool.and_eq_true, decide_eq_true_eq] at hok
        have hh : ∃ xs, (List.range m).mapM (fun i => DataW.trod enc P W 0 spare true fuel e ((cs.drop (i * P.cellsOf e)).take (P.cellsOf e))) = some xs ∧ d = .agg (xs.map (·.1)) ∧ cs.length = P.cellsOf t := by
          unfold DataW.trod at h
          rw [hu] at h
          split at h <;> simp_all
          obtain ⟨hl, xs, hp, hd⟩ := h
          exact ⟨xs, hp, hd.1.symm⟩
        obtain ⟨xs, h1, rfl, hl⟩ := hh
        have h2 := mapM_all2 h1
        rw [List.range_eq_range'] at h2
        obtain ⟨ys, q1, q2, q3, q4⟩ := read_items (n := n) (fun cs d ps ht => ih n e cs d ps hok.1 ht) m 0 xs h2
        refine ⟨.agg (ys.flatMap D.cells), ?_, by simp only [Ty, hu]; exact ⟨ys, rfl, q1, q2⟩, ?_⟩
        · simp only [VC]
          rw [Nat.zero_mul, List.drop_zero, List.take_of_length_le (by omega)] at q3
          exact q3
        · simp only [D.bulk]
          refine Nat.le_trans q4 ?_
          simp only [bulkW, bulkAllW, Go.Proofs.Ytpendmlmmjmcbaa.Rows.uptoBulk]; omega
      · cases hok

theorem okWide_fits {base n : Nat} {t : TypeId} {v : Value} {x : D} (hok : tyOk P n t = true) (ho : Value.okWide P W .any base t v) (hx : VC (c0 W) x v.cells.toList) (ht : Ty P n t x) : fits x v := by
  cases n with
  | zero => cases hok
  | succ n =>
    have one : (∀ cs, v ≠ .agg cs) → (∀ l, x ≠ .agg l) → fits x v := fun hv hxa => by
      obtain ⟨u, hu, hf⟩ := VV.of_cells hx hxa
      have : v.cells = #[v] := by cases v <;> first | rfl | exact absurd rfl (hv _)
      rw [this] at hu
      simp only [List.cons.injEq, and_true] at hu
      rw [hu]
      exact hf.2
    simp only [tyOk] at hok
    unfold Value.okWide at ho
    simp only [Ty] at ht
    split at hok
    all_goals (rename_i hu; try rw [hu] at ho ht)
    · obtain ⟨b, rfl⟩ := ht
      exact one (fun cs e => by subst e; simp [Cell.okWide, Cell.ok, hu] at ho) (by simp)
    · obtain ⟨m, rfl, _⟩ := ht
      exact one (fun cs e => by subst e; simp [Cell.okWide, Cell.ok, hu] at ho) (by simp)
    · obtain ⟨s, rfl⟩ := ht
      exact one (fun cs e => by subst e; simp [Cell.okWide, Cell.ok, hu] at ho) (by simp)
    · obtain ⟨l, rfl, _⟩ := ht
      exact one (fun cs e => by subst e; simp [Cell.okWide, Cell.ok, hu] at ho) (by simp)
    · obtain ⟨ys, rfl, _⟩ := ht
      obtain ⟨cs, rfl, _⟩ := ho
      exact ⟨cs, rfl⟩
    · obtain ⟨ys, rfl, _⟩ := ht
      obtain ⟨cs, rfl, _⟩ := ho
      exact ⟨cs, rfl⟩
    · cases hok

/-- all arguments -/
theorem readAll_ok {n : Nat} : ∀ (ts : List TypeId) (vs : List Value) (ds : List (DataW H)) (ps : List MemPlace), (∀ t ∈ ts, tyOk P n t = true) → (∀ (j : Nat) t v, ts[j]? = some t → vs[j]? = some v → ∃ base, Value.okWide P W .any base t v) → DataW.TrodAll enc P W 0 spare true ts vs ds ps →
    ∃ xs, VVs (c0 W) xs vs ∧ All2 (fun t x => Ty P n t x) ts xs ∧ D.bulks xs ≤ bulkAllW ds
  | [], vs, ds, ps, _, _, h => by
    obtain ⟨rfl, rfl, rfl⟩ := trodAll_nil h
    exact ⟨[], rfl, rfl, by simp [D.bulks]⟩
  | t :: ts, vs, ds, ps, hok, ho, h => by
    obtain ⟨v, vs', d, ds', p, q, rfl, rfl, rfl, ⟨fuel, h1⟩, h2⟩ := trodAll_cons h
    obtain ⟨xs, g1, g2, g3⟩ := readAll_ok ts vs' ds' q (fun t ht => hok t (by simp [ht])) (fun j t v hj hv => ho (j + 1) t v (by simpa using hj) (by simpa using hv)) h2
    obtain ⟨x, k1, k2, k3⟩ := read_ok fuel n t _ d p (hok t (by simp)) h1
    obtain ⟨base, hb⟩ := ho 0 t v rfl rfl
    refine ⟨x :: xs, ⟨v, vs', rfl, k1, okWide_fits (hok t (by simp)) hb k1 k2, g1⟩, ⟨x, xs, rfl, k2, g2⟩, ?_⟩
    simp only [D.bulks, bulkAll_cons]; omega
end

/-! ### the call -/
def A0 (W : World) : Av := { w0 := W, F := fun _ _ => False, O0 := fun _ => False, n0 := 0, ρ0 := id, mono := fun _ h => h }
def hd0 : Root → Value
  | .o n => .slice (some ⟨n, 0, none⟩) 1 1
  | .l _ _ => undef
theorem start_ok (W : World) : KR (A0 W) id (fun _ => []) hd0 [] { ct := [], H := [] } [] W := by
  have hget : ∀ r t, ({ ct := [], H := [] } : Wk).get r ≠ some t := fun r t h => by cases r <;> simp [Wk.get, Go.Am.cont, lookR] at h
  refine ⟨fun r t h => absurd h (hget r t), fun _ _ _ => rfl, fun n => rfl, fun n es h => by simp at h, ⟨by simp, by simp, by simp, by simp⟩, fun b hb => ?_, by simp, ⟨rfl, rfl, rfl, Nat.le_refl _, fun _ _ _ => rfl⟩, fun t b h => h.elim, ⟨Nat.le_refl _, fun _ _ => rfl⟩⟩
  rcases hb with ⟨r, hr⟩ | hb <;> simp at *
theorem start_ext (W : World) : Ext (c0 W) (cxOf (A0 W) 0 id (fun _ => []) [] W) :=
  ⟨fun t b hp => ⟨⟨fun ho => by rcases ho with ⟨r, hr⟩ | hb <;> simp at *, fun h => h, hp⟩, rfl⟩, Nat.le_refl _, fun _ _ => rfl⟩

/-- A LAW's CALL: it answers true, and all that was there stays -/
theorem calls_true {P : Program} (hm : P.follows .mixedOrders = true) {hints : FuncId → Hint} {n : Nat} {f : FuncId} {xs : List D} {H2 : List Ob} (e : callN P hints n f xs [] = some ([.d (.bool true)], H2)) {W : World} {args : Array Value} (ha : VVs (c0 W) xs args.toList) :
    Calls P f args W fun e W' => e = .returned (.bool true) ∧ RowKit.Below W.heap.size W W' := by
  obtain ⟨_, h⟩ := callN_ok hm hints n f xs [] _ _ e
  refine Calls.mono (h (A0 W) (fun _ => []) hd0 args rfl (start_ok W) (VVs.ext (start_ext W) _ _ ha)) fun en w' he => ?_
  obtain ⟨v, rfl, ρ', S', hd', M, vs, g1, g2, rfl⟩ := he
  obtain ⟨u, r, M1, M2, rfl, rfl, h3, h4, h5⟩ := g2
  simp only [RetAll] at h5
  obtain ⟨rfl, rfl⟩ := h5
  simp only [TC, VC] at h3
  simp only [fitsT, fits] at h4
  rw [cells_one h4] at h3
  have hu : u = .bool true := by simpa using h3.2
  subst hu
  exact ⟨rfl, g1.fr.os, g1.fr.tape, g1.fr.output, g1.fr.size, fun b hb => g1.fr.kept b hb (fun h => h)⟩

/-! ### the row's post -/
section
variable {H : Type} {enc : TypeId × Value → H} {P : Program}
theorem trodAll_below {W W' : World} (hl : laidOutB P = true) (hb : RowKit.Below W.heap.size W W') (sp : Nat → Bool) : ∀ (ts : List TypeId) (vs : List Value) (ds : List (DataW H)) (ps : List MemPlace), (∀ t ∈ ts, P.readableRec t = true ∧ t < P.types.size) → (∀ x ∈ ps, x.block < W.heap.size) → (∀ x ∈ ps, sp x.block = true) →
    DataW.TrodAll enc P W 0 (fun _ => true) true ts vs ds ps → DataW.TrodAll enc P W' 0 sp true ts vs ds ps
  | [], vs, ds, ps, _, _, _, h => by
    obtain ⟨rfl, rfl, rfl⟩ := trodAll_nil h
    exact rfl
  | t :: ts, vs, ds, ps, hr, hlt, hsp, h => by
    obtain ⟨v, vs', d, ds', p, q, rfl, rfl, rfl, h1, h2⟩ := trodAll_cons h
    obtain ⟨r1, r2⟩ := hr t (by simp)
    exact ⟨p, q, WideElems.Trod_stays hl r1 r2 h1 (fun x hx => hb.same (hlt x (by simp [hx]))) (fun x hx => hsp x (by simp [hx])),
      trodAll_below hl hb sp ts vs' ds' q (fun t ht => hr t (by simp [ht])) (fun x hx => hlt x (by simp [hx])) (fun x hx => hsp x (by simp [hx])) h2, rfl⟩

theorem law_post {fn : Func} {s : ChangeSpec} {apart fresh handsOn again : Bool} {W W' : World} {args : Array Value} {ds gs : List (DataW H)} {before : List MemPlace} {tb : TypeId}
    (hW : DataW.Whole enc P fn.params.toList s.vars apart W args.toList ds gs before) (hv : s.vars = []) (hs : s.fn H ds = { results := [.lit (.bool true)], args := ds }) (hb : RowKit.Below W.heap.size W W') (hl : laidOutB P = true)
    (hr : ∀ t ∈ fn.params.toList, P.readableRec t = true ∧ t < P.types.size) (ht : fn.resultTypes = #[tb]) (hu : P.underlying tb = some .bool) : s.post enc P fn apart fresh handsOn again W args (.bool true) W' := by
  have hlt : ∀ p ∈ before, p.block < W.heap.size := fun p hp => hW.lt p hp
  have hW0 := hW
  obtain ⟨pa, pv, hA, hV, rfl, hz, hn⟩ := hW
  have hpv : gs = [] ∧ pv = [] := by
    rw [hv] at hV
    cases gs with
    | nil => exact ⟨rfl, hV⟩
    | cons g gs => exact hV.elim
  obtain ⟨rfl, rfl⟩ := hpv
  have hargs : ∀ sp : Nat → Bool, (∀ p ∈ pa ++ [], sp p.block = true) → DataW.TrodAll enc P W' 0 sp true fn.params.toList args.toList (s.fn H (ds ++ [])).args pa := fun sp hsp => by
    rw [List.append_nil, hs]
    exact trodAll_below hl hb sp _ _ _ _ hr (fun x hx => hlt x (by simpa using hx)) (fun x hx => hsp x (by simpa using hx)) hA
  have hres : ∀ (b : Nat) (sp : Nat → Bool) (hd : Bool), DataW.TrodAll enc P W' b sp hd fn.resultTypes.toList ((Value.bool true).resultList fn.resultTypes.size) (s.fn H (ds ++ [])).results [] := fun b sp hd => by
    rw [List.append_nil, hs, ht]
    exact trodAll_cons_mk (shut_bool hu _) trodAll_mk0
  have hvars : ∀ sp : Nat → Bool, DataW.TrodVars enc P W' sp s.vars (s.fn H (ds ++ [])).vars [] := fun sp => by
    rw [List.append_nil, hs, hv]; exact rfl
  refine ⟨ds, [], pa ++ [], [], pa, [], hW0, hres _ _ _, hargs _ (fun p hp => by simpa using hlt p hp), hvars _, hb.frame _, fun _ => ⟨ok_one ht rfl (okWide_bool_mk hu _), _, _, ([] ++ pa) ++ [], ⟨[] ++ pa, [], trodAll_append (hargs _ (fun _ _ => rfl)) (hres _ _ _), hvars _, rfl, fun b off hp => ?_, fun ha => by simpa using hn ha⟩, fun p hp _ => by simpa using hp⟩⟩
  have hp' : MemPlace.cell b off ∈ pa ++ [] := by simpa using hp
  have := hlt _ hp'
  rw [hb.frozen (p := ⟨b, off, none⟩) this]
  exact hz b off hp'
end
end Go.Am

namespace Go.Proofs.Ytpendmlmmjmcbaa
open Go Go.Am Go.Lib Go.ChangeShapes Go.WideShapes Go.ChangeAt Go.RowKit
set_option maxRecDepth 100000
namespace LibMayLaw
theorem own : ownKnob Try.prog.godebug = none := by kernel_rfl
theorem follows : Try.prog.follows .mixedOrders = true := by kernel_rfl
theorem laid : laidOutB Try.prog = true := by kernel_rfl
theorem okT5 : tyOk Try.prog 8 5 = true := by kernel_rfl
theorem rdT5 : (Try.prog.readableRec 5 && decide (5 < Try.prog.types.size)) = true := by kernel_rfl
theorem dec5 {n : Nat} {x : D} (h : Ty Try.prog (n + 1) 5 x) : ∃ v, x = .int .u8 v ∧ 0 ≤ v ∧ v ≤ 255 := by
  have hu : Try.prog.underlying 5 = some (.int .u8) := Try.underlying5
  simp only [Ty, hu] at h
  obtain ⟨m, rfl, h1, h2⟩ := h
  exact ⟨m, rfl, h1, h2⟩
theorem okT3 : tyOk Try.prog 8 3 = true := by kernel_rfl
theorem rdT3 : (Try.prog.readableRec 3 && decide (3 < Try.prog.types.size)) = true := by kernel_rfl
theorem dec3 {n : Nat} {x : D} (h : Ty Try.prog (n + 1) 3 x) : ∃ v, x = .int .i64 v := by
  have hu : Try.prog.underlying 3 = some (.int .i64) := Try.underlying3
  simp only [Ty, hu] at h
  obtain ⟨m, rfl, _, _⟩ := h
  exact ⟨m, rfl⟩
theorem contract (H : Type) (enc : TypeId × Value → H) (W : World) (base : Nat) (args : Array Value) (ds gs : List (DataW H)) (before : List MemPlace)
    (hval : ∀ (j : Nat) t v, Try.f3.params[j]? = some t → args[j]? = some v → Value.okWide Try.prog W .any base t v)
    (hW : DataW.Whole enc Try.prog Try.f3.params.toList Rows.libMaySpec.vars false W args.toList ds gs before) (_ : Rows.uptoSmall H (ds ++ gs) = true) :
    Calls Try.prog 3 args W fun e W' => ∃ v, e = .returned v ∧ Rows.libMaySpec.post enc Try.prog Try.f3 false true false false W args v W' := by
  have hW' := hW
  obtain ⟨p, q, hA0, hV, rfl, hfz, hnd⟩ := hW
  have hA : DataW.TrodAll enc Try.prog W 0 (fun _ => true) true Try.f3.params.toList args.toList ds p := hA0
  obtain ⟨rfl, rfl⟩ := trodVars_none hV
  have hp : Try.f3.params.toList = [5, 3] := by rw [Try.params3]
  obtain ⟨xs, hv, ht, _⟩ := readAll_ok (P := Try.prog) (n := 8) Try.f3.params.toList args.toList ds p (by rw [hp]; simp [okT3, okT5]) (fun j t v h1 h2 => ⟨base, hval j t v (by simpa using h1) (by simpa using h2)⟩) hA
  rw [hp] at ht
  obtain ⟨a0, r0, rfl, h0, a1, r1, rfl, h1, rfl⟩ := ht
  obtain ⟨x0, rfl, l0, u0⟩ := dec5 (n := 7) h0
  obtain ⟨x1, rfl⟩ := dec3 (n := 7) h1
  obtain ⟨n, hn⟩ := callX_iff.1 (law_LibMay x0 x1 l0 u0)
  refine (calls_true follows hn hv).mono fun e W' ⟨he, hbl⟩ => ?_
  subst he
  obtain ⟨d0, d1, rfl⟩ : ∃ d0 d1, ds = [d0, d1] := by
    rw [hp] at hA
    obtain ⟨v0, vs0, d0, ds0, p0, q0, _, rfl, rfl, _, g0⟩ := trodAll_cons hA
    obtain ⟨v1, vs1, d1, ds1, p1, q1, _, rfl, rfl, _, g1⟩ := trodAll_cons g0
    obtain ⟨_, rfl, _⟩ := trodAll_nil g1
    exact ⟨d0, d1, rfl⟩
  exact ⟨_, rfl, law_post hW' rfl rfl hbl laid (by
    rw [hp]
    intro t ht
    simp only [List.mem_cons, List.not_mem_nil, or_false] at ht
    rcases ht with rfl | rfl
    · simpa using rdT5
    · simpa using rdT3) (by kernel_rfl) Try.underlying4⟩
set_option maxRecDepth 100000 in
theorem lifted (os : Os) (started : os.Started) (H : Type) (enc : TypeId × Value → H) (F : Stop.Interp) :
    ReturnsInHanded {} Try.checked os 3 .any ((Rows.OpenSpec.upto Rows.libMaySpec).pre6 enc Try.prog Try.f3 Rows.libMayUptoRow.domain false) (((Rows.OpenSpec.upto Rows.libMaySpec).at F).post enc Try.prog Try.f3 false true false false) := by
  refine returnsInHanded_of_cond (C := Try.checked) (s := Rows.OpenSpec.upto Rows.libMaySpec) (k := Rows.uptoSmall) rfl own started (by kernel_rfl) Try.func3
    (OpenSpec.witness (enc := enc) (C := Try.checked) (s := Rows.OpenSpec.upto Rows.libMaySpec) (k := Rows.uptoSmall) rfl false ⟨#[], #[.int .u8 0, .int .i64 0], []⟩ 8 (by kernel_rfl) (by kernel_rfl) (by kernel_rfl)
      (x := ([.lit (.int .u8 0), .lit (.int .i64 0)], [], [])) (by kernel_rfl) rfl (by kernel_rfl)) ?_
  intro W base args ds gs before hval hW _ hk _
  exact contract H enc W base args ds gs before hval hW hk
end LibMayLaw
theorem libMay_upto : Rows.LibMayUptoSaid :=
  OpenClaim.holds_of_cond 3 Try.f3 rfl rfl rfl rfl rfl rfl rfl ⟨rfl, rfl, rfl, rfl, rfl⟩ rfl rfl rfl rfl rfl (by kernel_rfl) Try.func3 (by kernel_rfl)
    (of_decide_eq_true (by kernel_rfl)) (by unfold Func.isWrapper; first | (rw [if_pos (by decide +kernel)]; kernel_rfl) | (rw [if_neg (by decide +kernel)]; exact ⟨rfl, rfl⟩))
    (fun os started H enc _ F => LibMayLaw.lifted os started H enc F)
end Go.Proofs.Ytpendmlmmjmcbaa
