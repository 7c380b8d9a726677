/- A part of the proof: texts of mine, merged by a program (wip/dev/merge.py). -/
import Derived.Test.YthmooeickiehnaaSs5
import Derived.KernelRfl
import Derived.Test.YthmooeickiehnaaChecked
namespace Go.Am
open Go
set_option linter.unusedSimpArgs false
set_option linter.unusedVariables false
section
variable {P : Program} {t : TypeId} {lo hi : Option SV} {k : Wk} {b : Bool} {xs : List D} {r : Root} {p : Path} {o len : Nat}
@[go_sem] theorem bound_n {d : Nat} : boundE none d = some d := rfl
@[go_sem] theorem bound_i {q : IntKind} {n : Int} {d : Nat} : boundE (some (.d (.int q n))) d = if 0 ≤ n then some n.toNat else none := rfl
@[go_sem] theorem slice_sl : sliceE P t (.d (.sl b xs)) lo hi none k = (elemOf P t).bind fun e => (boundE lo 0).bind fun l => (boundE hi xs.length).bind fun h => if l ≤ h ∧ h ≤ xs.length ∧ (P.info? e).isSome ∧ headD (P.cellsOf e) (win xs l (h - l)) then some (.d (.sl b (win xs l (h - l)))) else none := by
  unfold sliceE elemOf
  cases P.underlying t with
  | none => rfl
  | some d => cases d <;> rfl
@[go_sem] theorem slice_str {s : List UInt8} : sliceE P t (.d (.str s)) lo hi none k = match P.underlying t with | some .string => (boundE lo 0).bind fun l => (boundE hi s.length).bind fun h => if l ≤ h ∧ h ≤ s.length then some (.d (.str (win s l (h - l)))) else none | _ => none := by
  unfold sliceE
  cases P.underlying t with
  | none => rfl
  | some d => cases d <;> rfl
@[go_sem] theorem slice3_sl {m : SV} : sliceE P t (.d (.sl b xs)) lo hi (some m) k = (elemOf P t).bind fun e => (boundE lo 0).bind fun l => (boundE hi xs.length).bind fun h => (boundE (some m) 0).bind fun m => if l ≤ h ∧ h = m ∧ h ≤ xs.length ∧ hi.isSome ∧ (P.info? e).isSome ∧ headD (P.cellsOf e) (win xs l (h - l)) then some (.clip b (win xs l (h - l))) else none := by
  unfold sliceE elemOf
  cases P.underlying t with
  | none => rfl
  | some d => cases d <;> rfl
theorem headD_map {α : Type} {f : α → D} {l : List α} {n : Nat} (h : ∀ x, (f x).nc = n) : headD n (l.map f) = true := by
  cases l with
  | nil => rfl
  | cons x l => simp [headD, h]
@[go_sem] theorem headD_I {l : List Int} {q : IntKind} : headD 1 (l.map (eK q)) = true := headD_map fun _ => rfl
@[go_sem] theorem map_take' {α β : Type} {f : α → β} {l : List α} {n : Nat} : (l.map f).take n = (l.take n).map f := by rw [List.map_take]
@[go_sem] theorem map_drop' {α β : Type} {f : α → β} {l : List α} {n : Nat} : (l.map f).drop n = (l.drop n).map f := by rw [List.map_drop]
end
@[go_sem] theorem val_strC {s : St} {b : ByteArray} : s.val (.const (.string b)) = .d (.str b.data.toList) := rfl
@[go_sem] theorem eql_nilS {P : Program} {c : Bool} {t : TypeId} {b : Bool} {x : D} {l : List D} : binE P c .eql t (.d (.sl b (x :: l))) (.d .nils) = match P.underlying t with | some (.slice _) => some (.bool false) | _ => none := by
  unfold binE eqV isNilV
  cases P.underlying t with
  | none => rfl
  | some d => cases d <;> rfl
section
variable {P : Program} {c b : Bool} {t : TypeId} {o i off : Nat} {r : Root} {p : Path} {cs : List D}
@[go_sem] theorem eql_p_nilp : binE P c .eql t (.d .nilp) (.d .nilp) = match P.underlying t with | some (.pointer _) => some (.bool true) | _ => none := by
  unfold binE eqV isNilV
  cases P.underlying t with
  | none => rfl
  | some d => cases d <;> rfl
@[go_sem] theorem eql_p_ptr : binE P c .eql t (.d (.ptr o)) (.d .nilp) = match P.underlying t with | some (.pointer _) => some (.bool false) | _ => none := by
  unfold binE eqV isNilV
  cases P.underlying t with
  | none => rfl
  | some d => cases d <;> rfl
end
section
variable {P : Program} {c b : Bool} {t : TypeId} {α : Type} {e : α → D} {m : List α}
@[go_sem] theorem emptyArg_m (h : m ≠ []) : emptyArg [.sl b (List.map e m)] = false := by cases m; exact absurd rfl h; rfl
@[go_sem] theorem eql_nilM (h : m ≠ []) : binE P c .eql t (.d (.sl b (List.map e m))) (.d .nils) = match P.underlying t with | some (.slice _) => some (.bool false) | _ => none := by cases m; exact absurd rfl h; exact eql_nilS
end
end Go.Am
namespace Go.Am
open Go
set_option linter.unusedSimpArgs false
set_option linter.unusedVariables false
section
variable {P : Program} {hints : FuncId → Hint} {h : Hint} {ρ : Type} {B : Code}
def kLv (P : Program) (own : Bool) (rs : List ResultVar) (n : Nat) (κ : List T × List Ob → Option ρ) : Ex × St → Option ρ := fun r => (leaveR P own rs n r).bind κ
@[go_sem] theorem kLv_r {own : Bool} {rs : List ResultVar} {n : Nat} {κ : List T × List Ob → Option ρ} {s : St} : kLv P own rs n κ (.ret, s) = (leaveR P own rs n (.ret, s)).bind κ := rfl
theorem ge_of {f : FuncId} {fn : Func} {q : CL} {n : Nat} {rs : List ResultVar} {own : Bool} (hf : P.funcs[f]? = some fn) (hb : fn.body = some B) (hq : compF h B = some q) (hh : hints f = h) (hw : h.own = own) (hn : fn.params.size + fn.nfree = n) (hr : fn.results.toList = rs)
    (hk : codeOk fn.ntmps B = true) (hg : (fn.name == "runtime.NumGoroutine") = false) (ds : List D) (H : List Ob) (κ : List T × List Ob → Option ρ) (hl : ds.length = n) (hx : (decide (h.nilt ≠ 0) && emptyArg ds) = false) :
    cbK (callX P hints f ds H) κ = go P hints h B q (enter ds H) (kLv P own rs H.length κ) := by
  unfold cbK
  subst hh hw
  rw [callX_leave hf hb (hl.trans hn.symm) hk hg hr hx, compF_ok hq, Option.bind_assoc]
  rfl
end
theorem viaR {α : Type} {a b : α} (h : ∀ r, b = r → a = r) : a = b := h b rfl
def LX {A : Type} (p : Bool → A → Prop) : Type := {Φ : A × A // p false Φ.1 ∧ p true Φ.2}
def LX.f {A : Type} {p : Bool → A → Prop} (x : LX p) (β : Bool) : A := match β with | false => x.1.1 | true => x.1.2
theorem LX.ok {A : Type} {p : Bool → A → Prop} (x : LX p) (β : Bool) : p β (x.f β) := by cases β; exact x.2.1; exact x.2.2
def mkL {A : Type} {p : Bool → A → Prop} (Φ₀ Φ₁ : A)
    (h₀ : p false Φ₀ := by intro R g κ hR; intros; simp only [go_sem] at hR; refine viaR fun r hr => ?_; simp -implicitDefEqProofs (maxSteps := 1000000) [go_sem, hR, -List.map_append, -List.map_take, -List.map_drop]; exact hr)
    (h₁ : p true Φ₁ := by intro R g κ hR; intros; simp only [go_sem] at hR; refine viaR fun r hr => ?_; simp -implicitDefEqProofs (maxSteps := 1000000) [go_sem, hR, -List.map_append, -List.map_take, -List.map_drop]; exact hr) : LX p := ⟨(Φ₀, Φ₁), h₀, h₁⟩
def mkF {P : Program} {hints : FuncId → Hint} {h : Hint} {B : Code} {q : CL} {f : FuncId} {n : Nat} {rs : List ResultVar} {own : Bool} {ρ G : Type} {p : Bool → (List T × List Ob → Option ρ) → G → Prop} {ds : Bool → List D}
    (e : ∀ (ds : List D) (H : List Ob) (κ : List T × List Ob → Option ρ), ds.length = n → cbK (callX P hints f ds H) κ = go P hints h B q (enter ds H) (kLv P own rs H.length κ)) (hl : ∀ β, (ds β).length = n) (Φ : G → Option ρ)
    (hΦ : ∀ β κ g, p β κ g → go P hints h B q (enter (ds β) []) (kLv P own rs 0 κ) = Φ g := by intro β κ g hg; simp only [go_sem] at hg; refine viaR fun r hr => ?_; cases β; all_goals (simp -implicitDefEqProofs (maxSteps := 1000000) [go_sem, hg, -List.map_append, -List.map_take, -List.map_drop]; exact hr)) :
    {Φ : G → Option ρ // ∀ β κ g, p β κ g → cbK (callX P hints f (ds β) []) κ = Φ g} := ⟨Φ, fun β κ g hg => (e _ _ _ (hl β)).trans (hΦ β κ g hg)⟩
end Go.Am
namespace Go.Shr
set_option maxRecDepth 20000
set_option linter.unusedVariables false
open Go Go.Am Go.Proofs
noncomputable abbrev P : Program := Try.prog
def hint3 : Hint := { nv := 9, objs := [], keep := [11, 17, 21, 25, 30, 36, 39], lits := [], own := false, live := fun id => (Am.look [(0, [1, 3, 5]), (1, [1, 3, 5, 16]), (2, [6]), (3, [7, 8]), (4, [6])] id).getD [] }
def hint4 : Hint := { nv := 8, objs := [], keep := [10, 16, 20, 24, 30, 36, 39, 44, 64], lits := [], own := false, live := fun id => (Am.look [(0, [1, 3, 5]), (1, [1, 3, 5, 15]), (2, [6]), (3, [1, 3, 5, 7]), (4, [1, 3, 5, 7, 25]), (5, [6]), (6, [6])] id).getD [] }
def hint5 : Hint := { nv := 8, objs := [], keep := [], lits := [], own := false, live := fun id => (Am.look [(0, [2, 3]), (1, [2, 3, 5]), (2, [3, 5, 20, 21, 22]), (3, [3, 5, 20, 21, 22, 23]), (4, [3, 5, 7, 20, 21, 22]), (5, [3, 5, 20, 21, 22]), (6, [3, 5, 20, 21, 22]), (7, [4])] id).getD [] }
def hint6 : Hint := { nv := 3, objs := [], keep := [19, 28], lits := [3, 6, 8, 10, 11, 15, 16, 17, 27], own := false, live := fun id => (Am.look [(0, []), (1, [1]), (2, [2]), (3, [0])] id).getD [] }
def hint7 : Hint := { nv := 18, objs := [3, 4, 7], keep := [20, 23, 28, 35, 50, 72, 100, 101], lits := [], own := false, live := fun id => (Am.look [(0, [3, 4, 5, 6]), (1, [3, 4, 5, 6, 7]), (2, [3, 4, 6, 7, 29]), (3, [6]), (4, [3, 6, 7, 8]), (5, [3, 6, 7, 8, 9, 10, 11]), (6, [3, 6, 7, 8, 9, 10, 45]), (7, [3, 6, 7, 8]), (8, [3, 6, 7, 12]), (9, [3, 6, 7, 12, 57, 58, 59]), (10, [3, 6, 7, 12, 57, 58, 59, 60]), (11, [3, 6, 7, 12, 14, 57, 58, 59]), (12, [3, 6, 7, 12, 57, 58, 59]), (13, [3, 6, 7, 12, 57, 58, 59]), (14, [6, 7, 15, 16]), (15, [6, 7, 15, 84]), (16, [6, 7, 15, 17]), (17, [6, 7]), (18, [6])] id).getD [] }
def hint8 : Hint := { nv := 15, objs := [], keep := [17, 20, 25, 32, 42, 68, 105], lits := [], own := false, live := fun id => (Am.look [(0, [1, 3, 5, 6]), (1, [1, 3, 5, 6, 7]), (2, [1, 3, 6, 7, 26]), (3, [6]), (4, [1, 3, 6, 7, 8, 9]), (5, [1, 3, 6, 7, 8, 35]), (6, [1, 3, 6, 7]), (7, [1, 3, 6, 7, 8, 9]), (8, [3, 6, 7, 10]), (9, [3, 6, 7, 10, 11]), (10, [3, 6, 7, 10, 11, 53]), (11, [3, 6, 7, 10, 11]), (12, [3, 6, 7, 10, 11]), (13, [6, 7, 12, 13]), (14, [6, 7, 12, 80]), (15, [6]), (16, [6, 7, 12, 14]), (17, [6, 7, 12, 14, 93]), (18, [6, 7, 12, 14]), (19, [6, 7, 14]), (20, [6, 7]), (21, [6])] id).getD [] }
def hint9 : Hint := { nv := 6, objs := [], keep := [], lits := [], own := false, live := fun id => (Am.look [(0, [0, 1]), (1, [0, 1, 10]), (2, [4]), (3, [0, 1, 5]), (4, [0, 1, 5, 14]), (5, [0, 1, 5]), (6, [0, 1, 5, 25]), (7, [4]), (8, [4])] id).getD [] }
def hint10 : Hint := { nv := 15, objs := [], keep := [37, 82, 108], lits := [63], own := false, live := fun id => (Am.look [(0, [1, 3, 5]), (1, [1, 3, 5, 18]), (2, [6]), (3, [1, 3, 5, 7]), (4, [1, 3, 5, 7, 8]), (5, [1, 3, 5, 7, 8, 29]), (6, [1, 3, 5, 7, 8]), (7, [1, 3, 5, 7, 8, 38]), (8, [6]), (9, [1, 3, 5, 7, 9]), (10, [1, 3, 5, 7, 9, 10]), (11, [1, 3, 5, 7, 9, 10, 43]), (12, [1, 3, 5, 7, 9, 10]), (13, [1, 3, 5, 7, 9, 10]), (14, [1, 3, 5, 7, 9]), (15, [1, 3, 5, 7, 9, 11]), (16, [1, 3, 5, 7, 9, 11, 69]), (17, [1, 3, 5, 7, 9, 11]), (18, [1, 3, 5, 7, 9, 11, 83]), (19, [6]), (20, [1, 5, 9, 12]), (21, [1, 5, 9, 12, 87]), (22, [1, 5, 9, 12]), (23, [1, 5, 9, 12, 13]), (24, [1, 5, 9, 12, 13, 14]), (25, [1, 5, 9, 12, 13, 14, 94]), (26, [1, 5, 9, 12, 13, 14]), (27, [1, 5, 9, 12, 13, 14]), (28, [1, 5, 9, 12, 111]), (29, [6]), (30, [6])] id).getD [] }
def hint11 : Hint := { nv := 2, objs := [], keep := [], lits := [], own := true, live := fun id => (Am.look [(0, [0]), (1, [0, 4]), (2, [2]), (3, [2])] id).getD [], nilt := 1 }
def hint12 : Hint := { nv := 19, objs := [], keep := [71, 91], lits := [], own := false, live := fun id => (Am.look [(0, [1, 3, 5]), (1, [1, 3, 5, 22]), (2, [6]), (3, [1, 3, 5, 7]), (4, [1, 3, 5, 7, 8]), (5, [1, 3, 5, 7, 8, 30, 31, 32]), (6, [1, 3, 5, 7, 8, 30, 31, 32, 33]), (7, [1, 3, 5, 7, 8, 10, 30, 31, 32]), (8, [1, 3, 5, 7, 8, 30, 31, 32]), (9, [1, 3, 5, 7, 8, 30, 31, 32]), (10, [1, 3, 5, 7, 46]), (11, [6]), (12, [1, 3, 5, 7, 47, 48, 49]), (13, [1, 3, 5, 7, 47, 48, 49, 50]), (14, [1, 3, 5, 7, 11, 12, 47, 48, 49]), (15, [1, 3, 5, 7, 11, 12, 13, 47, 48, 49]), (16, [1, 3, 5, 7, 11, 12, 13, 47, 48, 49, 62]), (17, [1, 3, 5, 7, 12, 13, 47, 48, 49]), (18, [1, 3, 5, 7, 47, 48, 49, 72]), (19, [6]), (20, [1, 3, 5, 7, 47, 48, 49]), (21, [5, 74, 75, 76]), (22, [5, 74, 75, 76, 77]), (23, [5, 15, 74, 75, 76]), (24, [5, 15, 16, 74, 75, 76]), (25, [5, 15, 16, 74, 75, 76, 81, 82, 83]), (26, [5, 15, 16, 74, 75, 76, 81, 82, 83, 84]), (27, [5, 15, 16, 18, 74, 75, 76, 81, 82, 83]), (28, [5, 15, 16, 74, 75, 76, 81, 82, 83]), (29, [5, 15, 16, 74, 75, 76, 81, 82, 83]), (30, [5, 74, 75, 76, 95]), (31, [6]), (32, [5, 74, 75, 76]), (33, [6])] id).getD [] }
def hint13 : Hint := { nv := 7, objs := [], keep := [16, 18], lits := [], own := false, live := fun id => (Am.look [(0, [0, 1, 2, 3, 4]), (1, [7])] id).getD [] }
def hint14 : Hint := { nv := 6, objs := [], keep := [10], lits := [], own := true, live := fun id => (Am.look [(0, [0, 1, 2]), (1, [6])] id).getD [] }
def hint15 : Hint := { nv := 17, objs := [43], keep := [], lits := [31, 29], own := false, live := fun id => (Am.look [(0, [0, 1, 2, 3]), (1, [0, 1, 2, 3, 11]), (2, [0, 1, 2, 3, 11, 18, 19, 20]), (3, [0, 1, 2, 3, 11, 18, 19, 20, 21]), (4, [0, 1, 2, 3, 11, 12, 13, 18, 19, 20]), (5, [0, 1, 2, 3, 11, 18, 19, 20]), (6, [0, 1, 2, 3, 11, 18, 19, 20]), (7, [0, 1, 3, 11, 34, 35]), (8, [0, 1, 3, 11, 34, 35, 36]), (9, [0, 1, 3, 11, 14, 34, 35]), (10, [0, 1, 3, 11, 14, 15, 34, 35]), (11, [0, 1, 3, 11, 14, 15, 16, 34, 35]), (12, [0, 1, 3, 11, 14, 15, 16, 34, 35, 56]), (13, [0, 1, 3, 11, 14, 15, 16, 34, 35]), (14, [0, 1, 3, 11, 14, 15, 16, 34, 35, 71]), (15, [0, 1, 3, 11, 14, 15, 16, 34, 35, 78]), (16, [8, 9, 10]), (17, [0, 1, 3, 11, 34, 35]), (18, [8, 9, 10])] id).getD [] }
def hint16 : Hint := { nv := 6, objs := [], keep := [15], lits := [14, 16], own := false, live := fun id => (Am.look [(0, [0]), (1, [0, 3]), (2, [3, 6, 7, 8]), (3, [3, 6, 7, 8, 9]), (4, [3, 5, 6, 7, 8]), (5, [3, 6, 7, 8]), (6, [3, 6, 7, 8]), (7, [2])] id).getD [] }
def hint17 : Hint := { nv := 16, objs := [], keep := [19, 20, 29, 92], lits := [122], own := false, live := fun id => (Am.look [(0, [1, 2, 3]), (1, [1, 3, 8]), (2, [1, 3, 8, 9]), (3, [3, 8, 9, 21, 22, 23]), (4, [3, 8, 9, 21, 22, 23, 24]), (5, [3, 8, 9, 11, 21, 22, 23]), (6, [3, 8, 9, 11, 21, 22, 23, 67]), (7, [3, 8, 9, 21, 22, 23]), (8, [3, 8, 9, 21, 22, 23]), (9, [3, 8, 9, 71]), (10, [6, 7]), (11, [3, 8, 9, 12]), (12, [3, 8, 9, 12, 78]), (13, [3, 8, 9, 12, 13]), (14, [3, 8, 9, 12, 13, 83, 84, 85]), (15, [3, 8, 9, 12, 13, 83, 84, 85, 86]), (16, [3, 8, 9, 12, 13, 15, 83, 84, 85]), (17, [3, 8, 9, 12, 13, 15, 83, 84, 85, 115]), (18, [3, 8, 9, 12, 13, 83, 84, 85]), (19, [3, 8, 9, 12, 13, 83, 84, 85]), (20, [3, 8, 9, 12]), (21, [3, 8, 9, 12]), (22, [6, 7])] id).getD [] }
def hint18 : Hint := { nv := 4, objs := [], keep := [8], lits := [], own := false, live := fun id => (Am.look [(0, [0, 1]), (1, [4])] id).getD [] }
def hint19 : Hint := { nv := 6, objs := [], keep := [], lits := [], own := false, live := fun id => (Am.look [(0, [0, 1]), (1, [0, 1, 7, 8]), (2, [0, 1, 7, 8, 9]), (3, [0, 1, 5, 7, 8]), (4, [0, 1, 5, 7, 8, 16]), (5, [4]), (6, [0, 1, 7, 8]), (7, [4])] id).getD [] }
def hint20 : Hint := { nv := 9, objs := [], keep := [], lits := [28], own := false, live := fun id => (Am.look [(0, [0, 1, 2]), (1, [0, 1, 2, 7]), (2, [0, 1, 2, 7, 8]), (3, [0, 1, 2, 7, 8, 12]), (4, [0, 1, 2, 7, 8]), (5, [0, 1, 2, 7, 8, 22]), (6, [0, 1, 2, 7, 8]), (7, [6])] id).getD [] }
def hint21 : Hint := { nv := 11, objs := [], keep := [31, 50], lits := [], own := false, live := fun id => (Am.look [(0, [1, 3, 5]), (1, [1, 3, 5, 8]), (2, [1, 3, 5, 8, 15]), (3, [1, 3, 5, 8]), (4, [1, 3, 5, 8, 9]), (5, [1, 3, 5, 8, 9, 24]), (6, [1, 3, 5, 8, 9]), (7, [1, 3, 5, 8, 9, 10]), (8, [1, 3, 5, 8, 9, 10, 51]), (9, [6, 7]), (10, [6, 7])] id).getD [] }
def hint22 : Hint := { nv := 16, objs := [], keep := [18, 31, 101], lits := [127], own := false, live := fun id => (Am.look [(0, [1, 2, 3]), (1, [1, 3, 8]), (2, [1, 3, 8, 9]), (3, [1, 3, 8, 9, 10]), (4, [1, 3, 8, 9, 10, 22]), (5, [1, 3, 8, 9, 10]), (6, [1, 3, 8, 9, 10, 11]), (7, [1, 3, 8, 9, 10, 11, 69]), (8, [1, 3, 8, 9, 10]), (9, [3, 8, 9, 72]), (10, [6, 7]), (11, [3, 8, 9, 12]), (12, [3, 8, 9, 12, 79]), (13, [3, 8, 9, 12, 13]), (14, [3, 8, 9, 12, 13, 14]), (15, [3, 8, 9, 12, 13, 14, 87]), (16, [3, 8, 9, 12, 13, 14]), (17, [3, 8, 9, 12, 13, 14, 15]), (18, [3, 8, 9, 12, 13, 14, 15, 122]), (19, [3, 8, 9, 12, 13, 14]), (20, [3, 8, 9, 12]), (21, [3, 8, 9, 12]), (22, [6, 7])] id).getD [] }
def hint23 : Hint := { nv := 7, objs := [], keep := [], lits := [23], own := false, live := fun id => (Am.look [(0, [0, 1]), (1, [0, 1, 5]), (2, [0, 1, 5, 6]), (3, [0, 1, 5, 6, 10]), (4, [0, 1, 5, 6]), (5, [0, 1, 5, 6]), (6, [4])] id).getD [] }
def hint24 : Hint := { nv := 4, objs := [], keep := [], lits := [], own := false, live := fun id => (Am.look [(0, [1, 2]), (1, [4])] id).getD [] }
def hint25 : Hint := { nv := 8, objs := [], keep := [], lits := [], own := false, live := fun id => (Am.look [(0, [1, 2, 3]), (1, [1, 2, 3, 7]), (2, [1, 2, 3, 7, 15]), (3, [1, 2, 3, 7]), (4, [1, 2, 3, 7, 28]), (5, [6]), (6, [6])] id).getD [] }
def hint26 : Hint := { nv := 4, objs := [], keep := [], lits := [], own := false, live := fun id => (Am.look [(0, [0, 1]), (1, [4])] id).getD [] }
def hint27 : Hint := { nv := 9, objs := [], keep := [11, 16], lits := [], own := false, live := fun id => (Am.look [(0, [1, 2, 3]), (1, [1, 2, 3, 18]), (2, [6]), (3, [2, 23, 24, 25]), (4, [2, 23, 24, 25, 26]), (5, [2, 8, 23, 24, 25]), (6, [2, 23, 24, 25, 32]), (7, [6]), (8, [2, 23, 24, 25]), (9, [6])] id).getD [] }
def hint28 : Hint := { nv := 4, objs := [], keep := [], lits := [], own := false, live := fun id => (Am.look [(0, [0, 1]), (1, [4])] id).getD [] }
def hint29 : Hint := { nv := 2, objs := [], keep := [4], lits := [], own := false, live := fun id => (Am.look [(0, [0]), (1, [2])] id).getD [] }
def hint30 : Hint := { nv := 18, objs := [], keep := [42, 45], lits := [87], own := false, live := fun id => (Am.look [(0, [1, 2]), (1, [1, 2, 5]), (2, [1, 2, 5, 23, 24]), (3, [1, 2, 5, 23, 24, 25]), (4, [1, 2, 5, 6, 23, 24]), (5, [1, 2, 5, 23, 24]), (6, [1, 2, 5, 23, 24]), (7, [1, 2, 5, 31, 32, 33]), (8, [1, 2, 5, 31, 32, 33, 34]), (9, [1, 2, 5, 8, 31, 32, 33]), (10, [1, 2, 5, 31, 32, 33]), (11, [1, 2, 5, 31, 32, 33]), (12, [1, 5, 9]), (13, [5, 9, 10]), (14, [5, 9, 10, 11]), (15, [5, 9, 10, 11, 12]), (16, [5, 9, 10, 11, 12, 52]), (17, [5, 9, 10, 11, 12]), (18, [5, 9, 10, 11, 12, 13]), (19, [5, 9, 11, 12, 13, 55, 56, 57]), (20, [5, 9, 11, 12, 13, 55, 56, 57, 58]), (21, [5, 9, 11, 12, 13, 15, 55, 56, 57]), (22, [5, 9, 11, 12, 13, 15, 55, 56, 57]), (23, [5, 9, 11, 12, 13, 55, 56, 57, 67, 68, 69]), (24, [5, 9, 11, 12, 13, 55, 56, 57, 67, 68, 69, 70]), (25, [5, 9, 11, 12, 13, 17, 55, 56, 57, 67, 68, 69]), (26, [5, 9, 11, 12, 13, 17, 55, 56, 57, 67, 68, 69, 78]), (27, [5, 9, 11, 12, 13, 17, 55, 56, 57, 67, 68, 69]), (28, [5, 9, 11, 12, 13, 55, 56, 57, 67, 68, 69]), (29, [5, 9, 11, 12, 13, 55, 56, 57, 67, 68, 69]), (30, [5, 9, 11, 12, 13, 55, 56, 57]), (31, [5, 9, 10, 11, 12]), (32, [4])] id).getD [] }
def hint31 : Hint := { nv := 7, objs := [], keep := [], lits := [22], own := false, live := fun id => (Am.look [(0, [1, 2]), (1, [1, 2, 5]), (2, [1, 5, 12, 13]), (3, [1, 5, 12, 13, 14]), (4, [1, 5, 6, 12, 13]), (5, [1, 5, 6, 12, 13, 19]), (6, [1, 5, 12, 13]), (7, [1, 5, 12, 13]), (8, [4])] id).getD [] }
def hint32 : Hint := { nv := 4, objs := [], keep := [], lits := [], own := false, live := fun id => (Am.look [(0, [1, 2]), (1, [4])] id).getD [] }
def hint33 : Hint := { nv := 13, objs := [], keep := [28, 42], lits := [93], own := false, live := fun id => (Am.look [(0, [1, 2]), (1, [1, 2, 5]), (2, [1, 2, 5, 6]), (3, [1, 2, 5, 6, 20]), (4, [1, 2, 5, 6]), (5, [1, 2, 5, 6]), (6, [2, 5, 7]), (7, [2, 5, 7, 8]), (8, [2, 5, 7, 8, 32]), (9, [2, 5, 7, 8]), (10, [2, 5, 7, 8]), (11, [5, 7, 9]), (12, [5, 7, 9, 10]), (13, [5, 7, 9, 10, 46]), (14, [5, 7, 9, 10]), (15, [5, 7, 9, 10, 11]), (16, [5, 7, 9, 10, 11, 12]), (17, [5, 7, 9, 10, 11, 12, 60]), (18, [5, 7, 9, 10, 11, 12]), (19, [5, 7, 9, 10, 11, 12, 71]), (20, [5, 7, 9, 10, 11, 12]), (21, [5, 7, 9, 10, 11, 12]), (22, [4])] id).getD [] }
def hint34 : Hint := { nv := 4, objs := [], keep := [], lits := [], own := false, live := fun id => (Am.look [(0, [1, 2]), (1, [4])] id).getD [] }
def hint35 : Hint := { nv := 8, objs := [], keep := [11, 20], lits := [], own := false, live := fun id => (Am.look [(0, [0, 1]), (1, [1, 5]), (2, [5, 12, 13, 14]), (3, [5, 12, 13, 14, 15]), (4, [5, 7, 12, 13, 14]), (5, [5, 12, 13, 14]), (6, [5, 12, 13, 14]), (7, [4])] id).getD [] }
def hint36 : Hint := { nv := 8, objs := [], keep := [10, 13, 36], lits := [51], own := false, live := fun id => (Am.look [(0, [1, 2]), (1, [1, 2, 3]), (2, [1, 2, 3, 20, 21, 22]), (3, [1, 2, 3, 20, 21, 22, 23]), (4, [1, 2, 3, 4, 5, 20, 21, 22]), (5, [1, 2, 3, 4, 20, 21, 22, 27, 28, 29]), (6, [1, 2, 3, 4, 20, 21, 22, 27, 28, 29, 30]), (7, [1, 2, 3, 4, 7, 20, 21, 22, 27, 28, 29]), (8, [1, 2, 3, 4, 7, 20, 21, 22, 27, 28, 29, 36]), (9, [1, 2, 3, 4, 20, 21, 22, 27, 28, 29]), (10, [1, 2, 3, 4, 20, 21, 22, 27, 28, 29]), (11, [1, 2, 3, 20, 21, 22]), (12, [2])] id).getD [] }
def hint37 : Hint := { nv := 2, objs := [16], keep := [], lits := [], own := false, live := fun id => (Am.look [(0, [0]), (1, [0, 8]), (2, [2]), (3, [2])] id).getD [] }
def hint38 : Hint := { nv := 4, objs := [], keep := [], lits := [], own := false, live := fun id => (Am.look [(0, [0, 1]), (1, [0, 1, 17]), (2, [4]), (3, []), (4, [4])] id).getD [] }
def hint39 : Hint := { nv := 7, objs := [], keep := [], lits := [26], own := true, live := fun id => (Am.look [(0, [1, 2]), (1, [1, 2, 5]), (2, [1, 2, 5, 6]), (3, [1, 2, 5, 6, 17]), (4, [1, 2, 5, 6]), (5, [1, 2, 5, 6, 23]), (6, [1, 2, 5, 6]), (7, [4])] id).getD [] }
def hint40 : Hint := { nv := 8, objs := [], keep := [49], lits := [62], own := false, live := fun id => (Am.look [(0, [1, 2]), (1, [1, 2, 3]), (2, [1, 2, 3, 4]), (3, [1, 2, 3, 4, 5]), (4, [1, 2, 3, 4, 5, 25]), (5, [1, 2, 3, 4, 5]), (6, [1, 2, 3, 4, 5, 6]), (7, [1, 2, 3, 4, 5, 6, 35]), (8, [1, 2, 3, 4, 5, 6]), (9, [1, 2, 3, 4, 5, 6, 7]), (10, [1, 2, 3, 4, 5, 6, 7, 49]), (11, [1, 2, 3, 4, 5, 6]), (12, [2, 3]), (13, [2])] id).getD [] }
def hint41 : Hint := { nv := 7, objs := [], keep := [15], lits := [22, 29], own := false, live := fun id => (Am.look [(0, [0, 1]), (1, [0, 5]), (2, [5, 6]), (3, [5, 6, 17]), (4, [5, 6]), (5, [5, 6]), (6, [4])] id).getD [] }
def hint42 : Hint := { nv := 2, objs := [], keep := [], lits := [], own := true, live := fun id => (Am.look [(0, [0]), (1, [0, 4]), (2, [2]), (3, [2])] id).getD [], nilt := 1 }
def hint43 : Hint := { nv := 2, objs := [], keep := [], lits := [], own := false, live := fun id => (Am.look [(0, [0]), (1, [0, 4]), (2, [2]), (3, [2])] id).getD [] }
def hint44 : Hint := { nv := 4, objs := [], keep := [], lits := [], own := false, live := fun id => (Am.look [(0, [0, 1]), (1, [4])] id).getD [] }
def hint45 : Hint := { nv := 2, objs := [], keep := [], lits := [], own := true, live := fun id => (Am.look [(0, [0]), (1, [0, 4]), (2, [2]), (3, [2])] id).getD [], nilt := 1 }
def hints : FuncId → Hint := fun f => match f with
  | 3 => hint3
  | 4 => hint4
  | 5 => hint5
  | 6 => hint6
  | 7 => hint7
  | 8 => hint8
  | 9 => hint9
  | 10 => hint10
  | 11 => hint11
  | 12 => hint12
  | 13 => hint13
  | 14 => hint14
  | 15 => hint15
  | 16 => hint16
  | 17 => hint17
  | 18 => hint18
  | 19 => hint19
  | 20 => hint20
  | 21 => hint21
  | 22 => hint22
  | 23 => hint23
  | 24 => hint24
  | 25 => hint25
  | 26 => hint26
  | 27 => hint27
  | 28 => hint28
  | 29 => hint29
  | 30 => hint30
  | 31 => hint31
  | 32 => hint32
  | 33 => hint33
  | 34 => hint34
  | 35 => hint35
  | 36 => hint36
  | 37 => hint37
  | 38 => hint38
  | 39 => hint39
  | 40 => hint40
  | 41 => hint41
  | 42 => hint42
  | 43 => hint43
  | 44 => hint44
  | 45 => hint45
  | _ => { nv := 0, objs := [], keep := [], lits := [], own := false, live := fun _ => [] }
noncomputable abbrev call : CallF := callX P hints
@[go_sem] theorem hn3 : hint3.nv = 9 := rfl
@[go_sem] theorem hn4 : hint4.nv = 8 := rfl
@[go_sem] theorem ho4 : hint4.objs = [] := rfl
@[go_sem] theorem hk4 : hint4.keep = [10, 16, 20, 24, 30, 36, 39, 44, 64] := rfl
@[go_sem] theorem hr4 : hint4.ro = [] := rfl
@[go_sem] theorem hn5 : hint5.nv = 8 := rfl
@[go_sem] theorem ho5 : hint5.objs = [] := rfl
@[go_sem] theorem hn7 : hint7.nv = 18 := rfl
@[go_sem] theorem ho7 : hint7.objs = [3, 4, 7] := rfl
@[go_sem] theorem hk7 : hint7.keep = [20, 23, 28, 35, 50, 72, 100, 101] := rfl
@[go_sem] theorem hr7 : hint7.ro = [] := rfl
@[go_sem] theorem hn10 : hint10.nv = 15 := rfl
@[go_sem] theorem ho10 : hint10.objs = [] := rfl
@[go_sem] theorem hk10 : hint10.keep = [37, 82, 108] := rfl
@[go_sem] theorem hl10 : hint10.lits = [63] := rfl
@[go_sem] theorem hr10 : hint10.ro = [] := rfl
@[go_sem] theorem hn11 : hint11.nv = 2 := rfl
@[go_sem] theorem hl11 : hint11.lits = [] := rfl
@[go_sem] theorem hn12 : hint12.nv = 19 := rfl
@[go_sem] theorem ho12 : hint12.objs = [] := rfl
@[go_sem] theorem hk12 : hint12.keep = [71, 91] := rfl
@[go_sem] theorem hr12 : hint12.ro = [] := rfl
@[go_sem] theorem hn13 : hint13.nv = 7 := rfl
@[go_sem] theorem hk13 : hint13.keep = [16, 18] := rfl
@[go_sem] theorem hr13 : hint13.ro = [] := rfl
@[go_sem] theorem hn14 : hint14.nv = 6 := rfl
@[go_sem] theorem hk14 : hint14.keep = [10] := rfl
@[go_sem] theorem hr14 : hint14.ro = [] := rfl
@[go_sem] theorem hn15 : hint15.nv = 17 := rfl
@[go_sem] theorem ho15 : hint15.objs = [43] := rfl
@[go_sem] theorem hk15 : hint15.keep = [] := rfl
@[go_sem] theorem hl15 : hint15.lits = [31, 29] := rfl
@[go_sem] theorem hr15 : hint15.ro = [] := rfl
@[go_sem] theorem hn16 : hint16.nv = 6 := rfl
@[go_sem] theorem hk16 : hint16.keep = [15] := rfl
@[go_sem] theorem hl16 : hint16.lits = [14, 16] := rfl
@[go_sem] theorem hr16 : hint16.ro = [] := rfl
@[go_sem] theorem hn17 : hint17.nv = 16 := rfl
@[go_sem] theorem ho17 : hint17.objs = [] := rfl
@[go_sem] theorem hk17 : hint17.keep = [19, 20, 29, 92] := rfl
@[go_sem] theorem hl17 : hint17.lits = [122] := rfl
@[go_sem] theorem hr17 : hint17.ro = [] := rfl
@[go_sem] theorem hn18 : hint18.nv = 4 := rfl
@[go_sem] theorem hk18 : hint18.keep = [8] := rfl
@[go_sem] theorem hr18 : hint18.ro = [] := rfl
@[go_sem] theorem hn24 : hint24.nv = 4 := rfl
@[go_sem] theorem ho24 : hint24.objs = [] := rfl
@[go_sem] theorem hn25 : hint25.nv = 8 := rfl
@[go_sem] theorem ho25 : hint25.objs = [] := rfl
@[go_sem] theorem hn27 : hint27.nv = 9 := rfl
@[go_sem] theorem ho27 : hint27.objs = [] := rfl
@[go_sem] theorem hk27 : hint27.keep = [11, 16] := rfl
@[go_sem] theorem hr27 : hint27.ro = [] := rfl
@[go_sem] theorem hn29 : hint29.nv = 2 := rfl
@[go_sem] theorem hk29 : hint29.keep = [4] := rfl
@[go_sem] theorem hr29 : hint29.ro = [] := rfl
@[go_sem] theorem hn30 : hint30.nv = 18 := rfl
@[go_sem] theorem ho30 : hint30.objs = [] := rfl
@[go_sem] theorem hk30 : hint30.keep = [42, 45] := rfl
@[go_sem] theorem hl30 : hint30.lits = [87] := rfl
@[go_sem] theorem hr30 : hint30.ro = [] := rfl
@[go_sem] theorem hn31 : hint31.nv = 7 := rfl
@[go_sem] theorem ho31 : hint31.objs = [] := rfl
@[go_sem] theorem hl31 : hint31.lits = [22] := rfl
@[go_sem] theorem hn32 : hint32.nv = 4 := rfl
@[go_sem] theorem ho32 : hint32.objs = [] := rfl
@[go_sem] theorem hn34 : hint34.nv = 4 := rfl
@[go_sem] theorem ho34 : hint34.objs = [] := rfl
@[go_sem] theorem hn35 : hint35.nv = 8 := rfl
@[go_sem] theorem hk35 : hint35.keep = [11, 20] := rfl
@[go_sem] theorem hr35 : hint35.ro = [] := rfl
@[go_sem] theorem hn36 : hint36.nv = 8 := rfl
@[go_sem] theorem ho36 : hint36.objs = [] := rfl
@[go_sem] theorem hk36 : hint36.keep = [10, 13, 36] := rfl
@[go_sem] theorem hl36 : hint36.lits = [51] := rfl
@[go_sem] theorem hr36 : hint36.ro = [] := rfl
@[go_sem] theorem hn37 : hint37.nv = 2 := rfl
@[go_sem] theorem ho37 : hint37.objs = [16] := rfl
@[go_sem] theorem hn38 : hint38.nv = 4 := rfl
@[go_sem] theorem hk38 : hint38.keep = [] := rfl
@[go_sem] theorem hr38 : hint38.ro = [] := rfl
@[go_sem] theorem hn41 : hint41.nv = 7 := rfl
@[go_sem] theorem hk41 : hint41.keep = [15] := rfl
@[go_sem] theorem hl41 : hint41.lits = [22, 29] := rfl
@[go_sem] theorem hr41 : hint41.ro = [] := rfl
@[go_sem] theorem hn42 : hint42.nv = 2 := rfl
@[go_sem] theorem hl42 : hint42.lits = [] := rfl
@[go_sem] theorem hn44 : hint44.nv = 4 := rfl
@[go_sem] theorem hk44 : hint44.keep = [] := rfl
@[go_sem] theorem hr44 : hint44.ro = [] := rfl
@[go_sem] theorem hn45 : hint45.nv = 2 := rfl
@[go_sem] theorem hl45 : hint45.lits = [] := rfl
@[go_sem] theorem el0 : Am.elemOf P 0 = none := by kernel_rfl
@[go_sem] theorem ag3 : aggO P 3 = some false := by kernel_rfl
@[go_sem] theorem el3 : Am.elemOf P 3 = none := by kernel_rfl
@[go_sem] theorem ce3 : P.cellsOf 3 = 1 := by kernel_rfl
@[go_sem] theorem by3 : P.bytesOf 3 = 8 := by kernel_rfl
@[go_sem] theorem in3 : (P.info? 3).isSome = true := by kernel_rfl
@[go_sem] theorem ze3 : zeroOf P 3 = some (.int .i64 (0)) := by kernel_rfl
@[go_sem] theorem un3 : P.underlying 3 = some (.int .i64) := by kernel_rfl
@[go_sem] theorem ag4 : aggO P 4 = some false := by kernel_rfl
@[go_sem] theorem el4 : Am.elemOf P 4 = none := by kernel_rfl
@[go_sem] theorem ce4 : P.cellsOf 4 = 1 := by kernel_rfl
@[go_sem] theorem by4 : P.bytesOf 4 = 1 := by kernel_rfl
@[go_sem] theorem ze4 : zeroOf P 4 = some (.bool false) := by kernel_rfl
@[go_sem] theorem un4 : P.underlying 4 = some .bool := by kernel_rfl
@[go_sem] theorem ce5 : P.cellsOf 5 = 1 := by kernel_rfl
@[go_sem] theorem by5 : P.bytesOf 5 = 1 := by kernel_rfl
@[go_sem] theorem ze5 : zeroOf P 5 = some (.int .u8 (0)) := by kernel_rfl
@[go_sem] theorem ag9 : aggO P 9 = some false := by kernel_rfl
@[go_sem] theorem el9 : Am.elemOf P 9 = none := by kernel_rfl
@[go_sem] theorem ce9 : P.cellsOf 9 = 1 := by kernel_rfl
@[go_sem] theorem by9 : P.bytesOf 9 = 16 := by kernel_rfl
@[go_sem] theorem ze9 : zeroOf P 9 = some (.str []) := by kernel_rfl
@[go_sem] theorem ki9 : kindOf P 9 = some 1 := by kernel_rfl
@[go_sem] theorem ag22 : aggO P 22 = some false := by kernel_rfl
@[go_sem] theorem el22 : Am.elemOf P 22 = some 3 := by kernel_rfl
@[go_sem] theorem ce22 : P.cellsOf 22 = 1 := by kernel_rfl
@[go_sem] theorem un22 : P.underlying 22 = some (.slice 3) := by kernel_rfl
@[go_sem] theorem ag23 : aggO P 23 = some false := by kernel_rfl
@[go_sem] theorem el23 : Am.elemOf P 23 = some 35 := by kernel_rfl
@[go_sem] theorem ce23 : P.cellsOf 23 = 1 := by kernel_rfl
@[go_sem] theorem un23 : P.underlying 23 = some (.slice 35) := by kernel_rfl
@[go_sem] theorem ag24 : aggO P 24 = some false := by kernel_rfl
@[go_sem] theorem el24 : Am.elemOf P 24 = some 66 := by kernel_rfl
@[go_sem] theorem ce24 : P.cellsOf 24 = 1 := by kernel_rfl
@[go_sem] theorem un24 : P.underlying 24 = some (.slice 66) := by kernel_rfl
@[go_sem] theorem ag26 : aggO P 26 = some true := by kernel_rfl
@[go_sem] theorem ce26 : P.cellsOf 26 = 3 := by kernel_rfl
@[go_sem] theorem ze26 : zeroOf P 26 = some (.agg [.nils, .nils, .nils]) := by kernel_rfl
@[go_sem] theorem fi26_0 : fieldOf P 26 0 = some (0, 1, false) := by kernel_rfl
@[go_sem] theorem fi26_1 : fieldOf P 26 1 = some (1, 1, false) := by kernel_rfl
@[go_sem] theorem fi26_2 : fieldOf P 26 2 = some (2, 1, false) := by kernel_rfl
@[go_sem] theorem pl26 : placesOf P 26 = some (.inr [(0, 1), (1, 1), (2, 1)]) := by kernel_rfl
@[go_sem] theorem ag27 : aggO P 27 = some false := by kernel_rfl
@[go_sem] theorem ce27 : P.cellsOf 27 = 1 := by kernel_rfl
@[go_sem] theorem un27 : P.underlying 27 = some (.slice 38) := by kernel_rfl
@[go_sem] theorem ag29 : aggO P 29 = some true := by kernel_rfl
@[go_sem] theorem ce29 : P.cellsOf 29 = 2 := by kernel_rfl
@[go_sem] theorem ze29 : zeroOf P 29 = some (.agg [.nils, .nils]) := by kernel_rfl
@[go_sem] theorem fi29_0 : fieldOf P 29 0 = some (0, 1, false) := by kernel_rfl
@[go_sem] theorem fi29_1 : fieldOf P 29 1 = some (1, 1, false) := by kernel_rfl
@[go_sem] theorem pl29 : placesOf P 29 = some (.inr [(0, 1), (1, 1)]) := by kernel_rfl
@[go_sem] theorem ag35 : aggO P 35 = some false := by kernel_rfl
@[go_sem] theorem el35 : Am.elemOf P 35 = some 37 := by kernel_rfl
@[go_sem] theorem ce35 : P.cellsOf 35 = 1 := by kernel_rfl
@[go_sem] theorem by35 : P.bytesOf 35 = 24 := by kernel_rfl
@[go_sem] theorem ze35 : zeroOf P 35 = some (.nils) := by kernel_rfl
@[go_sem] theorem un35 : P.underlying 35 = some (.slice 37) := by kernel_rfl
@[go_sem] theorem ag37 : aggO P 37 = some true := by kernel_rfl
@[go_sem] theorem ce37 : P.cellsOf 37 = 2 := by kernel_rfl
@[go_sem] theorem by37 : P.bytesOf 37 = 16 := by kernel_rfl
@[go_sem] theorem ze37 : zeroOf P 37 = some (.agg [.int .i64 (0), .int .i64 (0)]) := by kernel_rfl
@[go_sem] theorem fi37_0 : fieldOf P 37 0 = some (0, 1, false) := by kernel_rfl
@[go_sem] theorem fi37_1 : fieldOf P 37 1 = some (1, 1, false) := by kernel_rfl
@[go_sem] theorem pl37 : placesOf P 37 = some (.inr [(0, 1), (1, 1)]) := by kernel_rfl
@[go_sem] theorem ag38 : aggO P 38 = some false := by kernel_rfl
@[go_sem] theorem el38 : Am.elemOf P 38 = some 4 := by kernel_rfl
@[go_sem] theorem ce38 : P.cellsOf 38 = 1 := by kernel_rfl
@[go_sem] theorem un38 : P.underlying 38 = some (.slice 4) := by kernel_rfl
@[go_sem] theorem el41 : Am.elemOf P 41 = none := by kernel_rfl
@[go_sem] theorem el44 : Am.elemOf P 44 = some 9 := by kernel_rfl
@[go_sem] theorem el54 : Am.elemOf P 54 = none := by kernel_rfl
@[go_sem] theorem ma54 : mapOf P 54 = some (9, 22) := by kernel_rfl
@[go_sem] theorem el58 : Am.elemOf P 58 = some 5 := by kernel_rfl
@[go_sem] theorem el61 : Am.elemOf P 61 = none := by kernel_rfl
@[go_sem] theorem ag66 : aggO P 66 = some false := by kernel_rfl
@[go_sem] theorem el66 : Am.elemOf P 66 = none := by kernel_rfl
@[go_sem] theorem ce66 : P.cellsOf 66 = 1 := by kernel_rfl
@[go_sem] theorem by66 : P.bytesOf 66 = 8 := by kernel_rfl
@[go_sem] theorem ze66 : zeroOf P 66 = some (.int .u64 (0)) := by kernel_rfl
@[go_sem] theorem un66 : P.underlying 66 = some (.int .u64) := by kernel_rfl
@[go_sem] theorem ce68 : P.cellsOf 68 = 2 := by kernel_rfl
@[go_sem] theorem ze68 : zeroOf P 68 = some (.agg [.int .i64 (0), .nils]) := by kernel_rfl
@[go_sem] theorem fi68_0 : fieldOf P 68 0 = some (0, 1, false) := by kernel_rfl
@[go_sem] theorem fi68_1 : fieldOf P 68 1 = some (1, 1, false) := by kernel_rfl
@[go_sem] theorem pl68 : placesOf P 68 = some (.inr [(0, 1), (1, 1)]) := by kernel_rfl
noncomputable def b3 : Code := Try.f3.body.getD .skip
def q3 : {q // compF hint3 b3 = some q} := by refine ⟨?q, ?h⟩; case h => conv => lhs; cbv
attribute [go_sem] q3
noncomputable def b4 : Code := Try.f4.body.getD .skip
def q4 : {q // compF hint4 b4 = some q} := by refine ⟨?q, ?h⟩; case h => conv => lhs; cbv
attribute [go_sem] q4
theorem ge4 {ρ : Type} (ds : List D) (H : List Ob) (κ : List T × List Ob → Option ρ) (hl : ds.length = 3) : cbK (call 4 ds H) κ = go P hints hint4 b4 q4.1 (enter ds H) (kLv P false [.tmp 6] H.length κ) :=
  ge_of Try.func4 (by kernel_rfl) q4.2 rfl rfl (by kernel_rfl) rfl (by kernel_rfl) (by kernel_rfl) ds H κ hl rfl
noncomputable def b5 : Code := Try.f5.body.getD .skip
def q5 : {q // compF hint5 b5 = some q} := by refine ⟨?q, ?h⟩; case h => conv => lhs; cbv
def q5_0 : {q // compL hint5 b5 0 = some q} := by refine ⟨?q, ?h⟩; case h => conv => lhs; cbv
attribute [go_sem] q5 q5_0
theorem ge5 {ρ : Type} (ds : List D) (H : List Ob) (κ : List T × List Ob → Option ρ) (hl : ds.length = 2) : cbK (call 5 ds H) κ = go P hints hint5 b5 q5.1 (enter ds H) (kLv P false [.tmp 4] H.length κ) :=
  ge_of Try.func5 (by kernel_rfl) q5.2 rfl rfl (by kernel_rfl) rfl (by kernel_rfl) (by kernel_rfl) ds H κ hl rfl
noncomputable def b6 : Code := Try.f6.body.getD .skip
def q6 : {q // compF hint6 b6 = some q} := by refine ⟨?q, ?h⟩; case h => conv => lhs; cbv
attribute [go_sem] q6
noncomputable def b7 : Code := Try.f7.body.getD .skip
def q7 : {q // compF hint7 b7 = some q} := by refine ⟨?q, ?h⟩; case h => conv => lhs; cbv
def q7_0 : {q // compL hint7 b7 0 = some q} := by refine ⟨?q, ?h⟩; case h => conv => lhs; cbv
def q7_1 : {q // compL hint7 b7 1 = some q} := by refine ⟨?q, ?h⟩; case h => conv => lhs; cbv
attribute [go_sem] q7 q7_0 q7_1
theorem ge7 {ρ : Type} (ds : List D) (H : List Ob) (κ : List T × List Ob → Option ρ) (hl : ds.length = 3) : cbK (call 7 ds H) κ = go P hints hint7 b7 q7.1 (enter ds H) (kLv P false [.cell 6 29] H.length κ) :=
  ge_of Try.func7 (by kernel_rfl) q7.2 rfl rfl (by kernel_rfl) rfl (by kernel_rfl) (by kernel_rfl) ds H κ hl rfl
noncomputable def b9 : Code := Try.f9.body.getD .skip
def q9 : {q // compF hint9 b9 = some q} := by refine ⟨?q, ?h⟩; case h => conv => lhs; cbv
def q9_0 : {q // compL hint9 b9 0 = some q} := by refine ⟨?q, ?h⟩; case h => conv => lhs; cbv
attribute [go_sem] q9 q9_0
theorem ge9 {ρ : Type} (ds : List D) (H : List Ob) (κ : List T × List Ob → Option ρ) (hl : ds.length = 2) : cbK (call 9 ds H) κ = go P hints hint9 b9 q9.1 (enter ds H) (kLv P false [.tmp 4] H.length κ) :=
  ge_of Try.func9 (by kernel_rfl) q9.2 rfl rfl (by kernel_rfl) rfl (by kernel_rfl) (by kernel_rfl) ds H κ hl rfl
noncomputable def b10 : Code := Try.f10.body.getD .skip
def q10 : {q // compF hint10 b10 = some q} := by refine ⟨?q, ?h⟩; case h => conv => lhs; cbv
def q10_0 : {q // compL hint10 b10 0 = some q} := by refine ⟨?q, ?h⟩; case h => conv => lhs; cbv
def q10_1 : {q // compL hint10 b10 1 = some q} := by refine ⟨?q, ?h⟩; case h => conv => lhs; cbv
def q10_2 : {q // compL hint10 b10 2 = some q} := by refine ⟨?q, ?h⟩; case h => conv => lhs; cbv
def q10_3 : {q // compL hint10 b10 3 = some q} := by refine ⟨?q, ?h⟩; case h => conv => lhs; cbv
def q10_4 : {q // compL hint10 b10 4 = some q} := by refine ⟨?q, ?h⟩; case h => conv => lhs; cbv
attribute [go_sem] q10 q10_0 q10_1 q10_2 q10_3 q10_4
theorem ge10 {ρ : Type} (ds : List D) (H : List Ob) (κ : List T × List Ob → Option ρ) (hl : ds.length = 3) : cbK (call 10 ds H) κ = go P hints hint10 b10 q10.1 (enter ds H) (kLv P false [.tmp 6] H.length κ) :=
  ge_of Try.func10 (by kernel_rfl) q10.2 rfl rfl (by kernel_rfl) rfl (by kernel_rfl) (by kernel_rfl) ds H κ hl rfl
noncomputable def b11 : Code := Try.f11.body.getD .skip
def q11 : {q // compF hint11 b11 = some q} := by refine ⟨?q, ?h⟩; case h => conv => lhs; cbv
attribute [go_sem] q11
theorem ge11 {ρ : Type} (ds : List D) (H : List Ob) (κ : List T × List Ob → Option ρ) (hl : ds.length = 1) (hx : emptyArg ds = false) : cbK (call 11 ds H) κ = go P hints hint11 b11 q11.1 (enter ds H) (kLv P true [.tmp 2] H.length κ) :=
  ge_of Try.func11 (by kernel_rfl) q11.2 rfl rfl (by kernel_rfl) rfl (by kernel_rfl) (by kernel_rfl) ds H κ hl (by rw [hx]; exact Bool.and_false _)
noncomputable def b12 : Code := Try.f12.body.getD .skip
def q12 : {q // compF hint12 b12 = some q} := by refine ⟨?q, ?h⟩; case h => conv => lhs; cbv
def q12_0 : {q // compL hint12 b12 0 = some q} := by refine ⟨?q, ?h⟩; case h => conv => lhs; cbv
def q12_1 : {q // compL hint12 b12 1 = some q} := by refine ⟨?q, ?h⟩; case h => conv => lhs; cbv
def q12_2 : {q // compL hint12 b12 2 = some q} := by refine ⟨?q, ?h⟩; case h => conv => lhs; cbv
def q12_3 : {q // compL hint12 b12 3 = some q} := by refine ⟨?q, ?h⟩; case h => conv => lhs; cbv
attribute [go_sem] q12 q12_0 q12_1 q12_2 q12_3
theorem ge12 {ρ : Type} (ds : List D) (H : List Ob) (κ : List T × List Ob → Option ρ) (hl : ds.length = 3) : cbK (call 12 ds H) κ = go P hints hint12 b12 q12.1 (enter ds H) (kLv P false [.tmp 6] H.length κ) :=
  ge_of Try.func12 (by kernel_rfl) q12.2 rfl rfl (by kernel_rfl) rfl (by kernel_rfl) (by kernel_rfl) ds H κ hl rfl
noncomputable def b13 : Code := Try.f13.body.getD .skip
def q13 : {q // compF hint13 b13 = some q} := by refine ⟨?q, ?h⟩; case h => conv => lhs; cbv
attribute [go_sem] q13
theorem ge13 {ρ : Type} (ds : List D) (H : List Ob) (κ : List T × List Ob → Option ρ) (hl : ds.length = 5) : cbK (call 13 ds H) κ = go P hints hint13 b13 q13.1 (enter ds H) (kLv P false [.tmp 7] H.length κ) :=
  ge_of Try.func13 (by kernel_rfl) q13.2 rfl rfl (by kernel_rfl) rfl (by kernel_rfl) (by kernel_rfl) ds H κ hl rfl
noncomputable def b14 : Code := Try.f14.body.getD .skip
def q14 : {q // compF hint14 b14 = some q} := by refine ⟨?q, ?h⟩; case h => conv => lhs; cbv
attribute [go_sem] q14
theorem ge14 {ρ : Type} (ds : List D) (H : List Ob) (κ : List T × List Ob → Option ρ) (hl : ds.length = 3) : cbK (call 14 ds H) κ = go P hints hint14 b14 q14.1 (enter ds H) (kLv P true [.tmp 6] H.length κ) :=
  ge_of Try.func14 (by kernel_rfl) q14.2 rfl rfl (by kernel_rfl) rfl (by kernel_rfl) (by kernel_rfl) ds H κ hl rfl
noncomputable def b15 : Code := Try.f15.body.getD .skip
def q15 : {q // compF hint15 b15 = some q} := by refine ⟨?q, ?h⟩; case h => conv => lhs; cbv
def q15_0 : {q // compL hint15 b15 0 = some q} := by refine ⟨?q, ?h⟩; case h => conv => lhs; cbv
def q15_1 : {q // compL hint15 b15 1 = some q} := by refine ⟨?q, ?h⟩; case h => conv => lhs; cbv
def q15_2 : {q // compL hint15 b15 2 = some q} := by refine ⟨?q, ?h⟩; case h => conv => lhs; cbv
attribute [go_sem] q15 q15_0 q15_1 q15_2
theorem ge15 {ρ : Type} (ds : List D) (H : List Ob) (κ : List T × List Ob → Option ρ) (hl : ds.length = 4) : cbK (call 15 ds H) κ = go P hints hint15 b15 q15.1 (enter ds H) (kLv P false [.tmp 8, .tmp 9, .tmp 10] H.length κ) :=
  ge_of Try.func15 (by kernel_rfl) q15.2 rfl rfl (by kernel_rfl) rfl (by kernel_rfl) (by kernel_rfl) ds H κ hl rfl
noncomputable def b16 : Code := Try.f16.body.getD .skip
def q16 : {q // compF hint16 b16 = some q} := by refine ⟨?q, ?h⟩; case h => conv => lhs; cbv
def q16_0 : {q // compL hint16 b16 0 = some q} := by refine ⟨?q, ?h⟩; case h => conv => lhs; cbv
attribute [go_sem] q16 q16_0
theorem ge16 {ρ : Type} (ds : List D) (H : List Ob) (κ : List T × List Ob → Option ρ) (hl : ds.length = 1) : cbK (call 16 ds H) κ = go P hints hint16 b16 q16.1 (enter ds H) (kLv P false [.tmp 2] H.length κ) :=
  ge_of Try.func16 (by kernel_rfl) q16.2 rfl rfl (by kernel_rfl) rfl (by kernel_rfl) (by kernel_rfl) ds H κ hl rfl
noncomputable def b17 : Code := Try.f17.body.getD .skip
def q17 : {q // compF hint17 b17 = some q} := by refine ⟨?q, ?h⟩; case h => conv => lhs; cbv
def q17_0 : {q // compL hint17 b17 0 = some q} := by refine ⟨?q, ?h⟩; case h => conv => lhs; cbv
def q17_1 : {q // compL hint17 b17 1 = some q} := by refine ⟨?q, ?h⟩; case h => conv => lhs; cbv
def q17_2 : {q // compL hint17 b17 2 = some q} := by refine ⟨?q, ?h⟩; case h => conv => lhs; cbv
attribute [go_sem] q17 q17_0 q17_1 q17_2
theorem ge17 {ρ : Type} (ds : List D) (H : List Ob) (κ : List T × List Ob → Option ρ) (hl : ds.length = 3) : cbK (call 17 ds H) κ = go P hints hint17 b17 q17.1 (enter ds H) (kLv P false [.tmp 6, .tmp 7] H.length κ) :=
  ge_of Try.func17 (by kernel_rfl) q17.2 rfl rfl (by kernel_rfl) rfl (by kernel_rfl) (by kernel_rfl) ds H κ hl rfl
noncomputable def b18 : Code := Try.f18.body.getD .skip
def q18 : {q // compF hint18 b18 = some q} := by refine ⟨?q, ?h⟩; case h => conv => lhs; cbv
attribute [go_sem] q18
theorem ge18 {ρ : Type} (ds : List D) (H : List Ob) (κ : List T × List Ob → Option ρ) (hl : ds.length = 2) : cbK (call 18 ds H) κ = go P hints hint18 b18 q18.1 (enter ds H) (kLv P false [.tmp 4] H.length κ) :=
  ge_of Try.func18 (by kernel_rfl) q18.2 rfl rfl (by kernel_rfl) rfl (by kernel_rfl) (by kernel_rfl) ds H κ hl rfl
noncomputable def b19 : Code := Try.f19.body.getD .skip
def q19 : {q // compF hint19 b19 = some q} := by refine ⟨?q, ?h⟩; case h => conv => lhs; cbv
def q19_0 : {q // compL hint19 b19 0 = some q} := by refine ⟨?q, ?h⟩; case h => conv => lhs; cbv
attribute [go_sem] q19 q19_0
theorem ge19 {ρ : Type} (ds : List D) (H : List Ob) (κ : List T × List Ob → Option ρ) (hl : ds.length = 2) : cbK (call 19 ds H) κ = go P hints hint19 b19 q19.1 (enter ds H) (kLv P false [.tmp 4] H.length κ) :=
  ge_of Try.func19 (by kernel_rfl) q19.2 rfl rfl (by kernel_rfl) rfl (by kernel_rfl) (by kernel_rfl) ds H κ hl rfl
noncomputable def b24 : Code := Try.f24.body.getD .skip
def q24 : {q // compF hint24 b24 = some q} := by refine ⟨?q, ?h⟩; case h => conv => lhs; cbv
attribute [go_sem] q24
theorem ge24 {ρ : Type} (ds : List D) (H : List Ob) (κ : List T × List Ob → Option ρ) (hl : ds.length = 2) : cbK (call 24 ds H) κ = go P hints hint24 b24 q24.1 (enter ds H) (kLv P false [.tmp 4] H.length κ) :=
  ge_of Try.func24 (by kernel_rfl) q24.2 rfl rfl (by kernel_rfl) rfl (by kernel_rfl) (by kernel_rfl) ds H κ hl rfl
noncomputable def b25 : Code := Try.f25.body.getD .skip
def q25 : {q // compF hint25 b25 = some q} := by refine ⟨?q, ?h⟩; case h => conv => lhs; cbv
def q25_0 : {q // compL hint25 b25 0 = some q} := by refine ⟨?q, ?h⟩; case h => conv => lhs; cbv
attribute [go_sem] q25 q25_0
theorem ge25 {ρ : Type} (ds : List D) (H : List Ob) (κ : List T × List Ob → Option ρ) (hl : ds.length = 3) : cbK (call 25 ds H) κ = go P hints hint25 b25 q25.1 (enter ds H) (kLv P false [.tmp 6] H.length κ) :=
  ge_of Try.func25 (by kernel_rfl) q25.2 rfl rfl (by kernel_rfl) rfl (by kernel_rfl) (by kernel_rfl) ds H κ hl rfl
noncomputable def b26 : Code := Try.f26.body.getD .skip
def q26 : {q // compF hint26 b26 = some q} := by refine ⟨?q, ?h⟩; case h => conv => lhs; cbv
attribute [go_sem] q26
theorem ge26 {ρ : Type} (ds : List D) (H : List Ob) (κ : List T × List Ob → Option ρ) (hl : ds.length = 2) : cbK (call 26 ds H) κ = go P hints hint26 b26 q26.1 (enter ds H) (kLv P false [.tmp 4] H.length κ) :=
  ge_of Try.func26 (by kernel_rfl) q26.2 rfl rfl (by kernel_rfl) rfl (by kernel_rfl) (by kernel_rfl) ds H κ hl rfl
noncomputable def b27 : Code := Try.f27.body.getD .skip
def q27 : {q // compF hint27 b27 = some q} := by refine ⟨?q, ?h⟩; case h => conv => lhs; cbv
def q27_0 : {q // compL hint27 b27 0 = some q} := by refine ⟨?q, ?h⟩; case h => conv => lhs; cbv
attribute [go_sem] q27 q27_0
theorem ge27 {ρ : Type} (ds : List D) (H : List Ob) (κ : List T × List Ob → Option ρ) (hl : ds.length = 3) : cbK (call 27 ds H) κ = go P hints hint27 b27 q27.1 (enter ds H) (kLv P false [.tmp 6] H.length κ) :=
  ge_of Try.func27 (by kernel_rfl) q27.2 rfl rfl (by kernel_rfl) rfl (by kernel_rfl) (by kernel_rfl) ds H κ hl rfl
noncomputable def b28 : Code := Try.f28.body.getD .skip
def q28 : {q // compF hint28 b28 = some q} := by refine ⟨?q, ?h⟩; case h => conv => lhs; cbv
attribute [go_sem] q28
theorem ge28 {ρ : Type} (ds : List D) (H : List Ob) (κ : List T × List Ob → Option ρ) (hl : ds.length = 2) : cbK (call 28 ds H) κ = go P hints hint28 b28 q28.1 (enter ds H) (kLv P false [.tmp 4] H.length κ) :=
  ge_of Try.func28 (by kernel_rfl) q28.2 rfl rfl (by kernel_rfl) rfl (by kernel_rfl) (by kernel_rfl) ds H κ hl rfl
noncomputable def b29 : Code := Try.f29.body.getD .skip
def q29 : {q // compF hint29 b29 = some q} := by refine ⟨?q, ?h⟩; case h => conv => lhs; cbv
attribute [go_sem] q29
theorem ge29 {ρ : Type} (ds : List D) (H : List Ob) (κ : List T × List Ob → Option ρ) (hl : ds.length = 1) : cbK (call 29 ds H) κ = go P hints hint29 b29 q29.1 (enter ds H) (kLv P false [.tmp 2] H.length κ) :=
  ge_of Try.func29 (by kernel_rfl) q29.2 rfl rfl (by kernel_rfl) rfl (by kernel_rfl) (by kernel_rfl) ds H κ hl rfl
noncomputable def b30 : Code := Try.f30.body.getD .skip
def q30 : {q // compF hint30 b30 = some q} := by refine ⟨?q, ?h⟩; case h => conv => lhs; cbv
def q30_0 : {q // compL hint30 b30 0 = some q} := by refine ⟨?q, ?h⟩; case h => conv => lhs; cbv
def q30_1 : {q // compL hint30 b30 1 = some q} := by refine ⟨?q, ?h⟩; case h => conv => lhs; cbv
def q30_2 : {q // compL hint30 b30 2 = some q} := by refine ⟨?q, ?h⟩; case h => conv => lhs; cbv
def q30_3 : {q // compL hint30 b30 3 = some q} := by refine ⟨?q, ?h⟩; case h => conv => lhs; cbv
def q30_4 : {q // compL hint30 b30 4 = some q} := by refine ⟨?q, ?h⟩; case h => conv => lhs; cbv
attribute [go_sem] q30 q30_0 q30_1 q30_2 q30_3 q30_4
theorem ge30 {ρ : Type} (ds : List D) (H : List Ob) (κ : List T × List Ob → Option ρ) (hl : ds.length = 2) : cbK (call 30 ds H) κ = go P hints hint30 b30 q30.1 (enter ds H) (kLv P false [.tmp 4] H.length κ) :=
  ge_of Try.func30 (by kernel_rfl) q30.2 rfl rfl (by kernel_rfl) rfl (by kernel_rfl) (by kernel_rfl) ds H κ hl rfl
noncomputable def b31 : Code := Try.f31.body.getD .skip
def q31 : {q // compF hint31 b31 = some q} := by refine ⟨?q, ?h⟩; case h => conv => lhs; cbv
def q31_0 : {q // compL hint31 b31 0 = some q} := by refine ⟨?q, ?h⟩; case h => conv => lhs; cbv
attribute [go_sem] q31 q31_0
theorem ge31 {ρ : Type} (ds : List D) (H : List Ob) (κ : List T × List Ob → Option ρ) (hl : ds.length = 2) : cbK (call 31 ds H) κ = go P hints hint31 b31 q31.1 (enter ds H) (kLv P false [.tmp 4] H.length κ) :=
  ge_of Try.func31 (by kernel_rfl) q31.2 rfl rfl (by kernel_rfl) rfl (by kernel_rfl) (by kernel_rfl) ds H κ hl rfl
noncomputable def b32 : Code := Try.f32.body.getD .skip
def q32 : {q // compF hint32 b32 = some q} := by refine ⟨?q, ?h⟩; case h => conv => lhs; cbv
attribute [go_sem] q32
theorem ge32 {ρ : Type} (ds : List D) (H : List Ob) (κ : List T × List Ob → Option ρ) (hl : ds.length = 2) : cbK (call 32 ds H) κ = go P hints hint32 b32 q32.1 (enter ds H) (kLv P false [.tmp 4] H.length κ) :=
  ge_of Try.func32 (by kernel_rfl) q32.2 rfl rfl (by kernel_rfl) rfl (by kernel_rfl) (by kernel_rfl) ds H κ hl rfl
noncomputable def b34 : Code := Try.f34.body.getD .skip
def q34 : {q // compF hint34 b34 = some q} := by refine ⟨?q, ?h⟩; case h => conv => lhs; cbv
attribute [go_sem] q34
theorem ge34 {ρ : Type} (ds : List D) (H : List Ob) (κ : List T × List Ob → Option ρ) (hl : ds.length = 2) : cbK (call 34 ds H) κ = go P hints hint34 b34 q34.1 (enter ds H) (kLv P false [.tmp 4] H.length κ) :=
  ge_of Try.func34 (by kernel_rfl) q34.2 rfl rfl (by kernel_rfl) rfl (by kernel_rfl) (by kernel_rfl) ds H κ hl rfl
noncomputable def b35 : Code := Try.f35.body.getD .skip
def q35 : {q // compF hint35 b35 = some q} := by refine ⟨?q, ?h⟩; case h => conv => lhs; cbv
def q35_0 : {q // compL hint35 b35 0 = some q} := by refine ⟨?q, ?h⟩; case h => conv => lhs; cbv
attribute [go_sem] q35 q35_0
theorem ge35 {ρ : Type} (ds : List D) (H : List Ob) (κ : List T × List Ob → Option ρ) (hl : ds.length = 2) : cbK (call 35 ds H) κ = go P hints hint35 b35 q35.1 (enter ds H) (kLv P false [.tmp 4] H.length κ) :=
  ge_of Try.func35 (by kernel_rfl) q35.2 rfl rfl (by kernel_rfl) rfl (by kernel_rfl) (by kernel_rfl) ds H κ hl rfl
noncomputable def b36 : Code := Try.f36.body.getD .skip
def q36 : {q // compF hint36 b36 = some q} := by refine ⟨?q, ?h⟩; case h => conv => lhs; cbv
def q36_0 : {q // compL hint36 b36 0 = some q} := by refine ⟨?q, ?h⟩; case h => conv => lhs; cbv
def q36_1 : {q // compL hint36 b36 1 = some q} := by refine ⟨?q, ?h⟩; case h => conv => lhs; cbv
attribute [go_sem] q36 q36_0 q36_1
theorem ge36 {ρ : Type} (ds : List D) (H : List Ob) (κ : List T × List Ob → Option ρ) (hl : ds.length = 1) : cbK (call 36 ds H) κ = go P hints hint36 b36 q36.1 (enter ds H) (kLv P false [.cell 2 26] H.length κ) :=
  ge_of Try.func36 (by kernel_rfl) q36.2 rfl rfl (by kernel_rfl) rfl (by kernel_rfl) (by kernel_rfl) ds H κ hl rfl
noncomputable def b37 : Code := Try.f37.body.getD .skip
def q37 : {q // compF hint37 b37 = some q} := by refine ⟨?q, ?h⟩; case h => conv => lhs; cbv
attribute [go_sem] q37
theorem ge37 {ρ : Type} (ds : List D) (H : List Ob) (κ : List T × List Ob → Option ρ) (hl : ds.length = 1) : cbK (call 37 ds H) κ = go P hints hint37 b37 q37.1 (enter ds H) (kLv P false [.tmp 2] H.length κ) :=
  ge_of Try.func37 (by kernel_rfl) q37.2 rfl rfl (by kernel_rfl) rfl (by kernel_rfl) (by kernel_rfl) ds H κ hl rfl
noncomputable def b38 : Code := Try.f38.body.getD .skip
def q38 : {q // compF hint38 b38 = some q} := by refine ⟨?q, ?h⟩; case h => conv => lhs; cbv
attribute [go_sem] q38
theorem ge38 {ρ : Type} (ds : List D) (H : List Ob) (κ : List T × List Ob → Option ρ) (hl : ds.length = 2) : cbK (call 38 ds H) κ = go P hints hint38 b38 q38.1 (enter ds H) (kLv P false [.tmp 4] H.length κ) :=
  ge_of Try.func38 (by kernel_rfl) q38.2 rfl rfl (by kernel_rfl) rfl (by kernel_rfl) (by kernel_rfl) ds H κ hl rfl
noncomputable def b41 : Code := Try.f41.body.getD .skip
def q41 : {q // compF hint41 b41 = some q} := by refine ⟨?q, ?h⟩; case h => conv => lhs; cbv
def q41_0 : {q // compL hint41 b41 0 = some q} := by refine ⟨?q, ?h⟩; case h => conv => lhs; cbv
attribute [go_sem] q41 q41_0
theorem ge41 {ρ : Type} (ds : List D) (H : List Ob) (κ : List T × List Ob → Option ρ) (hl : ds.length = 2) : cbK (call 41 ds H) κ = go P hints hint41 b41 q41.1 (enter ds H) (kLv P false [.tmp 4] H.length κ) :=
  ge_of Try.func41 (by kernel_rfl) q41.2 rfl rfl (by kernel_rfl) rfl (by kernel_rfl) (by kernel_rfl) ds H κ hl rfl
noncomputable def b42 : Code := Try.f42.body.getD .skip
def q42 : {q // compF hint42 b42 = some q} := by refine ⟨?q, ?h⟩; case h => conv => lhs; cbv
attribute [go_sem] q42
theorem ge42 {ρ : Type} (ds : List D) (H : List Ob) (κ : List T × List Ob → Option ρ) (hl : ds.length = 1) (hx : emptyArg ds = false) : cbK (call 42 ds H) κ = go P hints hint42 b42 q42.1 (enter ds H) (kLv P true [.tmp 2] H.length κ) :=
  ge_of Try.func42 (by kernel_rfl) q42.2 rfl rfl (by kernel_rfl) rfl (by kernel_rfl) (by kernel_rfl) ds H κ hl (by rw [hx]; exact Bool.and_false _)
noncomputable def b43 : Code := Try.f43.body.getD .skip
def q43 : {q // compF hint43 b43 = some q} := by refine ⟨?q, ?h⟩; case h => conv => lhs; cbv
attribute [go_sem] q43
theorem ge43 {ρ : Type} (ds : List D) (H : List Ob) (κ : List T × List Ob → Option ρ) (hl : ds.length = 1) : cbK (call 43 ds H) κ = go P hints hint43 b43 q43.1 (enter ds H) (kLv P false [.tmp 2] H.length κ) :=
  ge_of Try.func43 (by kernel_rfl) q43.2 rfl rfl (by kernel_rfl) rfl (by kernel_rfl) (by kernel_rfl) ds H κ hl rfl
noncomputable def b44 : Code := Try.f44.body.getD .skip
def q44 : {q // compF hint44 b44 = some q} := by refine ⟨?q, ?h⟩; case h => conv => lhs; cbv
attribute [go_sem] q44
theorem ge44 {ρ : Type} (ds : List D) (H : List Ob) (κ : List T × List Ob → Option ρ) (hl : ds.length = 2) : cbK (call 44 ds H) κ = go P hints hint44 b44 q44.1 (enter ds H) (kLv P false [.tmp 4] H.length κ) :=
  ge_of Try.func44 (by kernel_rfl) q44.2 rfl rfl (by kernel_rfl) rfl (by kernel_rfl) (by kernel_rfl) ds H κ hl rfl
noncomputable def b45 : Code := Try.f45.body.getD .skip
def q45 : {q // compF hint45 b45 = some q} := by refine ⟨?q, ?h⟩; case h => conv => lhs; cbv
attribute [go_sem] q45
theorem ge45 {ρ : Type} (ds : List D) (H : List Ob) (κ : List T × List Ob → Option ρ) (hl : ds.length = 1) (hx : emptyArg ds = false) : cbK (call 45 ds H) κ = go P hints hint45 b45 q45.1 (enter ds H) (kLv P true [.tmp 2] H.length κ) :=
  ge_of Try.func45 (by kernel_rfl) q45.2 rfl rfl (by kernel_rfl) rfl (by kernel_rfl) (by kernel_rfl) ds H κ hl (by rw [hx]; exact Bool.and_false _)
end Go.Shr
namespace Go.Shr
open Go Go.Am Go.Proofs
set_option linter.unusedSimpArgs false
set_option linter.unusedVariables false
def esi64 (b : Bool) (l : List (Int)) : D := .sl b (List.map eI l)
attribute [go_sem] esi64
@[go_sem] theorem imms_si64 (l : List (Int)) : D.imms (List.map eI l) = true := imms_map fun x => by simp [go_sem]
@[go_sem] theorem lends_si64 (l : List (Int)) : D.lends (List.map eI l) = List.map eI l := lends_same fun x => by simp [go_sem]
@[go_sem] theorem lows_si64 (n : Nat) (l : List (Int)) : D.lows n (List.map eI l) = true := lows_map fun x => by simp [go_sem, D.low, D.lows]
@[go_sem] theorem unif_si64 (l : List (Int)) : uniform 1 (tl eI l) = true := uniform_tl fun x => by simp [go_sem, D.nc]
@[go_sem] theorem frzs_si64 (b : Bool) (l : List (Int)) : T.frzs b (tl eI l) = some (List.map eI l) := frzs_tl fun x => by simp [go_sem, D.norm, D.norm1]
@[go_sem] theorem lowT_si64 (n : Nat) (l : List (Int)) : T.lows n (tl eI l) = true := lowT_tl fun x => by simp [go_sem, D.low, D.lows]
def esu64 (b : Bool) (l : List (Int)) : D := .sl b (List.map (eK .u64) l)
attribute [go_sem] esu64
@[go_sem] theorem imms_su64 (l : List (Int)) : D.imms (List.map (eK .u64) l) = true := imms_map fun x => by simp [go_sem]
@[go_sem] theorem lends_su64 (l : List (Int)) : D.lends (List.map (eK .u64) l) = List.map (eK .u64) l := lends_same fun x => by simp [go_sem]
@[go_sem] theorem lows_su64 (n : Nat) (l : List (Int)) : D.lows n (List.map (eK .u64) l) = true := lows_map fun x => by simp [go_sem, D.low, D.lows]
@[go_sem] theorem unif_su64 (l : List (Int)) : uniform 1 (tl (eK .u64) l) = true := uniform_tl fun x => by simp [go_sem, D.nc]
@[go_sem] theorem frzs_su64 (b : Bool) (l : List (Int)) : T.frzs b (tl (eK .u64) l) = some (List.map (eK .u64) l) := frzs_tl fun x => by simp [go_sem, D.norm, D.norm1]
structure Gapi_Edge where
  To : Int
  Act : Int
  deriving DecidableEq
def eapi_Edge (x : Gapi_Edge) : D := .agg [eI x.To, eI x.Act]
attribute [go_sem] eapi_Edge
def esbool (b : Bool) (l : List (Bool)) : D := .sl b (List.map eB l)
attribute [go_sem] esbool
@[go_sem] theorem imms_sbool (l : List (Bool)) : D.imms (List.map eB l) = true := imms_map fun x => by simp [go_sem]
@[go_sem] theorem lends_sbool (l : List (Bool)) : D.lends (List.map eB l) = List.map eB l := lends_same fun x => by simp [go_sem]
@[go_sem] theorem lows_sbool (n : Nat) (l : List (Bool)) : D.lows n (List.map eB l) = true := lows_map fun x => by simp [go_sem, D.low, D.lows]
@[go_sem] theorem frzs_sbool (b : Bool) (l : List (Bool)) : T.frzs b (tl eB l) = some (List.map eB l) := frzs_tl fun x => by simp [go_sem, D.norm, D.norm1]
@[go_sem] theorem imms_sstring (l : List (List UInt8)) : D.imms (List.map eS l) = true := imms_map fun x => by simp [go_sem]
@[go_sem] theorem lows_sstring (n : Nat) (l : List (List UInt8)) : D.lows n (List.map eS l) = true := lows_map fun x => by simp [go_sem, D.low, D.lows]
@[go_sem] theorem unif_sstring (l : List (List UInt8)) : uniform 1 (tl eS l) = true := uniform_tl fun x => by simp [go_sem, D.nc]
@[go_sem] theorem frzs_sstring (b : Bool) (l : List (List UInt8)) : T.frzs b (tl eS l) = some (List.map eS l) := frzs_tl fun x => by simp [go_sem, D.norm, D.norm1]
def esu8 (b : Bool) (l : List (Int)) : D := .sl b (List.map (eK .u8) l)
attribute [go_sem] esu8
@[go_sem] theorem imms_su8 (l : List (Int)) : D.imms (List.map (eK .u8) l) = true := imms_map fun x => by simp [go_sem]
@[go_sem] theorem lends_su8 (l : List (Int)) : D.lends (List.map (eK .u8) l) = List.map (eK .u8) l := lends_same fun x => by simp [go_sem]
@[go_sem] theorem lows_su8 (n : Nat) (l : List (Int)) : D.lows n (List.map (eK .u8) l) = true := lows_map fun x => by simp [go_sem, D.low, D.lows]
@[go_sem] theorem unif_su8 (l : List (Int)) : uniform 1 (tl (eK .u8) l) = true := uniform_tl fun x => by simp [go_sem, D.nc]
@[go_sem] theorem frzs_su8 (b : Bool) (l : List (Int)) : T.frzs b (tl (eK .u8) l) = some (List.map (eK .u8) l) := frzs_tl fun x => by simp [go_sem, D.norm, D.norm1]
def essbool (b : Bool) (l : List (List Bool)) : D := .sl b (List.map (esbool b) l)
attribute [go_sem] essbool
@[go_sem] theorem imms_ssbool (l : List (List Bool)) : D.imms (List.map (esbool false) l) = true := imms_map fun x => by simp [go_sem]
@[go_sem] theorem lends_ssbool (b : Bool) (l : List (List Bool)) : D.lends (List.map (esbool b) l) = List.map (esbool true) l := lends_to fun x => by simp [go_sem]
@[go_sem] theorem lows_ssbool (b : Bool) (n : Nat) (l : List (List Bool)) : D.lows n (List.map (esbool b) l) = true := lows_map fun x => by simp [go_sem, D.low, D.lows]
structure Gapi_Lasso where
  Stem : List Int
  Loop : List Int
  deriving DecidableEq
def eapi_Lasso (b : Bool) (x : Gapi_Lasso) : D := .agg [(esi64 b) x.Stem, (esi64 b) x.Loop]
attribute [go_sem] eapi_Lasso
@[go_sem] theorem eta_api_Lasso (x : Gapi_Lasso) : (Gapi_Lasso.mk x.Stem x.Loop) = x := rfl
def esapi_Edge (b : Bool) (l : List (Gapi_Edge)) : D := .sl b (List.map eapi_Edge l)
attribute [go_sem] esapi_Edge
@[go_sem] theorem imms_sapi_Edge (l : List (Gapi_Edge)) : D.imms (List.map eapi_Edge l) = true := imms_map fun x => by simp [go_sem]
@[go_sem] theorem lends_sapi_Edge (l : List (Gapi_Edge)) : D.lends (List.map eapi_Edge l) = List.map eapi_Edge l := lends_same fun x => by simp [go_sem]
@[go_sem] theorem lows_sapi_Edge (n : Nat) (l : List (Gapi_Edge)) : D.lows n (List.map eapi_Edge l) = true := lows_map fun x => by simp [go_sem, D.low, D.lows]
@[go_sem] theorem unif_sapi_Edge (l : List (Gapi_Edge)) : uniform 2 (tl eapi_Edge l) = true := uniform_tl fun x => by simp [go_sem, D.nc]
@[go_sem] theorem snoc_sapi_Edge (l : List Gapi_Edge) (x0 : Int) (x1 : Int) : tl eapi_Edge l ++ [.d (.agg [eI x0, eI x1])] = tl eapi_Edge (l ++ [(Gapi_Edge.mk x0 x1)]) := tl_snoc (x := (Gapi_Edge.mk x0 x1))
def essapi_Edge (b : Bool) (l : List (List Gapi_Edge)) : D := .sl b (List.map (esapi_Edge b) l)
attribute [go_sem] essapi_Edge
@[go_sem] theorem imms_ssapi_Edge (l : List (List Gapi_Edge)) : D.imms (List.map (esapi_Edge false) l) = true := imms_map fun x => by simp [go_sem]
@[go_sem] theorem lends_ssapi_Edge (b : Bool) (l : List (List Gapi_Edge)) : D.lends (List.map (esapi_Edge b) l) = List.map (esapi_Edge true) l := lends_to fun x => by simp [go_sem]
@[go_sem] theorem lows_ssapi_Edge (b : Bool) (n : Nat) (l : List (List Gapi_Edge)) : D.lows n (List.map (esapi_Edge b) l) = true := lows_map fun x => by simp [go_sem, D.low, D.lows]
@[go_sem] theorem frzso_ssapi_Edge (b : Bool) (l : List (List Gapi_Edge)) : T.frzs b (tlo eapi_Edge l) = some (List.map (esapi_Edge b) l) := frzs_tlo (fun x => by simp [go_sem, D.norm, D.norm1]) (fun _ => rfl)
structure Gapi_Graph where
  Init : List Int
  Edges : List (List Gapi_Edge)
  Labels : List Int
  deriving DecidableEq
def eapi_Graph (b : Bool) (x : Gapi_Graph) : D := .agg [(esi64 b) x.Init, (essapi_Edge b) x.Edges, (esu64 b) x.Labels]
attribute [go_sem] eapi_Graph
@[go_sem] theorem eta_api_Graph (x : Gapi_Graph) : (Gapi_Graph.mk x.Init x.Edges x.Labels) = x := rfl
theorem mkey54 (a b : List UInt8) : keyEq P 9 (eS a) (eS b) = some (decide (a = b)) := by show ((kindOf P 9).bind fun n => eqK n (.str a) (.str b)) = _; rw [ki9]; exact congrArg some (Bool.eq_iff_iff.2 (by simp only [beq_iff_eq, decide_eq_true_eq]))
@[go_sem] theorem mkeyx54 (x : List UInt8) : keyEq P 9 (.str x) (.str x) = some true := by have h := mkey54 x x; simpa [go_sem] using h
@[go_sem] theorem take54 (l : List (List UInt8 × List Int)) (x : List UInt8) : takeOb P 54 (.map (entsB false eS eI l)) (.str x) = some (tl eI (mval [] l x), entsG eS eI l x) := takeOb_ents (kt := 9) (e := 22) (fk := eS) (fv := eI) (k := x) (by kernel_rfl) mkey54 (by kernel_rfl)
@[go_sem] theorem putR54 (l : List (List UInt8 × List Int)) (v : List Int) (x : List UInt8) : putObR P 54 (.map (entsG eS eI l x)) (.str x) (tl eI v) = some (entsB false eS eI (mput l x v)) := putObR_ents (kt := 9) (e := 22) (fk := eS) (fv := eI) (k := x) (by kernel_rfl) mkey54
@[go_sem] theorem frzM54 (b : Bool) (l : List (List UInt8 × List Int)) (x : List UInt8) : frzOb P 54 (.map (entsB b eS eI l)) (.str x) = some (.d (.sl false (List.map eI (mval [] l x))), entsB true eS eI l) := frzOb_ents (kt := 9) (e := 22) (fk := eS) (fv := eI) (k := x) (by kernel_rfl) mkey54 (by kernel_rfl) (fun l => by simp [go_sem, D.norm, D.norm1])
end Go.Shr
