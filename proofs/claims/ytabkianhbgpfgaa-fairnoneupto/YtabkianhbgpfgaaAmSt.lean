/- The abstract machine: a frame's state; one operation of a region. -/
import Derived.Test.YtabkianhbgpfgaaAmStep
namespace Go.Am
open Go Go.RowKit
set_option linter.unusedSimpArgs false
set_option linter.unusedVariables false

section
variable {P : Program} {A : Av} {ρ : Nat → Nat} {S : Root → List Nat} {hd : Root → Value} {fl : List Nat} {k k' : Wk} {vals vals' : List (SV × Value)} {w : World}

theorem KR.withVals (h : KR A ρ S hd fl k vals w) (hv : ∀ p ∈ vals', SO (cxOf A k.H.length ρ S fl w) k.get hd (trv k.tr p.1) p.2) : KR A ρ S hd fl k vals' w :=
  ⟨h.cont, h.gone, h.obj, h.map, h.dis, h.blk, hv, h.fr, h.Fold, h.rho⟩
/-- what was told is told no more -/
theorem KR.hush (h : KR A ρ S hd fl k vals w) : KR A ρ S hd fl { ct := k.ct, H := k.H } [] w :=
  ⟨h.cont, h.gone, h.obj, h.map, h.dis, h.blk, by simp, h.fr, h.Fold, h.rho⟩

/-- the frame's slots hold what they are said to hold -/
def SR (A : Av) (s : St) (a : Act) (w : World) : Prop :=
  ∃ ρ S hd, KR A ρ S hd [] s.wk [] w ∧ ∀ t, SO (cxOf A s.H.length ρ S [] w) s.wk.get hd (s.get t) (a.tmps.getD t undef)

theorem trv_dead (l : List Tr) : trv l .dead = .dead := by
  induction l with
  | nil => rfl
  | cons x l ih =>
    have : x.sv .dead = .dead := by cases x <;> rfl
    simp only [trv, this, ih]
theorem look_env (x : Tr) (env : List (Nat × SV)) (t : Nat) : look (x.env env) t = (look env t).map x.sv := by
  induction env with
  | nil => rfl
  | cons p r ih =>
    obtain ⟨q, v⟩ := p
    simp only [Tr.env, List.map_cons, look] at ih ⊢
    split
    · rfl
    · exact ih
theorem look_trs (l : List Tr) : ∀ (env : List (Nat × SV)) (t : Nat), look (trs l env) t = (look env t).map (trv l) := by
  induction l with
  | nil => intro env t; cases h : look env t <;> simp [trs, trv, h]
  | cons x l ih =>
    intro env t
    simp only [trs, ih, look_env, Option.map_map]
    congr 1
theorem look_mem {env : List (Nat × SV)} {t : Nat} {v : SV} (h : look env t = some v) : t ∈ env.map (·.1) := by
  induction env with
  | nil => cases h
  | cons p r ih =>
    obtain ⟨q, u⟩ := p
    simp only [look] at h
    split at h
    · rename_i e; simp [e]
    · simp [ih h]

/-- constants -/
theorem evalC_ok {c : Cx} {K : Root → Option T} {hd : Root → Value} {a : Act} {x : Operand} (hx : ∀ t, x ≠ .tmp t) : SO c K hd (evalC x) (a.eval x) := by
  cases x with
  | tmp t => exact absurd rfl (hx t)
  | const v =>
    simp only [evalC, Act.eval]
    split
    · rename_i y hy; exact ofVal_ok hy
    · trivial
  | global g => trivial
  | func f =>
    refine VV.one ?_ (by simp)
    simp only [VC]
    exact ⟨#[], #[], rfl, rfl, rfl⟩
theorem SR.val {s : St} {a : Act} (hs : ∀ t, SO (cxOf A s.H.length ρ S [] w) s.wk.get hd (s.get t) (a.tmps.getD t undef)) (x : Operand) : SO (cxOf A s.H.length ρ S [] w) s.wk.get hd (s.val x) (a.eval x) := by
  cases x with
  | tmp t => exact hs t
  | const v => exact evalC_ok (x := .const v) (by simp)
  | global g => exact evalC_ok (x := .global g) (by simp)
  | func f => exact evalC_ok (x := .func f) (by simp)

theorem SR.fin {s : St} {a : Act} {d : Option Nat} {sv : SV} {v : Value} {k' : Wk} {vals : List (SV × Value)} {ρ' : Nat → Nat} {S' : Root → List Nat} {hd' : Root → Value} {w' : World}
    (h : KR A ρ' S' hd' [] k' vals w') (hv : SO (cxOf A k'.H.length ρ' S' [] w') k'.get hd' sv v) (henv : ∀ t ∈ s.env.map (·.1), (s.get t, a.tmps.getD t undef) ∈ vals) (hd : ∀ t, d = some t → t < a.tmps.size) : SR A (s.fin d sv k') (a.put d v) w' := by
  refine ⟨ρ', S', hd', h.hush, fun t => ?_⟩
  have old : SO (cxOf A k'.H.length ρ' S' [] w') k'.get hd' ((look (trs k'.tr s.env) t).getD .dead) (a.tmps.getD t undef) := by
    rw [look_trs]
    cases hl : look s.env t with
    | none => trivial
    | some u =>
      have := h.vals _ (henv t (look_mem hl))
      simpa [St.get, hl] using this
  cases d with
  | none => exact old
  | some d =>
    have hlt := hd d rfl
    show SO _ _ _ ((look ((d, sv) :: trs k'.tr s.env) t).getD .dead) ((a.tmps.setIfInBounds d v).getD t undef)
    simp only [look]
    by_cases ht : d = t
    · subst ht
      rw [if_pos rfl]
      have : (a.tmps.setIfInBounds d v).getD d undef = v := by simp [hlt]
      rw [this]; exact hv
    · rw [if_neg ht]
      have : (a.tmps.setIfInBounds d v).getD t undef = a.tmps.getD t undef := by
        simp [Array.getD_eq_getD_getElem?, Array.getElem?_setIfInBounds_ne ht]
      rw [this]; exact old
end
end Go.Am
