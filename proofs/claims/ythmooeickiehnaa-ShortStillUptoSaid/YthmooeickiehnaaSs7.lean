/- A part of the proof: texts of mine, merged by a program (wip/dev/merge.py). -/
import Derived.Test.YthmooeickiehnaaSs6
namespace Go.Shr
open Go Go.Am Go.Proofs
set_option linter.unusedSimpArgs false
set_option linter.unusedVariables false
set_option maxHeartbeats 400000
set_option maxRecDepth 20000
noncomputable section
section
variable (p0 : List (List Gapi_Edge)) (p1 : Int) (p2 : List Int) (p3 : List Int)
def S_law46_far_0 (p0 : List (List Gapi_Edge)) (p1 : Int) (p2 : List Int) (p3 : List Int) (β : Bool) (v0 : Int) (v1 : Int) : St := ⟨[(3, .loc (Root.l 3 0) [] (0) 0), (5, .d (.int IntKind.i64 v0)), (20, .d (.sl β (List.map (esapi_Edge β) p0))), (21, .d (.int IntKind.i64 p1)), (22, .d (.int IntKind.i64 v1))], [((3, 0), .own [.d (.agg [.sl β (List.map eI p2), .sl β (List.map eI p3)])])], []⟩
attribute [go_sem] S_law46_far_0
def X_law46_far_0 (p0 : List (List Gapi_Edge)) (p1 : Int) (p2 : List Int) (p3 : List Int) {ρ : Type} : LX (A := Int → Int → ((Int) × (Int) → Option ρ) → (Ex × St → Option ρ) → Option ρ) fun β Φ => ∀ (R : St → Option ρ) (g : (Int) × (Int) → Option ρ) (κ : Ex × St → Option ρ), (∀ (v0 : Int) (v1 : Int), R (S_law46_far_0 p0 p1 p2 p3 β v0 v1) = g (v0, v1)) → ∀ (v0 : Int) (v1 : Int), go P hints hint5 b5 q5_0.1 (S_law46_far_0 p0 p1 p2 p3 β v0 v1) (kLp R κ) = Φ v0 v1 g κ := mkL _ _
theorem V_law46_far_0 (p0 : List (List Gapi_Edge)) (p1 : Int) (p2 : List Int) (p3 : List Int) {ρ : Type} (β : Bool) (κ : Ex × St → Option ρ) (v0 : Int) (v1 : Int) : goLp P hints hint5 b5 0 (S_law46_far_0 p0 p1 p2 p3 β v0 v1) κ = iterC (fun v k => (X_law46_far_0 p0 p1 p2 p3 (ρ := ρ)).f β v.1 v.2 k κ) (v0, v1) := by
  refine goLp_iter (Φ := fun v k => (X_law46_far_0 p0 p1 p2 p3 (ρ := ρ)).f β v.1 v.2 k κ) q5_0.2 (S := fun v => S_law46_far_0 p0 p1 p2 p3 β v.1 v.2) ?_ (v0, v1)
  intro R g hR v
  have h := (X_law46_far_0 p0 p1 p2 p3 (ρ := ρ)).ok β R g κ
  exact h (fun v0 v1 => hR (v0, v1)) v.1 v.2
end
@[go_sem] theorem W_law46_far_0f {ρ : Type} (p0 : List (List Gapi_Edge)) (p1 : Int) (p2 : List Int) (p3 : List Int) (κ : Ex × St → Option ρ) (v0 : Int) (v1 : Int) : type_of% (by have h := V_law46_far_0 p0 p1 p2 p3 false κ v0 v1; simp only [S_law46_far_0, X_law46_far_0, mkL, LX.f] at h; exact h) := by have h := V_law46_far_0 p0 p1 p2 p3 false κ v0 v1; simp only [S_law46_far_0, X_law46_far_0, mkL, LX.f] at h; exact h
@[go_sem] theorem W_law46_far_0t {ρ : Type} (p0 : List (List Gapi_Edge)) (p1 : Int) (p2 : List Int) (p3 : List Int) (κ : Ex × St → Option ρ) (v0 : Int) (v1 : Int) : type_of% (by have h := V_law46_far_0 p0 p1 p2 p3 true κ v0 v1; simp only [S_law46_far_0, X_law46_far_0, mkL, LX.f] at h; exact h) := by have h := V_law46_far_0 p0 p1 p2 p3 true κ v0 v1; simp only [S_law46_far_0, X_law46_far_0, mkL, LX.f] at h; exact h
def K_law46_far (a0 : Gapi_Graph) (a1 : Gapi_Lasso) (β : Bool) (y0_0 : Bool) : List T × List Ob := ([.d (.bool y0_0)], [])
attribute [go_sem] K_law46_far
def F_law46_far (a0 : Gapi_Graph) (a1 : Gapi_Lasso) {ρ : Type} : {Φ : (Bool → Option ρ) → Option ρ // ∀ (β : Bool) (κ : List T × List Ob → Option ρ) (g : Bool → Option ρ), (∀ (y0_0 : Bool), κ (K_law46_far a0 a1 β y0_0) = g y0_0) → cbK (call 5 [(eapi_Graph β) a0, (eapi_Lasso β) a1] []) κ = Φ g} := mkF (p := fun (β : Bool) (κ : List T × List Ob → Option ρ) (g : Bool → Option ρ) => (∀ (y0_0 : Bool), κ (K_law46_far a0 a1 β y0_0) = g y0_0)) (ds := fun β => [(eapi_Graph β) a0, (eapi_Lasso β) a1]) ge5 (fun _ => rfl) _
def f_law46_far (a0 : Gapi_Graph) (a1 : Gapi_Lasso) {ρ : Type} (g0 : Bool → Option ρ) : Option ρ := (F_law46_far a0 a1).1 g0
theorem U_law46_far {ρ : Type} (β : Bool) (a0_0 : List Int) (a0_1 : List (List Gapi_Edge)) (a0_2 : List Int) (a1_0 : List Int) (a1_1 : List Int) (κ : List T × List Ob → Option ρ) : cbK (call 5 [.agg [.sl β (List.map eI a0_0), .sl β (List.map (esapi_Edge β) a0_1), .sl β (List.map (eK .u64) a0_2)], .agg [.sl β (List.map eI a1_0), .sl β (List.map eI a1_1)]] []) κ = f_law46_far (Gapi_Graph.mk a0_0 a0_1 a0_2) (Gapi_Lasso.mk a1_0 a1_1) (fun y0_0 => κ (K_law46_far (Gapi_Graph.mk a0_0 a0_1 a0_2) (Gapi_Lasso.mk a1_0 a1_1) β y0_0)) := (F_law46_far (Gapi_Graph.mk a0_0 a0_1 a0_2) (Gapi_Lasso.mk a1_0 a1_1)).2 β κ _ (fun _ => rfl)
@[go_sem] theorem W_law46_far {ρ : Type} (β : Bool) (a0_0 : List Int) (a0_1 : List (List Gapi_Edge)) (a0_2 : List Int) (a1_0 : List Int) (a1_1 : List Int) (κ : List T × List Ob → Option ρ) : type_of% (by have h := @U_law46_far ρ β a0_0 a0_1 a0_2 a1_0 a1_1 κ; simp only [K_law46_far] at h; exact h) := by have h := @U_law46_far ρ β a0_0 a0_1 a0_2 a1_0 a1_1 κ; simp only [K_law46_far] at h; exact h
def F_slices_Clone_sint_int (a0 : List Int) {ρ : Type} : {Φ : (List Int → Option ρ) → Option ρ // ∀ (β : Bool) (κ : List T × List Ob → Option ρ) (g : List Int → Option ρ), a0 ≠ [] → (∀ y, κ ([.own (tl eI y)], []) = g y) → cbK (call 11 [.sl β (List.map eI a0)] []) κ = Φ g} := by
  refine ⟨?f, ?h⟩
  case h =>
    intro β κ g hm hg
    refine viaR fun r hr => ?_
    cases β
    all_goals
      simp -implicitDefEqProofs (maxSteps := 1000000) [go_sem, ge11, hm, hg, -List.map_append, -List.map_take, -List.map_drop]
      exact hr
def f_slices_Clone_sint_int (a0 : List Int) {ρ : Type} (g : List Int → Option ρ) : Option ρ := (F_slices_Clone_sint_int a0).1 g
theorem E_slices_Clone_sint_int (β : Bool) : call 11 [.sl β []] [] = some ([.own []], []) := by cases β <;> exact callX_iff.2 ⟨60, by kernel_rfl⟩
@[go_sem] theorem W_slices_Clone_sint_int {ρ : Type} (β : Bool) (a0 : List Int) (κ : List T × List Ob → Option ρ) : cbK (call 11 [.sl β (List.map eI a0)] []) κ = f_slices_Clone_sint_int a0 fun y => κ ([.own (tl eI y)], []) := by
  cases a0 with
  | nil => show cbK (call 11 [.sl β []] []) κ = _; rw [E_slices_Clone_sint_int]; simp [f_slices_Clone_sint_int, F_slices_Clone_sint_int, cbK, tl_nil]
  | cons x l => exact (F_slices_Clone_sint_int _).2 β κ _ (by simp) fun _ => rfl
def K_fix_node (a0 : Gapi_Graph) (a1 : Int) (β : Bool) (y0_0 : Bool) : List T × List Ob := ([.d (.bool y0_0)], [])
attribute [go_sem] K_fix_node
def F_fix_node (a0 : Gapi_Graph) (a1 : Int) {ρ : Type} : {Φ : (Bool → Option ρ) → Option ρ // ∀ (β : Bool) (κ : List T × List Ob → Option ρ) (g : Bool → Option ρ), (∀ (y0_0 : Bool), κ (K_fix_node a0 a1 β y0_0) = g y0_0) → cbK (call 34 [(eapi_Graph β) a0, eI a1] []) κ = Φ g} := mkF (p := fun (β : Bool) (κ : List T × List Ob → Option ρ) (g : Bool → Option ρ) => (∀ (y0_0 : Bool), κ (K_fix_node a0 a1 β y0_0) = g y0_0)) (ds := fun β => [(eapi_Graph β) a0, eI a1]) ge34 (fun _ => rfl) _
def f_fix_node (a0 : Gapi_Graph) (a1 : Int) {ρ : Type} (g0 : Bool → Option ρ) : Option ρ := (F_fix_node a0 a1).1 g0
theorem U_fix_node {ρ : Type} (β : Bool) (a0_0 : List Int) (a0_1 : List (List Gapi_Edge)) (a0_2 : List Int) (a1 : Int) (κ : List T × List Ob → Option ρ) : cbK (call 34 [.agg [.sl β (List.map eI a0_0), .sl β (List.map (esapi_Edge β) a0_1), .sl β (List.map (eK .u64) a0_2)], .int .i64 a1] []) κ = f_fix_node (Gapi_Graph.mk a0_0 a0_1 a0_2) a1 (fun y0_0 => κ (K_fix_node (Gapi_Graph.mk a0_0 a0_1 a0_2) a1 β y0_0)) := (F_fix_node (Gapi_Graph.mk a0_0 a0_1 a0_2) a1).2 β κ _ (fun _ => rfl)
@[go_sem] theorem W_fix_node {ρ : Type} (β : Bool) (a0_0 : List Int) (a0_1 : List (List Gapi_Edge)) (a0_2 : List Int) (a1 : Int) (κ : List T × List Ob → Option ρ) : type_of% (by have h := @U_fix_node ρ β a0_0 a0_1 a0_2 a1 κ; simp only [K_fix_node] at h; exact h) := by have h := @U_fix_node ρ β a0_0 a0_1 a0_2 a1 κ; simp only [K_fix_node] at h; exact h
section
variable (p0 : Int) (p1 : List Gapi_Edge) (p2 : Int)
def S_fix_leads_0 (p0 : Int) (p1 : List Gapi_Edge) (p2 : Int) (β : Bool) (v0 : Int) : St := ⟨[(2, .d (.int IntKind.i64 p0)), (23, .d (.sl β (List.map eapi_Edge p1))), (24, .d (.int IntKind.i64 p2)), (25, .d (.int IntKind.i64 v0))], [], []⟩
attribute [go_sem] S_fix_leads_0
def X_fix_leads_0 (p0 : Int) (p1 : List Gapi_Edge) (p2 : Int) {ρ : Type} : LX (A := Int → (Int → Option ρ) → (Ex × St → Option ρ) → Option ρ) fun β Φ => ∀ (R : St → Option ρ) (g : Int → Option ρ) (κ : Ex × St → Option ρ), (∀ (v0 : Int), R (S_fix_leads_0 p0 p1 p2 β v0) = g v0) → ∀ (v0 : Int), go P hints hint27 b27 q27_0.1 (S_fix_leads_0 p0 p1 p2 β v0) (kLp R κ) = Φ v0 g κ := mkL _ _
theorem V_fix_leads_0 (p0 : Int) (p1 : List Gapi_Edge) (p2 : Int) {ρ : Type} (β : Bool) (κ : Ex × St → Option ρ) (v0 : Int) : goLp P hints hint27 b27 0 (S_fix_leads_0 p0 p1 p2 β v0) κ = iterC (fun v k => (X_fix_leads_0 p0 p1 p2 (ρ := ρ)).f β v k κ) v0 := by
  refine goLp_iter (Φ := fun v k => (X_fix_leads_0 p0 p1 p2 (ρ := ρ)).f β v k κ) q27_0.2 (S := fun v => S_fix_leads_0 p0 p1 p2 β v) ?_ v0
  intro R g hR v
  have h := (X_fix_leads_0 p0 p1 p2 (ρ := ρ)).ok β R g κ
  exact h (fun v0 => hR v0) v
end
@[go_sem] theorem W_fix_leads_0f {ρ : Type} (p0 : Int) (p1 : List Gapi_Edge) (p2 : Int) (κ : Ex × St → Option ρ) (v0 : Int) : type_of% (by have h := V_fix_leads_0 p0 p1 p2 false κ v0; simp only [S_fix_leads_0, X_fix_leads_0, mkL, LX.f] at h; exact h) := by have h := V_fix_leads_0 p0 p1 p2 false κ v0; simp only [S_fix_leads_0, X_fix_leads_0, mkL, LX.f] at h; exact h
@[go_sem] theorem W_fix_leads_0t {ρ : Type} (p0 : Int) (p1 : List Gapi_Edge) (p2 : Int) (κ : Ex × St → Option ρ) (v0 : Int) : type_of% (by have h := V_fix_leads_0 p0 p1 p2 true κ v0; simp only [S_fix_leads_0, X_fix_leads_0, mkL, LX.f] at h; exact h) := by have h := V_fix_leads_0 p0 p1 p2 true κ v0; simp only [S_fix_leads_0, X_fix_leads_0, mkL, LX.f] at h; exact h
def K_fix_leads (a0 : Gapi_Graph) (a1 : Int) (a2 : Int) (β : Bool) (y0_0 : Bool) : List T × List Ob := ([.d (.bool y0_0)], [])
attribute [go_sem] K_fix_leads
def F_fix_leads (a0 : Gapi_Graph) (a1 : Int) (a2 : Int) {ρ : Type} : {Φ : (Bool → Option ρ) → Option ρ // ∀ (β : Bool) (κ : List T × List Ob → Option ρ) (g : Bool → Option ρ), (∀ (y0_0 : Bool), κ (K_fix_leads a0 a1 a2 β y0_0) = g y0_0) → cbK (call 27 [(eapi_Graph β) a0, eI a1, eI a2] []) κ = Φ g} := mkF (p := fun (β : Bool) (κ : List T × List Ob → Option ρ) (g : Bool → Option ρ) => (∀ (y0_0 : Bool), κ (K_fix_leads a0 a1 a2 β y0_0) = g y0_0)) (ds := fun β => [(eapi_Graph β) a0, eI a1, eI a2]) ge27 (fun _ => rfl) _
def f_fix_leads (a0 : Gapi_Graph) (a1 : Int) (a2 : Int) {ρ : Type} (g0 : Bool → Option ρ) : Option ρ := (F_fix_leads a0 a1 a2).1 g0
theorem U_fix_leads {ρ : Type} (β : Bool) (a0_0 : List Int) (a0_1 : List (List Gapi_Edge)) (a0_2 : List Int) (a1 : Int) (a2 : Int) (κ : List T × List Ob → Option ρ) : cbK (call 27 [.agg [.sl β (List.map eI a0_0), .sl β (List.map (esapi_Edge β) a0_1), .sl β (List.map (eK .u64) a0_2)], .int .i64 a1, .int .i64 a2] []) κ = f_fix_leads (Gapi_Graph.mk a0_0 a0_1 a0_2) a1 a2 (fun y0_0 => κ (K_fix_leads (Gapi_Graph.mk a0_0 a0_1 a0_2) a1 a2 β y0_0)) := (F_fix_leads (Gapi_Graph.mk a0_0 a0_1 a0_2) a1 a2).2 β κ _ (fun _ => rfl)
@[go_sem] theorem W_fix_leads {ρ : Type} (β : Bool) (a0_0 : List Int) (a0_1 : List (List Gapi_Edge)) (a0_2 : List Int) (a1 : Int) (a2 : Int) (κ : List T × List Ob → Option ρ) : type_of% (by have h := @U_fix_leads ρ β a0_0 a0_1 a0_2 a1 a2 κ; simp only [K_fix_leads] at h; exact h) := by have h := @U_fix_leads ρ β a0_0 a0_1 a0_2 a1 a2 κ; simp only [K_fix_leads] at h; exact h
def K_fix_has (a0 : List Bool) (a1 : Int) (β : Bool) (y0_0 : Bool) : List T × List Ob := ([.d (.bool y0_0)], [])
attribute [go_sem] K_fix_has
def F_fix_has (a0 : List Bool) (a1 : Int) {ρ : Type} : {Φ : (Bool → Option ρ) → Option ρ // ∀ (β : Bool) (κ : List T × List Ob → Option ρ) (g : Bool → Option ρ), (∀ (y0_0 : Bool), κ (K_fix_has a0 a1 β y0_0) = g y0_0) → cbK (call 28 [(esbool β) a0, eI a1] []) κ = Φ g} := mkF (p := fun (β : Bool) (κ : List T × List Ob → Option ρ) (g : Bool → Option ρ) => (∀ (y0_0 : Bool), κ (K_fix_has a0 a1 β y0_0) = g y0_0)) (ds := fun β => [(esbool β) a0, eI a1]) ge28 (fun _ => rfl) _
def f_fix_has (a0 : List Bool) (a1 : Int) {ρ : Type} (g0 : Bool → Option ρ) : Option ρ := (F_fix_has a0 a1).1 g0
theorem U_fix_has {ρ : Type} (β : Bool) (a0 : List Bool) (a1 : Int) (κ : List T × List Ob → Option ρ) : cbK (call 28 [.sl β (List.map eB a0), .int .i64 a1] []) κ = f_fix_has a0 a1 (fun y0_0 => κ (K_fix_has a0 a1 β y0_0)) := (F_fix_has a0 a1).2 β κ _ (fun _ => rfl)
@[go_sem] theorem W_fix_has {ρ : Type} (β : Bool) (a0 : List Bool) (a1 : Int) (κ : List T × List Ob → Option ρ) : type_of% (by have h := @U_fix_has ρ β a0 a1 κ; simp only [K_fix_has] at h; exact h) := by have h := @U_fix_has ρ β a0 a1 κ; simp only [K_fix_has] at h; exact h
section
variable (p0 : List (List Bool)) (p1 : Nat) (p2 : List Int) (p3 : Int) (p4 : List (List Gapi_Edge)) (p5 : List Int) (p6 : List Int) (p7 : List Int) (p8 : List Int)
def S_fix_Is_0 (p0 : List (List Bool)) (p1 : Nat) (p2 : List Int) (p3 : Int) (p4 : List (List Gapi_Edge)) (p5 : List Int) (p6 : List Int) (p7 : List Int) (p8 : List Int) (β : Bool) (v0 : Bool) (v1 : Int) : St := ⟨[(1, .d (.sl β (List.map (esbool β) p0))), (3, .loc (Root.l 3 0) [] (0) 0), (5, .loc (Root.l 5 0) [] (0) 0), (7, .bor (.l 7 0) [] 0 p1), (8, .d (.bool v0)), (30, .d (.sl β (List.map eI p2))), (31, .d (.int IntKind.i64 p3)), (32, .d (.int IntKind.i64 v1))], [((3, 0), .own [.d (.agg [.sl β (List.map eI p2), .sl β (List.map (esapi_Edge β) p4), .sl β (List.map (eK IntKind.u64) p5)])]), ((5, 0), .own [.d (.agg [.sl β (List.map eI p6), .sl β (List.map eI p7)])]), ((7, 0), .own (tl eI p8))], []⟩
attribute [go_sem] S_fix_Is_0
def X_fix_Is_0 (p0 : List (List Bool)) (p1 : Nat) (p2 : List Int) (p3 : Int) (p4 : List (List Gapi_Edge)) (p5 : List Int) (p6 : List Int) (p7 : List Int) (p8 : List Int) {ρ : Type} : LX (A := Bool → Int → ((Bool) × (Int) → Option ρ) → (Ex × St → Option ρ) → Option ρ) fun β Φ => ∀ (R : St → Option ρ) (g : (Bool) × (Int) → Option ρ) (κ : Ex × St → Option ρ), (∀ (v0 : Bool) (v1 : Int), R (S_fix_Is_0 p0 p1 p2 p3 p4 p5 p6 p7 p8 β v0 v1) = g (v0, v1)) → ∀ (v0 : Bool) (v1 : Int), go P hints hint12 b12 q12_0.1 (S_fix_Is_0 p0 p1 p2 p3 p4 p5 p6 p7 p8 β v0 v1) (kLp R κ) = Φ v0 v1 g κ := mkL _ _
theorem V_fix_Is_0 (p0 : List (List Bool)) (p1 : Nat) (p2 : List Int) (p3 : Int) (p4 : List (List Gapi_Edge)) (p5 : List Int) (p6 : List Int) (p7 : List Int) (p8 : List Int) {ρ : Type} (β : Bool) (κ : Ex × St → Option ρ) (v0 : Bool) (v1 : Int) : goLp P hints hint12 b12 0 (S_fix_Is_0 p0 p1 p2 p3 p4 p5 p6 p7 p8 β v0 v1) κ = iterC (fun v k => (X_fix_Is_0 p0 p1 p2 p3 p4 p5 p6 p7 p8 (ρ := ρ)).f β v.1 v.2 k κ) (v0, v1) := by
  refine goLp_iter (Φ := fun v k => (X_fix_Is_0 p0 p1 p2 p3 p4 p5 p6 p7 p8 (ρ := ρ)).f β v.1 v.2 k κ) q12_0.2 (S := fun v => S_fix_Is_0 p0 p1 p2 p3 p4 p5 p6 p7 p8 β v.1 v.2) ?_ (v0, v1)
  intro R g hR v
  have h := (X_fix_Is_0 p0 p1 p2 p3 p4 p5 p6 p7 p8 (ρ := ρ)).ok β R g κ
  exact h (fun v0 v1 => hR (v0, v1)) v.1 v.2
end
@[go_sem] theorem W_fix_Is_0f {ρ : Type} (p0 : List (List Bool)) (p1 : Nat) (p2 : List Int) (p3 : Int) (p4 : List (List Gapi_Edge)) (p5 : List Int) (p6 : List Int) (p7 : List Int) (p8 : List Int) (κ : Ex × St → Option ρ) (v0 : Bool) (v1 : Int) : type_of% (by have h := V_fix_Is_0 p0 p1 p2 p3 p4 p5 p6 p7 p8 false κ v0 v1; simp only [S_fix_Is_0, X_fix_Is_0, mkL, LX.f] at h; exact h) := by have h := V_fix_Is_0 p0 p1 p2 p3 p4 p5 p6 p7 p8 false κ v0 v1; simp only [S_fix_Is_0, X_fix_Is_0, mkL, LX.f] at h; exact h
@[go_sem] theorem W_fix_Is_0t {ρ : Type} (p0 : List (List Bool)) (p1 : Nat) (p2 : List Int) (p3 : Int) (p4 : List (List Gapi_Edge)) (p5 : List Int) (p6 : List Int) (p7 : List Int) (p8 : List Int) (κ : Ex × St → Option ρ) (v0 : Bool) (v1 : Int) : type_of% (by have h := V_fix_Is_0 p0 p1 p2 p3 p4 p5 p6 p7 p8 true κ v0 v1; simp only [S_fix_Is_0, X_fix_Is_0, mkL, LX.f] at h; exact h) := by have h := V_fix_Is_0 p0 p1 p2 p3 p4 p5 p6 p7 p8 true κ v0 v1; simp only [S_fix_Is_0, X_fix_Is_0, mkL, LX.f] at h; exact h
section
variable (p0 : List (List Bool)) (p1 : Nat) (p2 : Int) (p3 : List Int) (p4 : List (List Gapi_Edge)) (p5 : List Int) (p6 : List Int) (p7 : List Int) (p8 : List Int)
def S_fix_Is_1 (p0 : List (List Bool)) (p1 : Nat) (p2 : Int) (p3 : List Int) (p4 : List (List Gapi_Edge)) (p5 : List Int) (p6 : List Int) (p7 : List Int) (p8 : List Int) (β : Bool) (v0 : Int) : St := ⟨[(1, .d (.sl β (List.map (esbool β) p0))), (3, .loc (Root.l 3 0) [] (0) 0), (5, .loc (Root.l 5 0) [] (0) 0), (7, .bor (.l 7 0) [] 0 p1), (47, .bor (.l 7 0) [] 0 p1), (48, .d (.int IntKind.i64 p2)), (49, .d (.int IntKind.i64 v0))], [((3, 0), .own [.d (.agg [.sl β (List.map eI p3), .sl β (List.map (esapi_Edge β) p4), .sl β (List.map (eK IntKind.u64) p5)])]), ((5, 0), .own [.d (.agg [.sl β (List.map eI p6), .sl β (List.map eI p7)])]), ((7, 0), .own (tl eI p8))], []⟩
attribute [go_sem] S_fix_Is_1
def X_fix_Is_1 (p0 : List (List Bool)) (p1 : Nat) (p2 : Int) (p3 : List Int) (p4 : List (List Gapi_Edge)) (p5 : List Int) (p6 : List Int) (p7 : List Int) (p8 : List Int) {ρ : Type} : LX (A := Int → (Int → Option ρ) → (Ex × St → Option ρ) → Option ρ) fun β Φ => ∀ (R : St → Option ρ) (g : Int → Option ρ) (κ : Ex × St → Option ρ), (∀ (v0 : Int), R (S_fix_Is_1 p0 p1 p2 p3 p4 p5 p6 p7 p8 β v0) = g v0) → ∀ (v0 : Int), go P hints hint12 b12 q12_1.1 (S_fix_Is_1 p0 p1 p2 p3 p4 p5 p6 p7 p8 β v0) (kLp R κ) = Φ v0 g κ := mkL _ _
theorem V_fix_Is_1 (p0 : List (List Bool)) (p1 : Nat) (p2 : Int) (p3 : List Int) (p4 : List (List Gapi_Edge)) (p5 : List Int) (p6 : List Int) (p7 : List Int) (p8 : List Int) {ρ : Type} (β : Bool) (κ : Ex × St → Option ρ) (v0 : Int) : goLp P hints hint12 b12 1 (S_fix_Is_1 p0 p1 p2 p3 p4 p5 p6 p7 p8 β v0) κ = iterC (fun v k => (X_fix_Is_1 p0 p1 p2 p3 p4 p5 p6 p7 p8 (ρ := ρ)).f β v k κ) v0 := by
  refine goLp_iter (Φ := fun v k => (X_fix_Is_1 p0 p1 p2 p3 p4 p5 p6 p7 p8 (ρ := ρ)).f β v k κ) q12_1.2 (S := fun v => S_fix_Is_1 p0 p1 p2 p3 p4 p5 p6 p7 p8 β v) ?_ v0
  intro R g hR v
  have h := (X_fix_Is_1 p0 p1 p2 p3 p4 p5 p6 p7 p8 (ρ := ρ)).ok β R g κ
  exact h (fun v0 => hR v0) v
end
@[go_sem] theorem W_fix_Is_1f {ρ : Type} (p0 : List (List Bool)) (p1 : Nat) (p2 : Int) (p3 : List Int) (p4 : List (List Gapi_Edge)) (p5 : List Int) (p6 : List Int) (p7 : List Int) (p8 : List Int) (κ : Ex × St → Option ρ) (v0 : Int) : type_of% (by have h := V_fix_Is_1 p0 p1 p2 p3 p4 p5 p6 p7 p8 false κ v0; simp only [S_fix_Is_1, X_fix_Is_1, mkL, LX.f] at h; exact h) := by have h := V_fix_Is_1 p0 p1 p2 p3 p4 p5 p6 p7 p8 false κ v0; simp only [S_fix_Is_1, X_fix_Is_1, mkL, LX.f] at h; exact h
@[go_sem] theorem W_fix_Is_1t {ρ : Type} (p0 : List (List Bool)) (p1 : Nat) (p2 : Int) (p3 : List Int) (p4 : List (List Gapi_Edge)) (p5 : List Int) (p6 : List Int) (p7 : List Int) (p8 : List Int) (κ : Ex × St → Option ρ) (v0 : Int) : type_of% (by have h := V_fix_Is_1 p0 p1 p2 p3 p4 p5 p6 p7 p8 true κ v0; simp only [S_fix_Is_1, X_fix_Is_1, mkL, LX.f] at h; exact h) := by have h := V_fix_Is_1 p0 p1 p2 p3 p4 p5 p6 p7 p8 true κ v0; simp only [S_fix_Is_1, X_fix_Is_1, mkL, LX.f] at h; exact h
section
variable (p0 : List Bool) (p1 : List (List Bool)) (p2 : Int) (p3 : Int) (p4 : List Int) (p5 : Int) (p6 : List Int)
def S_fix_Is_2 (p0 : List Bool) (p1 : List (List Bool)) (p2 : Int) (p3 : Int) (p4 : List Int) (p5 : Int) (p6 : List Int) (β : Bool) (v0 : Bool) (v1 : Int) : St := ⟨[(5, .loc (Root.l 5 0) [] (0) 0), (15, .d (.sl β (List.map eB p0))), (16, .d (.bool v0)), (74, .d (.sl β (List.map (esbool β) p1))), (75, .d (.int IntKind.i64 p2)), (76, .d (.int IntKind.i64 p3)), (81, .d (.sl β (List.map eI p4))), (82, .d (.int IntKind.i64 p5)), (83, .d (.int IntKind.i64 v1))], [((5, 0), .own [.d (.agg [.sl β (List.map eI p6), .sl β (List.map eI p4)])])], []⟩
attribute [go_sem] S_fix_Is_2
def X_fix_Is_2 (p0 : List Bool) (p1 : List (List Bool)) (p2 : Int) (p3 : Int) (p4 : List Int) (p5 : Int) (p6 : List Int) {ρ : Type} : LX (A := Bool → Int → ((Bool) × (Int) → Option ρ) → (Ex × St → Option ρ) → Option ρ) fun β Φ => ∀ (R : St → Option ρ) (g : (Bool) × (Int) → Option ρ) (κ : Ex × St → Option ρ), (∀ (v0 : Bool) (v1 : Int), R (S_fix_Is_2 p0 p1 p2 p3 p4 p5 p6 β v0 v1) = g (v0, v1)) → ∀ (v0 : Bool) (v1 : Int), go P hints hint12 b12 q12_2.1 (S_fix_Is_2 p0 p1 p2 p3 p4 p5 p6 β v0 v1) (kLp R κ) = Φ v0 v1 g κ := mkL _ _
theorem V_fix_Is_2 (p0 : List Bool) (p1 : List (List Bool)) (p2 : Int) (p3 : Int) (p4 : List Int) (p5 : Int) (p6 : List Int) {ρ : Type} (β : Bool) (κ : Ex × St → Option ρ) (v0 : Bool) (v1 : Int) : goLp P hints hint12 b12 2 (S_fix_Is_2 p0 p1 p2 p3 p4 p5 p6 β v0 v1) κ = iterC (fun v k => (X_fix_Is_2 p0 p1 p2 p3 p4 p5 p6 (ρ := ρ)).f β v.1 v.2 k κ) (v0, v1) := by
  refine goLp_iter (Φ := fun v k => (X_fix_Is_2 p0 p1 p2 p3 p4 p5 p6 (ρ := ρ)).f β v.1 v.2 k κ) q12_2.2 (S := fun v => S_fix_Is_2 p0 p1 p2 p3 p4 p5 p6 β v.1 v.2) ?_ (v0, v1)
  intro R g hR v
  have h := (X_fix_Is_2 p0 p1 p2 p3 p4 p5 p6 (ρ := ρ)).ok β R g κ
  exact h (fun v0 v1 => hR (v0, v1)) v.1 v.2
end
@[go_sem] theorem W_fix_Is_2f {ρ : Type} (p0 : List Bool) (p1 : List (List Bool)) (p2 : Int) (p3 : Int) (p4 : List Int) (p5 : Int) (p6 : List Int) (κ : Ex × St → Option ρ) (v0 : Bool) (v1 : Int) : type_of% (by have h := V_fix_Is_2 p0 p1 p2 p3 p4 p5 p6 false κ v0 v1; simp only [S_fix_Is_2, X_fix_Is_2, mkL, LX.f] at h; exact h) := by have h := V_fix_Is_2 p0 p1 p2 p3 p4 p5 p6 false κ v0 v1; simp only [S_fix_Is_2, X_fix_Is_2, mkL, LX.f] at h; exact h
@[go_sem] theorem W_fix_Is_2t {ρ : Type} (p0 : List Bool) (p1 : List (List Bool)) (p2 : Int) (p3 : Int) (p4 : List Int) (p5 : Int) (p6 : List Int) (κ : Ex × St → Option ρ) (v0 : Bool) (v1 : Int) : type_of% (by have h := V_fix_Is_2 p0 p1 p2 p3 p4 p5 p6 true κ v0 v1; simp only [S_fix_Is_2, X_fix_Is_2, mkL, LX.f] at h; exact h) := by have h := V_fix_Is_2 p0 p1 p2 p3 p4 p5 p6 true κ v0 v1; simp only [S_fix_Is_2, X_fix_Is_2, mkL, LX.f] at h; exact h
section
variable (p0 : List (List Bool)) (p1 : Int) (p2 : List Int) (p3 : List Int)
def S_fix_Is_3 (p0 : List (List Bool)) (p1 : Int) (p2 : List Int) (p3 : List Int) (β : Bool) (v0 : Int) : St := ⟨[(5, .loc (Root.l 5 0) [] (0) 0), (74, .d (.sl β (List.map (esbool β) p0))), (75, .d (.int IntKind.i64 p1)), (76, .d (.int IntKind.i64 v0))], [((5, 0), .own [.d (.agg [.sl β (List.map eI p2), .sl β (List.map eI p3)])])], []⟩
attribute [go_sem] S_fix_Is_3
def X_fix_Is_3 (p0 : List (List Bool)) (p1 : Int) (p2 : List Int) (p3 : List Int) {ρ : Type} : LX (A := Int → (Int → Option ρ) → (Ex × St → Option ρ) → Option ρ) fun β Φ => ∀ (R : St → Option ρ) (g : Int → Option ρ) (κ : Ex × St → Option ρ), (∀ (v0 : Int), R (S_fix_Is_3 p0 p1 p2 p3 β v0) = g v0) → ∀ (v0 : Int), go P hints hint12 b12 q12_3.1 (S_fix_Is_3 p0 p1 p2 p3 β v0) (kLp R κ) = Φ v0 g κ := mkL _ _
theorem V_fix_Is_3 (p0 : List (List Bool)) (p1 : Int) (p2 : List Int) (p3 : List Int) {ρ : Type} (β : Bool) (κ : Ex × St → Option ρ) (v0 : Int) : goLp P hints hint12 b12 3 (S_fix_Is_3 p0 p1 p2 p3 β v0) κ = iterC (fun v k => (X_fix_Is_3 p0 p1 p2 p3 (ρ := ρ)).f β v k κ) v0 := by
  refine goLp_iter (Φ := fun v k => (X_fix_Is_3 p0 p1 p2 p3 (ρ := ρ)).f β v k κ) q12_3.2 (S := fun v => S_fix_Is_3 p0 p1 p2 p3 β v) ?_ v0
  intro R g hR v
  have h := (X_fix_Is_3 p0 p1 p2 p3 (ρ := ρ)).ok β R g κ
  exact h (fun v0 => hR v0) v
end
@[go_sem] theorem W_fix_Is_3f {ρ : Type} (p0 : List (List Bool)) (p1 : Int) (p2 : List Int) (p3 : List Int) (κ : Ex × St → Option ρ) (v0 : Int) : type_of% (by have h := V_fix_Is_3 p0 p1 p2 p3 false κ v0; simp only [S_fix_Is_3, X_fix_Is_3, mkL, LX.f] at h; exact h) := by have h := V_fix_Is_3 p0 p1 p2 p3 false κ v0; simp only [S_fix_Is_3, X_fix_Is_3, mkL, LX.f] at h; exact h
@[go_sem] theorem W_fix_Is_3t {ρ : Type} (p0 : List (List Bool)) (p1 : Int) (p2 : List Int) (p3 : List Int) (κ : Ex × St → Option ρ) (v0 : Int) : type_of% (by have h := V_fix_Is_3 p0 p1 p2 p3 true κ v0; simp only [S_fix_Is_3, X_fix_Is_3, mkL, LX.f] at h; exact h) := by have h := V_fix_Is_3 p0 p1 p2 p3 true κ v0; simp only [S_fix_Is_3, X_fix_Is_3, mkL, LX.f] at h; exact h
def K_fix_Is (a0 : Gapi_Graph) (a1 : List (List Bool)) (a2 : Gapi_Lasso) (β : Bool) (y0_0 : Bool) : List T × List Ob := ([.d (.bool y0_0)], [])
attribute [go_sem] K_fix_Is
def F_fix_Is (a0 : Gapi_Graph) (a1 : List (List Bool)) (a2 : Gapi_Lasso) {ρ : Type} : {Φ : (Bool → Option ρ) → Option ρ // ∀ (β : Bool) (κ : List T × List Ob → Option ρ) (g : Bool → Option ρ), (∀ (y0_0 : Bool), κ (K_fix_Is a0 a1 a2 β y0_0) = g y0_0) → cbK (call 12 [(eapi_Graph β) a0, (essbool β) a1, (eapi_Lasso β) a2] []) κ = Φ g} := mkF (p := fun (β : Bool) (κ : List T × List Ob → Option ρ) (g : Bool → Option ρ) => (∀ (y0_0 : Bool), κ (K_fix_Is a0 a1 a2 β y0_0) = g y0_0)) (ds := fun β => [(eapi_Graph β) a0, (essbool β) a1, (eapi_Lasso β) a2]) ge12 (fun _ => rfl) _
def f_fix_Is (a0 : Gapi_Graph) (a1 : List (List Bool)) (a2 : Gapi_Lasso) {ρ : Type} (g0 : Bool → Option ρ) : Option ρ := (F_fix_Is a0 a1 a2).1 g0
theorem U_fix_Is {ρ : Type} (β : Bool) (a0_0 : List Int) (a0_1 : List (List Gapi_Edge)) (a0_2 : List Int) (a1 : List (List Bool)) (a2_0 : List Int) (a2_1 : List Int) (κ : List T × List Ob → Option ρ) : cbK (call 12 [.agg [.sl β (List.map eI a0_0), .sl β (List.map (esapi_Edge β) a0_1), .sl β (List.map (eK .u64) a0_2)], .sl β (List.map (esbool β) a1), .agg [.sl β (List.map eI a2_0), .sl β (List.map eI a2_1)]] []) κ = f_fix_Is (Gapi_Graph.mk a0_0 a0_1 a0_2) a1 (Gapi_Lasso.mk a2_0 a2_1) (fun y0_0 => κ (K_fix_Is (Gapi_Graph.mk a0_0 a0_1 a0_2) a1 (Gapi_Lasso.mk a2_0 a2_1) β y0_0)) := (F_fix_Is (Gapi_Graph.mk a0_0 a0_1 a0_2) a1 (Gapi_Lasso.mk a2_0 a2_1)).2 β κ _ (fun _ => rfl)
@[go_sem] theorem W_fix_Is {ρ : Type} (β : Bool) (a0_0 : List Int) (a0_1 : List (List Gapi_Edge)) (a0_2 : List Int) (a1 : List (List Bool)) (a2_0 : List Int) (a2_1 : List Int) (κ : List T × List Ob → Option ρ) : type_of% (by have h := @U_fix_Is ρ β a0_0 a0_1 a0_2 a1 a2_0 a2_1 κ; simp only [K_fix_Is] at h; exact h) := by have h := @U_fix_Is ρ β a0_0 a0_1 a0_2 a1 a2_0 a2_1 κ; simp only [K_fix_Is] at h; exact h
def K_short_cut_int (a0 : List Int) (a1 : Int) (a2 : Int) (β : Bool) (y0_0 : List Int) : List T × List Ob := ([.own (tl eI y0_0)], [])
attribute [go_sem] K_short_cut_int
def F_short_cut_int (a0 : List Int) (a1 : Int) (a2 : Int) {ρ : Type} : {Φ : ((List Int) → Option ρ) → Option ρ // ∀ (β : Bool) (κ : List T × List Ob → Option ρ) (g : (List Int) → Option ρ), (∀ (y0_0 : List Int), κ (K_short_cut_int a0 a1 a2 β y0_0) = g y0_0) → cbK (call 14 [(esi64 β) a0, eI a1, eI a2] []) κ = Φ g} := mkF (p := fun (β : Bool) (κ : List T × List Ob → Option ρ) (g : (List Int) → Option ρ) => (∀ (y0_0 : List Int), κ (K_short_cut_int a0 a1 a2 β y0_0) = g y0_0)) (ds := fun β => [(esi64 β) a0, eI a1, eI a2]) ge14 (fun _ => rfl) _
def f_short_cut_int (a0 : List Int) (a1 : Int) (a2 : Int) {ρ : Type} (g0 : (List Int) → Option ρ) : Option ρ := (F_short_cut_int a0 a1 a2).1 g0
theorem U_short_cut_int {ρ : Type} (β : Bool) (a0 : List Int) (a1 : Int) (a2 : Int) (κ : List T × List Ob → Option ρ) : cbK (call 14 [.sl β (List.map eI a0), .int .i64 a1, .int .i64 a2] []) κ = f_short_cut_int a0 a1 a2 (fun y0_0 => κ (K_short_cut_int a0 a1 a2 β y0_0)) := (F_short_cut_int a0 a1 a2).2 β κ _ (fun _ => rfl)
@[go_sem] theorem W_short_cut_int {ρ : Type} (β : Bool) (a0 : List Int) (a1 : Int) (a2 : Int) (κ : List T × List Ob → Option ρ) : type_of% (by have h := @U_short_cut_int ρ β a0 a1 a2 κ; simp only [K_short_cut_int] at h; exact h) := by have h := @U_short_cut_int ρ β a0 a1 a2 κ; simp only [K_short_cut_int] at h; exact h
attribute [go_sem] ge13
def F_slices_Clone_sbyte_byte (a0 : List Int) {ρ : Type} : {Φ : (List Int → Option ρ) → Option ρ // ∀ (β : Bool) (κ : List T × List Ob → Option ρ) (g : List Int → Option ρ), a0 ≠ [] → (∀ y, κ ([.own (tl (eK .u8) y)], []) = g y) → cbK (call 45 [.sl β (List.map (eK .u8) a0)] []) κ = Φ g} := by
  refine ⟨?f, ?h⟩
  case h =>
    intro β κ g hm hg
    refine viaR fun r hr => ?_
    cases β
    all_goals
      simp -implicitDefEqProofs (maxSteps := 1000000) [go_sem, ge45, hm, hg, -List.map_append, -List.map_take, -List.map_drop]
      exact hr
def f_slices_Clone_sbyte_byte (a0 : List Int) {ρ : Type} (g : List Int → Option ρ) : Option ρ := (F_slices_Clone_sbyte_byte a0).1 g
theorem E_slices_Clone_sbyte_byte (β : Bool) : call 45 [.sl β []] [] = some ([.own []], []) := by cases β <;> exact callX_iff.2 ⟨60, by kernel_rfl⟩
@[go_sem] theorem W_slices_Clone_sbyte_byte {ρ : Type} (β : Bool) (a0 : List Int) (κ : List T × List Ob → Option ρ) : cbK (call 45 [.sl β (List.map (eK .u8) a0)] []) κ = f_slices_Clone_sbyte_byte a0 fun y => κ ([.own (tl (eK .u8) y)], []) := by
  cases a0 with
  | nil => show cbK (call 45 [.sl β []] []) κ = _; rw [E_slices_Clone_sbyte_byte]; simp [f_slices_Clone_sbyte_byte, F_slices_Clone_sbyte_byte, cbK, tl_nil]
  | cons x l => exact (F_slices_Clone_sbyte_byte _).2 β κ _ (by simp) fun _ => rfl
section
def S_octet_Num_0 (β : Bool) (n0 : Nat) (v0 : Int) (v1 : List Int) : St := ⟨[(5, .d (.int IntKind.u64 v0)), (6, .bor (.l 6 0) [] 0 n0)], [((6, 0), .own (tl (eK IntKind.u8) v1))], []⟩
attribute [go_sem] S_octet_Num_0
def X_octet_Num_0 {ρ : Type} : LX (A := Int → (List Int) → ((Int) × (List Int) → Option ρ) → (Ex × St → Option ρ) → Option ρ) fun β Φ => ∀ (R : St → Option ρ) (g : (Int) × (List Int) → Option ρ) (κ : Ex × St → Option ρ), (∀ (n0 : Nat) (v0 : Int) (v1 : List Int), n0 = List.length v1 → R (S_octet_Num_0 β n0 v0 v1) = g (v0, v1)) → ∀ (v0 : Int) (v1 : List Int), go P hints hint41 b41 q41_0.1 (S_octet_Num_0 β (List.length v1) v0 v1) (kLp R κ) = Φ v0 v1 g κ := mkL _ _
theorem V_octet_Num_0 {ρ : Type} (β : Bool) (κ : Ex × St → Option ρ) (n0 : Nat) (v0 : Int) (v1 : List Int) (hn0 : n0 = List.length v1) : goLp P hints hint41 b41 0 (S_octet_Num_0 β n0 v0 v1) κ = iterC (fun v k => (X_octet_Num_0 (ρ := ρ)).f β v.1 v.2 k κ) (v0, v1) := by
  subst hn0; refine goLp_iter (Φ := fun v k => (X_octet_Num_0 (ρ := ρ)).f β v.1 v.2 k κ) q41_0.2 (S := fun v => S_octet_Num_0 β (List.length v.2) v.1 v.2) ?_ (v0, v1)
  intro R g hR v
  have h := (X_octet_Num_0 (ρ := ρ)).ok β R g κ
  exact h (fun n0 v0 v1 hn0 => by subst hn0; exact hR (v0, v1)) v.1 v.2
end
@[go_sem] theorem W_octet_Num_0t {ρ : Type} (κ : Ex × St → Option ρ) (n0 : Nat) (v0 : Int) (v1 : List Int) (hn0 : n0 = List.length v1) : type_of% (by have h := V_octet_Num_0 true κ n0 v0 v1 hn0; simp only [S_octet_Num_0, X_octet_Num_0, mkL, LX.f] at h; exact h) := by have h := V_octet_Num_0 true κ n0 v0 v1 hn0; simp only [S_octet_Num_0, X_octet_Num_0, mkL, LX.f] at h; exact h
def K_octet_Num (a0 : List Int) (a1 : Int) (β : Bool) (y0_0 : List Int) : List T × List Ob := ([.d (.sl false (List.map (eK IntKind.u8) y0_0))], [])
attribute [go_sem] K_octet_Num
def F_octet_Num (a0 : List Int) (a1 : Int) {ρ : Type} : {Φ : ((List Int) → Option ρ) → Option ρ // ∀ (β : Bool) (κ : List T × List Ob → Option ρ) (g : (List Int) → Option ρ), (∀ (y0_0 : List Int), κ (K_octet_Num a0 a1 β y0_0) = g y0_0) → cbK (call 41 [(esu8 β) a0, eI a1] []) κ = Φ g} := mkF (p := fun (β : Bool) (κ : List T × List Ob → Option ρ) (g : (List Int) → Option ρ) => (∀ (y0_0 : List Int), κ (K_octet_Num a0 a1 β y0_0) = g y0_0)) (ds := fun β => [(esu8 β) a0, eI a1]) ge41 (fun _ => rfl) _
def f_octet_Num (a0 : List Int) (a1 : Int) {ρ : Type} (g0 : (List Int) → Option ρ) : Option ρ := (F_octet_Num a0 a1).1 g0
theorem U_octet_Num {ρ : Type} (β : Bool) (a0 : List Int) (a1 : Int) (κ : List T × List Ob → Option ρ) : cbK (call 41 [.sl β (List.map (eK .u8) a0), .int .i64 a1] []) κ = f_octet_Num a0 a1 (fun y0_0 => κ (K_octet_Num a0 a1 β y0_0)) := (F_octet_Num a0 a1).2 β κ _ (fun _ => rfl)
@[go_sem] theorem W_octet_Num {ρ : Type} (β : Bool) (a0 : List Int) (a1 : Int) (κ : List T × List Ob → Option ρ) : type_of% (by have h := @U_octet_Num ρ β a0 a1 κ; simp only [K_octet_Num] at h; exact h) := by have h := @U_octet_Num ρ β a0 a1 κ; simp only [K_octet_Num] at h; exact h
section
variable (p0 : List Int) (p1 : Int)
def S_octet_List_0 (p0 : List Int) (p1 : Int) (β : Bool) (v0 : List Int) (v1 : Int) : St := ⟨[(5, .d (.sl false (List.map (eK IntKind.u8) v0))), (12, .d (.sl β (List.map eI p0))), (13, .d (.int IntKind.i64 p1)), (14, .d (.int IntKind.i64 v1))], [], []⟩
attribute [go_sem] S_octet_List_0
def X_octet_List_0 (p0 : List Int) (p1 : Int) {ρ : Type} : LX (A := (List Int) → Int → ((List Int) × (Int) → Option ρ) → (Ex × St → Option ρ) → Option ρ) fun β Φ => ∀ (R : St → Option ρ) (g : (List Int) × (Int) → Option ρ) (κ : Ex × St → Option ρ), (∀ (v0 : List Int) (v1 : Int), R (S_octet_List_0 p0 p1 β v0 v1) = g (v0, v1)) → ∀ (v0 : List Int) (v1 : Int), go P hints hint35 b35 q35_0.1 (S_octet_List_0 p0 p1 β v0 v1) (kLp R κ) = Φ v0 v1 g κ := mkL _ _
theorem V_octet_List_0 (p0 : List Int) (p1 : Int) {ρ : Type} (β : Bool) (κ : Ex × St → Option ρ) (v0 : List Int) (v1 : Int) : goLp P hints hint35 b35 0 (S_octet_List_0 p0 p1 β v0 v1) κ = iterC (fun v k => (X_octet_List_0 p0 p1 (ρ := ρ)).f β v.1 v.2 k κ) (v0, v1) := by
  refine goLp_iter (Φ := fun v k => (X_octet_List_0 p0 p1 (ρ := ρ)).f β v.1 v.2 k κ) q35_0.2 (S := fun v => S_octet_List_0 p0 p1 β v.1 v.2) ?_ (v0, v1)
  intro R g hR v
  have h := (X_octet_List_0 p0 p1 (ρ := ρ)).ok β R g κ
  exact h (fun v0 v1 => hR (v0, v1)) v.1 v.2
end
@[go_sem] theorem W_octet_List_0f {ρ : Type} (p0 : List Int) (p1 : Int) (κ : Ex × St → Option ρ) (v0 : List Int) (v1 : Int) : type_of% (by have h := V_octet_List_0 p0 p1 false κ v0 v1; simp only [S_octet_List_0, X_octet_List_0, mkL, LX.f] at h; exact h) := by have h := V_octet_List_0 p0 p1 false κ v0 v1; simp only [S_octet_List_0, X_octet_List_0, mkL, LX.f] at h; exact h
@[go_sem] theorem W_octet_List_0t {ρ : Type} (p0 : List Int) (p1 : Int) (κ : Ex × St → Option ρ) (v0 : List Int) (v1 : Int) : type_of% (by have h := V_octet_List_0 p0 p1 true κ v0 v1; simp only [S_octet_List_0, X_octet_List_0, mkL, LX.f] at h; exact h) := by have h := V_octet_List_0 p0 p1 true κ v0 v1; simp only [S_octet_List_0, X_octet_List_0, mkL, LX.f] at h; exact h
def K_octet_List (a0 : List Int) (a1 : List Int) (β : Bool) (y0_0 : List Int) : List T × List Ob := ([.d (.sl false (List.map (eK IntKind.u8) y0_0))], [])
attribute [go_sem] K_octet_List
def F_octet_List (a0 : List Int) (a1 : List Int) {ρ : Type} : {Φ : ((List Int) → Option ρ) → Option ρ // ∀ (β : Bool) (κ : List T × List Ob → Option ρ) (g : (List Int) → Option ρ), (∀ (y0_0 : List Int), κ (K_octet_List a0 a1 β y0_0) = g y0_0) → cbK (call 35 [(esu8 β) a0, (esi64 β) a1] []) κ = Φ g} := mkF (p := fun (β : Bool) (κ : List T × List Ob → Option ρ) (g : (List Int) → Option ρ) => (∀ (y0_0 : List Int), κ (K_octet_List a0 a1 β y0_0) = g y0_0)) (ds := fun β => [(esu8 β) a0, (esi64 β) a1]) ge35 (fun _ => rfl) _
def f_octet_List (a0 : List Int) (a1 : List Int) {ρ : Type} (g0 : (List Int) → Option ρ) : Option ρ := (F_octet_List a0 a1).1 g0
theorem U_octet_List_a0n0 {ρ : Type} (β : Bool) (a1 : List Int) (κ : List T × List Ob → Option ρ) : cbK (call 35 [.sl β [], .sl β (List.map eI a1)] []) κ = f_octet_List ([] : List Int) a1 (fun y0_0 => κ (K_octet_List ([] : List Int) a1 β y0_0)) := (F_octet_List ([] : List Int) a1).2 β κ _ (fun _ => rfl)
@[go_sem] theorem W_octet_List_a0n0 {ρ : Type} (β : Bool) (a1 : List Int) (κ : List T × List Ob → Option ρ) : type_of% (by have h := @U_octet_List_a0n0 ρ β a1 κ; simp only [K_octet_List] at h; exact h) := by have h := @U_octet_List_a0n0 ρ β a1 κ; simp only [K_octet_List] at h; exact h
def K_short_key (a0 : List Int) (β : Bool) (y0_0 : List UInt8) : List T × List Ob := ([.d (.str y0_0)], [])
attribute [go_sem] K_short_key
def F_short_key (a0 : List Int) {ρ : Type} : {Φ : ((List UInt8) → Option ρ) → Option ρ // ∀ (β : Bool) (κ : List T × List Ob → Option ρ) (g : (List UInt8) → Option ρ), (∀ (y0_0 : List UInt8), κ (K_short_key a0 β y0_0) = g y0_0) → cbK (call 29 [(esi64 β) a0] []) κ = Φ g} := mkF (p := fun (β : Bool) (κ : List T × List Ob → Option ρ) (g : (List UInt8) → Option ρ) => (∀ (y0_0 : List UInt8), κ (K_short_key a0 β y0_0) = g y0_0)) (ds := fun β => [(esi64 β) a0]) ge29 (fun _ => rfl) _
def f_short_key (a0 : List Int) {ρ : Type} (g0 : (List UInt8) → Option ρ) : Option ρ := (F_short_key a0).1 g0
theorem U_short_key_a0n1 {ρ : Type} (β : Bool) (a0x0 : Int) (κ : List T × List Ob → Option ρ) : cbK (call 29 [.sl β [.int .i64 a0x0]] []) κ = f_short_key ([a0x0] : List Int) (fun y0_0 => κ (K_short_key ([a0x0] : List Int) β y0_0)) := (F_short_key ([a0x0] : List Int)).2 β κ _ (fun _ => rfl)
@[go_sem] theorem W_short_key_a0n1 {ρ : Type} (β : Bool) (a0x0 : Int) (κ : List T × List Ob → Option ρ) : type_of% (by have h := @U_short_key_a0n1 ρ β a0x0 κ; simp only [K_short_key] at h; exact h) := by have h := @U_short_key_a0n1 ρ β a0x0 κ; simp only [K_short_key] at h; exact h
section
variable (p0 : List Int) (p1 : Int)
def S_short_keys_0 (p0 : List Int) (p1 : Int) (β : Bool) (n0 : Nat) (v0 : Int) (v1 : List (List UInt8)) : St := ⟨[(3, .bor (.l 3 0) [] 0 n0), (6, .d (.sl β (List.map eI p0))), (7, .d (.int IntKind.i64 p1)), (8, .d (.int IntKind.i64 v0))], [((3, 0), .own (tl eS v1))], []⟩
attribute [go_sem] S_short_keys_0
def X_short_keys_0 (p0 : List Int) (p1 : Int) {ρ : Type} : LX (A := Int → (List (List UInt8)) → ((Int) × (List (List UInt8)) → Option ρ) → (Ex × St → Option ρ) → Option ρ) fun β Φ => ∀ (R : St → Option ρ) (g : (Int) × (List (List UInt8)) → Option ρ) (κ : Ex × St → Option ρ), (∀ (n0 : Nat) (v0 : Int) (v1 : List (List UInt8)), n0 = List.length v1 → R (S_short_keys_0 p0 p1 β n0 v0 v1) = g (v0, v1)) → ∀ (v0 : Int) (v1 : List (List UInt8)), go P hints hint16 b16 q16_0.1 (S_short_keys_0 p0 p1 β (List.length v1) v0 v1) (kLp R κ) = Φ v0 v1 g κ := mkL _ _
theorem V_short_keys_0 (p0 : List Int) (p1 : Int) {ρ : Type} (β : Bool) (κ : Ex × St → Option ρ) (n0 : Nat) (v0 : Int) (v1 : List (List UInt8)) (hn0 : n0 = List.length v1) : goLp P hints hint16 b16 0 (S_short_keys_0 p0 p1 β n0 v0 v1) κ = iterC (fun v k => (X_short_keys_0 p0 p1 (ρ := ρ)).f β v.1 v.2 k κ) (v0, v1) := by
  subst hn0; refine goLp_iter (Φ := fun v k => (X_short_keys_0 p0 p1 (ρ := ρ)).f β v.1 v.2 k κ) q16_0.2 (S := fun v => S_short_keys_0 p0 p1 β (List.length v.2) v.1 v.2) ?_ (v0, v1)
  intro R g hR v
  have h := (X_short_keys_0 p0 p1 (ρ := ρ)).ok β R g κ
  exact h (fun n0 v0 v1 hn0 => by subst hn0; exact hR (v0, v1)) v.1 v.2
end
@[go_sem] theorem W_short_keys_0_1f {ρ : Type} (p0 : List Int) (p1 : Int) (κ : Ex × St → Option ρ) (v0 : Int) : type_of% (by have h := V_short_keys_0 p0 p1 false κ 0 v0 [] rfl; simp only [S_short_keys_0, X_short_keys_0, mkL, LX.f, tl_nil, tlo_rep, ents_nil, entsB_nil] at h; exact h) := by have h := V_short_keys_0 p0 p1 false κ 0 v0 [] rfl; simp only [S_short_keys_0, X_short_keys_0, mkL, LX.f, tl_nil, tlo_rep, ents_nil, entsB_nil] at h; exact h
@[go_sem] theorem W_short_keys_0_1t {ρ : Type} (p0 : List Int) (p1 : Int) (κ : Ex × St → Option ρ) (v0 : Int) : type_of% (by have h := V_short_keys_0 p0 p1 true κ 0 v0 [] rfl; simp only [S_short_keys_0, X_short_keys_0, mkL, LX.f, tl_nil, tlo_rep, ents_nil, entsB_nil] at h; exact h) := by have h := V_short_keys_0 p0 p1 true κ 0 v0 [] rfl; simp only [S_short_keys_0, X_short_keys_0, mkL, LX.f, tl_nil, tlo_rep, ents_nil, entsB_nil] at h; exact h
def K_short_keys (a0 : List Int) (β : Bool) (y0_0 : List (List UInt8)) : List T × List Ob := ([.d (.sl false (List.map eS y0_0))], [])
attribute [go_sem] K_short_keys
def F_short_keys (a0 : List Int) {ρ : Type} : {Φ : ((List (List UInt8)) → Option ρ) → Option ρ // ∀ (β : Bool) (κ : List T × List Ob → Option ρ) (g : (List (List UInt8)) → Option ρ), (∀ (y0_0 : List (List UInt8)), κ (K_short_keys a0 β y0_0) = g y0_0) → cbK (call 16 [(esi64 β) a0] []) κ = Φ g} := mkF (p := fun (β : Bool) (κ : List T × List Ob → Option ρ) (g : (List (List UInt8)) → Option ρ) => (∀ (y0_0 : List (List UInt8)), κ (K_short_keys a0 β y0_0) = g y0_0)) (ds := fun β => [(esi64 β) a0]) ge16 (fun _ => rfl) _
def f_short_keys (a0 : List Int) {ρ : Type} (g0 : (List (List UInt8)) → Option ρ) : Option ρ := (F_short_keys a0).1 g0
theorem U_short_keys {ρ : Type} (β : Bool) (a0 : List Int) (κ : List T × List Ob → Option ρ) : cbK (call 16 [.sl β (List.map eI a0)] []) κ = f_short_keys a0 (fun y0_0 => κ (K_short_keys a0 β y0_0)) := (F_short_keys a0).2 β κ _ (fun _ => rfl)
@[go_sem] theorem W_short_keys {ρ : Type} (β : Bool) (a0 : List Int) (κ : List T × List Ob → Option ρ) : type_of% (by have h := @U_short_keys ρ β a0 κ; simp only [K_short_keys] at h; exact h) := by have h := @U_short_keys ρ β a0 κ; simp only [K_short_keys] at h; exact h
attribute [go_sem] ge15
section
variable (p0 : List Bool) (p1 : Int)
def S_graph_goals_0 (p0 : List Bool) (p1 : Int) (β : Bool) (n0 : Nat) (v0 : Int) (v1 : List (Int)) : St := ⟨[(1, .d (.sl β (List.map eB p0))), (5, .bor (.l 5 0) [] 0 n0), (12, .d (.int IntKind.i64 p1)), (13, .d (.int IntKind.i64 v0))], [((5, 0), .own (tl eI v1))], []⟩
attribute [go_sem] S_graph_goals_0
def X_graph_goals_0 (p0 : List Bool) (p1 : Int) {ρ : Type} : LX (A := Int → (List (Int)) → ((Int) × (List (Int)) → Option ρ) → (Ex × St → Option ρ) → Option ρ) fun β Φ => ∀ (R : St → Option ρ) (g : (Int) × (List (Int)) → Option ρ) (κ : Ex × St → Option ρ), (∀ (n0 : Nat) (v0 : Int) (v1 : List (Int)), n0 = List.length v1 → R (S_graph_goals_0 p0 p1 β n0 v0 v1) = g (v0, v1)) → ∀ (v0 : Int) (v1 : List (Int)), go P hints hint31 b31 q31_0.1 (S_graph_goals_0 p0 p1 β (List.length v1) v0 v1) (kLp R κ) = Φ v0 v1 g κ := mkL _ _
theorem V_graph_goals_0 (p0 : List Bool) (p1 : Int) {ρ : Type} (β : Bool) (κ : Ex × St → Option ρ) (n0 : Nat) (v0 : Int) (v1 : List (Int)) (hn0 : n0 = List.length v1) : goLp P hints hint31 b31 0 (S_graph_goals_0 p0 p1 β n0 v0 v1) κ = iterC (fun v k => (X_graph_goals_0 p0 p1 (ρ := ρ)).f β v.1 v.2 k κ) (v0, v1) := by
  subst hn0; refine goLp_iter (Φ := fun v k => (X_graph_goals_0 p0 p1 (ρ := ρ)).f β v.1 v.2 k κ) q31_0.2 (S := fun v => S_graph_goals_0 p0 p1 β (List.length v.2) v.1 v.2) ?_ (v0, v1)
  intro R g hR v
  have h := (X_graph_goals_0 p0 p1 (ρ := ρ)).ok β R g κ
  exact h (fun n0 v0 v1 hn0 => by subst hn0; exact hR (v0, v1)) v.1 v.2
end
@[go_sem] theorem W_graph_goals_0_1f {ρ : Type} (p0 : List Bool) (p1 : Int) (κ : Ex × St → Option ρ) (v0 : Int) : type_of% (by have h := V_graph_goals_0 p0 p1 false κ 0 v0 [] rfl; simp only [S_graph_goals_0, X_graph_goals_0, mkL, LX.f, tl_nil, tlo_rep, ents_nil, entsB_nil] at h; exact h) := by have h := V_graph_goals_0 p0 p1 false κ 0 v0 [] rfl; simp only [S_graph_goals_0, X_graph_goals_0, mkL, LX.f, tl_nil, tlo_rep, ents_nil, entsB_nil] at h; exact h
@[go_sem] theorem W_graph_goals_0_1t {ρ : Type} (p0 : List Bool) (p1 : Int) (κ : Ex × St → Option ρ) (v0 : Int) : type_of% (by have h := V_graph_goals_0 p0 p1 true κ 0 v0 [] rfl; simp only [S_graph_goals_0, X_graph_goals_0, mkL, LX.f, tl_nil, tlo_rep, ents_nil, entsB_nil] at h; exact h) := by have h := V_graph_goals_0 p0 p1 true κ 0 v0 [] rfl; simp only [S_graph_goals_0, X_graph_goals_0, mkL, LX.f, tl_nil, tlo_rep, ents_nil, entsB_nil] at h; exact h
def K_graph_goals (a0 : Gapi_Graph) (a1 : List Bool) (β : Bool) (y0_0 : List Int) : List T × List Ob := ([.d (.sl false (List.map eI y0_0))], [])
attribute [go_sem] K_graph_goals
def F_graph_goals (a0 : Gapi_Graph) (a1 : List Bool) {ρ : Type} : {Φ : ((List Int) → Option ρ) → Option ρ // ∀ (β : Bool) (κ : List T × List Ob → Option ρ) (g : (List Int) → Option ρ), (∀ (y0_0 : List Int), κ (K_graph_goals a0 a1 β y0_0) = g y0_0) → cbK (call 31 [(eapi_Graph β) a0, (esbool β) a1] []) κ = Φ g} := mkF (p := fun (β : Bool) (κ : List T × List Ob → Option ρ) (g : (List Int) → Option ρ) => (∀ (y0_0 : List Int), κ (K_graph_goals a0 a1 β y0_0) = g y0_0)) (ds := fun β => [(eapi_Graph β) a0, (esbool β) a1]) ge31 (fun _ => rfl) _
def f_graph_goals (a0 : Gapi_Graph) (a1 : List Bool) {ρ : Type} (g0 : (List Int) → Option ρ) : Option ρ := (F_graph_goals a0 a1).1 g0
theorem U_graph_goals {ρ : Type} (β : Bool) (a0_0 : List Int) (a0_1 : List (List Gapi_Edge)) (a0_2 : List Int) (a1 : List Bool) (κ : List T × List Ob → Option ρ) : cbK (call 31 [.agg [.sl β (List.map eI a0_0), .sl β (List.map (esapi_Edge β) a0_1), .sl β (List.map (eK .u64) a0_2)], .sl β (List.map eB a1)] []) κ = f_graph_goals (Gapi_Graph.mk a0_0 a0_1 a0_2) a1 (fun y0_0 => κ (K_graph_goals (Gapi_Graph.mk a0_0 a0_1 a0_2) a1 β y0_0)) := (F_graph_goals (Gapi_Graph.mk a0_0 a0_1 a0_2) a1).2 β κ _ (fun _ => rfl)
@[go_sem] theorem W_graph_goals {ρ : Type} (β : Bool) (a0_0 : List Int) (a0_1 : List (List Gapi_Edge)) (a0_2 : List Int) (a1 : List Bool) (κ : List T × List Ob → Option ρ) : type_of% (by have h := @U_graph_goals ρ β a0_0 a0_1 a0_2 a1 κ; simp only [K_graph_goals] at h; exact h) := by have h := @U_graph_goals ρ β a0_0 a0_1 a0_2 a1 κ; simp only [K_graph_goals] at h; exact h
def F_slices_Clone_suint64_uint64 (a0 : List Int) {ρ : Type} : {Φ : (List Int → Option ρ) → Option ρ // ∀ (β : Bool) (κ : List T × List Ob → Option ρ) (g : List Int → Option ρ), a0 ≠ [] → (∀ y, κ ([.own (tl (eK .u64) y)], []) = g y) → cbK (call 42 [.sl β (List.map (eK .u64) a0)] []) κ = Φ g} := by
  refine ⟨?f, ?h⟩
  case h =>
    intro β κ g hm hg
    refine viaR fun r hr => ?_
    cases β
    all_goals
      simp -implicitDefEqProofs (maxSteps := 1000000) [go_sem, ge42, hm, hg, -List.map_append, -List.map_take, -List.map_drop]
      exact hr
def f_slices_Clone_suint64_uint64 (a0 : List Int) {ρ : Type} (g : List Int → Option ρ) : Option ρ := (F_slices_Clone_suint64_uint64 a0).1 g
theorem E_slices_Clone_suint64_uint64 (β : Bool) : call 42 [.sl β []] [] = some ([.own []], []) := by cases β <;> exact callX_iff.2 ⟨60, by kernel_rfl⟩
@[go_sem] theorem W_slices_Clone_suint64_uint64 {ρ : Type} (β : Bool) (a0 : List Int) (κ : List T × List Ob → Option ρ) : cbK (call 42 [.sl β (List.map (eK .u64) a0)] []) κ = f_slices_Clone_suint64_uint64 a0 fun y => κ ([.own (tl (eK .u64) y)], []) := by
  cases a0 with
  | nil => show cbK (call 42 [.sl β []] []) κ = _; rw [E_slices_Clone_suint64_uint64]; simp [f_slices_Clone_suint64_uint64, F_slices_Clone_suint64_uint64, cbK, tl_nil]
  | cons x l => exact (F_slices_Clone_suint64_uint64 _).2 β κ _ (by simp) fun _ => rfl
def K_graph_node (a0 : Gapi_Graph) (a1 : Int) (β : Bool) (y0_0 : Bool) : List T × List Ob := ([.d (.bool y0_0)], [])
attribute [go_sem] K_graph_node
def F_graph_node (a0 : Gapi_Graph) (a1 : Int) {ρ : Type} : {Φ : (Bool → Option ρ) → Option ρ // ∀ (β : Bool) (κ : List T × List Ob → Option ρ) (g : Bool → Option ρ), (∀ (y0_0 : Bool), κ (K_graph_node a0 a1 β y0_0) = g y0_0) → cbK (call 32 [(eapi_Graph β) a0, eI a1] []) κ = Φ g} := mkF (p := fun (β : Bool) (κ : List T × List Ob → Option ρ) (g : Bool → Option ρ) => (∀ (y0_0 : Bool), κ (K_graph_node a0 a1 β y0_0) = g y0_0)) (ds := fun β => [(eapi_Graph β) a0, eI a1]) ge32 (fun _ => rfl) _
def f_graph_node (a0 : Gapi_Graph) (a1 : Int) {ρ : Type} (g0 : Bool → Option ρ) : Option ρ := (F_graph_node a0 a1).1 g0
theorem U_graph_node {ρ : Type} (β : Bool) (a0_0 : List Int) (a0_1 : List (List Gapi_Edge)) (a0_2 : List Int) (a1 : Int) (κ : List T × List Ob → Option ρ) : cbK (call 32 [.agg [.sl β (List.map eI a0_0), .sl β (List.map (esapi_Edge β) a0_1), .sl β (List.map (eK .u64) a0_2)], .int .i64 a1] []) κ = f_graph_node (Gapi_Graph.mk a0_0 a0_1 a0_2) a1 (fun y0_0 => κ (K_graph_node (Gapi_Graph.mk a0_0 a0_1 a0_2) a1 β y0_0)) := (F_graph_node (Gapi_Graph.mk a0_0 a0_1 a0_2) a1).2 β κ _ (fun _ => rfl)
@[go_sem] theorem W_graph_node {ρ : Type} (β : Bool) (a0_0 : List Int) (a0_1 : List (List Gapi_Edge)) (a0_2 : List Int) (a1 : Int) (κ : List T × List Ob → Option ρ) : type_of% (by have h := @U_graph_node ρ β a0_0 a0_1 a0_2 a1 κ; simp only [K_graph_node] at h; exact h) := by have h := @U_graph_node ρ β a0_0 a0_1 a0_2 a1 κ; simp only [K_graph_node] at h; exact h
section
variable (p0 : Int) (p1 : List (List Gapi_Edge)) (p2 : Int) (p3 : List Gapi_Edge) (p4 : Int) (p5 : List Int) (p6 : List Int) (p7 : List Int) (p8 : List Int)
def S_graph_Turn_0 (p0 : Int) (p1 : List (List Gapi_Edge)) (p2 : Int) (p3 : List Gapi_Edge) (p4 : Int) (p5 : List Int) (p6 : List Int) (p7 : List Int) (p8 : List Int) (β : Bool) (v0 : Int) (v1 : List (List Gapi_Edge)) : St := ⟨[(1, .loc (Root.l 1 0) [] (0) 0), (2, .loc (Root.l 2 0) [] (0) 0), (3, .loc (Root.l 3 0) [] (0) 0), (4, .d (.int IntKind.i64 p0)), (20, .d (.sl β (List.map (esapi_Edge β) p1))), (21, .d (.int IntKind.i64 p2)), (22, .d (.int IntKind.i64 p0)), (27, .d (.sl β (List.map eapi_Edge p3))), (28, .d (.int IntKind.i64 p4)), (29, .d (.int IntKind.i64 v0))], [((1, 0), .own [.d (.agg [.sl β (List.map eI p5), .sl β (List.map (esapi_Edge β) p1), .sl β (List.map (eK IntKind.u64) p6)])]), ((2, 0), .own [.agg [.own [], .own [], .own []]]), ((3, 0), .own [.agg [.own (tl eI p7), .own (tlo eapi_Edge v1), .own (tl (eK IntKind.u64) p8)]])], []⟩
attribute [go_sem] S_graph_Turn_0
def X_graph_Turn_0 (p0 : Int) (p1 : List (List Gapi_Edge)) (p2 : Int) (p3 : List Gapi_Edge) (p4 : Int) (p5 : List Int) (p6 : List Int) (p7 : List Int) (p8 : List Int) {ρ : Type} : LX (A := Int → (List (List Gapi_Edge)) → ((Int) × (List (List Gapi_Edge)) → Option ρ) → (Ex × St → Option ρ) → Option ρ) fun β Φ => ∀ (R : St → Option ρ) (g : (Int) × (List (List Gapi_Edge)) → Option ρ) (κ : Ex × St → Option ρ), (∀ (v0 : Int) (v1 : List (List Gapi_Edge)), R (S_graph_Turn_0 p0 p1 p2 p3 p4 p5 p6 p7 p8 β v0 v1) = g (v0, v1)) → ∀ (v0 : Int) (v1 : List (List Gapi_Edge)), go P hints hint36 b36 q36_0.1 (S_graph_Turn_0 p0 p1 p2 p3 p4 p5 p6 p7 p8 β v0 v1) (kLp R κ) = Φ v0 v1 g κ := mkL _ _
theorem V_graph_Turn_0 (p0 : Int) (p1 : List (List Gapi_Edge)) (p2 : Int) (p3 : List Gapi_Edge) (p4 : Int) (p5 : List Int) (p6 : List Int) (p7 : List Int) (p8 : List Int) {ρ : Type} (β : Bool) (κ : Ex × St → Option ρ) (v0 : Int) (v1 : List (List Gapi_Edge)) : goLp P hints hint36 b36 0 (S_graph_Turn_0 p0 p1 p2 p3 p4 p5 p6 p7 p8 β v0 v1) κ = iterC (fun v k => (X_graph_Turn_0 p0 p1 p2 p3 p4 p5 p6 p7 p8 (ρ := ρ)).f β v.1 v.2 k κ) (v0, v1) := by
  refine goLp_iter (Φ := fun v k => (X_graph_Turn_0 p0 p1 p2 p3 p4 p5 p6 p7 p8 (ρ := ρ)).f β v.1 v.2 k κ) q36_0.2 (S := fun v => S_graph_Turn_0 p0 p1 p2 p3 p4 p5 p6 p7 p8 β v.1 v.2) ?_ (v0, v1)
  intro R g hR v
  have h := (X_graph_Turn_0 p0 p1 p2 p3 p4 p5 p6 p7 p8 (ρ := ρ)).ok β R g κ
  exact h (fun v0 v1 => hR (v0, v1)) v.1 v.2
end
@[go_sem] theorem W_graph_Turn_0f {ρ : Type} (p0 : Int) (p1 : List (List Gapi_Edge)) (p2 : Int) (p3 : List Gapi_Edge) (p4 : Int) (p5 : List Int) (p6 : List Int) (p7 : List Int) (p8 : List Int) (κ : Ex × St → Option ρ) (v0 : Int) (v1 : List (List Gapi_Edge)) : type_of% (by have h := V_graph_Turn_0 p0 p1 p2 p3 p4 p5 p6 p7 p8 false κ v0 v1; simp only [S_graph_Turn_0, X_graph_Turn_0, mkL, LX.f] at h; exact h) := by have h := V_graph_Turn_0 p0 p1 p2 p3 p4 p5 p6 p7 p8 false κ v0 v1; simp only [S_graph_Turn_0, X_graph_Turn_0, mkL, LX.f] at h; exact h
@[go_sem] theorem W_graph_Turn_0t {ρ : Type} (p0 : Int) (p1 : List (List Gapi_Edge)) (p2 : Int) (p3 : List Gapi_Edge) (p4 : Int) (p5 : List Int) (p6 : List Int) (p7 : List Int) (p8 : List Int) (κ : Ex × St → Option ρ) (v0 : Int) (v1 : List (List Gapi_Edge)) : type_of% (by have h := V_graph_Turn_0 p0 p1 p2 p3 p4 p5 p6 p7 p8 true κ v0 v1; simp only [S_graph_Turn_0, X_graph_Turn_0, mkL, LX.f] at h; exact h) := by have h := V_graph_Turn_0 p0 p1 p2 p3 p4 p5 p6 p7 p8 true κ v0 v1; simp only [S_graph_Turn_0, X_graph_Turn_0, mkL, LX.f] at h; exact h
section
variable (p0 : List (List Gapi_Edge)) (p1 : Int) (p2 : List Int) (p3 : List Int) (p4 : List Int) (p5 : List Int)
def S_graph_Turn_1 (p0 : List (List Gapi_Edge)) (p1 : Int) (p2 : List Int) (p3 : List Int) (p4 : List Int) (p5 : List Int) (β : Bool) (v0 : Int) (v1 : List (List Gapi_Edge)) : St := ⟨[(1, .loc (Root.l 1 0) [] (0) 0), (2, .loc (Root.l 2 0) [] (0) 0), (3, .loc (Root.l 3 0) [] (0) 0), (20, .d (.sl β (List.map (esapi_Edge β) p0))), (21, .d (.int IntKind.i64 p1)), (22, .d (.int IntKind.i64 v0))], [((1, 0), .own [.d (.agg [.sl β (List.map eI p2), .sl β (List.map (esapi_Edge β) p0), .sl β (List.map (eK IntKind.u64) p3)])]), ((2, 0), .own [.agg [.own [], .own [], .own []]]), ((3, 0), .own [.agg [.own (tl eI p4), .own (tlo eapi_Edge v1), .own (tl (eK IntKind.u64) p5)]])], []⟩
attribute [go_sem] S_graph_Turn_1
def X_graph_Turn_1 (p0 : List (List Gapi_Edge)) (p1 : Int) (p2 : List Int) (p3 : List Int) (p4 : List Int) (p5 : List Int) {ρ : Type} : LX (A := Int → (List (List Gapi_Edge)) → ((Int) × (List (List Gapi_Edge)) → Option ρ) → (Ex × St → Option ρ) → Option ρ) fun β Φ => ∀ (R : St → Option ρ) (g : (Int) × (List (List Gapi_Edge)) → Option ρ) (κ : Ex × St → Option ρ), (∀ (v0 : Int) (v1 : List (List Gapi_Edge)), R (S_graph_Turn_1 p0 p1 p2 p3 p4 p5 β v0 v1) = g (v0, v1)) → ∀ (v0 : Int) (v1 : List (List Gapi_Edge)), go P hints hint36 b36 q36_1.1 (S_graph_Turn_1 p0 p1 p2 p3 p4 p5 β v0 v1) (kLp R κ) = Φ v0 v1 g κ := mkL _ _
theorem V_graph_Turn_1 (p0 : List (List Gapi_Edge)) (p1 : Int) (p2 : List Int) (p3 : List Int) (p4 : List Int) (p5 : List Int) {ρ : Type} (β : Bool) (κ : Ex × St → Option ρ) (v0 : Int) (v1 : List (List Gapi_Edge)) : goLp P hints hint36 b36 1 (S_graph_Turn_1 p0 p1 p2 p3 p4 p5 β v0 v1) κ = iterC (fun v k => (X_graph_Turn_1 p0 p1 p2 p3 p4 p5 (ρ := ρ)).f β v.1 v.2 k κ) (v0, v1) := by
  refine goLp_iter (Φ := fun v k => (X_graph_Turn_1 p0 p1 p2 p3 p4 p5 (ρ := ρ)).f β v.1 v.2 k κ) q36_1.2 (S := fun v => S_graph_Turn_1 p0 p1 p2 p3 p4 p5 β v.1 v.2) ?_ (v0, v1)
  intro R g hR v
  have h := (X_graph_Turn_1 p0 p1 p2 p3 p4 p5 (ρ := ρ)).ok β R g κ
  exact h (fun v0 v1 => hR (v0, v1)) v.1 v.2
end
@[go_sem] theorem W_graph_Turn_1_1f {ρ : Type} (m_v1 : Nat) (p0 : List (List Gapi_Edge)) (p1 : Int) (p2 : List Int) (p3 : List Int) (p4 : List Int) (p5 : List Int) (κ : Ex × St → Option ρ) (v0 : Int) : type_of% (by have h := V_graph_Turn_1 p0 p1 p2 p3 p4 p5 false κ v0 (List.replicate m_v1 []); simp only [S_graph_Turn_1, X_graph_Turn_1, mkL, LX.f, tl_nil, tlo_rep, ents_nil, entsB_nil] at h; exact h) := by have h := V_graph_Turn_1 p0 p1 p2 p3 p4 p5 false κ v0 (List.replicate m_v1 []); simp only [S_graph_Turn_1, X_graph_Turn_1, mkL, LX.f, tl_nil, tlo_rep, ents_nil, entsB_nil] at h; exact h
@[go_sem] theorem W_graph_Turn_1_1t {ρ : Type} (m_v1 : Nat) (p0 : List (List Gapi_Edge)) (p1 : Int) (p2 : List Int) (p3 : List Int) (p4 : List Int) (p5 : List Int) (κ : Ex × St → Option ρ) (v0 : Int) : type_of% (by have h := V_graph_Turn_1 p0 p1 p2 p3 p4 p5 true κ v0 (List.replicate m_v1 []); simp only [S_graph_Turn_1, X_graph_Turn_1, mkL, LX.f, tl_nil, tlo_rep, ents_nil, entsB_nil] at h; exact h) := by have h := V_graph_Turn_1 p0 p1 p2 p3 p4 p5 true κ v0 (List.replicate m_v1 []); simp only [S_graph_Turn_1, X_graph_Turn_1, mkL, LX.f, tl_nil, tlo_rep, ents_nil, entsB_nil] at h; exact h
def K_graph_Turn (a0 : Gapi_Graph) (β : Bool) (y0_0 : List Int) (y0_1 : List (List Gapi_Edge)) (y0_2 : List Int) : List T × List Ob := ([.d (.agg [.sl false (List.map eI y0_0), .sl false (List.map (esapi_Edge false) y0_1), .sl false (List.map (eK IntKind.u64) y0_2)])], [])
attribute [go_sem] K_graph_Turn
def F_graph_Turn (a0 : Gapi_Graph) {ρ : Type} : {Φ : ((List Int) → (List (List Gapi_Edge)) → (List Int) → Option ρ) → Option ρ // ∀ (β : Bool) (κ : List T × List Ob → Option ρ) (g : (List Int) → (List (List Gapi_Edge)) → (List Int) → Option ρ), (∀ (y0_0 : List Int) (y0_1 : List (List Gapi_Edge)) (y0_2 : List Int), κ (K_graph_Turn a0 β y0_0 y0_1 y0_2) = g y0_0 y0_1 y0_2) → cbK (call 36 [(eapi_Graph β) a0] []) κ = Φ g} := mkF (p := fun (β : Bool) (κ : List T × List Ob → Option ρ) (g : (List Int) → (List (List Gapi_Edge)) → (List Int) → Option ρ) => (∀ (y0_0 : List Int) (y0_1 : List (List Gapi_Edge)) (y0_2 : List Int), κ (K_graph_Turn a0 β y0_0 y0_1 y0_2) = g y0_0 y0_1 y0_2)) (ds := fun β => [(eapi_Graph β) a0]) ge36 (fun _ => rfl) _
def f_graph_Turn (a0 : Gapi_Graph) {ρ : Type} (g0 : (List Int) → (List (List Gapi_Edge)) → (List Int) → Option ρ) : Option ρ := (F_graph_Turn a0).1 g0
theorem U_graph_Turn {ρ : Type} (β : Bool) (a0_0 : List Int) (a0_1 : List (List Gapi_Edge)) (a0_2 : List Int) (κ : List T × List Ob → Option ρ) : cbK (call 36 [.agg [.sl β (List.map eI a0_0), .sl β (List.map (esapi_Edge β) a0_1), .sl β (List.map (eK .u64) a0_2)]] []) κ = f_graph_Turn (Gapi_Graph.mk a0_0 a0_1 a0_2) (fun y0_0 y0_1 y0_2 => κ (K_graph_Turn (Gapi_Graph.mk a0_0 a0_1 a0_2) β y0_0 y0_1 y0_2)) := (F_graph_Turn (Gapi_Graph.mk a0_0 a0_1 a0_2)).2 β κ _ (fun _ _ _ => rfl)
@[go_sem] theorem W_graph_Turn {ρ : Type} (β : Bool) (a0_0 : List Int) (a0_1 : List (List Gapi_Edge)) (a0_2 : List Int) (κ : List T × List Ob → Option ρ) : type_of% (by have h := @U_graph_Turn ρ β a0_0 a0_1 a0_2 κ; simp only [K_graph_Turn] at h; exact h) := by have h := @U_graph_Turn ρ β a0_0 a0_1 a0_2 κ; simp only [K_graph_Turn] at h; exact h
attribute [go_sem] ge37
attribute [go_sem] ge43
attribute [go_sem] ge44
attribute [go_sem] ge38
section
variable (p0 : List Int) (p1 : Int) (p2 : List Int) (p3 : List (List Gapi_Edge)) (p4 : List Int)
def S_graph_distances_0 (p0 : List Int) (p1 : Int) (p2 : List Int) (p3 : List (List Gapi_Edge)) (p4 : List Int) (β : Bool) (n0 : Nat) (v0 : Int) (v1 : List Int) : St := ⟨[(1, .d (.sl β (List.map eI p0))), (2, .loc (Root.l 2 0) [] (0) 0), (5, .bor (.l 5 0) [] 0 n0), (23, .d (.int IntKind.i64 p1)), (24, .d (.int IntKind.i64 v0))], [((2, 0), .own [.d (.agg [.sl β (List.map eI p2), .sl β (List.map (esapi_Edge β) p3), .sl β (List.map (eK IntKind.u64) p4)])]), ((5, 0), .own (tl eI v1))], []⟩
attribute [go_sem] S_graph_distances_0
def X_graph_distances_0 (p0 : List Int) (p1 : Int) (p2 : List Int) (p3 : List (List Gapi_Edge)) (p4 : List Int) {ρ : Type} : LX (A := Int → (List Int) → ((Int) × (List Int) → Option ρ) → (Ex × St → Option ρ) → Option ρ) fun β Φ => ∀ (R : St → Option ρ) (g : (Int) × (List Int) → Option ρ) (κ : Ex × St → Option ρ), (∀ (n0 : Nat) (v0 : Int) (v1 : List Int), n0 = List.length v1 → R (S_graph_distances_0 p0 p1 p2 p3 p4 β n0 v0 v1) = g (v0, v1)) → ∀ (v0 : Int) (v1 : List Int), go P hints hint30 b30 q30_0.1 (S_graph_distances_0 p0 p1 p2 p3 p4 β (List.length v1) v0 v1) (kLp R κ) = Φ v0 v1 g κ := mkL _ _
theorem V_graph_distances_0 (p0 : List Int) (p1 : Int) (p2 : List Int) (p3 : List (List Gapi_Edge)) (p4 : List Int) {ρ : Type} (β : Bool) (κ : Ex × St → Option ρ) (n0 : Nat) (v0 : Int) (v1 : List Int) (hn0 : n0 = List.length v1) : goLp P hints hint30 b30 0 (S_graph_distances_0 p0 p1 p2 p3 p4 β n0 v0 v1) κ = iterC (fun v k => (X_graph_distances_0 p0 p1 p2 p3 p4 (ρ := ρ)).f β v.1 v.2 k κ) (v0, v1) := by
  subst hn0; refine goLp_iter (Φ := fun v k => (X_graph_distances_0 p0 p1 p2 p3 p4 (ρ := ρ)).f β v.1 v.2 k κ) q30_0.2 (S := fun v => S_graph_distances_0 p0 p1 p2 p3 p4 β (List.length v.2) v.1 v.2) ?_ (v0, v1)
  intro R g hR v
  have h := (X_graph_distances_0 p0 p1 p2 p3 p4 (ρ := ρ)).ok β R g κ
  exact h (fun n0 v0 v1 hn0 => by subst hn0; exact hR (v0, v1)) v.1 v.2
end
@[go_sem] theorem W_graph_distances_0f {ρ : Type} (p0 : List Int) (p1 : Int) (p2 : List Int) (p3 : List (List Gapi_Edge)) (p4 : List Int) (κ : Ex × St → Option ρ) (n0 : Nat) (v0 : Int) (v1 : List Int) (hn0 : n0 = List.length v1) : type_of% (by have h := V_graph_distances_0 p0 p1 p2 p3 p4 false κ n0 v0 v1 hn0; simp only [S_graph_distances_0, X_graph_distances_0, mkL, LX.f] at h; exact h) := by have h := V_graph_distances_0 p0 p1 p2 p3 p4 false κ n0 v0 v1 hn0; simp only [S_graph_distances_0, X_graph_distances_0, mkL, LX.f] at h; exact h
@[go_sem] theorem W_graph_distances_0t {ρ : Type} (p0 : List Int) (p1 : Int) (p2 : List Int) (p3 : List (List Gapi_Edge)) (p4 : List Int) (κ : Ex × St → Option ρ) (n0 : Nat) (v0 : Int) (v1 : List Int) (hn0 : n0 = List.length v1) : type_of% (by have h := V_graph_distances_0 p0 p1 p2 p3 p4 true κ n0 v0 v1 hn0; simp only [S_graph_distances_0, X_graph_distances_0, mkL, LX.f] at h; exact h) := by have h := V_graph_distances_0 p0 p1 p2 p3 p4 true κ n0 v0 v1 hn0; simp only [S_graph_distances_0, X_graph_distances_0, mkL, LX.f] at h; exact h
section
variable (p0 : List Int) (p1 : Int) (p2 : List Int) (p3 : List (List Gapi_Edge)) (p4 : List Int)
def S_graph_distances_1 (p0 : List Int) (p1 : Int) (p2 : List Int) (p3 : List (List Gapi_Edge)) (p4 : List Int) (β : Bool) (n0 : Nat) (v0 : Int) (v1 : List Int) : St := ⟨[(1, .d (.sl β (List.map eI p0))), (2, .loc (Root.l 2 0) [] (0) 0), (5, .bor (.l 5 0) [] 0 n0), (31, .d (.sl β (List.map eI p0))), (32, .d (.int IntKind.i64 p1)), (33, .d (.int IntKind.i64 v0))], [((2, 0), .own [.d (.agg [.sl β (List.map eI p2), .sl β (List.map (esapi_Edge β) p3), .sl β (List.map (eK IntKind.u64) p4)])]), ((5, 0), .own (tl eI v1))], []⟩
attribute [go_sem] S_graph_distances_1
def X_graph_distances_1 (p0 : List Int) (p1 : Int) (p2 : List Int) (p3 : List (List Gapi_Edge)) (p4 : List Int) {ρ : Type} : LX (A := Int → (List Int) → ((Int) × (List Int) → Option ρ) → (Ex × St → Option ρ) → Option ρ) fun β Φ => ∀ (R : St → Option ρ) (g : (Int) × (List Int) → Option ρ) (κ : Ex × St → Option ρ), (∀ (n0 : Nat) (v0 : Int) (v1 : List Int), n0 = List.length v1 → R (S_graph_distances_1 p0 p1 p2 p3 p4 β n0 v0 v1) = g (v0, v1)) → ∀ (v0 : Int) (v1 : List Int), go P hints hint30 b30 q30_1.1 (S_graph_distances_1 p0 p1 p2 p3 p4 β (List.length v1) v0 v1) (kLp R κ) = Φ v0 v1 g κ := mkL _ _
theorem V_graph_distances_1 (p0 : List Int) (p1 : Int) (p2 : List Int) (p3 : List (List Gapi_Edge)) (p4 : List Int) {ρ : Type} (β : Bool) (κ : Ex × St → Option ρ) (n0 : Nat) (v0 : Int) (v1 : List Int) (hn0 : n0 = List.length v1) : goLp P hints hint30 b30 1 (S_graph_distances_1 p0 p1 p2 p3 p4 β n0 v0 v1) κ = iterC (fun v k => (X_graph_distances_1 p0 p1 p2 p3 p4 (ρ := ρ)).f β v.1 v.2 k κ) (v0, v1) := by
  subst hn0; refine goLp_iter (Φ := fun v k => (X_graph_distances_1 p0 p1 p2 p3 p4 (ρ := ρ)).f β v.1 v.2 k κ) q30_1.2 (S := fun v => S_graph_distances_1 p0 p1 p2 p3 p4 β (List.length v.2) v.1 v.2) ?_ (v0, v1)
  intro R g hR v
  have h := (X_graph_distances_1 p0 p1 p2 p3 p4 (ρ := ρ)).ok β R g κ
  exact h (fun n0 v0 v1 hn0 => by subst hn0; exact hR (v0, v1)) v.1 v.2
end
@[go_sem] theorem W_graph_distances_1f {ρ : Type} (p0 : List Int) (p1 : Int) (p2 : List Int) (p3 : List (List Gapi_Edge)) (p4 : List Int) (κ : Ex × St → Option ρ) (n0 : Nat) (v0 : Int) (v1 : List Int) (hn0 : n0 = List.length v1) : type_of% (by have h := V_graph_distances_1 p0 p1 p2 p3 p4 false κ n0 v0 v1 hn0; simp only [S_graph_distances_1, X_graph_distances_1, mkL, LX.f] at h; exact h) := by have h := V_graph_distances_1 p0 p1 p2 p3 p4 false κ n0 v0 v1 hn0; simp only [S_graph_distances_1, X_graph_distances_1, mkL, LX.f] at h; exact h
@[go_sem] theorem W_graph_distances_1t {ρ : Type} (p0 : List Int) (p1 : Int) (p2 : List Int) (p3 : List (List Gapi_Edge)) (p4 : List Int) (κ : Ex × St → Option ρ) (n0 : Nat) (v0 : Int) (v1 : List Int) (hn0 : n0 = List.length v1) : type_of% (by have h := V_graph_distances_1 p0 p1 p2 p3 p4 true κ n0 v0 v1 hn0; simp only [S_graph_distances_1, X_graph_distances_1, mkL, LX.f] at h; exact h) := by have h := V_graph_distances_1 p0 p1 p2 p3 p4 true κ n0 v0 v1 hn0; simp only [S_graph_distances_1, X_graph_distances_1, mkL, LX.f] at h; exact h
section
variable (p0 : List (List Gapi_Edge)) (p1 : Int) (p2 : Int) (p3 : Int) (p4 : List Gapi_Edge) (p5 : Int) (p6 : List Int)
def S_graph_distances_2 (p0 : List (List Gapi_Edge)) (p1 : Int) (p2 : Int) (p3 : Int) (p4 : List Gapi_Edge) (p5 : Int) (p6 : List Int) (β : Bool) (n0 : Nat) (n1 : Nat) (n2 : Nat) (v0 : Int) (v1 : List Int) (v2 : List Int) : St := ⟨[(5, .bor (.l 5 0) [] 0 n0), (9, .d (.sl false (List.map (esapi_Edge false) p0))), (11, .d ((D.nilp))), (12, .d (.int IntKind.i64 p1)), (13, .bor (.l 13 0) [] 0 n1), (55, .bor (.l 10 0) [] 0 n2), (56, .d (.int IntKind.i64 p2)), (57, .d (.int IntKind.i64 p3)), (67, .d (.sl false (List.map eapi_Edge p4))), (68, .d (.int IntKind.i64 p5)), (69, .d (.int IntKind.i64 v0))], [((5, 0), .own (tl eI v1)), ((13, 0), .own (tl eI v2)), ((10, 0), .own (tl eI p6))], []⟩
attribute [go_sem] S_graph_distances_2
def X_graph_distances_2 (p0 : List (List Gapi_Edge)) (p1 : Int) (p2 : Int) (p3 : Int) (p4 : List Gapi_Edge) (p5 : Int) (p6 : List Int) {ρ : Type} : LX (A := Int → (List Int) → (List Int) → ((Int) × (List Int) × (List Int) → Option ρ) → (Ex × St → Option ρ) → Option ρ) fun β Φ => ∀ (R : St → Option ρ) (g : (Int) × (List Int) × (List Int) → Option ρ) (κ : Ex × St → Option ρ), (∀ (n0 : Nat) (n1 : Nat) (n2 : Nat) (v0 : Int) (v1 : List Int) (v2 : List Int), n0 = List.length v1 → n1 = List.length v2 → n2 = List.length p6 → R (S_graph_distances_2 p0 p1 p2 p3 p4 p5 p6 β n0 n1 n2 v0 v1 v2) = g (v0, v1, v2)) → ∀ (v0 : Int) (v1 : List Int) (v2 : List Int), go P hints hint30 b30 q30_2.1 (S_graph_distances_2 p0 p1 p2 p3 p4 p5 p6 β (List.length v1) (List.length v2) (List.length p6) v0 v1 v2) (kLp R κ) = Φ v0 v1 v2 g κ := mkL _ _
theorem V_graph_distances_2 (p0 : List (List Gapi_Edge)) (p1 : Int) (p2 : Int) (p3 : Int) (p4 : List Gapi_Edge) (p5 : Int) (p6 : List Int) {ρ : Type} (β : Bool) (κ : Ex × St → Option ρ) (n0 : Nat) (n1 : Nat) (n2 : Nat) (v0 : Int) (v1 : List Int) (v2 : List Int) (hn0 : n0 = List.length v1) (hn1 : n1 = List.length v2) (hn2 : n2 = List.length p6) : goLp P hints hint30 b30 2 (S_graph_distances_2 p0 p1 p2 p3 p4 p5 p6 β n0 n1 n2 v0 v1 v2) κ = iterC (fun v k => (X_graph_distances_2 p0 p1 p2 p3 p4 p5 p6 (ρ := ρ)).f β v.1 v.2.1 v.2.2 k κ) (v0, v1, v2) := by
  subst hn0 hn1 hn2; refine goLp_iter (Φ := fun v k => (X_graph_distances_2 p0 p1 p2 p3 p4 p5 p6 (ρ := ρ)).f β v.1 v.2.1 v.2.2 k κ) q30_2.2 (S := fun v => S_graph_distances_2 p0 p1 p2 p3 p4 p5 p6 β (List.length v.2.1) (List.length v.2.2) (List.length p6) v.1 v.2.1 v.2.2) ?_ (v0, v1, v2)
  intro R g hR v
  have h := (X_graph_distances_2 p0 p1 p2 p3 p4 p5 p6 (ρ := ρ)).ok β R g κ
  exact h (fun n0 n1 n2 v0 v1 v2 hn0 hn1 hn2 => by subst hn0 hn1 hn2; exact hR (v0, v1, v2)) v.1 v.2.1 v.2.2
end
@[go_sem] theorem W_graph_distances_2t {ρ : Type} (p0 : List (List Gapi_Edge)) (p1 : Int) (p2 : Int) (p3 : Int) (p4 : List Gapi_Edge) (p5 : Int) (p6 : List Int) (κ : Ex × St → Option ρ) (n0 : Nat) (n1 : Nat) (n2 : Nat) (v0 : Int) (v1 : List Int) (v2 : List Int) (hn0 : n0 = List.length v1) (hn1 : n1 = List.length v2) (hn2 : n2 = List.length p6) : type_of% (by have h := V_graph_distances_2 p0 p1 p2 p3 p4 p5 p6 true κ n0 n1 n2 v0 v1 v2 hn0 hn1 hn2; simp only [S_graph_distances_2, X_graph_distances_2, mkL, LX.f] at h; exact h) := by have h := V_graph_distances_2 p0 p1 p2 p3 p4 p5 p6 true κ n0 n1 n2 v0 v1 v2 hn0 hn1 hn2; simp only [S_graph_distances_2, X_graph_distances_2, mkL, LX.f] at h; exact h
section
variable (p0 : List (List Gapi_Edge)) (p1 : Int) (p2 : Int) (p3 : List Int)
def S_graph_distances_3 (p0 : List (List Gapi_Edge)) (p1 : Int) (p2 : Int) (p3 : List Int) (β : Bool) (n0 : Nat) (n1 : Nat) (n2 : Nat) (v0 : Int) (v1 : List Int) (v2 : List (Int)) : St := ⟨[(5, .bor (.l 5 0) [] 0 n0), (9, .d (.sl false (List.map (esapi_Edge false) p0))), (11, .d ((D.nilp))), (12, .d (.int IntKind.i64 p1)), (13, .bor (.l 13 0) [] 0 n1), (55, .bor (.l 10 0) [] 0 n2), (56, .d (.int IntKind.i64 p2)), (57, .d (.int IntKind.i64 v0))], [((5, 0), .own (tl eI v1)), ((13, 0), .own (tl eI v2)), ((10, 0), .own (tl eI p3))], []⟩
attribute [go_sem] S_graph_distances_3
def X_graph_distances_3 (p0 : List (List Gapi_Edge)) (p1 : Int) (p2 : Int) (p3 : List Int) {ρ : Type} : LX (A := Int → (List Int) → (List (Int)) → ((Int) × (List Int) × (List (Int)) → Option ρ) → (Ex × St → Option ρ) → Option ρ) fun β Φ => ∀ (R : St → Option ρ) (g : (Int) × (List Int) × (List (Int)) → Option ρ) (κ : Ex × St → Option ρ), (∀ (n0 : Nat) (n1 : Nat) (n2 : Nat) (v0 : Int) (v1 : List Int) (v2 : List (Int)), n0 = List.length v1 → n1 = List.length v2 → n2 = List.length p3 → R (S_graph_distances_3 p0 p1 p2 p3 β n0 n1 n2 v0 v1 v2) = g (v0, v1, v2)) → ∀ (v0 : Int) (v1 : List Int) (v2 : List (Int)), go P hints hint30 b30 q30_3.1 (S_graph_distances_3 p0 p1 p2 p3 β (List.length v1) (List.length v2) (List.length p3) v0 v1 v2) (kLp R κ) = Φ v0 v1 v2 g κ := mkL _ _
theorem V_graph_distances_3 (p0 : List (List Gapi_Edge)) (p1 : Int) (p2 : Int) (p3 : List Int) {ρ : Type} (β : Bool) (κ : Ex × St → Option ρ) (n0 : Nat) (n1 : Nat) (n2 : Nat) (v0 : Int) (v1 : List Int) (v2 : List (Int)) (hn0 : n0 = List.length v1) (hn1 : n1 = List.length v2) (hn2 : n2 = List.length p3) : goLp P hints hint30 b30 3 (S_graph_distances_3 p0 p1 p2 p3 β n0 n1 n2 v0 v1 v2) κ = iterC (fun v k => (X_graph_distances_3 p0 p1 p2 p3 (ρ := ρ)).f β v.1 v.2.1 v.2.2 k κ) (v0, v1, v2) := by
  subst hn0 hn1 hn2; refine goLp_iter (Φ := fun v k => (X_graph_distances_3 p0 p1 p2 p3 (ρ := ρ)).f β v.1 v.2.1 v.2.2 k κ) q30_3.2 (S := fun v => S_graph_distances_3 p0 p1 p2 p3 β (List.length v.2.1) (List.length v.2.2) (List.length p3) v.1 v.2.1 v.2.2) ?_ (v0, v1, v2)
  intro R g hR v
  have h := (X_graph_distances_3 p0 p1 p2 p3 (ρ := ρ)).ok β R g κ
  exact h (fun n0 n1 n2 v0 v1 v2 hn0 hn1 hn2 => by subst hn0 hn1 hn2; exact hR (v0, v1, v2)) v.1 v.2.1 v.2.2
end
@[go_sem] theorem W_graph_distances_3_1t {ρ : Type} (p0 : List (List Gapi_Edge)) (p1 : Int) (p2 : Int) (p3 : List Int) (κ : Ex × St → Option ρ) (n0 : Nat) (n2 : Nat) (v0 : Int) (v1 : List Int) (hn0 : n0 = List.length v1) (hn2 : n2 = List.length p3) : type_of% (by have h := V_graph_distances_3 p0 p1 p2 p3 true κ n0 0 n2 v0 v1 [] hn0 rfl hn2; simp only [S_graph_distances_3, X_graph_distances_3, mkL, LX.f, tl_nil, tlo_rep, ents_nil, entsB_nil] at h; exact h) := by have h := V_graph_distances_3 p0 p1 p2 p3 true κ n0 0 n2 v0 v1 [] hn0 rfl hn2; simp only [S_graph_distances_3, X_graph_distances_3, mkL, LX.f, tl_nil, tlo_rep, ents_nil, entsB_nil] at h; exact h
section
variable (p0 : List (List Gapi_Edge))
def S_graph_distances_4 (p0 : List (List Gapi_Edge)) (β : Bool) (n0 : Nat) (n1 : Nat) (v0 : Int) (v1 : List Int) (v2 : List Int) : St := ⟨[(5, .bor (.l 5 0) [] 0 n0), (9, .d (.sl false (List.map (esapi_Edge false) p0))), (10, .bor (.l 10 0) [] 0 n1), (11, .d ((D.nilp))), (12, .d (.int IntKind.i64 v0))], [((5, 0), .own (tl eI v1)), ((10, 0), .own (tl eI v2))], []⟩
attribute [go_sem] S_graph_distances_4
def X_graph_distances_4 (p0 : List (List Gapi_Edge)) {ρ : Type} : LX (A := Int → (List Int) → (List Int) → ((Int) × (List Int) × (List Int) → Option ρ) → (Ex × St → Option ρ) → Option ρ) fun β Φ => ∀ (R : St → Option ρ) (g : (Int) × (List Int) × (List Int) → Option ρ) (κ : Ex × St → Option ρ), (∀ (n0 : Nat) (n1 : Nat) (v0 : Int) (v1 : List Int) (v2 : List Int), n0 = List.length v1 → n1 = List.length v2 → R (S_graph_distances_4 p0 β n0 n1 v0 v1 v2) = g (v0, v1, v2)) → ∀ (v0 : Int) (v1 : List Int) (v2 : List Int), go P hints hint30 b30 q30_4.1 (S_graph_distances_4 p0 β (List.length v1) (List.length v2) v0 v1 v2) (kLp R κ) = Φ v0 v1 v2 g κ := mkL _ _
theorem V_graph_distances_4 (p0 : List (List Gapi_Edge)) {ρ : Type} (β : Bool) (κ : Ex × St → Option ρ) (n0 : Nat) (n1 : Nat) (v0 : Int) (v1 : List Int) (v2 : List Int) (hn0 : n0 = List.length v1) (hn1 : n1 = List.length v2) : goLp P hints hint30 b30 4 (S_graph_distances_4 p0 β n0 n1 v0 v1 v2) κ = iterC (fun v k => (X_graph_distances_4 p0 (ρ := ρ)).f β v.1 v.2.1 v.2.2 k κ) (v0, v1, v2) := by
  subst hn0 hn1; refine goLp_iter (Φ := fun v k => (X_graph_distances_4 p0 (ρ := ρ)).f β v.1 v.2.1 v.2.2 k κ) q30_4.2 (S := fun v => S_graph_distances_4 p0 β (List.length v.2.1) (List.length v.2.2) v.1 v.2.1 v.2.2) ?_ (v0, v1, v2)
  intro R g hR v
  have h := (X_graph_distances_4 p0 (ρ := ρ)).ok β R g κ
  exact h (fun n0 n1 v0 v1 v2 hn0 hn1 => by subst hn0 hn1; exact hR (v0, v1, v2)) v.1 v.2.1 v.2.2
end
@[go_sem] theorem W_graph_distances_4t {ρ : Type} (p0 : List (List Gapi_Edge)) (κ : Ex × St → Option ρ) (n0 : Nat) (n1 : Nat) (v0 : Int) (v1 : List Int) (v2 : List Int) (hn0 : n0 = List.length v1) (hn1 : n1 = List.length v2) : type_of% (by have h := V_graph_distances_4 p0 true κ n0 n1 v0 v1 v2 hn0 hn1; simp only [S_graph_distances_4, X_graph_distances_4, mkL, LX.f] at h; exact h) := by have h := V_graph_distances_4 p0 true κ n0 n1 v0 v1 v2 hn0 hn1; simp only [S_graph_distances_4, X_graph_distances_4, mkL, LX.f] at h; exact h
section
variable (p0 : List (List Gapi_Edge)) (p1 : Int) (p2 : Int) (p3 : Int) (p4 : List Gapi_Edge) (p5 : Int) (p6 : List Int) (p7 : Int) (p8 : List Int)
def S_graph_distances_2v1 (p0 : List (List Gapi_Edge)) (p1 : Int) (p2 : Int) (p3 : Int) (p4 : List Gapi_Edge) (p5 : Int) (p6 : List Int) (p7 : Int) (p8 : List Int) (β : Bool) (n0 : Nat) (n1 : Nat) (n2 : Nat) (v0 : Int) (v1 : List Int) (v2 : List Int) : St := ⟨[(5, .bor (.l 5 0) [] 0 n0), (9, .d (.sl false (List.map (esapi_Edge false) p0))), (11, .d (.ptr (0))), (12, .d (.int IntKind.i64 p1)), (13, .bor (.l 13 0) [] 0 n1), (55, .bor (.l 10 0) [] 0 n2), (56, .d (.int IntKind.i64 p2)), (57, .d (.int IntKind.i64 p3)), (67, .d (.sl false (List.map eapi_Edge p4))), (68, .d (.int IntKind.i64 p5)), (69, .d (.int IntKind.i64 v0))], [((5, 0), .own (tl eI v1)), ((13, 0), .own (tl eI v2)), ((10, 0), .own (tl eI p6))], [.box (.agg [.d (.int IntKind.i64 p7), .own (tl (eK IntKind.u64) p8)])]⟩
attribute [go_sem] S_graph_distances_2v1
def X_graph_distances_2v1 (p0 : List (List Gapi_Edge)) (p1 : Int) (p2 : Int) (p3 : Int) (p4 : List Gapi_Edge) (p5 : Int) (p6 : List Int) (p7 : Int) (p8 : List Int) {ρ : Type} : LX (A := Int → (List Int) → (List Int) → ((Int) × (List Int) × (List Int) → Option ρ) → (Ex × St → Option ρ) → Option ρ) fun β Φ => ∀ (R : St → Option ρ) (g : (Int) × (List Int) × (List Int) → Option ρ) (κ : Ex × St → Option ρ), (∀ (n0 : Nat) (n1 : Nat) (n2 : Nat) (v0 : Int) (v1 : List Int) (v2 : List Int), n0 = List.length v1 → n1 = List.length v2 → n2 = List.length p6 → R (S_graph_distances_2v1 p0 p1 p2 p3 p4 p5 p6 p7 p8 β n0 n1 n2 v0 v1 v2) = g (v0, v1, v2)) → ∀ (v0 : Int) (v1 : List Int) (v2 : List Int), go P hints hint30 b30 q30_2.1 (S_graph_distances_2v1 p0 p1 p2 p3 p4 p5 p6 p7 p8 β (List.length v1) (List.length v2) (List.length p6) v0 v1 v2) (kLp R κ) = Φ v0 v1 v2 g κ := mkL _ _
theorem V_graph_distances_2v1 (p0 : List (List Gapi_Edge)) (p1 : Int) (p2 : Int) (p3 : Int) (p4 : List Gapi_Edge) (p5 : Int) (p6 : List Int) (p7 : Int) (p8 : List Int) {ρ : Type} (β : Bool) (κ : Ex × St → Option ρ) (n0 : Nat) (n1 : Nat) (n2 : Nat) (v0 : Int) (v1 : List Int) (v2 : List Int) (hn0 : n0 = List.length v1) (hn1 : n1 = List.length v2) (hn2 : n2 = List.length p6) : goLp P hints hint30 b30 2 (S_graph_distances_2v1 p0 p1 p2 p3 p4 p5 p6 p7 p8 β n0 n1 n2 v0 v1 v2) κ = iterC (fun v k => (X_graph_distances_2v1 p0 p1 p2 p3 p4 p5 p6 p7 p8 (ρ := ρ)).f β v.1 v.2.1 v.2.2 k κ) (v0, v1, v2) := by
  subst hn0 hn1 hn2; refine goLp_iter (Φ := fun v k => (X_graph_distances_2v1 p0 p1 p2 p3 p4 p5 p6 p7 p8 (ρ := ρ)).f β v.1 v.2.1 v.2.2 k κ) q30_2.2 (S := fun v => S_graph_distances_2v1 p0 p1 p2 p3 p4 p5 p6 p7 p8 β (List.length v.2.1) (List.length v.2.2) (List.length p6) v.1 v.2.1 v.2.2) ?_ (v0, v1, v2)
  intro R g hR v
  have h := (X_graph_distances_2v1 p0 p1 p2 p3 p4 p5 p6 p7 p8 (ρ := ρ)).ok β R g κ
  exact h (fun n0 n1 n2 v0 v1 v2 hn0 hn1 hn2 => by subst hn0 hn1 hn2; exact hR (v0, v1, v2)) v.1 v.2.1 v.2.2
end
@[go_sem] theorem W_graph_distances_2v1t {ρ : Type} (p0 : List (List Gapi_Edge)) (p1 : Int) (p2 : Int) (p3 : Int) (p4 : List Gapi_Edge) (p5 : Int) (p6 : List Int) (p7 : Int) (p8 : List Int) (κ : Ex × St → Option ρ) (n0 : Nat) (n1 : Nat) (n2 : Nat) (v0 : Int) (v1 : List Int) (v2 : List Int) (hn0 : n0 = List.length v1) (hn1 : n1 = List.length v2) (hn2 : n2 = List.length p6) : type_of% (by have h := V_graph_distances_2v1 p0 p1 p2 p3 p4 p5 p6 p7 p8 true κ n0 n1 n2 v0 v1 v2 hn0 hn1 hn2; simp only [S_graph_distances_2v1, X_graph_distances_2v1, mkL, LX.f] at h; exact h) := by have h := V_graph_distances_2v1 p0 p1 p2 p3 p4 p5 p6 p7 p8 true κ n0 n1 n2 v0 v1 v2 hn0 hn1 hn2; simp only [S_graph_distances_2v1, X_graph_distances_2v1, mkL, LX.f] at h; exact h
section
variable (p0 : List (List Gapi_Edge)) (p1 : Int) (p2 : Int) (p3 : List Int) (p4 : Int)
def S_graph_distances_3v1 (p0 : List (List Gapi_Edge)) (p1 : Int) (p2 : Int) (p3 : List Int) (p4 : Int) (β : Bool) (n0 : Nat) (n1 : Nat) (n2 : Nat) (v0 : Int) (v1 : List Int) (v2 : List (Int)) (v3 : List Int) : St := ⟨[(5, .bor (.l 5 0) [] 0 n0), (9, .d (.sl false (List.map (esapi_Edge false) p0))), (11, .d (.ptr (0))), (12, .d (.int IntKind.i64 p1)), (13, .bor (.l 13 0) [] 0 n1), (55, .bor (.l 10 0) [] 0 n2), (56, .d (.int IntKind.i64 p2)), (57, .d (.int IntKind.i64 v0))], [((5, 0), .own (tl eI v1)), ((13, 0), .own (tl eI v2)), ((10, 0), .own (tl eI p3))], [.box (.agg [.d (.int IntKind.i64 p4), .own (tl (eK IntKind.u64) v3)])]⟩
attribute [go_sem] S_graph_distances_3v1
def X_graph_distances_3v1 (p0 : List (List Gapi_Edge)) (p1 : Int) (p2 : Int) (p3 : List Int) (p4 : Int) {ρ : Type} : LX (A := Int → (List Int) → (List (Int)) → (List Int) → ((Int) × (List Int) × (List (Int)) × (List Int) → Option ρ) → (Ex × St → Option ρ) → Option ρ) fun β Φ => ∀ (R : St → Option ρ) (g : (Int) × (List Int) × (List (Int)) × (List Int) → Option ρ) (κ : Ex × St → Option ρ), (∀ (n0 : Nat) (n1 : Nat) (n2 : Nat) (v0 : Int) (v1 : List Int) (v2 : List (Int)) (v3 : List Int), n0 = List.length v1 → n1 = List.length v2 → n2 = List.length p3 → R (S_graph_distances_3v1 p0 p1 p2 p3 p4 β n0 n1 n2 v0 v1 v2 v3) = g (v0, v1, v2, v3)) → ∀ (v0 : Int) (v1 : List Int) (v2 : List (Int)) (v3 : List Int), go P hints hint30 b30 q30_3.1 (S_graph_distances_3v1 p0 p1 p2 p3 p4 β (List.length v1) (List.length v2) (List.length p3) v0 v1 v2 v3) (kLp R κ) = Φ v0 v1 v2 v3 g κ := mkL _ _
theorem V_graph_distances_3v1 (p0 : List (List Gapi_Edge)) (p1 : Int) (p2 : Int) (p3 : List Int) (p4 : Int) {ρ : Type} (β : Bool) (κ : Ex × St → Option ρ) (n0 : Nat) (n1 : Nat) (n2 : Nat) (v0 : Int) (v1 : List Int) (v2 : List (Int)) (v3 : List Int) (hn0 : n0 = List.length v1) (hn1 : n1 = List.length v2) (hn2 : n2 = List.length p3) : goLp P hints hint30 b30 3 (S_graph_distances_3v1 p0 p1 p2 p3 p4 β n0 n1 n2 v0 v1 v2 v3) κ = iterC (fun v k => (X_graph_distances_3v1 p0 p1 p2 p3 p4 (ρ := ρ)).f β v.1 v.2.1 v.2.2.1 v.2.2.2 k κ) (v0, v1, v2, v3) := by
  subst hn0 hn1 hn2; refine goLp_iter (Φ := fun v k => (X_graph_distances_3v1 p0 p1 p2 p3 p4 (ρ := ρ)).f β v.1 v.2.1 v.2.2.1 v.2.2.2 k κ) q30_3.2 (S := fun v => S_graph_distances_3v1 p0 p1 p2 p3 p4 β (List.length v.2.1) (List.length v.2.2.1) (List.length p3) v.1 v.2.1 v.2.2.1 v.2.2.2) ?_ (v0, v1, v2, v3)
  intro R g hR v
  have h := (X_graph_distances_3v1 p0 p1 p2 p3 p4 (ρ := ρ)).ok β R g κ
  exact h (fun n0 n1 n2 v0 v1 v2 v3 hn0 hn1 hn2 => by subst hn0 hn1 hn2; exact hR (v0, v1, v2, v3)) v.1 v.2.1 v.2.2.1 v.2.2.2
end
@[go_sem] theorem W_graph_distances_3v1_1t {ρ : Type} (p0 : List (List Gapi_Edge)) (p1 : Int) (p2 : Int) (p3 : List Int) (p4 : Int) (κ : Ex × St → Option ρ) (n0 : Nat) (n2 : Nat) (v0 : Int) (v1 : List Int) (v3 : List Int) (hn0 : n0 = List.length v1) (hn2 : n2 = List.length p3) : type_of% (by have h := V_graph_distances_3v1 p0 p1 p2 p3 p4 true κ n0 0 n2 v0 v1 [] v3 hn0 rfl hn2; simp only [S_graph_distances_3v1, X_graph_distances_3v1, mkL, LX.f, tl_nil, tlo_rep, ents_nil, entsB_nil] at h; exact h) := by have h := V_graph_distances_3v1 p0 p1 p2 p3 p4 true κ n0 0 n2 v0 v1 [] v3 hn0 rfl hn2; simp only [S_graph_distances_3v1, X_graph_distances_3v1, mkL, LX.f, tl_nil, tlo_rep, ents_nil, entsB_nil] at h; exact h
section
variable (p0 : List (List Gapi_Edge)) (p1 : Int)
def S_graph_distances_4v1 (p0 : List (List Gapi_Edge)) (p1 : Int) (β : Bool) (n0 : Nat) (n1 : Nat) (v0 : Int) (v1 : List Int) (v2 : List Int) (v3 : List Int) : St := ⟨[(5, .bor (.l 5 0) [] 0 n0), (9, .d (.sl false (List.map (esapi_Edge false) p0))), (10, .bor (.l 10 0) [] 0 n1), (11, .d (.ptr (0))), (12, .d (.int IntKind.i64 v0))], [((5, 0), .own (tl eI v1)), ((10, 0), .own (tl eI v2))], [.box (.agg [.d (.int IntKind.i64 p1), .own (tl (eK IntKind.u64) v3)])]⟩
attribute [go_sem] S_graph_distances_4v1
def X_graph_distances_4v1 (p0 : List (List Gapi_Edge)) (p1 : Int) {ρ : Type} : LX (A := Int → (List Int) → (List Int) → (List Int) → ((Int) × (List Int) × (List Int) × (List Int) → Option ρ) → (Ex × St → Option ρ) → Option ρ) fun β Φ => ∀ (R : St → Option ρ) (g : (Int) × (List Int) × (List Int) × (List Int) → Option ρ) (κ : Ex × St → Option ρ), (∀ (n0 : Nat) (n1 : Nat) (v0 : Int) (v1 : List Int) (v2 : List Int) (v3 : List Int), n0 = List.length v1 → n1 = List.length v2 → R (S_graph_distances_4v1 p0 p1 β n0 n1 v0 v1 v2 v3) = g (v0, v1, v2, v3)) → ∀ (v0 : Int) (v1 : List Int) (v2 : List Int) (v3 : List Int), go P hints hint30 b30 q30_4.1 (S_graph_distances_4v1 p0 p1 β (List.length v1) (List.length v2) v0 v1 v2 v3) (kLp R κ) = Φ v0 v1 v2 v3 g κ := mkL _ _
theorem V_graph_distances_4v1 (p0 : List (List Gapi_Edge)) (p1 : Int) {ρ : Type} (β : Bool) (κ : Ex × St → Option ρ) (n0 : Nat) (n1 : Nat) (v0 : Int) (v1 : List Int) (v2 : List Int) (v3 : List Int) (hn0 : n0 = List.length v1) (hn1 : n1 = List.length v2) : goLp P hints hint30 b30 4 (S_graph_distances_4v1 p0 p1 β n0 n1 v0 v1 v2 v3) κ = iterC (fun v k => (X_graph_distances_4v1 p0 p1 (ρ := ρ)).f β v.1 v.2.1 v.2.2.1 v.2.2.2 k κ) (v0, v1, v2, v3) := by
  subst hn0 hn1; refine goLp_iter (Φ := fun v k => (X_graph_distances_4v1 p0 p1 (ρ := ρ)).f β v.1 v.2.1 v.2.2.1 v.2.2.2 k κ) q30_4.2 (S := fun v => S_graph_distances_4v1 p0 p1 β (List.length v.2.1) (List.length v.2.2.1) v.1 v.2.1 v.2.2.1 v.2.2.2) ?_ (v0, v1, v2, v3)
  intro R g hR v
  have h := (X_graph_distances_4v1 p0 p1 (ρ := ρ)).ok β R g κ
  exact h (fun n0 n1 v0 v1 v2 v3 hn0 hn1 => by subst hn0 hn1; exact hR (v0, v1, v2, v3)) v.1 v.2.1 v.2.2.1 v.2.2.2
end
@[go_sem] theorem W_graph_distances_4v1t {ρ : Type} (p0 : List (List Gapi_Edge)) (p1 : Int) (κ : Ex × St → Option ρ) (n0 : Nat) (n1 : Nat) (v0 : Int) (v1 : List Int) (v2 : List Int) (v3 : List Int) (hn0 : n0 = List.length v1) (hn1 : n1 = List.length v2) : type_of% (by have h := V_graph_distances_4v1 p0 p1 true κ n0 n1 v0 v1 v2 v3 hn0 hn1; simp only [S_graph_distances_4v1, X_graph_distances_4v1, mkL, LX.f] at h; exact h) := by have h := V_graph_distances_4v1 p0 p1 true κ n0 n1 v0 v1 v2 v3 hn0 hn1; simp only [S_graph_distances_4v1, X_graph_distances_4v1, mkL, LX.f] at h; exact h
def K_graph_distances (a0 : Gapi_Graph) (a1 : List Int) (β : Bool) (y0_0 : List Int) : List T × List Ob := ([.d (.sl false (List.map eI y0_0))], [])
attribute [go_sem] K_graph_distances
def F_graph_distances (a0 : Gapi_Graph) (a1 : List Int) {ρ : Type} : {Φ : ((List Int) → Option ρ) → Option ρ // ∀ (β : Bool) (κ : List T × List Ob → Option ρ) (g : (List Int) → Option ρ), (∀ (y0_0 : List Int), κ (K_graph_distances a0 a1 β y0_0) = g y0_0) → cbK (call 30 [(eapi_Graph β) a0, (esi64 β) a1] []) κ = Φ g} := mkF (p := fun (β : Bool) (κ : List T × List Ob → Option ρ) (g : (List Int) → Option ρ) => (∀ (y0_0 : List Int), κ (K_graph_distances a0 a1 β y0_0) = g y0_0)) (ds := fun β => [(eapi_Graph β) a0, (esi64 β) a1]) ge30 (fun _ => rfl) _
def f_graph_distances (a0 : Gapi_Graph) (a1 : List Int) {ρ : Type} (g0 : (List Int) → Option ρ) : Option ρ := (F_graph_distances a0 a1).1 g0
theorem U_graph_distances {ρ : Type} (β : Bool) (a0_0 : List Int) (a0_1 : List (List Gapi_Edge)) (a0_2 : List Int) (a1 : List Int) (κ : List T × List Ob → Option ρ) : cbK (call 30 [.agg [.sl β (List.map eI a0_0), .sl β (List.map (esapi_Edge β) a0_1), .sl β (List.map (eK .u64) a0_2)], .sl β (List.map eI a1)] []) κ = f_graph_distances (Gapi_Graph.mk a0_0 a0_1 a0_2) a1 (fun y0_0 => κ (K_graph_distances (Gapi_Graph.mk a0_0 a0_1 a0_2) a1 β y0_0)) := (F_graph_distances (Gapi_Graph.mk a0_0 a0_1 a0_2) a1).2 β κ _ (fun _ => rfl)
@[go_sem] theorem W_graph_distances {ρ : Type} (β : Bool) (a0_0 : List Int) (a0_1 : List (List Gapi_Edge)) (a0_2 : List Int) (a1 : List Int) (κ : List T × List Ob → Option ρ) : type_of% (by have h := @U_graph_distances ρ β a0_0 a0_1 a0_2 a1 κ; simp only [K_graph_distances] at h; exact h) := by have h := @U_graph_distances ρ β a0_0 a0_1 a0_2 a1 κ; simp only [K_graph_distances] at h; exact h
section
variable (p0 : List Int) (p1 : List Int) (p2 : Int) (p3 : List Int) (p4 : List (List Gapi_Edge)) (p5 : List Int)
def S_graph_Path_0 (p0 : List Int) (p1 : List Int) (p2 : Int) (p3 : List Int) (p4 : List (List Gapi_Edge)) (p5 : List Int) (β : Bool) (v0 : Int) (v1 : Int) : St := ⟨[(3, .loc (Root.l 3 0) [] (0) 0), (8, .d (.sl false (List.map eI p0))), (9, .d (.int IntKind.i64 v0)), (21, .d (.sl β (List.map eI p1))), (22, .d (.int IntKind.i64 p2)), (23, .d (.int IntKind.i64 v1))], [((3, 0), .own [.d (.agg [.sl β (List.map eI p3), .sl β (List.map (esapi_Edge β) p4), .sl β (List.map (eK IntKind.u64) p5)])])], []⟩
attribute [go_sem] S_graph_Path_0
def X_graph_Path_0 (p0 : List Int) (p1 : List Int) (p2 : Int) (p3 : List Int) (p4 : List (List Gapi_Edge)) (p5 : List Int) {ρ : Type} : LX (A := Int → Int → ((Int) × (Int) → Option ρ) → (Ex × St → Option ρ) → Option ρ) fun β Φ => ∀ (R : St → Option ρ) (g : (Int) × (Int) → Option ρ) (κ : Ex × St → Option ρ), (∀ (v0 : Int) (v1 : Int), R (S_graph_Path_0 p0 p1 p2 p3 p4 p5 β v0 v1) = g (v0, v1)) → ∀ (v0 : Int) (v1 : Int), go P hints hint17 b17 q17_0.1 (S_graph_Path_0 p0 p1 p2 p3 p4 p5 β v0 v1) (kLp R κ) = Φ v0 v1 g κ := mkL _ _
theorem V_graph_Path_0 (p0 : List Int) (p1 : List Int) (p2 : Int) (p3 : List Int) (p4 : List (List Gapi_Edge)) (p5 : List Int) {ρ : Type} (β : Bool) (κ : Ex × St → Option ρ) (v0 : Int) (v1 : Int) : goLp P hints hint17 b17 0 (S_graph_Path_0 p0 p1 p2 p3 p4 p5 β v0 v1) κ = iterC (fun v k => (X_graph_Path_0 p0 p1 p2 p3 p4 p5 (ρ := ρ)).f β v.1 v.2 k κ) (v0, v1) := by
  refine goLp_iter (Φ := fun v k => (X_graph_Path_0 p0 p1 p2 p3 p4 p5 (ρ := ρ)).f β v.1 v.2 k κ) q17_0.2 (S := fun v => S_graph_Path_0 p0 p1 p2 p3 p4 p5 β v.1 v.2) ?_ (v0, v1)
  intro R g hR v
  have h := (X_graph_Path_0 p0 p1 p2 p3 p4 p5 (ρ := ρ)).ok β R g κ
  exact h (fun v0 v1 => hR (v0, v1)) v.1 v.2
end
@[go_sem] theorem W_graph_Path_0f {ρ : Type} (p0 : List Int) (p1 : List Int) (p2 : Int) (p3 : List Int) (p4 : List (List Gapi_Edge)) (p5 : List Int) (κ : Ex × St → Option ρ) (v0 : Int) (v1 : Int) : type_of% (by have h := V_graph_Path_0 p0 p1 p2 p3 p4 p5 false κ v0 v1; simp only [S_graph_Path_0, X_graph_Path_0, mkL, LX.f] at h; exact h) := by have h := V_graph_Path_0 p0 p1 p2 p3 p4 p5 false κ v0 v1; simp only [S_graph_Path_0, X_graph_Path_0, mkL, LX.f] at h; exact h
@[go_sem] theorem W_graph_Path_0t {ρ : Type} (p0 : List Int) (p1 : List Int) (p2 : Int) (p3 : List Int) (p4 : List (List Gapi_Edge)) (p5 : List Int) (κ : Ex × St → Option ρ) (v0 : Int) (v1 : Int) : type_of% (by have h := V_graph_Path_0 p0 p1 p2 p3 p4 p5 true κ v0 v1; simp only [S_graph_Path_0, X_graph_Path_0, mkL, LX.f] at h; exact h) := by have h := V_graph_Path_0 p0 p1 p2 p3 p4 p5 true κ v0 v1; simp only [S_graph_Path_0, X_graph_Path_0, mkL, LX.f] at h; exact h
section
variable (p0 : List Int) (p1 : Int) (p2 : List Gapi_Edge) (p3 : Int) (p4 : List Int) (p5 : List (List Gapi_Edge)) (p6 : List Int) (p7 : List Int)
def S_graph_Path_1 (p0 : List Int) (p1 : Int) (p2 : List Gapi_Edge) (p3 : Int) (p4 : List Int) (p5 : List (List Gapi_Edge)) (p6 : List Int) (p7 : List Int) (β : Bool) (n0 : Nat) (v0 : Int) (v1 : Int) : St := ⟨[(3, .loc (Root.l 3 0) [] (0) 0), (8, .d (.sl false (List.map eI p0))), (9, .d (.int IntKind.i64 p1)), (12, .bor (.l 12 0) [] 0 n0), (13, .d (.int IntKind.i64 v0)), (83, .d (.sl β (List.map eapi_Edge p2))), (84, .d (.int IntKind.i64 p3)), (85, .d (.int IntKind.i64 v1))], [((3, 0), .own [.d (.agg [.sl β (List.map eI p4), .sl β (List.map (esapi_Edge β) p5), .sl β (List.map (eK IntKind.u64) p6)])]), ((12, 0), .own (tl eI p7))], []⟩
attribute [go_sem] S_graph_Path_1
def X_graph_Path_1 (p0 : List Int) (p1 : Int) (p2 : List Gapi_Edge) (p3 : Int) (p4 : List Int) (p5 : List (List Gapi_Edge)) (p6 : List Int) (p7 : List Int) {ρ : Type} : LX (A := Int → Int → ((Int) × (Int) → Option ρ) → (Ex × St → Option ρ) → Option ρ) fun β Φ => ∀ (R : St → Option ρ) (g : (Int) × (Int) → Option ρ) (κ : Ex × St → Option ρ), (∀ (n0 : Nat) (v0 : Int) (v1 : Int), n0 = List.length p7 → R (S_graph_Path_1 p0 p1 p2 p3 p4 p5 p6 p7 β n0 v0 v1) = g (v0, v1)) → ∀ (v0 : Int) (v1 : Int), go P hints hint17 b17 q17_1.1 (S_graph_Path_1 p0 p1 p2 p3 p4 p5 p6 p7 β (List.length p7) v0 v1) (kLp R κ) = Φ v0 v1 g κ := mkL _ _
theorem V_graph_Path_1 (p0 : List Int) (p1 : Int) (p2 : List Gapi_Edge) (p3 : Int) (p4 : List Int) (p5 : List (List Gapi_Edge)) (p6 : List Int) (p7 : List Int) {ρ : Type} (β : Bool) (κ : Ex × St → Option ρ) (n0 : Nat) (v0 : Int) (v1 : Int) (hn0 : n0 = List.length p7) : goLp P hints hint17 b17 1 (S_graph_Path_1 p0 p1 p2 p3 p4 p5 p6 p7 β n0 v0 v1) κ = iterC (fun v k => (X_graph_Path_1 p0 p1 p2 p3 p4 p5 p6 p7 (ρ := ρ)).f β v.1 v.2 k κ) (v0, v1) := by
  subst hn0; refine goLp_iter (Φ := fun v k => (X_graph_Path_1 p0 p1 p2 p3 p4 p5 p6 p7 (ρ := ρ)).f β v.1 v.2 k κ) q17_1.2 (S := fun v => S_graph_Path_1 p0 p1 p2 p3 p4 p5 p6 p7 β (List.length p7) v.1 v.2) ?_ (v0, v1)
  intro R g hR v
  have h := (X_graph_Path_1 p0 p1 p2 p3 p4 p5 p6 p7 (ρ := ρ)).ok β R g κ
  exact h (fun n0 v0 v1 hn0 => by subst hn0; exact hR (v0, v1)) v.1 v.2
end
@[go_sem] theorem W_graph_Path_1f {ρ : Type} (p0 : List Int) (p1 : Int) (p2 : List Gapi_Edge) (p3 : Int) (p4 : List Int) (p5 : List (List Gapi_Edge)) (p6 : List Int) (p7 : List Int) (κ : Ex × St → Option ρ) (n0 : Nat) (v0 : Int) (v1 : Int) (hn0 : n0 = List.length p7) : type_of% (by have h := V_graph_Path_1 p0 p1 p2 p3 p4 p5 p6 p7 false κ n0 v0 v1 hn0; simp only [S_graph_Path_1, X_graph_Path_1, mkL, LX.f] at h; exact h) := by have h := V_graph_Path_1 p0 p1 p2 p3 p4 p5 p6 p7 false κ n0 v0 v1 hn0; simp only [S_graph_Path_1, X_graph_Path_1, mkL, LX.f] at h; exact h
@[go_sem] theorem W_graph_Path_1t {ρ : Type} (p0 : List Int) (p1 : Int) (p2 : List Gapi_Edge) (p3 : Int) (p4 : List Int) (p5 : List (List Gapi_Edge)) (p6 : List Int) (p7 : List Int) (κ : Ex × St → Option ρ) (n0 : Nat) (v0 : Int) (v1 : Int) (hn0 : n0 = List.length p7) : type_of% (by have h := V_graph_Path_1 p0 p1 p2 p3 p4 p5 p6 p7 true κ n0 v0 v1 hn0; simp only [S_graph_Path_1, X_graph_Path_1, mkL, LX.f] at h; exact h) := by have h := V_graph_Path_1 p0 p1 p2 p3 p4 p5 p6 p7 true κ n0 v0 v1 hn0; simp only [S_graph_Path_1, X_graph_Path_1, mkL, LX.f] at h; exact h
section
variable (p0 : List Int) (p1 : List Int) (p2 : List (List Gapi_Edge)) (p3 : List Int)
def S_graph_Path_2 (p0 : List Int) (p1 : List Int) (p2 : List (List Gapi_Edge)) (p3 : List Int) (β : Bool) (n0 : Nat) (v0 : Int) (v1 : List Int) : St := ⟨[(3, .loc (Root.l 3 0) [] (0) 0), (8, .d (.sl false (List.map eI p0))), (9, .d (.int IntKind.i64 v0)), (12, .bor (.l 12 0) [] 0 n0)], [((3, 0), .own [.d (.agg [.sl β (List.map eI p1), .sl β (List.map (esapi_Edge β) p2), .sl β (List.map (eK IntKind.u64) p3)])]), ((12, 0), .own (tl eI v1))], []⟩
attribute [go_sem] S_graph_Path_2
def X_graph_Path_2 (p0 : List Int) (p1 : List Int) (p2 : List (List Gapi_Edge)) (p3 : List Int) {ρ : Type} : LX (A := Int → (List Int) → ((Int) × (List Int) → Option ρ) → (Ex × St → Option ρ) → Option ρ) fun β Φ => ∀ (R : St → Option ρ) (g : (Int) × (List Int) → Option ρ) (κ : Ex × St → Option ρ), (∀ (n0 : Nat) (v0 : Int) (v1 : List Int), n0 = List.length v1 → R (S_graph_Path_2 p0 p1 p2 p3 β n0 v0 v1) = g (v0, v1)) → ∀ (v0 : Int) (v1 : List Int), go P hints hint17 b17 q17_2.1 (S_graph_Path_2 p0 p1 p2 p3 β (List.length v1) v0 v1) (kLp R κ) = Φ v0 v1 g κ := mkL _ _
theorem V_graph_Path_2 (p0 : List Int) (p1 : List Int) (p2 : List (List Gapi_Edge)) (p3 : List Int) {ρ : Type} (β : Bool) (κ : Ex × St → Option ρ) (n0 : Nat) (v0 : Int) (v1 : List Int) (hn0 : n0 = List.length v1) : goLp P hints hint17 b17 2 (S_graph_Path_2 p0 p1 p2 p3 β n0 v0 v1) κ = iterC (fun v k => (X_graph_Path_2 p0 p1 p2 p3 (ρ := ρ)).f β v.1 v.2 k κ) (v0, v1) := by
  subst hn0; refine goLp_iter (Φ := fun v k => (X_graph_Path_2 p0 p1 p2 p3 (ρ := ρ)).f β v.1 v.2 k κ) q17_2.2 (S := fun v => S_graph_Path_2 p0 p1 p2 p3 β (List.length v.2) v.1 v.2) ?_ (v0, v1)
  intro R g hR v
  have h := (X_graph_Path_2 p0 p1 p2 p3 (ρ := ρ)).ok β R g κ
  exact h (fun n0 v0 v1 hn0 => by subst hn0; exact hR (v0, v1)) v.1 v.2
end
@[go_sem] theorem W_graph_Path_2f {ρ : Type} (p0 : List Int) (p1 : List Int) (p2 : List (List Gapi_Edge)) (p3 : List Int) (κ : Ex × St → Option ρ) (n0 : Nat) (v0 : Int) (v1 : List Int) (hn0 : n0 = List.length v1) : type_of% (by have h := V_graph_Path_2 p0 p1 p2 p3 false κ n0 v0 v1 hn0; simp only [S_graph_Path_2, X_graph_Path_2, mkL, LX.f] at h; exact h) := by have h := V_graph_Path_2 p0 p1 p2 p3 false κ n0 v0 v1 hn0; simp only [S_graph_Path_2, X_graph_Path_2, mkL, LX.f] at h; exact h
@[go_sem] theorem W_graph_Path_2t {ρ : Type} (p0 : List Int) (p1 : List Int) (p2 : List (List Gapi_Edge)) (p3 : List Int) (κ : Ex × St → Option ρ) (n0 : Nat) (v0 : Int) (v1 : List Int) (hn0 : n0 = List.length v1) : type_of% (by have h := V_graph_Path_2 p0 p1 p2 p3 true κ n0 v0 v1 hn0; simp only [S_graph_Path_2, X_graph_Path_2, mkL, LX.f] at h; exact h) := by have h := V_graph_Path_2 p0 p1 p2 p3 true κ n0 v0 v1 hn0; simp only [S_graph_Path_2, X_graph_Path_2, mkL, LX.f] at h; exact h
def K_graph_Path (a0 : Gapi_Graph) (a1 : List Int) (a2 : List Bool) (β : Bool) (y0_0 : List Int) (y0_1 : Bool) : List T × List Ob := ([.d (.sl false (List.map eI y0_0)), .d (.bool y0_1)], [])
attribute [go_sem] K_graph_Path
def F_graph_Path (a0 : Gapi_Graph) (a1 : List Int) (a2 : List Bool) {ρ : Type} : {Φ : ((List Int) → Bool → Option ρ) → Option ρ // ∀ (β : Bool) (κ : List T × List Ob → Option ρ) (g : (List Int) → Bool → Option ρ), (∀ (y0_0 : List Int) (y0_1 : Bool), κ (K_graph_Path a0 a1 a2 β y0_0 y0_1) = g y0_0 y0_1) ∧ (∀ (y0_1 : Bool), κ (K_graph_Path a0 a1 a2 β ([] : List Int) y0_1) = g ([] : List Int) y0_1) → cbK (call 17 [(eapi_Graph β) a0, (esi64 β) a1, (esbool β) a2] []) κ = Φ g} := mkF (p := fun (β : Bool) (κ : List T × List Ob → Option ρ) (g : (List Int) → Bool → Option ρ) => (∀ (y0_0 : List Int) (y0_1 : Bool), κ (K_graph_Path a0 a1 a2 β y0_0 y0_1) = g y0_0 y0_1) ∧ (∀ (y0_1 : Bool), κ (K_graph_Path a0 a1 a2 β ([] : List Int) y0_1) = g ([] : List Int) y0_1)) (ds := fun β => [(eapi_Graph β) a0, (esi64 β) a1, (esbool β) a2]) ge17 (fun _ => rfl) _
def f_graph_Path (a0 : Gapi_Graph) (a1 : List Int) (a2 : List Bool) {ρ : Type} (g0 : (List Int) → Bool → Option ρ) : Option ρ := (F_graph_Path a0 a1 a2).1 g0
theorem U_graph_Path {ρ : Type} (β : Bool) (a0_0 : List Int) (a0_1 : List (List Gapi_Edge)) (a0_2 : List Int) (a1 : List Int) (a2 : List Bool) (κ : List T × List Ob → Option ρ) : cbK (call 17 [.agg [.sl β (List.map eI a0_0), .sl β (List.map (esapi_Edge β) a0_1), .sl β (List.map (eK .u64) a0_2)], .sl β (List.map eI a1), .sl β (List.map eB a2)] []) κ = f_graph_Path (Gapi_Graph.mk a0_0 a0_1 a0_2) a1 a2 (fun y0_0 y0_1 => κ (K_graph_Path (Gapi_Graph.mk a0_0 a0_1 a0_2) a1 a2 β y0_0 y0_1)) := (F_graph_Path (Gapi_Graph.mk a0_0 a0_1 a0_2) a1 a2).2 β κ _ ⟨(fun _ _ => rfl), (fun _ => rfl)⟩
@[go_sem] theorem W_graph_Path {ρ : Type} (β : Bool) (a0_0 : List Int) (a0_1 : List (List Gapi_Edge)) (a0_2 : List Int) (a1 : List Int) (a2 : List Bool) (κ : List T × List Ob → Option ρ) : type_of% (by have h := @U_graph_Path ρ β a0_0 a0_1 a0_2 a1 a2 κ; simp only [K_graph_Path] at h; exact h) := by have h := @U_graph_Path ρ β a0_0 a0_1 a0_2 a1 a2 κ; simp only [K_graph_Path] at h; exact h
section
variable (p0 : List Int) (p1 : Int) (p2 : Int)
def S_slices_Index_sint_int_0 (p0 : List Int) (p1 : Int) (p2 : Int) (β : Bool) (v0 : Int) : St := ⟨[(0, .d (.sl β (List.map eI p0))), (1, .d (.int IntKind.i64 p1)), (7, .d (.int IntKind.i64 p2)), (8, .d (.int IntKind.i64 v0))], [], []⟩
attribute [go_sem] S_slices_Index_sint_int_0
def X_slices_Index_sint_int_0 (p0 : List Int) (p1 : Int) (p2 : Int) {ρ : Type} : LX (A := Int → (Int → Option ρ) → (Ex × St → Option ρ) → Option ρ) fun β Φ => ∀ (R : St → Option ρ) (g : Int → Option ρ) (κ : Ex × St → Option ρ), (∀ (v0 : Int), R (S_slices_Index_sint_int_0 p0 p1 p2 β v0) = g v0) → ∀ (v0 : Int), go P hints hint19 b19 q19_0.1 (S_slices_Index_sint_int_0 p0 p1 p2 β v0) (kLp R κ) = Φ v0 g κ := mkL _ _
theorem V_slices_Index_sint_int_0 (p0 : List Int) (p1 : Int) (p2 : Int) {ρ : Type} (β : Bool) (κ : Ex × St → Option ρ) (v0 : Int) : goLp P hints hint19 b19 0 (S_slices_Index_sint_int_0 p0 p1 p2 β v0) κ = iterC (fun v k => (X_slices_Index_sint_int_0 p0 p1 p2 (ρ := ρ)).f β v k κ) v0 := by
  refine goLp_iter (Φ := fun v k => (X_slices_Index_sint_int_0 p0 p1 p2 (ρ := ρ)).f β v k κ) q19_0.2 (S := fun v => S_slices_Index_sint_int_0 p0 p1 p2 β v) ?_ v0
  intro R g hR v
  have h := (X_slices_Index_sint_int_0 p0 p1 p2 (ρ := ρ)).ok β R g κ
  exact h (fun v0 => hR v0) v
end
@[go_sem] theorem W_slices_Index_sint_int_0f {ρ : Type} (p0 : List Int) (p1 : Int) (p2 : Int) (κ : Ex × St → Option ρ) (v0 : Int) : type_of% (by have h := V_slices_Index_sint_int_0 p0 p1 p2 false κ v0; simp only [S_slices_Index_sint_int_0, X_slices_Index_sint_int_0, mkL, LX.f] at h; exact h) := by have h := V_slices_Index_sint_int_0 p0 p1 p2 false κ v0; simp only [S_slices_Index_sint_int_0, X_slices_Index_sint_int_0, mkL, LX.f] at h; exact h
@[go_sem] theorem W_slices_Index_sint_int_0t {ρ : Type} (p0 : List Int) (p1 : Int) (p2 : Int) (κ : Ex × St → Option ρ) (v0 : Int) : type_of% (by have h := V_slices_Index_sint_int_0 p0 p1 p2 true κ v0; simp only [S_slices_Index_sint_int_0, X_slices_Index_sint_int_0, mkL, LX.f] at h; exact h) := by have h := V_slices_Index_sint_int_0 p0 p1 p2 true κ v0; simp only [S_slices_Index_sint_int_0, X_slices_Index_sint_int_0, mkL, LX.f] at h; exact h
def K_slices_Index_sint_int (a0 : List Int) (a1 : Int) (β : Bool) (y0_0 : Int) : List T × List Ob := ([.d (.int IntKind.i64 y0_0)], [])
attribute [go_sem] K_slices_Index_sint_int
def F_slices_Index_sint_int (a0 : List Int) (a1 : Int) {ρ : Type} : {Φ : (Int → Option ρ) → Option ρ // ∀ (β : Bool) (κ : List T × List Ob → Option ρ) (g : Int → Option ρ), (∀ (y0_0 : Int), κ (K_slices_Index_sint_int a0 a1 β y0_0) = g y0_0) → cbK (call 19 [(esi64 β) a0, eI a1] []) κ = Φ g} := mkF (p := fun (β : Bool) (κ : List T × List Ob → Option ρ) (g : Int → Option ρ) => (∀ (y0_0 : Int), κ (K_slices_Index_sint_int a0 a1 β y0_0) = g y0_0)) (ds := fun β => [(esi64 β) a0, eI a1]) ge19 (fun _ => rfl) _
def f_slices_Index_sint_int (a0 : List Int) (a1 : Int) {ρ : Type} (g0 : Int → Option ρ) : Option ρ := (F_slices_Index_sint_int a0 a1).1 g0
theorem U_slices_Index_sint_int {ρ : Type} (β : Bool) (a0 : List Int) (a1 : Int) (κ : List T × List Ob → Option ρ) : cbK (call 19 [.sl β (List.map eI a0), .int .i64 a1] []) κ = f_slices_Index_sint_int a0 a1 (fun y0_0 => κ (K_slices_Index_sint_int a0 a1 β y0_0)) := (F_slices_Index_sint_int a0 a1).2 β κ _ (fun _ => rfl)
@[go_sem] theorem W_slices_Index_sint_int {ρ : Type} (β : Bool) (a0 : List Int) (a1 : Int) (κ : List T × List Ob → Option ρ) : type_of% (by have h := @U_slices_Index_sint_int ρ β a0 a1 κ; simp only [K_slices_Index_sint_int] at h; exact h) := by have h := @U_slices_Index_sint_int ρ β a0 a1 κ; simp only [K_slices_Index_sint_int] at h; exact h
def K_short_turned_int (a0 : List Int) (a1 : Int) (β : Bool) (y0_0 : List Int) : List T × List Ob := ([.d (.sl false (List.map eI y0_0))], [])
attribute [go_sem] K_short_turned_int
def F_short_turned_int (a0 : List Int) (a1 : Int) {ρ : Type} : {Φ : ((List Int) → Option ρ) → Option ρ // ∀ (β : Bool) (κ : List T × List Ob → Option ρ) (g : (List Int) → Option ρ), (∀ (y0_0 : List Int), κ (K_short_turned_int a0 a1 β y0_0) = g y0_0) → cbK (call 18 [(esi64 β) a0, eI a1] []) κ = Φ g} := mkF (p := fun (β : Bool) (κ : List T × List Ob → Option ρ) (g : (List Int) → Option ρ) => (∀ (y0_0 : List Int), κ (K_short_turned_int a0 a1 β y0_0) = g y0_0)) (ds := fun β => [(esi64 β) a0, eI a1]) ge18 (fun _ => rfl) _
def f_short_turned_int (a0 : List Int) (a1 : Int) {ρ : Type} (g0 : (List Int) → Option ρ) : Option ρ := (F_short_turned_int a0 a1).1 g0
theorem U_short_turned_int {ρ : Type} (β : Bool) (a0 : List Int) (a1 : Int) (κ : List T × List Ob → Option ρ) : cbK (call 18 [.sl β (List.map eI a0), .int .i64 a1] []) κ = f_short_turned_int a0 a1 (fun y0_0 => κ (K_short_turned_int a0 a1 β y0_0)) := (F_short_turned_int a0 a1).2 β κ _ (fun _ => rfl)
@[go_sem] theorem W_short_turned_int {ρ : Type} (β : Bool) (a0 : List Int) (a1 : Int) (κ : List T × List Ob → Option ρ) : type_of% (by have h := @U_short_turned_int ρ β a0 a1 κ; simp only [K_short_turned_int] at h; exact h) := by have h := @U_short_turned_int ρ β a0 a1 κ; simp only [K_short_turned_int] at h; exact h
section
variable (p0 : List (List UInt8)) (p1 : Int) (p2 : Int) (p3 : List Int) (p4 : List (List Gapi_Edge)) (p5 : List Int) (p6 : List (List Bool)) (p7 : List Int) (p8 : List Int)
def S_short_twice_in_short_Lasso_0 (p0 : List (List UInt8)) (p1 : Int) (p2 : Int) (p3 : List Int) (p4 : List (List Gapi_Edge)) (p5 : List Int) (p6 : List (List Bool)) (p7 : List Int) (p8 : List Int) (β : Bool) (v0 : Int) (v1 : List (List UInt8 × List Int)) : St := ⟨[(0, .d (.sl false (List.map eS p0))), (1, .d (.int IntKind.i64 (0))), (2, .d (.int IntKind.i64 p1)), (3, .d (.fn (Fn.func 13) [] [.ptr (0), .ptr (1), .ptr (2)])), (11, .d (.map (3))), (18, .d (.sl false (List.map eS p0))), (19, .d (.int IntKind.i64 p2)), (20, .d (.int IntKind.i64 v0))], [], [.box (.d (.agg [.sl β (List.map eI p3), .sl β (List.map (esapi_Edge β) p4), .sl β (List.map (eK IntKind.u64) p5)])), .box (.d (.sl β (List.map (esbool β) p6))), .box (.agg [.own (tl eI p7), .own (tl eI p8)]), .map (entsB (false) eS eI v1)]⟩
attribute [go_sem] S_short_twice_in_short_Lasso_0
def X_short_twice_in_short_Lasso_0 (p0 : List (List UInt8)) (p1 : Int) (p2 : Int) (p3 : List Int) (p4 : List (List Gapi_Edge)) (p5 : List Int) (p6 : List (List Bool)) (p7 : List Int) (p8 : List Int) {ρ : Type} : LX (A := Int → (List (List UInt8 × List Int)) → ((Int) × (List (List UInt8 × List Int)) → Option ρ) → (Ex × St → Option ρ) → Option ρ) fun β Φ => ∀ (R : St → Option ρ) (g : (Int) × (List (List UInt8 × List Int)) → Option ρ) (κ : Ex × St → Option ρ), (∀ (v0 : Int) (v1 : List (List UInt8 × List Int)), R (S_short_twice_in_short_Lasso_0 p0 p1 p2 p3 p4 p5 p6 p7 p8 β v0 v1) = g (v0, v1)) → ∀ (v0 : Int) (v1 : List (List UInt8 × List Int)), go P hints hint15 b15 q15_0.1 (S_short_twice_in_short_Lasso_0 p0 p1 p2 p3 p4 p5 p6 p7 p8 β v0 v1) (kLp R κ) = Φ v0 v1 g κ := mkL _ _
theorem V_short_twice_in_short_Lasso_0 (p0 : List (List UInt8)) (p1 : Int) (p2 : Int) (p3 : List Int) (p4 : List (List Gapi_Edge)) (p5 : List Int) (p6 : List (List Bool)) (p7 : List Int) (p8 : List Int) {ρ : Type} (β : Bool) (κ : Ex × St → Option ρ) (v0 : Int) (v1 : List (List UInt8 × List Int)) : goLp P hints hint15 b15 0 (S_short_twice_in_short_Lasso_0 p0 p1 p2 p3 p4 p5 p6 p7 p8 β v0 v1) κ = iterC (fun v k => (X_short_twice_in_short_Lasso_0 p0 p1 p2 p3 p4 p5 p6 p7 p8 (ρ := ρ)).f β v.1 v.2 k κ) (v0, v1) := by
  refine goLp_iter (Φ := fun v k => (X_short_twice_in_short_Lasso_0 p0 p1 p2 p3 p4 p5 p6 p7 p8 (ρ := ρ)).f β v.1 v.2 k κ) q15_0.2 (S := fun v => S_short_twice_in_short_Lasso_0 p0 p1 p2 p3 p4 p5 p6 p7 p8 β v.1 v.2) ?_ (v0, v1)
  intro R g hR v
  have h := (X_short_twice_in_short_Lasso_0 p0 p1 p2 p3 p4 p5 p6 p7 p8 (ρ := ρ)).ok β R g κ
  exact h (fun v0 v1 => hR (v0, v1)) v.1 v.2
end
@[go_sem] theorem W_short_twice_in_short_Lasso_0_1f {ρ : Type} (p0 : List (List UInt8)) (p1 : Int) (p2 : Int) (p3 : List Int) (p4 : List (List Gapi_Edge)) (p5 : List Int) (p6 : List (List Bool)) (p7 : List Int) (p8 : List Int) (κ : Ex × St → Option ρ) (v0 : Int) : type_of% (by have h := V_short_twice_in_short_Lasso_0 p0 p1 p2 p3 p4 p5 p6 p7 p8 false κ v0 []; simp only [S_short_twice_in_short_Lasso_0, X_short_twice_in_short_Lasso_0, mkL, LX.f, tl_nil, tlo_rep, ents_nil, entsB_nil] at h; exact h) := by have h := V_short_twice_in_short_Lasso_0 p0 p1 p2 p3 p4 p5 p6 p7 p8 false κ v0 []; simp only [S_short_twice_in_short_Lasso_0, X_short_twice_in_short_Lasso_0, mkL, LX.f, tl_nil, tlo_rep, ents_nil, entsB_nil] at h; exact h
@[go_sem] theorem W_short_twice_in_short_Lasso_0_1t {ρ : Type} (p0 : List (List UInt8)) (p1 : Int) (p2 : Int) (p3 : List Int) (p4 : List (List Gapi_Edge)) (p5 : List Int) (p6 : List (List Bool)) (p7 : List Int) (p8 : List Int) (κ : Ex × St → Option ρ) (v0 : Int) : type_of% (by have h := V_short_twice_in_short_Lasso_0 p0 p1 p2 p3 p4 p5 p6 p7 p8 true κ v0 []; simp only [S_short_twice_in_short_Lasso_0, X_short_twice_in_short_Lasso_0, mkL, LX.f, tl_nil, tlo_rep, ents_nil, entsB_nil] at h; exact h) := by have h := V_short_twice_in_short_Lasso_0 p0 p1 p2 p3 p4 p5 p6 p7 p8 true κ v0 []; simp only [S_short_twice_in_short_Lasso_0, X_short_twice_in_short_Lasso_0, mkL, LX.f, tl_nil, tlo_rep, ents_nil, entsB_nil] at h; exact h
section
variable (p0 : List (List UInt8)) (p1 : Int) (p2 : List Int) (p3 : Int) (p4 : List Int) (p5 : List (List Gapi_Edge)) (p6 : List Int) (p7 : List (List Bool)) (p8 : List Int) (p9 : List Int) (p10 : List (List UInt8 × List Int))
def S_short_twice_in_short_Lasso_1 (p0 : List (List UInt8)) (p1 : Int) (p2 : List Int) (p3 : Int) (p4 : List Int) (p5 : List (List Gapi_Edge)) (p6 : List Int) (p7 : List (List Bool)) (p8 : List Int) (p9 : List Int) (p10 : List (List UInt8 × List Int)) (β : Bool) (v0 : Int) : St := ⟨[(0, .d (.sl false (List.map eS p0))), (1, .d (.int IntKind.i64 (0))), (3, .d (.fn (Fn.func 13) [] [.ptr (0), .ptr (1), .ptr (2)])), (11, .d (.map (3))), (14, .d (.int IntKind.i64 p1)), (15, .d (.sl false (List.map eI p2))), (16, .d (.int IntKind.i64 v0)), (34, .d (.int IntKind.i64 p3)), (35, .d (.int IntKind.i64 p1))], [], [.box (.d (.agg [.sl β (List.map eI p4), .sl β (List.map (esapi_Edge β) p5), .sl β (List.map (eK IntKind.u64) p6)])), .box (.d (.sl β (List.map (esbool β) p7))), .box (.agg [.own (tl eI p8), .own (tl eI p9)]), .map (entsB (true) eS eI p10)]⟩
attribute [go_sem] S_short_twice_in_short_Lasso_1
def X_short_twice_in_short_Lasso_1 (p0 : List (List UInt8)) (p1 : Int) (p2 : List Int) (p3 : Int) (p4 : List Int) (p5 : List (List Gapi_Edge)) (p6 : List Int) (p7 : List (List Bool)) (p8 : List Int) (p9 : List Int) (p10 : List (List UInt8 × List Int)) {ρ : Type} : LX (A := Int → (Int → Option ρ) → (Ex × St → Option ρ) → Option ρ) fun β Φ => ∀ (R : St → Option ρ) (g : Int → Option ρ) (κ : Ex × St → Option ρ), (∀ (v0 : Int), R (S_short_twice_in_short_Lasso_1 p0 p1 p2 p3 p4 p5 p6 p7 p8 p9 p10 β v0) = g v0) → ∀ (v0 : Int), go P hints hint15 b15 q15_1.1 (S_short_twice_in_short_Lasso_1 p0 p1 p2 p3 p4 p5 p6 p7 p8 p9 p10 β v0) (kLp R κ) = Φ v0 g κ := mkL _ _
theorem V_short_twice_in_short_Lasso_1 (p0 : List (List UInt8)) (p1 : Int) (p2 : List Int) (p3 : Int) (p4 : List Int) (p5 : List (List Gapi_Edge)) (p6 : List Int) (p7 : List (List Bool)) (p8 : List Int) (p9 : List Int) (p10 : List (List UInt8 × List Int)) {ρ : Type} (β : Bool) (κ : Ex × St → Option ρ) (v0 : Int) : goLp P hints hint15 b15 1 (S_short_twice_in_short_Lasso_1 p0 p1 p2 p3 p4 p5 p6 p7 p8 p9 p10 β v0) κ = iterC (fun v k => (X_short_twice_in_short_Lasso_1 p0 p1 p2 p3 p4 p5 p6 p7 p8 p9 p10 (ρ := ρ)).f β v k κ) v0 := by
  refine goLp_iter (Φ := fun v k => (X_short_twice_in_short_Lasso_1 p0 p1 p2 p3 p4 p5 p6 p7 p8 p9 p10 (ρ := ρ)).f β v k κ) q15_1.2 (S := fun v => S_short_twice_in_short_Lasso_1 p0 p1 p2 p3 p4 p5 p6 p7 p8 p9 p10 β v) ?_ v0
  intro R g hR v
  have h := (X_short_twice_in_short_Lasso_1 p0 p1 p2 p3 p4 p5 p6 p7 p8 p9 p10 (ρ := ρ)).ok β R g κ
  exact h (fun v0 => hR v0) v
end
@[go_sem] theorem W_short_twice_in_short_Lasso_1f {ρ : Type} (p0 : List (List UInt8)) (p1 : Int) (p2 : List Int) (p3 : Int) (p4 : List Int) (p5 : List (List Gapi_Edge)) (p6 : List Int) (p7 : List (List Bool)) (p8 : List Int) (p9 : List Int) (p10 : List (List UInt8 × List Int)) (κ : Ex × St → Option ρ) (v0 : Int) : type_of% (by have h := V_short_twice_in_short_Lasso_1 p0 p1 p2 p3 p4 p5 p6 p7 p8 p9 p10 false κ v0; simp only [S_short_twice_in_short_Lasso_1, X_short_twice_in_short_Lasso_1, mkL, LX.f] at h; exact h) := by have h := V_short_twice_in_short_Lasso_1 p0 p1 p2 p3 p4 p5 p6 p7 p8 p9 p10 false κ v0; simp only [S_short_twice_in_short_Lasso_1, X_short_twice_in_short_Lasso_1, mkL, LX.f] at h; exact h
@[go_sem] theorem W_short_twice_in_short_Lasso_1t {ρ : Type} (p0 : List (List UInt8)) (p1 : Int) (p2 : List Int) (p3 : Int) (p4 : List Int) (p5 : List (List Gapi_Edge)) (p6 : List Int) (p7 : List (List Bool)) (p8 : List Int) (p9 : List Int) (p10 : List (List UInt8 × List Int)) (κ : Ex × St → Option ρ) (v0 : Int) : type_of% (by have h := V_short_twice_in_short_Lasso_1 p0 p1 p2 p3 p4 p5 p6 p7 p8 p9 p10 true κ v0; simp only [S_short_twice_in_short_Lasso_1, X_short_twice_in_short_Lasso_1, mkL, LX.f] at h; exact h) := by have h := V_short_twice_in_short_Lasso_1 p0 p1 p2 p3 p4 p5 p6 p7 p8 p9 p10 true κ v0; simp only [S_short_twice_in_short_Lasso_1, X_short_twice_in_short_Lasso_1, mkL, LX.f] at h; exact h
section
variable (p0 : List (List UInt8)) (p1 : Int) (p2 : List Int) (p3 : List (List Gapi_Edge)) (p4 : List Int) (p5 : List (List Bool)) (p6 : List Int) (p7 : List Int) (p8 : List (List UInt8 × List Int))
def S_short_twice_in_short_Lasso_2 (p0 : List (List UInt8)) (p1 : Int) (p2 : List Int) (p3 : List (List Gapi_Edge)) (p4 : List Int) (p5 : List (List Bool)) (p6 : List Int) (p7 : List Int) (p8 : List (List UInt8 × List Int)) (β : Bool) (v0 : Int) (v1 : Bool) : St := ⟨[(0, .d (.sl false (List.map eS p0))), (1, .d (.int IntKind.i64 (0))), (3, .d (.fn (Fn.func 13) [] [.ptr (0), .ptr (1), .ptr (2)])), (11, .d (.map (3))), (34, .d (.int IntKind.i64 p1)), (35, .d (.int IntKind.i64 v0))], [], [.box (.d (.agg [.sl β (List.map eI p2), .sl β (List.map (esapi_Edge β) p3), .sl β (List.map (eK IntKind.u64) p4)])), .box (.d (.sl β (List.map (esbool β) p5))), .box (.agg [.own (tl eI p6), .own (tl eI p7)]), .map (entsB v1 eS eI p8)]⟩
attribute [go_sem] S_short_twice_in_short_Lasso_2
def X_short_twice_in_short_Lasso_2 (p0 : List (List UInt8)) (p1 : Int) (p2 : List Int) (p3 : List (List Gapi_Edge)) (p4 : List Int) (p5 : List (List Bool)) (p6 : List Int) (p7 : List Int) (p8 : List (List UInt8 × List Int)) {ρ : Type} : LX (A := Int → Bool → ((Int) × (Bool) → Option ρ) → (Ex × St → Option ρ) → Option ρ) fun β Φ => ∀ (R : St → Option ρ) (g : (Int) × (Bool) → Option ρ) (κ : Ex × St → Option ρ), (∀ (v0 : Int) (v1 : Bool), R (S_short_twice_in_short_Lasso_2 p0 p1 p2 p3 p4 p5 p6 p7 p8 β v0 v1) = g (v0, v1)) → ∀ (v0 : Int) (v1 : Bool), go P hints hint15 b15 q15_2.1 (S_short_twice_in_short_Lasso_2 p0 p1 p2 p3 p4 p5 p6 p7 p8 β v0 v1) (kLp R κ) = Φ v0 v1 g κ := mkL _ _
theorem V_short_twice_in_short_Lasso_2 (p0 : List (List UInt8)) (p1 : Int) (p2 : List Int) (p3 : List (List Gapi_Edge)) (p4 : List Int) (p5 : List (List Bool)) (p6 : List Int) (p7 : List Int) (p8 : List (List UInt8 × List Int)) {ρ : Type} (β : Bool) (κ : Ex × St → Option ρ) (v0 : Int) (v1 : Bool) : goLp P hints hint15 b15 2 (S_short_twice_in_short_Lasso_2 p0 p1 p2 p3 p4 p5 p6 p7 p8 β v0 v1) κ = iterC (fun v k => (X_short_twice_in_short_Lasso_2 p0 p1 p2 p3 p4 p5 p6 p7 p8 (ρ := ρ)).f β v.1 v.2 k κ) (v0, v1) := by
  refine goLp_iter (Φ := fun v k => (X_short_twice_in_short_Lasso_2 p0 p1 p2 p3 p4 p5 p6 p7 p8 (ρ := ρ)).f β v.1 v.2 k κ) q15_2.2 (S := fun v => S_short_twice_in_short_Lasso_2 p0 p1 p2 p3 p4 p5 p6 p7 p8 β v.1 v.2) ?_ (v0, v1)
  intro R g hR v
  have h := (X_short_twice_in_short_Lasso_2 p0 p1 p2 p3 p4 p5 p6 p7 p8 (ρ := ρ)).ok β R g κ
  exact h (fun v0 v1 => hR (v0, v1)) v.1 v.2
end
@[go_sem] theorem W_short_twice_in_short_Lasso_2f {ρ : Type} (p0 : List (List UInt8)) (p1 : Int) (p2 : List Int) (p3 : List (List Gapi_Edge)) (p4 : List Int) (p5 : List (List Bool)) (p6 : List Int) (p7 : List Int) (p8 : List (List UInt8 × List Int)) (κ : Ex × St → Option ρ) (v0 : Int) (v1 : Bool) : type_of% (by have h := V_short_twice_in_short_Lasso_2 p0 p1 p2 p3 p4 p5 p6 p7 p8 false κ v0 v1; simp only [S_short_twice_in_short_Lasso_2, X_short_twice_in_short_Lasso_2, mkL, LX.f] at h; exact h) := by have h := V_short_twice_in_short_Lasso_2 p0 p1 p2 p3 p4 p5 p6 p7 p8 false κ v0 v1; simp only [S_short_twice_in_short_Lasso_2, X_short_twice_in_short_Lasso_2, mkL, LX.f] at h; exact h
@[go_sem] theorem W_short_twice_in_short_Lasso_2t {ρ : Type} (p0 : List (List UInt8)) (p1 : Int) (p2 : List Int) (p3 : List (List Gapi_Edge)) (p4 : List Int) (p5 : List (List Bool)) (p6 : List Int) (p7 : List Int) (p8 : List (List UInt8 × List Int)) (κ : Ex × St → Option ρ) (v0 : Int) (v1 : Bool) : type_of% (by have h := V_short_twice_in_short_Lasso_2 p0 p1 p2 p3 p4 p5 p6 p7 p8 true κ v0 v1; simp only [S_short_twice_in_short_Lasso_2, X_short_twice_in_short_Lasso_2, mkL, LX.f] at h; exact h) := by have h := V_short_twice_in_short_Lasso_2 p0 p1 p2 p3 p4 p5 p6 p7 p8 true κ v0 v1; simp only [S_short_twice_in_short_Lasso_2, X_short_twice_in_short_Lasso_2, mkL, LX.f] at h; exact h
section
variable (p0 : List Int) (p1 : List (List Gapi_Edge)) (p2 : List Int) (p3 : List (List Bool)) (p4 : List Int)
def S_short_Lasso_0 (p0 : List Int) (p1 : List (List Gapi_Edge)) (p2 : List Int) (p3 : List (List Bool)) (p4 : List Int) (β : Bool) (v0 : List Int) : St := ⟨[(3, .d (.ptr (0))), (6, .loc (Root.l 6 0) [] (0) 0), (7, .d (.ptr (2))), (8, .d (.fn (Fn.func 13) [] [.ptr (0), .ptr (1), .ptr (2)]))], [((6, 0), .own [.agg [.own [], .own []]])], [.box (.d (.agg [.sl β (List.map eI p0), .sl β (List.map (esapi_Edge β) p1), .sl β (List.map (eK IntKind.u64) p2)])), .box (.d (.sl β (List.map (esbool β) p3))), .box (.agg [.own (tl eI p4), .own (tl eI v0)])]⟩
attribute [go_sem] S_short_Lasso_0
def X_short_Lasso_0 (p0 : List Int) (p1 : List (List Gapi_Edge)) (p2 : List Int) (p3 : List (List Bool)) (p4 : List Int) {ρ : Type} : LX (A := (List Int) → (List Int → Option ρ) → (Ex × St → Option ρ) → Option ρ) fun β Φ => ∀ (R : St → Option ρ) (g : List Int → Option ρ) (κ : Ex × St → Option ρ), (∀ (v0 : List Int), R (S_short_Lasso_0 p0 p1 p2 p3 p4 β v0) = g v0) → ∀ (v0 : List Int), go P hints hint7 b7 q7_0.1 (S_short_Lasso_0 p0 p1 p2 p3 p4 β v0) (kLp R κ) = Φ v0 g κ := mkL _ _
theorem V_short_Lasso_0 (p0 : List Int) (p1 : List (List Gapi_Edge)) (p2 : List Int) (p3 : List (List Bool)) (p4 : List Int) {ρ : Type} (β : Bool) (κ : Ex × St → Option ρ) (v0 : List Int) : goLp P hints hint7 b7 0 (S_short_Lasso_0 p0 p1 p2 p3 p4 β v0) κ = iterC (fun v k => (X_short_Lasso_0 p0 p1 p2 p3 p4 (ρ := ρ)).f β v k κ) v0 := by
  refine goLp_iter (Φ := fun v k => (X_short_Lasso_0 p0 p1 p2 p3 p4 (ρ := ρ)).f β v k κ) q7_0.2 (S := fun v => S_short_Lasso_0 p0 p1 p2 p3 p4 β v) ?_ v0
  intro R g hR v
  have h := (X_short_Lasso_0 p0 p1 p2 p3 p4 (ρ := ρ)).ok β R g κ
  exact h (fun v0 => hR v0) v
end
@[go_sem] theorem W_short_Lasso_0f {ρ : Type} (p0 : List Int) (p1 : List (List Gapi_Edge)) (p2 : List Int) (p3 : List (List Bool)) (p4 : List Int) (κ : Ex × St → Option ρ) (v0 : List Int) : type_of% (by have h := V_short_Lasso_0 p0 p1 p2 p3 p4 false κ v0; simp only [S_short_Lasso_0, X_short_Lasso_0, mkL, LX.f] at h; exact h) := by have h := V_short_Lasso_0 p0 p1 p2 p3 p4 false κ v0; simp only [S_short_Lasso_0, X_short_Lasso_0, mkL, LX.f] at h; exact h
@[go_sem] theorem W_short_Lasso_0t {ρ : Type} (p0 : List Int) (p1 : List (List Gapi_Edge)) (p2 : List Int) (p3 : List (List Bool)) (p4 : List Int) (κ : Ex × St → Option ρ) (v0 : List Int) : type_of% (by have h := V_short_Lasso_0 p0 p1 p2 p3 p4 true κ v0; simp only [S_short_Lasso_0, X_short_Lasso_0, mkL, LX.f] at h; exact h) := by have h := V_short_Lasso_0 p0 p1 p2 p3 p4 true κ v0; simp only [S_short_Lasso_0, X_short_Lasso_0, mkL, LX.f] at h; exact h
section
variable (p0 : Nat) (p1 : Int) (p2 : List Int) (p3 : List (List Gapi_Edge)) (p4 : List Int) (p5 : List (List Bool)) (p6 : List Int) (p7 : List Int)
def S_short_Lasso_1 (p0 : Nat) (p1 : Int) (p2 : List Int) (p3 : List (List Gapi_Edge)) (p4 : List Int) (p5 : List (List Bool)) (p6 : List Int) (p7 : List Int) (β : Bool) (n0 : Nat) (v0 : Int) (v1 : List Bool) : St := ⟨[(3, .d (.ptr (0))), (6, .loc (Root.l 6 0) [] (0) 0), (7, .d (.ptr (2))), (12, .bor (.l 12 0) [] 0 n0), (57, .bor (Root.o 2) [(0, 1)] (0) p0), (58, .d (.int IntKind.i64 p1)), (59, .d (.int IntKind.i64 v0))], [((6, 0), .own [.agg [.own [], .own []]]), ((12, 0), .own (tl eB v1))], [.box (.d (.agg [.sl β (List.map eI p2), .sl β (List.map (esapi_Edge β) p3), .sl β (List.map (eK IntKind.u64) p4)])), .box (.d (.sl β (List.map (esbool β) p5))), .box (.agg [.own (tl eI p6), .own (tl eI p7)])]⟩
attribute [go_sem] S_short_Lasso_1
def X_short_Lasso_1 (p0 : Nat) (p1 : Int) (p2 : List Int) (p3 : List (List Gapi_Edge)) (p4 : List Int) (p5 : List (List Bool)) (p6 : List Int) (p7 : List Int) {ρ : Type} : LX (A := Int → (List Bool) → ((Int) × (List Bool) → Option ρ) → (Ex × St → Option ρ) → Option ρ) fun β Φ => ∀ (R : St → Option ρ) (g : (Int) × (List Bool) → Option ρ) (κ : Ex × St → Option ρ), (∀ (n0 : Nat) (v0 : Int) (v1 : List Bool), n0 = List.length v1 → R (S_short_Lasso_1 p0 p1 p2 p3 p4 p5 p6 p7 β n0 v0 v1) = g (v0, v1)) → ∀ (v0 : Int) (v1 : List Bool), go P hints hint7 b7 q7_1.1 (S_short_Lasso_1 p0 p1 p2 p3 p4 p5 p6 p7 β (List.length v1) v0 v1) (kLp R κ) = Φ v0 v1 g κ := mkL _ _
theorem V_short_Lasso_1 (p0 : Nat) (p1 : Int) (p2 : List Int) (p3 : List (List Gapi_Edge)) (p4 : List Int) (p5 : List (List Bool)) (p6 : List Int) (p7 : List Int) {ρ : Type} (β : Bool) (κ : Ex × St → Option ρ) (n0 : Nat) (v0 : Int) (v1 : List Bool) (hn0 : n0 = List.length v1) : goLp P hints hint7 b7 1 (S_short_Lasso_1 p0 p1 p2 p3 p4 p5 p6 p7 β n0 v0 v1) κ = iterC (fun v k => (X_short_Lasso_1 p0 p1 p2 p3 p4 p5 p6 p7 (ρ := ρ)).f β v.1 v.2 k κ) (v0, v1) := by
  subst hn0; refine goLp_iter (Φ := fun v k => (X_short_Lasso_1 p0 p1 p2 p3 p4 p5 p6 p7 (ρ := ρ)).f β v.1 v.2 k κ) q7_1.2 (S := fun v => S_short_Lasso_1 p0 p1 p2 p3 p4 p5 p6 p7 β (List.length v.2) v.1 v.2) ?_ (v0, v1)
  intro R g hR v
  have h := (X_short_Lasso_1 p0 p1 p2 p3 p4 p5 p6 p7 (ρ := ρ)).ok β R g κ
  exact h (fun n0 v0 v1 hn0 => by subst hn0; exact hR (v0, v1)) v.1 v.2
end
@[go_sem] theorem W_short_Lasso_1f {ρ : Type} (p0 : Nat) (p1 : Int) (p2 : List Int) (p3 : List (List Gapi_Edge)) (p4 : List Int) (p5 : List (List Bool)) (p6 : List Int) (p7 : List Int) (κ : Ex × St → Option ρ) (n0 : Nat) (v0 : Int) (v1 : List Bool) (hn0 : n0 = List.length v1) : type_of% (by have h := V_short_Lasso_1 p0 p1 p2 p3 p4 p5 p6 p7 false κ n0 v0 v1 hn0; simp only [S_short_Lasso_1, X_short_Lasso_1, mkL, LX.f] at h; exact h) := by have h := V_short_Lasso_1 p0 p1 p2 p3 p4 p5 p6 p7 false κ n0 v0 v1 hn0; simp only [S_short_Lasso_1, X_short_Lasso_1, mkL, LX.f] at h; exact h
@[go_sem] theorem W_short_Lasso_1t {ρ : Type} (p0 : Nat) (p1 : Int) (p2 : List Int) (p3 : List (List Gapi_Edge)) (p4 : List Int) (p5 : List (List Bool)) (p6 : List Int) (p7 : List Int) (κ : Ex × St → Option ρ) (n0 : Nat) (v0 : Int) (v1 : List Bool) (hn0 : n0 = List.length v1) : type_of% (by have h := V_short_Lasso_1 p0 p1 p2 p3 p4 p5 p6 p7 true κ n0 v0 v1 hn0; simp only [S_short_Lasso_1, X_short_Lasso_1, mkL, LX.f] at h; exact h) := by have h := V_short_Lasso_1 p0 p1 p2 p3 p4 p5 p6 p7 true κ n0 v0 v1 hn0; simp only [S_short_Lasso_1, X_short_Lasso_1, mkL, LX.f] at h; exact h
def K_short_Lasso (a0 : Gapi_Graph) (a1 : List (List Bool)) (a2 : Gapi_Lasso) (β : Bool) (y0_0 : List Int) (y0_1 : List Int) : List T × List Ob := ([.d (.agg [.sl false (List.map eI y0_0), .sl false (List.map eI y0_1)])], [])
attribute [go_sem] K_short_Lasso
def F_short_Lasso (a0 : Gapi_Graph) (a1 : List (List Bool)) (a2 : Gapi_Lasso) {ρ : Type} : {Φ : ((List Int) → (List Int) → Option ρ) → Option ρ // ∀ (β : Bool) (κ : List T × List Ob → Option ρ) (g : (List Int) → (List Int) → Option ρ), (∀ (y0_0 : List Int) (y0_1 : List Int), κ (K_short_Lasso a0 a1 a2 β y0_0 y0_1) = g y0_0 y0_1) → cbK (call 7 [(eapi_Graph β) a0, (essbool β) a1, (eapi_Lasso β) a2] []) κ = Φ g} := mkF (p := fun (β : Bool) (κ : List T × List Ob → Option ρ) (g : (List Int) → (List Int) → Option ρ) => (∀ (y0_0 : List Int) (y0_1 : List Int), κ (K_short_Lasso a0 a1 a2 β y0_0 y0_1) = g y0_0 y0_1)) (ds := fun β => [(eapi_Graph β) a0, (essbool β) a1, (eapi_Lasso β) a2]) ge7 (fun _ => rfl) _
def f_short_Lasso (a0 : Gapi_Graph) (a1 : List (List Bool)) (a2 : Gapi_Lasso) {ρ : Type} (g0 : (List Int) → (List Int) → Option ρ) : Option ρ := (F_short_Lasso a0 a1 a2).1 g0
theorem U_short_Lasso {ρ : Type} (β : Bool) (a0_0 : List Int) (a0_1 : List (List Gapi_Edge)) (a0_2 : List Int) (a1 : List (List Bool)) (a2_0 : List Int) (a2_1 : List Int) (κ : List T × List Ob → Option ρ) : cbK (call 7 [.agg [.sl β (List.map eI a0_0), .sl β (List.map (esapi_Edge β) a0_1), .sl β (List.map (eK .u64) a0_2)], .sl β (List.map (esbool β) a1), .agg [.sl β (List.map eI a2_0), .sl β (List.map eI a2_1)]] []) κ = f_short_Lasso (Gapi_Graph.mk a0_0 a0_1 a0_2) a1 (Gapi_Lasso.mk a2_0 a2_1) (fun y0_0 y0_1 => κ (K_short_Lasso (Gapi_Graph.mk a0_0 a0_1 a0_2) a1 (Gapi_Lasso.mk a2_0 a2_1) β y0_0 y0_1)) := (F_short_Lasso (Gapi_Graph.mk a0_0 a0_1 a0_2) a1 (Gapi_Lasso.mk a2_0 a2_1)).2 β κ _ (fun _ _ => rfl)
@[go_sem] theorem W_short_Lasso {ρ : Type} (β : Bool) (a0_0 : List Int) (a0_1 : List (List Gapi_Edge)) (a0_2 : List Int) (a1 : List (List Bool)) (a2_0 : List Int) (a2_1 : List Int) (κ : List T × List Ob → Option ρ) : type_of% (by have h := @U_short_Lasso ρ β a0_0 a0_1 a0_2 a1 a2_0 a2_1 κ; simp only [K_short_Lasso] at h; exact h) := by have h := @U_short_Lasso ρ β a0_0 a0_1 a0_2 a1 a2_0 a2_1 κ; simp only [K_short_Lasso] at h; exact h
section
variable (p0 : List Int) (p1 : List Int)
def S_r01_Same_0 (p0 : List Int) (p1 : List Int) (β : Bool) (v0 : Int) : St := ⟨[(0, .d (.sl β (List.map eI p0))), (1, .d (.sl β (List.map eI p1))), (5, .d (.int IntKind.i64 v0))], [], []⟩
attribute [go_sem] S_r01_Same_0
def X_r01_Same_0 (p0 : List Int) (p1 : List Int) {ρ : Type} : LX (A := Int → (Int → Option ρ) → (Ex × St → Option ρ) → Option ρ) fun β Φ => ∀ (R : St → Option ρ) (g : Int → Option ρ) (κ : Ex × St → Option ρ), (∀ (v0 : Int), R (S_r01_Same_0 p0 p1 β v0) = g v0) → ∀ (v0 : Int), go P hints hint9 b9 q9_0.1 (S_r01_Same_0 p0 p1 β v0) (kLp R κ) = Φ v0 g κ := mkL _ _
theorem V_r01_Same_0 (p0 : List Int) (p1 : List Int) {ρ : Type} (β : Bool) (κ : Ex × St → Option ρ) (v0 : Int) : goLp P hints hint9 b9 0 (S_r01_Same_0 p0 p1 β v0) κ = iterC (fun v k => (X_r01_Same_0 p0 p1 (ρ := ρ)).f β v k κ) v0 := by
  refine goLp_iter (Φ := fun v k => (X_r01_Same_0 p0 p1 (ρ := ρ)).f β v k κ) q9_0.2 (S := fun v => S_r01_Same_0 p0 p1 β v) ?_ v0
  intro R g hR v
  have h := (X_r01_Same_0 p0 p1 (ρ := ρ)).ok β R g κ
  exact h (fun v0 => hR v0) v
end
@[go_sem] theorem W_r01_Same_0f {ρ : Type} (p0 : List Int) (p1 : List Int) (κ : Ex × St → Option ρ) (v0 : Int) : type_of% (by have h := V_r01_Same_0 p0 p1 false κ v0; simp only [S_r01_Same_0, X_r01_Same_0, mkL, LX.f] at h; exact h) := by have h := V_r01_Same_0 p0 p1 false κ v0; simp only [S_r01_Same_0, X_r01_Same_0, mkL, LX.f] at h; exact h
@[go_sem] theorem W_r01_Same_0t {ρ : Type} (p0 : List Int) (p1 : List Int) (κ : Ex × St → Option ρ) (v0 : Int) : type_of% (by have h := V_r01_Same_0 p0 p1 true κ v0; simp only [S_r01_Same_0, X_r01_Same_0, mkL, LX.f] at h; exact h) := by have h := V_r01_Same_0 p0 p1 true κ v0; simp only [S_r01_Same_0, X_r01_Same_0, mkL, LX.f] at h; exact h
def K_r01_Same (a0 : List Int) (a1 : List Int) (β : Bool) (y0_0 : Bool) : List T × List Ob := ([.d (.bool y0_0)], [])
attribute [go_sem] K_r01_Same
def F_r01_Same (a0 : List Int) (a1 : List Int) {ρ : Type} : {Φ : (Bool → Option ρ) → Option ρ // ∀ (β : Bool) (κ : List T × List Ob → Option ρ) (g : Bool → Option ρ), (∀ (y0_0 : Bool), κ (K_r01_Same a0 a1 β y0_0) = g y0_0) → cbK (call 9 [(esi64 β) a0, (esi64 β) a1] []) κ = Φ g} := mkF (p := fun (β : Bool) (κ : List T × List Ob → Option ρ) (g : Bool → Option ρ) => (∀ (y0_0 : Bool), κ (K_r01_Same a0 a1 β y0_0) = g y0_0)) (ds := fun β => [(esi64 β) a0, (esi64 β) a1]) ge9 (fun _ => rfl) _
def f_r01_Same (a0 : List Int) (a1 : List Int) {ρ : Type} (g0 : Bool → Option ρ) : Option ρ := (F_r01_Same a0 a1).1 g0
theorem U_r01_Same {ρ : Type} (β : Bool) (a0 : List Int) (a1 : List Int) (κ : List T × List Ob → Option ρ) : cbK (call 9 [.sl β (List.map eI a0), .sl β (List.map eI a1)] []) κ = f_r01_Same a0 a1 (fun y0_0 => κ (K_r01_Same a0 a1 β y0_0)) := (F_r01_Same a0 a1).2 β κ _ (fun _ => rfl)
@[go_sem] theorem W_r01_Same {ρ : Type} (β : Bool) (a0 : List Int) (a1 : List Int) (κ : List T × List Ob → Option ρ) : type_of% (by have h := @U_r01_Same ρ β a0 a1 κ; simp only [K_r01_Same] at h; exact h) := by have h := @U_r01_Same ρ β a0 a1 κ; simp only [K_r01_Same] at h; exact h
theorem U_law46_lives : call 6 [] [] = some ([.d (.bool true)], []) := callX_iff.2 ⟨60, by kernel_rfl⟩
@[go_sem] theorem W_law46_lives {ρ : Type} (κ : List T × List Ob → Option ρ) : cbK (call 6 [] []) κ = κ ([.d (.bool true)], []) := by rw [U_law46_lives]; rfl
section
variable (p0 : List Int) (p1 : Int) (p2 : Int)
end
def K_r06_Node (a0 : Gapi_Graph) (a1 : Int) (β : Bool) (y0_0 : Bool) : List T × List Ob := ([.d (.bool y0_0)], [])
attribute [go_sem] K_r06_Node
def F_r06_Node (a0 : Gapi_Graph) (a1 : Int) {ρ : Type} : {Φ : (Bool → Option ρ) → Option ρ // ∀ (β : Bool) (κ : List T × List Ob → Option ρ) (g : Bool → Option ρ), (∀ (y0_0 : Bool), κ (K_r06_Node a0 a1 β y0_0) = g y0_0) → cbK (call 24 [(eapi_Graph β) a0, eI a1] []) κ = Φ g} := mkF (p := fun (β : Bool) (κ : List T × List Ob → Option ρ) (g : Bool → Option ρ) => (∀ (y0_0 : Bool), κ (K_r06_Node a0 a1 β y0_0) = g y0_0)) (ds := fun β => [(eapi_Graph β) a0, eI a1]) ge24 (fun _ => rfl) _
def f_r06_Node (a0 : Gapi_Graph) (a1 : Int) {ρ : Type} (g0 : Bool → Option ρ) : Option ρ := (F_r06_Node a0 a1).1 g0
theorem U_r06_Node {ρ : Type} (β : Bool) (a0_0 : List Int) (a0_1 : List (List Gapi_Edge)) (a0_2 : List Int) (a1 : Int) (κ : List T × List Ob → Option ρ) : cbK (call 24 [.agg [.sl β (List.map eI a0_0), .sl β (List.map (esapi_Edge β) a0_1), .sl β (List.map (eK .u64) a0_2)], .int .i64 a1] []) κ = f_r06_Node (Gapi_Graph.mk a0_0 a0_1 a0_2) a1 (fun y0_0 => κ (K_r06_Node (Gapi_Graph.mk a0_0 a0_1 a0_2) a1 β y0_0)) := (F_r06_Node (Gapi_Graph.mk a0_0 a0_1 a0_2) a1).2 β κ _ (fun _ => rfl)
@[go_sem] theorem W_r06_Node {ρ : Type} (β : Bool) (a0_0 : List Int) (a0_1 : List (List Gapi_Edge)) (a0_2 : List Int) (a1 : Int) (κ : List T × List Ob → Option ρ) : type_of% (by have h := @U_r06_Node ρ β a0_0 a0_1 a0_2 a1 κ; simp only [K_r06_Node] at h; exact h) := by have h := @U_r06_Node ρ β a0_0 a0_1 a0_2 a1 κ; simp only [K_r06_Node] at h; exact h
section
variable (p0 : Int) (p1 : Int) (p2 : List Int) (p3 : List (List Gapi_Edge)) (p4 : List Int)
def S_r39_edge_0 (p0 : Int) (p1 : Int) (p2 : List Int) (p3 : List (List Gapi_Edge)) (p4 : List Int) (β : Bool) (v0 : Int) : St := ⟨[(1, .d (.int IntKind.i64 p0)), (2, .d (.int IntKind.i64 p1)), (3, .loc (Root.l 3 0) [] (0) 0), (7, .d (.int IntKind.i64 v0))], [((3, 0), .own [.d (.agg [.sl β (List.map eI p2), .sl β (List.map (esapi_Edge β) p3), .sl β (List.map (eK IntKind.u64) p4)])])], []⟩
attribute [go_sem] S_r39_edge_0
def X_r39_edge_0 (p0 : Int) (p1 : Int) (p2 : List Int) (p3 : List (List Gapi_Edge)) (p4 : List Int) {ρ : Type} : LX (A := Int → (Int → Option ρ) → (Ex × St → Option ρ) → Option ρ) fun β Φ => ∀ (R : St → Option ρ) (g : Int → Option ρ) (κ : Ex × St → Option ρ), (∀ (v0 : Int), R (S_r39_edge_0 p0 p1 p2 p3 p4 β v0) = g v0) → ∀ (v0 : Int), go P hints hint25 b25 q25_0.1 (S_r39_edge_0 p0 p1 p2 p3 p4 β v0) (kLp R κ) = Φ v0 g κ := mkL _ _
theorem V_r39_edge_0 (p0 : Int) (p1 : Int) (p2 : List Int) (p3 : List (List Gapi_Edge)) (p4 : List Int) {ρ : Type} (β : Bool) (κ : Ex × St → Option ρ) (v0 : Int) : goLp P hints hint25 b25 0 (S_r39_edge_0 p0 p1 p2 p3 p4 β v0) κ = iterC (fun v k => (X_r39_edge_0 p0 p1 p2 p3 p4 (ρ := ρ)).f β v k κ) v0 := by
  refine goLp_iter (Φ := fun v k => (X_r39_edge_0 p0 p1 p2 p3 p4 (ρ := ρ)).f β v k κ) q25_0.2 (S := fun v => S_r39_edge_0 p0 p1 p2 p3 p4 β v) ?_ v0
  intro R g hR v
  have h := (X_r39_edge_0 p0 p1 p2 p3 p4 (ρ := ρ)).ok β R g κ
  exact h (fun v0 => hR v0) v
end
@[go_sem] theorem W_r39_edge_0f {ρ : Type} (p0 : Int) (p1 : Int) (p2 : List Int) (p3 : List (List Gapi_Edge)) (p4 : List Int) (κ : Ex × St → Option ρ) (v0 : Int) : type_of% (by have h := V_r39_edge_0 p0 p1 p2 p3 p4 false κ v0; simp only [S_r39_edge_0, X_r39_edge_0, mkL, LX.f] at h; exact h) := by have h := V_r39_edge_0 p0 p1 p2 p3 p4 false κ v0; simp only [S_r39_edge_0, X_r39_edge_0, mkL, LX.f] at h; exact h
@[go_sem] theorem W_r39_edge_0t {ρ : Type} (p0 : Int) (p1 : Int) (p2 : List Int) (p3 : List (List Gapi_Edge)) (p4 : List Int) (κ : Ex × St → Option ρ) (v0 : Int) : type_of% (by have h := V_r39_edge_0 p0 p1 p2 p3 p4 true κ v0; simp only [S_r39_edge_0, X_r39_edge_0, mkL, LX.f] at h; exact h) := by have h := V_r39_edge_0 p0 p1 p2 p3 p4 true κ v0; simp only [S_r39_edge_0, X_r39_edge_0, mkL, LX.f] at h; exact h
def K_r39_edge (a0 : Gapi_Graph) (a1 : Int) (a2 : Int) (β : Bool) (y0_0 : Bool) : List T × List Ob := ([.d (.bool y0_0)], [])
attribute [go_sem] K_r39_edge
def F_r39_edge (a0 : Gapi_Graph) (a1 : Int) (a2 : Int) {ρ : Type} : {Φ : (Bool → Option ρ) → Option ρ // ∀ (β : Bool) (κ : List T × List Ob → Option ρ) (g : Bool → Option ρ), (∀ (y0_0 : Bool), κ (K_r39_edge a0 a1 a2 β y0_0) = g y0_0) → cbK (call 25 [(eapi_Graph β) a0, eI a1, eI a2] []) κ = Φ g} := mkF (p := fun (β : Bool) (κ : List T × List Ob → Option ρ) (g : Bool → Option ρ) => (∀ (y0_0 : Bool), κ (K_r39_edge a0 a1 a2 β y0_0) = g y0_0)) (ds := fun β => [(eapi_Graph β) a0, eI a1, eI a2]) ge25 (fun _ => rfl) _
def f_r39_edge (a0 : Gapi_Graph) (a1 : Int) (a2 : Int) {ρ : Type} (g0 : Bool → Option ρ) : Option ρ := (F_r39_edge a0 a1 a2).1 g0
theorem U_r39_edge {ρ : Type} (β : Bool) (a0_0 : List Int) (a0_1 : List (List Gapi_Edge)) (a0_2 : List Int) (a1 : Int) (a2 : Int) (κ : List T × List Ob → Option ρ) : cbK (call 25 [.agg [.sl β (List.map eI a0_0), .sl β (List.map (esapi_Edge β) a0_1), .sl β (List.map (eK .u64) a0_2)], .int .i64 a1, .int .i64 a2] []) κ = f_r39_edge (Gapi_Graph.mk a0_0 a0_1 a0_2) a1 a2 (fun y0_0 => κ (K_r39_edge (Gapi_Graph.mk a0_0 a0_1 a0_2) a1 a2 β y0_0)) := (F_r39_edge (Gapi_Graph.mk a0_0 a0_1 a0_2) a1 a2).2 β κ _ (fun _ => rfl)
@[go_sem] theorem W_r39_edge {ρ : Type} (β : Bool) (a0_0 : List Int) (a0_1 : List (List Gapi_Edge)) (a0_2 : List Int) (a1 : Int) (a2 : Int) (κ : List T × List Ob → Option ρ) : type_of% (by have h := @U_r39_edge ρ β a0_0 a0_1 a0_2 a1 a2 κ; simp only [K_r39_edge] at h; exact h) := by have h := @U_r39_edge ρ β a0_0 a0_1 a0_2 a1 a2 κ; simp only [K_r39_edge] at h; exact h
def K_r39_of (a0 : List Bool) (a1 : Int) (β : Bool) (y0_0 : Bool) : List T × List Ob := ([.d (.bool y0_0)], [])
attribute [go_sem] K_r39_of
def F_r39_of (a0 : List Bool) (a1 : Int) {ρ : Type} : {Φ : (Bool → Option ρ) → Option ρ // ∀ (β : Bool) (κ : List T × List Ob → Option ρ) (g : Bool → Option ρ), (∀ (y0_0 : Bool), κ (K_r39_of a0 a1 β y0_0) = g y0_0) → cbK (call 26 [(esbool β) a0, eI a1] []) κ = Φ g} := mkF (p := fun (β : Bool) (κ : List T × List Ob → Option ρ) (g : Bool → Option ρ) => (∀ (y0_0 : Bool), κ (K_r39_of a0 a1 β y0_0) = g y0_0)) (ds := fun β => [(esbool β) a0, eI a1]) ge26 (fun _ => rfl) _
def f_r39_of (a0 : List Bool) (a1 : Int) {ρ : Type} (g0 : Bool → Option ρ) : Option ρ := (F_r39_of a0 a1).1 g0
theorem U_r39_of {ρ : Type} (β : Bool) (a0 : List Bool) (a1 : Int) (κ : List T × List Ob → Option ρ) : cbK (call 26 [.sl β (List.map eB a0), .int .i64 a1] []) κ = f_r39_of a0 a1 (fun y0_0 => κ (K_r39_of a0 a1 β y0_0)) := (F_r39_of a0 a1).2 β κ _ (fun _ => rfl)
@[go_sem] theorem W_r39_of {ρ : Type} (β : Bool) (a0 : List Bool) (a1 : Int) (κ : List T × List Ob → Option ρ) : type_of% (by have h := @U_r39_of ρ β a0 a1 κ; simp only [K_r39_of] at h; exact h) := by have h := @U_r39_of ρ β a0 a1 κ; simp only [K_r39_of] at h; exact h
section
variable (p0 : List (List Bool)) (p1 : Nat) (p2 : List Int) (p3 : List (List Gapi_Edge)) (p4 : List Int) (p5 : List Int) (p6 : List Int) (p7 : List Int)
def S_r39_Is_0 (p0 : List (List Bool)) (p1 : Nat) (p2 : List Int) (p3 : List (List Gapi_Edge)) (p4 : List Int) (p5 : List Int) (p6 : List Int) (p7 : List Int) (β : Bool) (v0 : Int) : St := ⟨[(1, .d (.sl β (List.map (esbool β) p0))), (3, .loc (Root.l 3 0) [] (0) 0), (5, .loc (Root.l 5 0) [] (0) 0), (7, .bor (.l 7 0) [] 0 p1), (8, .d (.int IntKind.i64 v0))], [((3, 0), .own [.d (.agg [.sl β (List.map eI p2), .sl β (List.map (esapi_Edge β) p3), .sl β (List.map (eK IntKind.u64) p4)])]), ((5, 0), .own [.d (.agg [.sl β (List.map eI p5), .sl β (List.map eI p6)])]), ((7, 0), .own (tl eI p7))], []⟩
attribute [go_sem] S_r39_Is_0
def X_r39_Is_0 (p0 : List (List Bool)) (p1 : Nat) (p2 : List Int) (p3 : List (List Gapi_Edge)) (p4 : List Int) (p5 : List Int) (p6 : List Int) (p7 : List Int) {ρ : Type} : LX (A := Int → (Int → Option ρ) → (Ex × St → Option ρ) → Option ρ) fun β Φ => ∀ (R : St → Option ρ) (g : Int → Option ρ) (κ : Ex × St → Option ρ), (∀ (v0 : Int), R (S_r39_Is_0 p0 p1 p2 p3 p4 p5 p6 p7 β v0) = g v0) → ∀ (v0 : Int), go P hints hint10 b10 q10_0.1 (S_r39_Is_0 p0 p1 p2 p3 p4 p5 p6 p7 β v0) (kLp R κ) = Φ v0 g κ := mkL _ _
theorem V_r39_Is_0 (p0 : List (List Bool)) (p1 : Nat) (p2 : List Int) (p3 : List (List Gapi_Edge)) (p4 : List Int) (p5 : List Int) (p6 : List Int) (p7 : List Int) {ρ : Type} (β : Bool) (κ : Ex × St → Option ρ) (v0 : Int) : goLp P hints hint10 b10 0 (S_r39_Is_0 p0 p1 p2 p3 p4 p5 p6 p7 β v0) κ = iterC (fun v k => (X_r39_Is_0 p0 p1 p2 p3 p4 p5 p6 p7 (ρ := ρ)).f β v k κ) v0 := by
  refine goLp_iter (Φ := fun v k => (X_r39_Is_0 p0 p1 p2 p3 p4 p5 p6 p7 (ρ := ρ)).f β v k κ) q10_0.2 (S := fun v => S_r39_Is_0 p0 p1 p2 p3 p4 p5 p6 p7 β v) ?_ v0
  intro R g hR v
  have h := (X_r39_Is_0 p0 p1 p2 p3 p4 p5 p6 p7 (ρ := ρ)).ok β R g κ
  exact h (fun v0 => hR v0) v
end
@[go_sem] theorem W_r39_Is_0f {ρ : Type} (p0 : List (List Bool)) (p1 : Nat) (p2 : List Int) (p3 : List (List Gapi_Edge)) (p4 : List Int) (p5 : List Int) (p6 : List Int) (p7 : List Int) (κ : Ex × St → Option ρ) (v0 : Int) : type_of% (by have h := V_r39_Is_0 p0 p1 p2 p3 p4 p5 p6 p7 false κ v0; simp only [S_r39_Is_0, X_r39_Is_0, mkL, LX.f] at h; exact h) := by have h := V_r39_Is_0 p0 p1 p2 p3 p4 p5 p6 p7 false κ v0; simp only [S_r39_Is_0, X_r39_Is_0, mkL, LX.f] at h; exact h
@[go_sem] theorem W_r39_Is_0t {ρ : Type} (p0 : List (List Bool)) (p1 : Nat) (p2 : List Int) (p3 : List (List Gapi_Edge)) (p4 : List Int) (p5 : List Int) (p6 : List Int) (p7 : List Int) (κ : Ex × St → Option ρ) (v0 : Int) : type_of% (by have h := V_r39_Is_0 p0 p1 p2 p3 p4 p5 p6 p7 true κ v0; simp only [S_r39_Is_0, X_r39_Is_0, mkL, LX.f] at h; exact h) := by have h := V_r39_Is_0 p0 p1 p2 p3 p4 p5 p6 p7 true κ v0; simp only [S_r39_Is_0, X_r39_Is_0, mkL, LX.f] at h; exact h
section
variable (p0 : List (List Bool)) (p1 : Nat) (p2 : List Int) (p3 : List (List Gapi_Edge)) (p4 : List Int) (p5 : List Int) (p6 : List Int) (p7 : List Int)
def S_r39_Is_1 (p0 : List (List Bool)) (p1 : Nat) (p2 : List Int) (p3 : List (List Gapi_Edge)) (p4 : List Int) (p5 : List Int) (p6 : List Int) (p7 : List Int) (β : Bool) (v0 : Bool) (v1 : Int) : St := ⟨[(1, .d (.sl β (List.map (esbool β) p0))), (3, .loc (Root.l 3 0) [] (0) 0), (5, .loc (Root.l 5 0) [] (0) 0), (7, .bor (.l 7 0) [] 0 p1), (9, .d (.bool v0)), (10, .d (.int IntKind.i64 v1))], [((3, 0), .own [.d (.agg [.sl β (List.map eI p2), .sl β (List.map (esapi_Edge β) p3), .sl β (List.map (eK IntKind.u64) p4)])]), ((5, 0), .own [.d (.agg [.sl β (List.map eI p5), .sl β (List.map eI p6)])]), ((7, 0), .own (tl eI p7))], []⟩
attribute [go_sem] S_r39_Is_1
def X_r39_Is_1 (p0 : List (List Bool)) (p1 : Nat) (p2 : List Int) (p3 : List (List Gapi_Edge)) (p4 : List Int) (p5 : List Int) (p6 : List Int) (p7 : List Int) {ρ : Type} : LX (A := Bool → Int → ((Bool) × (Int) → Option ρ) → (Ex × St → Option ρ) → Option ρ) fun β Φ => ∀ (R : St → Option ρ) (g : (Bool) × (Int) → Option ρ) (κ : Ex × St → Option ρ), (∀ (v0 : Bool) (v1 : Int), R (S_r39_Is_1 p0 p1 p2 p3 p4 p5 p6 p7 β v0 v1) = g (v0, v1)) → ∀ (v0 : Bool) (v1 : Int), go P hints hint10 b10 q10_1.1 (S_r39_Is_1 p0 p1 p2 p3 p4 p5 p6 p7 β v0 v1) (kLp R κ) = Φ v0 v1 g κ := mkL _ _
theorem V_r39_Is_1 (p0 : List (List Bool)) (p1 : Nat) (p2 : List Int) (p3 : List (List Gapi_Edge)) (p4 : List Int) (p5 : List Int) (p6 : List Int) (p7 : List Int) {ρ : Type} (β : Bool) (κ : Ex × St → Option ρ) (v0 : Bool) (v1 : Int) : goLp P hints hint10 b10 1 (S_r39_Is_1 p0 p1 p2 p3 p4 p5 p6 p7 β v0 v1) κ = iterC (fun v k => (X_r39_Is_1 p0 p1 p2 p3 p4 p5 p6 p7 (ρ := ρ)).f β v.1 v.2 k κ) (v0, v1) := by
  refine goLp_iter (Φ := fun v k => (X_r39_Is_1 p0 p1 p2 p3 p4 p5 p6 p7 (ρ := ρ)).f β v.1 v.2 k κ) q10_1.2 (S := fun v => S_r39_Is_1 p0 p1 p2 p3 p4 p5 p6 p7 β v.1 v.2) ?_ (v0, v1)
  intro R g hR v
  have h := (X_r39_Is_1 p0 p1 p2 p3 p4 p5 p6 p7 (ρ := ρ)).ok β R g κ
  exact h (fun v0 v1 => hR (v0, v1)) v.1 v.2
end
@[go_sem] theorem W_r39_Is_1f {ρ : Type} (p0 : List (List Bool)) (p1 : Nat) (p2 : List Int) (p3 : List (List Gapi_Edge)) (p4 : List Int) (p5 : List Int) (p6 : List Int) (p7 : List Int) (κ : Ex × St → Option ρ) (v0 : Bool) (v1 : Int) : type_of% (by have h := V_r39_Is_1 p0 p1 p2 p3 p4 p5 p6 p7 false κ v0 v1; simp only [S_r39_Is_1, X_r39_Is_1, mkL, LX.f] at h; exact h) := by have h := V_r39_Is_1 p0 p1 p2 p3 p4 p5 p6 p7 false κ v0 v1; simp only [S_r39_Is_1, X_r39_Is_1, mkL, LX.f] at h; exact h
@[go_sem] theorem W_r39_Is_1t {ρ : Type} (p0 : List (List Bool)) (p1 : Nat) (p2 : List Int) (p3 : List (List Gapi_Edge)) (p4 : List Int) (p5 : List Int) (p6 : List Int) (p7 : List Int) (κ : Ex × St → Option ρ) (v0 : Bool) (v1 : Int) : type_of% (by have h := V_r39_Is_1 p0 p1 p2 p3 p4 p5 p6 p7 true κ v0 v1; simp only [S_r39_Is_1, X_r39_Is_1, mkL, LX.f] at h; exact h) := by have h := V_r39_Is_1 p0 p1 p2 p3 p4 p5 p6 p7 true κ v0 v1; simp only [S_r39_Is_1, X_r39_Is_1, mkL, LX.f] at h; exact h
section
variable (p0 : List (List Bool)) (p1 : Nat) (p2 : Bool) (p3 : List Int) (p4 : List (List Gapi_Edge)) (p5 : List Int) (p6 : List Int) (p7 : List Int) (p8 : List Int)
def S_r39_Is_2 (p0 : List (List Bool)) (p1 : Nat) (p2 : Bool) (p3 : List Int) (p4 : List (List Gapi_Edge)) (p5 : List Int) (p6 : List Int) (p7 : List Int) (p8 : List Int) (β : Bool) (v0 : Int) : St := ⟨[(1, .d (.sl β (List.map (esbool β) p0))), (3, .loc (Root.l 3 0) [] (0) 0), (5, .loc (Root.l 5 0) [] (0) 0), (7, .bor (.l 7 0) [] 0 p1), (9, .d (.bool p2)), (11, .d (.int IntKind.i64 v0))], [((3, 0), .own [.d (.agg [.sl β (List.map eI p3), .sl β (List.map (esapi_Edge β) p4), .sl β (List.map (eK IntKind.u64) p5)])]), ((5, 0), .own [.d (.agg [.sl β (List.map eI p6), .sl β (List.map eI p7)])]), ((7, 0), .own (tl eI p8))], []⟩
attribute [go_sem] S_r39_Is_2
def X_r39_Is_2 (p0 : List (List Bool)) (p1 : Nat) (p2 : Bool) (p3 : List Int) (p4 : List (List Gapi_Edge)) (p5 : List Int) (p6 : List Int) (p7 : List Int) (p8 : List Int) {ρ : Type} : LX (A := Int → (Int → Option ρ) → (Ex × St → Option ρ) → Option ρ) fun β Φ => ∀ (R : St → Option ρ) (g : Int → Option ρ) (κ : Ex × St → Option ρ), (∀ (v0 : Int), R (S_r39_Is_2 p0 p1 p2 p3 p4 p5 p6 p7 p8 β v0) = g v0) → ∀ (v0 : Int), go P hints hint10 b10 q10_2.1 (S_r39_Is_2 p0 p1 p2 p3 p4 p5 p6 p7 p8 β v0) (kLp R κ) = Φ v0 g κ := mkL _ _
theorem V_r39_Is_2 (p0 : List (List Bool)) (p1 : Nat) (p2 : Bool) (p3 : List Int) (p4 : List (List Gapi_Edge)) (p5 : List Int) (p6 : List Int) (p7 : List Int) (p8 : List Int) {ρ : Type} (β : Bool) (κ : Ex × St → Option ρ) (v0 : Int) : goLp P hints hint10 b10 2 (S_r39_Is_2 p0 p1 p2 p3 p4 p5 p6 p7 p8 β v0) κ = iterC (fun v k => (X_r39_Is_2 p0 p1 p2 p3 p4 p5 p6 p7 p8 (ρ := ρ)).f β v k κ) v0 := by
  refine goLp_iter (Φ := fun v k => (X_r39_Is_2 p0 p1 p2 p3 p4 p5 p6 p7 p8 (ρ := ρ)).f β v k κ) q10_2.2 (S := fun v => S_r39_Is_2 p0 p1 p2 p3 p4 p5 p6 p7 p8 β v) ?_ v0
  intro R g hR v
  have h := (X_r39_Is_2 p0 p1 p2 p3 p4 p5 p6 p7 p8 (ρ := ρ)).ok β R g κ
  exact h (fun v0 => hR v0) v
end
@[go_sem] theorem W_r39_Is_2f {ρ : Type} (p0 : List (List Bool)) (p1 : Nat) (p2 : Bool) (p3 : List Int) (p4 : List (List Gapi_Edge)) (p5 : List Int) (p6 : List Int) (p7 : List Int) (p8 : List Int) (κ : Ex × St → Option ρ) (v0 : Int) : type_of% (by have h := V_r39_Is_2 p0 p1 p2 p3 p4 p5 p6 p7 p8 false κ v0; simp only [S_r39_Is_2, X_r39_Is_2, mkL, LX.f] at h; exact h) := by have h := V_r39_Is_2 p0 p1 p2 p3 p4 p5 p6 p7 p8 false κ v0; simp only [S_r39_Is_2, X_r39_Is_2, mkL, LX.f] at h; exact h
@[go_sem] theorem W_r39_Is_2t {ρ : Type} (p0 : List (List Bool)) (p1 : Nat) (p2 : Bool) (p3 : List Int) (p4 : List (List Gapi_Edge)) (p5 : List Int) (p6 : List Int) (p7 : List Int) (p8 : List Int) (κ : Ex × St → Option ρ) (v0 : Int) : type_of% (by have h := V_r39_Is_2 p0 p1 p2 p3 p4 p5 p6 p7 p8 true κ v0; simp only [S_r39_Is_2, X_r39_Is_2, mkL, LX.f] at h; exact h) := by have h := V_r39_Is_2 p0 p1 p2 p3 p4 p5 p6 p7 p8 true κ v0; simp only [S_r39_Is_2, X_r39_Is_2, mkL, LX.f] at h; exact h
section
variable (p0 : List (List Bool)) (p1 : Bool) (p2 : Int) (p3 : List Int) (p4 : List Int)
def S_r39_Is_3 (p0 : List (List Bool)) (p1 : Bool) (p2 : Int) (p3 : List Int) (p4 : List Int) (β : Bool) (v0 : Bool) (v1 : Int) : St := ⟨[(1, .d (.sl β (List.map (esbool β) p0))), (5, .loc (Root.l 5 0) [] (0) 0), (9, .d (.bool p1)), (12, .d (.int IntKind.i64 p2)), (13, .d (.bool v0)), (14, .d (.int IntKind.i64 v1))], [((5, 0), .own [.d (.agg [.sl β (List.map eI p3), .sl β (List.map eI p4)])])], []⟩
attribute [go_sem] S_r39_Is_3
def X_r39_Is_3 (p0 : List (List Bool)) (p1 : Bool) (p2 : Int) (p3 : List Int) (p4 : List Int) {ρ : Type} : LX (A := Bool → Int → ((Bool) × (Int) → Option ρ) → (Ex × St → Option ρ) → Option ρ) fun β Φ => ∀ (R : St → Option ρ) (g : (Bool) × (Int) → Option ρ) (κ : Ex × St → Option ρ), (∀ (v0 : Bool) (v1 : Int), R (S_r39_Is_3 p0 p1 p2 p3 p4 β v0 v1) = g (v0, v1)) → ∀ (v0 : Bool) (v1 : Int), go P hints hint10 b10 q10_3.1 (S_r39_Is_3 p0 p1 p2 p3 p4 β v0 v1) (kLp R κ) = Φ v0 v1 g κ := mkL _ _
theorem V_r39_Is_3 (p0 : List (List Bool)) (p1 : Bool) (p2 : Int) (p3 : List Int) (p4 : List Int) {ρ : Type} (β : Bool) (κ : Ex × St → Option ρ) (v0 : Bool) (v1 : Int) : goLp P hints hint10 b10 3 (S_r39_Is_3 p0 p1 p2 p3 p4 β v0 v1) κ = iterC (fun v k => (X_r39_Is_3 p0 p1 p2 p3 p4 (ρ := ρ)).f β v.1 v.2 k κ) (v0, v1) := by
  refine goLp_iter (Φ := fun v k => (X_r39_Is_3 p0 p1 p2 p3 p4 (ρ := ρ)).f β v.1 v.2 k κ) q10_3.2 (S := fun v => S_r39_Is_3 p0 p1 p2 p3 p4 β v.1 v.2) ?_ (v0, v1)
  intro R g hR v
  have h := (X_r39_Is_3 p0 p1 p2 p3 p4 (ρ := ρ)).ok β R g κ
  exact h (fun v0 v1 => hR (v0, v1)) v.1 v.2
end
@[go_sem] theorem W_r39_Is_3f {ρ : Type} (p0 : List (List Bool)) (p1 : Bool) (p2 : Int) (p3 : List Int) (p4 : List Int) (κ : Ex × St → Option ρ) (v0 : Bool) (v1 : Int) : type_of% (by have h := V_r39_Is_3 p0 p1 p2 p3 p4 false κ v0 v1; simp only [S_r39_Is_3, X_r39_Is_3, mkL, LX.f] at h; exact h) := by have h := V_r39_Is_3 p0 p1 p2 p3 p4 false κ v0 v1; simp only [S_r39_Is_3, X_r39_Is_3, mkL, LX.f] at h; exact h
@[go_sem] theorem W_r39_Is_3t {ρ : Type} (p0 : List (List Bool)) (p1 : Bool) (p2 : Int) (p3 : List Int) (p4 : List Int) (κ : Ex × St → Option ρ) (v0 : Bool) (v1 : Int) : type_of% (by have h := V_r39_Is_3 p0 p1 p2 p3 p4 true κ v0 v1; simp only [S_r39_Is_3, X_r39_Is_3, mkL, LX.f] at h; exact h) := by have h := V_r39_Is_3 p0 p1 p2 p3 p4 true κ v0 v1; simp only [S_r39_Is_3, X_r39_Is_3, mkL, LX.f] at h; exact h
section
variable (p0 : List (List Bool)) (p1 : Bool) (p2 : List Int) (p3 : List Int)
def S_r39_Is_4 (p0 : List (List Bool)) (p1 : Bool) (p2 : List Int) (p3 : List Int) (β : Bool) (v0 : Int) : St := ⟨[(1, .d (.sl β (List.map (esbool β) p0))), (5, .loc (Root.l 5 0) [] (0) 0), (9, .d (.bool p1)), (12, .d (.int IntKind.i64 v0))], [((5, 0), .own [.d (.agg [.sl β (List.map eI p2), .sl β (List.map eI p3)])])], []⟩
attribute [go_sem] S_r39_Is_4
def X_r39_Is_4 (p0 : List (List Bool)) (p1 : Bool) (p2 : List Int) (p3 : List Int) {ρ : Type} : LX (A := Int → (Int → Option ρ) → (Ex × St → Option ρ) → Option ρ) fun β Φ => ∀ (R : St → Option ρ) (g : Int → Option ρ) (κ : Ex × St → Option ρ), (∀ (v0 : Int), R (S_r39_Is_4 p0 p1 p2 p3 β v0) = g v0) → ∀ (v0 : Int), go P hints hint10 b10 q10_4.1 (S_r39_Is_4 p0 p1 p2 p3 β v0) (kLp R κ) = Φ v0 g κ := mkL _ _
theorem V_r39_Is_4 (p0 : List (List Bool)) (p1 : Bool) (p2 : List Int) (p3 : List Int) {ρ : Type} (β : Bool) (κ : Ex × St → Option ρ) (v0 : Int) : goLp P hints hint10 b10 4 (S_r39_Is_4 p0 p1 p2 p3 β v0) κ = iterC (fun v k => (X_r39_Is_4 p0 p1 p2 p3 (ρ := ρ)).f β v k κ) v0 := by
  refine goLp_iter (Φ := fun v k => (X_r39_Is_4 p0 p1 p2 p3 (ρ := ρ)).f β v k κ) q10_4.2 (S := fun v => S_r39_Is_4 p0 p1 p2 p3 β v) ?_ v0
  intro R g hR v
  have h := (X_r39_Is_4 p0 p1 p2 p3 (ρ := ρ)).ok β R g κ
  exact h (fun v0 => hR v0) v
end
@[go_sem] theorem W_r39_Is_4f {ρ : Type} (p0 : List (List Bool)) (p1 : Bool) (p2 : List Int) (p3 : List Int) (κ : Ex × St → Option ρ) (v0 : Int) : type_of% (by have h := V_r39_Is_4 p0 p1 p2 p3 false κ v0; simp only [S_r39_Is_4, X_r39_Is_4, mkL, LX.f] at h; exact h) := by have h := V_r39_Is_4 p0 p1 p2 p3 false κ v0; simp only [S_r39_Is_4, X_r39_Is_4, mkL, LX.f] at h; exact h
@[go_sem] theorem W_r39_Is_4t {ρ : Type} (p0 : List (List Bool)) (p1 : Bool) (p2 : List Int) (p3 : List Int) (κ : Ex × St → Option ρ) (v0 : Int) : type_of% (by have h := V_r39_Is_4 p0 p1 p2 p3 true κ v0; simp only [S_r39_Is_4, X_r39_Is_4, mkL, LX.f] at h; exact h) := by have h := V_r39_Is_4 p0 p1 p2 p3 true κ v0; simp only [S_r39_Is_4, X_r39_Is_4, mkL, LX.f] at h; exact h
def K_r39_Is (a0 : Gapi_Graph) (a1 : List (List Bool)) (a2 : Gapi_Lasso) (β : Bool) (y0_0 : Bool) : List T × List Ob := ([.d (.bool y0_0)], [])
attribute [go_sem] K_r39_Is
def F_r39_Is (a0 : Gapi_Graph) (a1 : List (List Bool)) (a2 : Gapi_Lasso) {ρ : Type} : {Φ : (Bool → Option ρ) → Option ρ // ∀ (β : Bool) (κ : List T × List Ob → Option ρ) (g : Bool → Option ρ), (∀ (y0_0 : Bool), κ (K_r39_Is a0 a1 a2 β y0_0) = g y0_0) → cbK (call 10 [(eapi_Graph β) a0, (essbool β) a1, (eapi_Lasso β) a2] []) κ = Φ g} := mkF (p := fun (β : Bool) (κ : List T × List Ob → Option ρ) (g : Bool → Option ρ) => (∀ (y0_0 : Bool), κ (K_r39_Is a0 a1 a2 β y0_0) = g y0_0)) (ds := fun β => [(eapi_Graph β) a0, (essbool β) a1, (eapi_Lasso β) a2]) ge10 (fun _ => rfl) _
def f_r39_Is (a0 : Gapi_Graph) (a1 : List (List Bool)) (a2 : Gapi_Lasso) {ρ : Type} (g0 : Bool → Option ρ) : Option ρ := (F_r39_Is a0 a1 a2).1 g0
theorem U_r39_Is {ρ : Type} (β : Bool) (a0_0 : List Int) (a0_1 : List (List Gapi_Edge)) (a0_2 : List Int) (a1 : List (List Bool)) (a2_0 : List Int) (a2_1 : List Int) (κ : List T × List Ob → Option ρ) : cbK (call 10 [.agg [.sl β (List.map eI a0_0), .sl β (List.map (esapi_Edge β) a0_1), .sl β (List.map (eK .u64) a0_2)], .sl β (List.map (esbool β) a1), .agg [.sl β (List.map eI a2_0), .sl β (List.map eI a2_1)]] []) κ = f_r39_Is (Gapi_Graph.mk a0_0 a0_1 a0_2) a1 (Gapi_Lasso.mk a2_0 a2_1) (fun y0_0 => κ (K_r39_Is (Gapi_Graph.mk a0_0 a0_1 a0_2) a1 (Gapi_Lasso.mk a2_0 a2_1) β y0_0)) := (F_r39_Is (Gapi_Graph.mk a0_0 a0_1 a0_2) a1 (Gapi_Lasso.mk a2_0 a2_1)).2 β κ _ (fun _ => rfl)
@[go_sem] theorem W_r39_Is {ρ : Type} (β : Bool) (a0_0 : List Int) (a0_1 : List (List Gapi_Edge)) (a0_2 : List Int) (a1 : List (List Bool)) (a2_0 : List Int) (a2_1 : List Int) (κ : List T × List Ob → Option ρ) : type_of% (by have h := @U_r39_Is ρ β a0_0 a0_1 a0_2 a1 a2_0 a2_1 κ; simp only [K_r39_Is] at h; exact h) := by have h := @U_r39_Is ρ β a0_0 a0_1 a0_2 a1 a2_0 a2_1 κ; simp only [K_r39_Is] at h; exact h
section
variable (p0 : List (List Bool)) (p1 : Int) (p2 : List Int) (p3 : List (List Gapi_Edge)) (p4 : List Int) (p5 : List Int) (p6 : List Int)
end
section
variable (p0 : List (List Bool)) (p1 : List Int) (p2 : List (List Gapi_Edge)) (p3 : List Int) (p4 : List Int) (p5 : List Int)
end
section
variable (p0 : List Bool) (p1 : List Int) (p2 : List (List Gapi_Edge)) (p3 : List Int)
end
section
variable (p0 : Int) (p1 : List Int) (p2 : List (List Gapi_Edge)) (p3 : List Int)
end
section
variable (p0 : List Int) (p1 : List (List Gapi_Edge)) (p2 : List Int)
end
section
variable (p0 : List Bool) (p1 : List Int) (p2 : List (List Gapi_Edge)) (p3 : List Int)
end
section
variable (p0 : List Int) (p1 : List (List Gapi_Edge)) (p2 : List Int) (p3 : List Int)
end
section
variable (p0 : Int) (p1 : List Gapi_Edge) (p2 : List Int) (p3 : List (List Gapi_Edge)) (p4 : List Int)
end
section
variable (p0 : List Int) (p1 : List (List Gapi_Edge)) (p2 : List Int)
end
section
variable (p0 : List Int) (p1 : List Int) (p2 : List Int) (p3 : List (List Gapi_Edge)) (p4 : List Int)
end
section
variable (p0 : List Int) (p1 : Int) (p2 : List Int) (p3 : List (List Gapi_Edge)) (p4 : List Int) (p5 : List Int)
end
section
variable (p0 : List Int) (p1 : List Int) (p2 : List (List Gapi_Edge)) (p3 : List Int)
end
section
variable (p0 : List Int) (p1 : Int)
end
section
variable (p0 : List (List Bool)) (p1 : List Int) (p2 : List (List Gapi_Edge)) (p3 : List Int) (p4 : List Int)
end
section
variable (p0 : List Int) (p1 : List (List Gapi_Edge)) (p2 : List Int) (p3 : List Int) (p4 : List Int)
end
section
variable (p0 : List Int) (p1 : List Int) (p2 : List Int)
end
def K_law46_ShortStill (a0 : Gapi_Graph) (a1 : List (List Bool)) (a2 : Gapi_Lasso) (β : Bool) (y0_0 : Bool) : List T × List Ob := ([.d (.bool y0_0)], [])
attribute [go_sem] K_law46_ShortStill
def F_law46_ShortStill (a0 : Gapi_Graph) (a1 : List (List Bool)) (a2 : Gapi_Lasso) {ρ : Type} : {Φ : (Bool → Option ρ) → Option ρ // ∀ (β : Bool) (κ : List T × List Ob → Option ρ) (g : Bool → Option ρ), (∀ (y0_0 : Bool), κ (K_law46_ShortStill a0 a1 a2 β y0_0) = g y0_0) → cbK (call 4 [(eapi_Graph β) a0, (essbool β) a1, (eapi_Lasso β) a2] []) κ = Φ g} := mkF (p := fun (β : Bool) (κ : List T × List Ob → Option ρ) (g : Bool → Option ρ) => (∀ (y0_0 : Bool), κ (K_law46_ShortStill a0 a1 a2 β y0_0) = g y0_0)) (ds := fun β => [(eapi_Graph β) a0, (essbool β) a1, (eapi_Lasso β) a2]) ge4 (fun _ => rfl) _
def f_law46_ShortStill (a0 : Gapi_Graph) (a1 : List (List Bool)) (a2 : Gapi_Lasso) {ρ : Type} (g0 : Bool → Option ρ) : Option ρ := (F_law46_ShortStill a0 a1 a2).1 g0
end
end Go.Shr
namespace Go.Am
open Go
section
variable {α β σ τ ρ : Type}
theorem wrap64 {x : Int} (h1 : -9223372036854775808 ≤ x) (h2 : x ≤ 9223372036854775807) : IntKind.i64.wrap x = x := wrap_i64 h1 h2
theorem wrapS {k : Nat} (h : k < 4611686018427387904) : IntKind.i64.wrap ((k : Int) + 1) = ((k + 1 : Nat) : Int) := by rw [wrap_i64 (by omega) (by omega)]; omega
theorem wrapP {k : Nat} (h0 : 0 < k) (h : k < 4611686018427387904) : IntKind.i64.wrap ((k : Int) - 1) = ((k - 1 : Nat) : Int) := by rw [wrap_i64 (by omega) (by omega)]; omega
theorem iterC_find {Φ : τ → (τ → Option ρ) → Option ρ} (N : Nat) (mk : Nat → τ) (p : Nat → Option (Option ρ)) (fin : Option ρ)
    (hs : ∀ i k, i < N → Φ (mk i) k = match p i with | some r => r | none => k (mk (i + 1))) (hf : ∀ k, Φ (mk N) k = fin) : iterC Φ (mk 0) = ((List.range N).findSome? p).getD fin := by
  have key : ∀ n j, j ≤ N → N - j < n → iterCN Φ n (mk j) = ((List.range' j (N - j)).findSome? p).getD fin := by
    intro n
    induction n with
    | zero => intro j _ h; omega
    | succ n ih =>
      intro j hj h
      show Φ (mk j) (iterCN Φ n) = _
      by_cases hjN : j = N
      · subst hjN; rw [hf, Nat.sub_self]; rfl
      · rw [hs j _ (by omega), show N - j = (N - (j + 1)) + 1 by omega, List.range'_succ, List.findSome?_cons]
        cases p j with
        | some r => rfl
        | none => exact ih (j + 1) (by omega) (by omega)
  refine limE_eq (N + 1) fun n hn => ?_
  rw [key n 0 (by omega) (by omega), List.range_eq_range']
  rfl
theorem iterC_run {Φ : τ → (τ → Option ρ) → Option ρ} (N : Nat) (mk : Nat → τ) (fin : Option ρ)
    (hs : ∀ i k, i < N → Φ (mk i) k = k (mk (i + 1))) (hf : ∀ k, Φ (mk N) k = fin) : iterC Φ (mk 0) = fin := by
  rw [iterC_find N mk (fun _ => none) fin (fun i k h => hs i k h) hf]
  have : ∀ l : List Nat, l.findSome? (fun _ => (none : Option (Option ρ))) = none := fun l => by induction l with | nil => rfl | cons a l ih => exact ih
  rw [this]; rfl
theorem find_all {p : Nat → Bool} {x fin : Option ρ} (N : Nat) : ((List.range N).findSome? fun i => if p i = true then none else some x).getD fin = if ∀ i, i < N → p i = true then fin else x := by
  have : ∀ l : List Nat, (l.findSome? fun i => if p i = true then none else some x).getD fin = if ∀ i ∈ l, p i = true then fin else x := fun l => by
    induction l with
    | nil => simp
    | cons a l ih =>
      rw [List.findSome?_cons]
      cases ha : p a
      · simp [ha]
      · simp only [if_true, ih, List.forall_mem_cons, ha, true_and]
  rw [this]
  simp only [List.mem_range]
theorem iterC_all {Φ : τ → (τ → Option ρ) → Option ρ} (N : Nat) (mk : Nat → τ) (p : Nat → Bool) (x fin : Option ρ)
    (hs : ∀ i k, i < N → Φ (mk i) k = if p i = true then k (mk (i + 1)) else x) (hf : ∀ k, Φ (mk N) k = fin) : iterC Φ (mk 0) = if ∀ i, i < N → p i = true then fin else x := by
  rw [iterC_find N mk (fun i => if p i = true then none else some x) fin (fun i k h => by rw [hs i k h]; cases p i <;> rfl) hf, find_all]
theorem loop_run {Φ : τ → (τ → Option ρ) → Option ρ} (N : Nat) (mk : Nat → τ)
    (hs : ∀ i k, i < N → Φ (mk i) k = k (mk (i + 1))) (hf : ∀ k, Φ (mk N) k = Φ (mk N) fun _ => none) : iterC Φ (mk 0) = Φ (mk N) fun _ => none := iterC_run N mk _ hs hf
theorem loop_all {Φ : τ → (τ → Option ρ) → Option ρ} (N : Nat) (mk : Nat → τ) (p : Nat → Bool) (x : Option ρ)
    (hs : ∀ i k, i < N → Φ (mk i) k = if p i = true then k (mk (i + 1)) else x) (hf : ∀ k, Φ (mk N) k = Φ (mk N) fun _ => none) : iterC Φ (mk 0) = if ∀ i, i < N → p i = true then Φ (mk N) fun _ => none else x := iterC_all N mk p x _ hs hf
theorem loop_find {Φ : τ → (τ → Option ρ) → Option ρ} (N : Nat) (mk : Nat → τ) (p : Nat → Option (Option ρ))
    (hs : ∀ i k, i < N → Φ (mk i) k = match p i with | some r => r | none => k (mk (i + 1))) (hf : ∀ k, Φ (mk N) k = Φ (mk N) fun _ => none) : iterC Φ (mk 0) = ((List.range N).findSome? p).getD (Φ (mk N) fun _ => none) := iterC_find N mk p _ hs hf
theorem loop_runE {Φ : τ → (τ → Option ρ) → Option ρ} {v : τ} (N : Nat) (mk : Nat → τ) (h0 : v = mk 0)
    (hs : ∀ i k, i < N → Φ (mk i) k = k (mk (i + 1))) (hf : ∀ k, Φ (mk N) k = Φ (mk N) fun _ => none) : iterC Φ v = Φ (mk N) fun _ => none := by rw [h0]; exact loop_run N mk hs hf
theorem iterC_runE {Φ : τ → (τ → Option ρ) → Option ρ} {v : τ} (N : Nat) (mk : Nat → τ) (h0 : v = mk 0) {fin : Option ρ}
    (hs : ∀ i k, i < N → Φ (mk i) k = k (mk (i + 1))) (hf : ∀ k, Φ (mk N) k = fin) : iterC Φ v = fin := by rw [h0]; exact iterC_run N mk fin hs hf
theorem iterC_rel {Φ : τ → (τ → Option ρ) → Option ρ} (R : τ → Option ρ → Prop) (μ : τ → Nat) (h : ∀ v e k, R v e → (∀ v' e', R v' e' → μ v' < μ v → k v' = e') → Φ v k = e) {v : τ} {e : Option ρ} (hv : R v e) : iterC Φ v = e := by
  have : ∀ n v e, R v e → μ v < n → iterCN Φ n v = e := by
    intro n
    induction n with
    | zero => intro v _ _ hv; omega
    | succ n ih => intro v e hR hl; exact h v e _ hR fun v' e' hR' hl' => ih v' e' hR' (by omega)
  exact limE_eq (μ v + 1) fun n hn => this n v e hv (by omega)
theorem take_step {l : List α} {i : Nat} (h : i < l.length) : l.take (i + 1) = l.take i ++ [l[i]] := by rw [List.take_succ_eq_append_getElem h]
theorem foldl_step {l : List α} {i : Nat} (h : i < l.length) (f : σ → α → σ) (s : σ) : (l.take (i + 1)).foldl f s = f ((l.take i).foldl f s) l[i] := by rw [take_step h, List.foldl_append]; rfl
end
end Go.Am
namespace Go.Shr
open Go Go.Am Go.Proofs
set_option linter.unusedSimpArgs false
set_option linter.unusedVariables false
variable {ρ : Type}
def nodeB (g : Gapi_Graph) (n : Int) : Bool := decide (0 ≤ n) && decide (n < g.Edges.length)
def edgesAt (g : Gapi_Graph) (n : Int) : List Gapi_Edge := (g.Edges[n.toNat]?).getD []
def edgeB (g : Gapi_Graph) (a b : Int) : Bool := (edgesAt g a).any fun e => decide (e.To = b)
def leadsB (g : Gapi_Graph) (a b : Int) : Bool := nodeB g a && nodeB g b && edgeB g a b
def hasB (s : List Bool) (n : Int) : Bool := decide (0 ≤ n) && (s[n.toNat]?).getD false
structure Fit (g : Gapi_Graph) : Prop where
  e : g.Edges.length ≤ 300
  r : ∀ x ∈ g.Edges, x.length ≤ 300
  i : g.Init.length ≤ 1048576
  l : g.Labels.length ≤ 1048576
theorem nodeB_iff {g : Gapi_Graph} {n : Int} : nodeB g n = true ↔ 0 ≤ n ∧ n < g.Edges.length := by simp [nodeB]
theorem node1 (g : Gapi_Graph) (n : Int) (κ : Bool → Option ρ) : f_fix_node g n κ = κ (nodeB g n) := by
  simp only [f_fix_node, F_fix_node, mkF, nodeB]
  by_cases h : 0 ≤ n <;> simp [h]
theorem node2 (g : Gapi_Graph) (n : Int) (κ : Bool → Option ρ) : f_r06_Node g n κ = κ (nodeB g n) := by
  simp only [f_r06_Node, F_r06_Node, mkF, nodeB]
  by_cases h : 0 ≤ n <;> simp [h]
theorem node3 (g : Gapi_Graph) (n : Int) (κ : Bool → Option ρ) : f_graph_node g n κ = κ (nodeB g n) := by
  simp only [f_graph_node, F_graph_node, mkF, nodeB]
  by_cases h : 0 ≤ n <;> simp [h]
theorem has1 (s : List Bool) (n : Int) (κ : Bool → Option ρ) : f_fix_has s n κ = κ (hasB s n) := by
  simp only [f_fix_has, F_fix_has, mkF, hasB]
  by_cases h : 0 ≤ n
  · by_cases h2 : n < s.length
    · have h3 : n.toNat < s.length := by omega
      simp [h, h2, List.getElem?_eq_getElem h3]
    · have h3 : s.length ≤ n.toNat := by omega
      simp [h, h2, List.getElem?_eq_none h3]
  · simp [h]
theorem has2 (s : List Bool) {n : Int} (hn : 0 ≤ n) (κ : Bool → Option ρ) : f_r39_of s n κ = κ (hasB s n) := by
  simp only [f_r39_of, F_r39_of, mkF, hasB]
  by_cases h2 : n < s.length
  · have h3 : n.toNat < s.length := by omega
    simp [hn, h2, List.getElem?_eq_getElem h3]
  · have h3 : s.length ≤ n.toNat := by omega
    simp [h2, List.getElem?_eq_none h3]
theorem clone1 {l : List Int} (h : l.length ≤ 1048576) (κ : List Int → Option ρ) : f_slices_Clone_sint_int l κ = κ l := by
  simp only [f_slices_Clone_sint_int, F_slices_Clone_sint_int]
  rw [if_pos ⟨by omega, by omega⟩]
theorem getN {α : Type} {l : List α} {i : Nat} (h : i < l.length) : l[((i : Int)).toNat]? = some l[i] := by simp [h]
theorem edgesAt_eq {g : Gapi_Graph} {a : Int} (h : nodeB g a = true) : g.Edges[a.toNat]? = some (edgesAt g a) := by
  obtain ⟨h0, h1⟩ := nodeB_iff.1 h
  have : a.toNat < g.Edges.length := by omega
  simp [edgesAt, this]
theorem edgesAt_len {g : Gapi_Graph} (hf : Fit g) (a : Int) : (edgesAt g a).length ≤ 300 := by
  unfold edgesAt
  cases h : g.Edges[a.toNat]? with
  | none => simp
  | some x => exact hf.r x (List.mem_of_getElem? h)
theorem any_idx {α : Type} {l : List α} {p : α → Bool} : (∀ i, i < l.length → ((l[i]?).any p) = false) ↔ l.any p = false := by
  rw [List.any_eq_false]
  constructor
  · intro h x hx
    obtain ⟨k, hk, rfl⟩ := List.getElem_of_mem hx
    have := h k hk
    simpa [hk] using this
  · intro h i hi
    have := h _ (List.getElem_mem hi)
    simpa [hi] using this
theorem leads1 {g : Gapi_Graph} (hf : Fit g) (a b : Int) (κ : Bool → Option ρ) : f_fix_leads g a b κ = κ (leadsB g a b) := by
  simp only [f_fix_leads, F_fix_leads, mkF, node1, leadsB]
  cases ha : nodeB g a
  · simp
  cases hb : nodeB g b
  · simp
  have h0 := (nodeB_iff.1 ha).1
  have hl := edgesAt_len hf a
  simp only [Bool.true_eq_false, if_false, h0, if_true, edgesAt_eq ha, Option.bind_some, Bool.true_and]
  refine (iterC_all (edgesAt g a).length (fun i => (i : Int)) (fun i => !((edgesAt g a)[i]?).any fun e => decide (e.To = b)) (κ true) (κ false) ?_ ?_).trans ?_
  · intro i k hi
    simp only [Int.ofNat_lt, hi, if_true, Int.natCast_nonneg, getN hi, Option.bind_some, wrapS (show i < 4611686018427387904 by omega), List.getElem?_eq_getElem hi, Option.any_some]
    by_cases h : ((edgesAt g a)[i]).To = b <;> simp [h]
  · intro k; simp
  · have := any_idx (l := edgesAt g a) (p := fun e => decide (e.To = b))
    simp only [Bool.not_eq_true', this, edgeB]
    cases (edgesAt g a).any fun e => decide (e.To = b) <;> simp
theorem leads2 {g : Gapi_Graph} (hf : Fit g) {a b : Int} (ha : nodeB g a = true) (hb : nodeB g b = true) (κ : Bool → Option ρ) : f_r39_edge g a b κ = κ (leadsB g a b) := by
  simp only [f_r39_edge, F_r39_edge, mkF, leadsB, ha, hb, Bool.true_and]
  have h0 := (nodeB_iff.1 ha).1
  have hl := edgesAt_len hf a
  refine (iterC_all (edgesAt g a).length (fun i => (i : Int)) (fun i => !((edgesAt g a)[i]?).any fun e => decide (e.To = b)) (κ true) (κ false) ?_ ?_).trans ?_
  · intro i k hi
    simp only [h0, if_true, edgesAt_eq ha, Option.bind_some, Int.ofNat_lt, hi, Int.natCast_nonneg, getN hi, wrapS (show i < 4611686018427387904 by omega), List.getElem?_eq_getElem hi, Option.any_some]
    by_cases h : ((edgesAt g a)[i]).To = b <;> simp [h]
  · intro k; simp [h0, edgesAt_eq ha]
  · have := any_idx (l := edgesAt g a) (p := fun e => decide (e.To = b))
    simp only [Bool.not_eq_true', this, edgeB]
    cases (edgesAt g a).any fun e => decide (e.To = b) <;> simp
def isP (g : Gapi_Graph) (sets : List (List Bool)) (stem loop : List Int) : Prop :=
  loop ≠ [] ∧ (∃ x ∈ g.Init, (stem ++ loop)[0]? = some x) ∧ (∀ i, i < (stem ++ loop).length → ∀ a b, (stem ++ loop)[i]? = some a → (stem ++ loop ++ loop.take 1)[i + 1]? = some b → leadsB g a b = true) ∧ ∀ s ∈ sets, ∃ x ∈ loop, hasB s x = true
open Classical in
noncomputable def isB (g : Gapi_Graph) (sets : List (List Bool)) (stem loop : List Int) : Bool := decide (isP g sets stem loop)
theorem isB_iff {g : Gapi_Graph} {sets : List (List Bool)} {stem loop : List Int} : isB g sets stem loop = true ↔ isP g sets stem loop := by simp [isB]
theorem isB_false {g : Gapi_Graph} {sets : List (List Bool)} {stem loop : List Int} (h : ¬ isP g sets stem loop) : isB g sets stem loop = false := by simp [isB, h]
theorem isB_true {g : Gapi_Graph} {sets : List (List Bool)} {stem loop : List Int} (h : isP g sets stem loop) : isB g sets stem loop = true := by simp [isB, h]
theorem any_take {α : Type} {l : List α} {p : α → Bool} {i : Nat} (h : i < l.length) : (l.take (i + 1)).any p = ((l.take i).any p || p l[i]) := by rw [take_step h, List.any_append]; simp
theorem is1 {g : Gapi_Graph} (hf : Fit g) {sets : List (List Bool)} {stem loop : List Int} (hs : sets.length ≤ 1048576) (h1 : stem.length ≤ 1048576) (h2 : loop.length ≤ 1048576) (κ : Bool → Option ρ) : f_fix_Is g sets ⟨stem, loop⟩ κ = κ (isB g sets stem loop) := by
  have hi := hf.i
  simp only [f_fix_Is, F_fix_Is, mkF]
  cases loop with
  | nil => rw [isB_false (fun h => h.1 rfl)]; simp
  | cons l0 lr =>
  obtain ⟨a0, hd⟩ : ∃ a0, (stem ++ l0 :: lr)[0]? = some a0 := by cases stem <;> simp
  have hlen : (stem ++ l0 :: lr).length = stem.length + (l0 :: lr).length := List.length_append
  have hlc : ((stem.length + (l0 :: lr).length : Nat) : Int) = (stem.length : Int) + ((l0 :: lr).length : Int) := by omega
  have hpos : 0 < stem.length + (l0 :: lr).length := by simp; omega
  rw [if_neg (by simp), if_pos ⟨by omega, by omega⟩, if_pos (.inr (by simp [tl])), if_pos ⟨by omega, by omega⟩]
  refine (loop_run g.Init.length (fun i => ((g.Init.take i).any fun x => decide (x = a0), (i : Int))) ?_ (fun k => by simp only [Int.lt_irrefl, if_false])).trans ?_
  · intro i k hi
    simp only [Int.ofNat_lt, hi, if_true, Int.natCast_nonneg, getN hi, Option.bind_some, wrapS (show i < 4611686018427387904 by omega), any_take hi, hpos, hd]
    cases (g.Init.take i).any fun x => decide (x = a0) <;> simp
  simp only [Int.lt_irrefl, if_false, List.take_length]
  cases hb : g.Init.any fun x => decide (x = a0)
  · rw [if_pos rfl, isB_false]
    intro h
    obtain ⟨x, hx, he⟩ := h.2.1
    rw [hd] at he
    simp only [Option.some.injEq] at he
    have := List.any_eq_false.1 hb x hx
    simp [he] at this
  simp only [Bool.true_eq_false, if_false]
  have hb' : ∃ x ∈ g.Init, (stem ++ l0 :: lr)[0]? = some x := by
    obtain ⟨x, hx, he⟩ := List.any_eq_true.1 hb
    exact ⟨x, hx, by rw [hd]; simpa using (of_decide_eq_true he).symm⟩
  refine (loop_all (stem ++ l0 :: lr).length (fun i => (i : Int)) (fun i => leadsB g ((stem ++ l0 :: lr)[i]?.getD 0) ((stem ++ l0 :: lr ++ [l0])[i + 1]?.getD 0)) (κ false) ?_ (fun k => by rw [if_neg (show ¬ (((stem ++ l0 :: lr).length : Nat) : Int) < (stem.length : Int) + ((l0 :: lr).length : Int) by omega), if_neg (show ¬ (((stem ++ l0 :: lr).length : Nat) : Int) < (stem.length : Int) + ((l0 :: lr).length : Int) by omega)])).trans ?_
  · intro i k hi
    have hi' : (i : Int) < (stem.length : Int) + ((l0 :: lr).length : Int) := by omega
    rw [if_pos hi', if_pos ⟨by omega, hi'⟩]
    simp only [getN hi, Option.bind_some, wrapS (show i < 4611686018427387904 by omega), List.getElem?_cons_zero, List.getElem?_eq_getElem hi, Option.getD_some, leads1 hf]
    by_cases hn : i + 1 < (stem ++ l0 :: lr).length
    · rw [if_pos (show ((i + 1 : Nat) : Int) < (stem.length : Int) + ((l0 :: lr).length : Int) by omega), if_pos ⟨by omega, by omega⟩]
      simp only [getN hn, Option.bind_some, List.getElem?_append_left hn, List.getElem?_eq_getElem hn, Option.getD_some]
      cases leadsB g _ _ <;> simp
    · rw [if_neg (show ¬ ((i + 1 : Nat) : Int) < (stem.length : Int) + ((l0 :: lr).length : Int) by omega)]
      have he : (stem ++ l0 :: lr ++ [l0])[i + 1]? = some l0 := by
        rw [List.getElem?_append_right (by omega), show i + 1 - (stem ++ l0 :: lr).length = 0 by omega]; rfl
      simp only [he, Option.getD_some]
      cases leadsB g _ _ <;> simp
  rw [if_neg (show ¬ (((stem ++ l0 :: lr).length : Nat) : Int) < (stem.length : Int) + ((l0 :: lr).length : Int) by omega)]
  by_cases hc : ∀ i, i < (stem ++ l0 :: lr).length → leadsB g ((stem ++ l0 :: lr)[i]?.getD 0) ((stem ++ l0 :: lr ++ [l0])[i + 1]?.getD 0) = true
  · rw [if_pos hc]
    have hc' : ∀ i, i < (stem ++ l0 :: lr).length → ∀ a b, (stem ++ l0 :: lr)[i]? = some a → (stem ++ l0 :: lr ++ (l0 :: lr).take 1)[i + 1]? = some b → leadsB g a b = true := fun i hi a b ha hb => by
      have := hc i hi
      rw [ha, show [l0] = (l0 :: lr).take 1 from by simp, hb] at this
      exact this
    refine (iterC_all sets.length (fun i => (i : Int)) (fun i => (l0 :: lr).any fun x => hasB (sets[i]?.getD []) x) (κ false) (κ true) ?_ ?_).trans ?_
    · intro i k hi
      simp only [Int.ofNat_lt, hi, if_true, Int.natCast_nonneg, getN hi, Option.bind_some, List.getElem?_eq_getElem hi, Option.getD_some]
      refine (loop_run (l0 :: lr).length (fun j => (((l0 :: lr).take j).any fun x => hasB sets[i] x, (j : Int))) ?_ (fun k => by simp only [Int.lt_irrefl, if_false])).trans ?_
      · intro j k hj
        simp only [Int.ofNat_lt, hj, if_true, Int.natCast_nonneg, getN hj, Option.bind_some, wrapS (show j < 4611686018427387904 by omega), any_take hj, has1]
        cases ((l0 :: lr).take j).any fun x => hasB sets[i] x <;> simp
      · simp only [Int.lt_irrefl, if_false, List.take_length, wrapS (show i < 4611686018427387904 by omega)]
        cases (l0 :: lr).any fun x => hasB sets[i] x <;> simp
    · intro k; simp
    · by_cases hp : ∀ i, i < sets.length → ((l0 :: lr).any fun x => hasB (sets[i]?.getD []) x) = true
      · rw [if_pos hp, isB_true ⟨by simp, hb', hc', fun s hs => ?_⟩]
        obtain ⟨i, hi, rfl⟩ := List.getElem_of_mem hs
        have := hp i hi
        rw [List.getElem?_eq_getElem hi, Option.getD_some] at this
        exact List.any_eq_true.1 this
      · rw [if_neg hp, isB_false]
        intro h
        refine hp fun i hi => ?_
        rw [List.getElem?_eq_getElem hi, Option.getD_some]
        exact List.any_eq_true.2 (h.2.2.2 _ (List.getElem_mem hi))
  · rw [if_neg hc, isB_false]
    intro h
    refine hc fun i hi => ?_
    have h2 : i + 1 < (stem ++ l0 :: lr ++ [l0]).length := by simp at hi ⊢; omega
    refine h.2.2.1 i hi _ _ ?_ ?_
    · simp [List.getElem?_eq_getElem hi]
    · rw [show (l0 :: lr).take 1 = [l0] from by simp]
      rw [List.getElem?_eq_getElem h2]; rfl
theorem is2 {g : Gapi_Graph} (hf : Fit g) {sets : List (List Bool)} {stem loop : List Int} (hs : sets.length ≤ 1048576) (h1 : stem.length ≤ 1048576) (h2 : loop.length ≤ 1048576) (κ : Bool → Option ρ) : f_r39_Is g sets ⟨stem, loop⟩ κ = κ (isB g sets stem loop) := by
  have hi := hf.i
  simp only [f_r39_Is, F_r39_Is, mkF]
  cases loop with
  | nil => rw [isB_false (fun h => h.1 rfl)]; simp
  | cons l0 lr =>
  obtain ⟨a0, hd⟩ : ∃ a0, (stem ++ l0 :: lr)[0]? = some a0 := by cases stem <;> simp
  have hlen : (stem ++ l0 :: lr).length = stem.length + (l0 :: lr).length := List.length_append
  have hpos : 0 < stem.length + (l0 :: lr).length := by simp; omega
  rw [if_neg (by simp), if_pos ⟨by omega, by omega⟩, if_pos (.inr (by simp [tl])), if_pos ⟨by omega, by omega⟩]
  have hN : ¬ (((stem ++ l0 :: lr).length : Nat) : Int) < (stem.length : Int) + ((l0 :: lr).length : Int) := by omega
  refine (loop_all (stem ++ l0 :: lr).length (fun i => (i : Int)) (fun i => nodeB g ((stem ++ l0 :: lr)[i]?.getD 0)) (κ false) ?_ (fun k => by rw [if_neg hN, if_neg hN])).trans ?_
  · intro i k hi
    have hi' : (i : Int) < (stem.length : Int) + ((l0 :: lr).length : Int) := by omega
    rw [if_pos hi', if_pos ⟨by omega, hi'⟩]
    simp only [getN hi, Option.bind_some, wrapS (show i < 4611686018427387904 by omega), List.getElem?_eq_getElem hi, Option.getD_some, node2]
    cases nodeB g _ <;> simp
  by_cases hn : ∀ i, i < (stem ++ l0 :: lr).length → nodeB g ((stem ++ l0 :: lr)[i]?.getD 0) = true
  rotate_left
  · rw [if_neg hn, isB_false]
    intro h
    refine hn fun i hi => ?_
    have h2 : i + 1 < (stem ++ l0 :: lr ++ (l0 :: lr).take 1).length := by simp at hi ⊢; omega
    have := h.2.2.1 i hi _ _ (List.getElem?_eq_getElem hi) (List.getElem?_eq_getElem h2)
    simp only [leadsB, Bool.and_eq_true] at this
    rw [List.getElem?_eq_getElem hi, Option.getD_some]
    exact this.1.1
  rw [if_pos hn, if_neg hN]
  have hnn : ∀ x ∈ stem ++ l0 :: lr, nodeB g x = true := fun x hx => by
    obtain ⟨i, hi, rfl⟩ := List.getElem_of_mem hx
    have := hn i hi
    rwa [List.getElem?_eq_getElem hi, Option.getD_some] at this
  refine (loop_run g.Init.length (fun i => ((g.Init.take i).any fun x => decide (x = a0), (i : Int))) ?_ (fun k => by simp only [Int.lt_irrefl, if_false])).trans ?_
  · intro i k hi
    simp only [Int.ofNat_lt, hi, if_true, Int.natCast_nonneg, getN hi, Option.bind_some, wrapS (show i < 4611686018427387904 by omega), any_take hi, hpos, hd]
    cases (g.Init.take i).any fun x => decide (x = a0) <;> simp
  simp only [Int.lt_irrefl, if_false, List.take_length, List.getElem?_cons_zero, Option.bind_some]
  rw [if_pos ⟨by omega, by omega⟩]
  have hN2 : ¬ ((((stem ++ l0 :: lr).length + 1 : Nat) : Int) < (stem.length : Int) + ((l0 :: lr).length : Int) + 1) := by omega
  have hw : (stem ++ l0 :: lr).length < 4611686018427387904 := by omega
  have htk : List.take (stem.length + (l0 :: lr).length) (stem ++ l0 :: lr) = stem ++ l0 :: lr := List.take_of_length_le (by omega)
  refine (loop_all (stem ++ l0 :: lr).length (fun i => (i : Int)) (fun i => leadsB g ((stem ++ l0 :: lr)[i]?.getD 0) ((stem ++ l0 :: lr ++ [l0])[i + 1]?.getD 0)) (κ false) ?_ (fun k => by rw [wrapS hw, if_neg hN2, if_neg hN2])).trans ?_
  · intro i k hi
    have h3 : i + 1 < (stem ++ l0 :: lr ++ [l0]).length := by rw [List.length_append]; simp only [List.length_cons, List.length_nil]; omega
    have hi3 : i < (stem ++ l0 :: lr ++ [l0]).length := by omega
    rw [wrapS (show i < 4611686018427387904 by omega), if_pos (show ((i + 1 : Nat) : Int) < (stem.length : Int) + ((l0 :: lr).length : Int) + 1 by omega), if_pos ⟨by omega, by omega⟩, htk, getN hi3, Option.bind_some, if_pos ⟨by omega, by omega⟩, getN h3, Option.bind_some]
    have e1 : (stem ++ l0 :: lr ++ [l0])[i] = (stem ++ l0 :: lr)[i] := List.getElem_append_left hi
    have m2 : (stem ++ l0 :: lr ++ [l0])[i + 1] ∈ stem ++ l0 :: lr := by
      have := List.getElem_mem h3
      simp only [List.mem_append, List.mem_cons, List.not_mem_nil, or_false] at this ⊢
      grind
    rw [e1, leads2 hf (hnn _ (List.getElem_mem hi)) (hnn _ m2), List.getElem?_eq_getElem hi, List.getElem?_eq_getElem h3, Option.getD_some, Option.getD_some]
    cases leadsB g _ _ <;> simp
  rw [wrapS hw, if_neg hN2]
  by_cases hc : ∀ i, i < (stem ++ l0 :: lr).length → leadsB g ((stem ++ l0 :: lr)[i]?.getD 0) ((stem ++ l0 :: lr ++ [l0])[i + 1]?.getD 0) = true
  · rw [if_pos hc]
    have hc' : ∀ i, i < (stem ++ l0 :: lr).length → ∀ a b, (stem ++ l0 :: lr)[i]? = some a → (stem ++ l0 :: lr ++ (l0 :: lr).take 1)[i + 1]? = some b → leadsB g a b = true := fun i hi a b ha hb => by
      have := hc i hi
      rw [ha, show [l0] = (l0 :: lr).take 1 from by simp, hb] at this
      exact this
    refine (loop_all sets.length (fun i => (i : Int)) (fun i => (l0 :: lr).any fun x => hasB (sets[i]?.getD []) x) (κ false) ?_ (fun k => by simp only [Int.lt_irrefl, if_false])).trans ?_
    · intro i k hi
      simp only [Int.ofNat_lt, hi, if_true, Int.natCast_nonneg, getN hi, Option.bind_some, List.getElem?_eq_getElem hi, Option.getD_some]
      refine (loop_run (l0 :: lr).length (fun j => (((l0 :: lr).take j).any fun x => hasB sets[i] x, (j : Int))) ?_ (fun k => by simp only [Int.lt_irrefl, if_false])).trans ?_
      · intro j k hj
        have h0 : 0 ≤ (l0 :: lr)[j] := (nodeB_iff.1 (hnn _ (List.mem_append_right _ (List.getElem_mem hj)))).1
        simp only [Int.ofNat_lt, hj, if_true, Int.natCast_nonneg, getN hj, Option.bind_some, wrapS (show j < 4611686018427387904 by omega), any_take hj, has2 _ h0]
        cases ((l0 :: lr).take j).any fun x => hasB sets[i] x <;> simp
      · simp only [Int.lt_irrefl, if_false, List.take_length, wrapS (show i < 4611686018427387904 by omega)]
        cases (l0 :: lr).any fun x => hasB sets[i] x <;> simp
    · simp only [Int.lt_irrefl, if_false]
      by_cases hp : ∀ i, i < sets.length → ((l0 :: lr).any fun x => hasB (sets[i]?.getD []) x) = true
      · rw [if_pos hp]
        have hps : ∀ s ∈ sets, ∃ x ∈ l0 :: lr, hasB s x = true := fun s hs => by
          obtain ⟨i, hi, rfl⟩ := List.getElem_of_mem hs
          have := hp i hi
          rw [List.getElem?_eq_getElem hi, Option.getD_some] at this
          exact List.any_eq_true.1 this
        congr 1
        cases hb : g.Init.any fun x => decide (x = a0)
        · rw [isB_false]
          intro h
          obtain ⟨x, hx, he⟩ := h.2.1
          rw [hd] at he
          simp only [Option.some.injEq] at he
          have := List.any_eq_false.1 hb x hx
          simp [he] at this
        · obtain ⟨x, hx, he⟩ := List.any_eq_true.1 hb
          rw [isB_true ⟨by simp, ⟨x, hx, by rw [hd]; simpa using (of_decide_eq_true he).symm⟩, hc', hps⟩]
      · rw [if_neg hp, isB_false]
        intro h
        refine hp fun i hi => ?_
        rw [List.getElem?_eq_getElem hi, Option.getD_some]
        exact List.any_eq_true.2 (h.2.2.2 _ (List.getElem_mem hi))
  · rw [if_neg hc, isB_false]
    intro h
    refine hc fun i hi => ?_
    have h2 : i + 1 < (stem ++ l0 :: lr ++ [l0]).length := by simp at hi ⊢; omega
    refine h.2.2.1 i hi _ _ ?_ ?_
    · simp [List.getElem?_eq_getElem hi]
    · rw [show (l0 :: lr).take 1 = [l0] from by simp]
      rw [List.getElem?_eq_getElem h2]; rfl
theorem isP_nodes {g : Gapi_Graph} {sets : List (List Bool)} {stem loop : List Int} (h : isP g sets stem loop) : ∀ x ∈ stem ++ loop, nodeB g x = true := fun x hx => by
  obtain ⟨i, hi, rfl⟩ := List.getElem_of_mem hx
  have hl : loop ≠ [] := h.1
  have h2 : i + 1 < (stem ++ loop ++ loop.take 1).length := by
    cases loop with
    | nil => exact absurd rfl hl
    | cons a l => simp at hi ⊢; omega
  have := h.2.2.1 i hi _ _ (List.getElem?_eq_getElem hi) (List.getElem?_eq_getElem h2)
  simp only [leadsB, Bool.and_eq_true] at this
  exact this.1.1
end Go.Shr
namespace Go.Shr
open Go Go.Am Go.Proofs
set_option linter.unusedSimpArgs false
set_option linter.unusedVariables false
variable {ρ : Type}
def cutL (l : List Int) (i k : Nat) : List Int := l.take i ++ l.drop k
theorem cut1 {l : List Int} (h : l.length ≤ 1048576) {i k : Nat} (hi : i ≤ l.length) (hk : k ≤ l.length) (κ : List Int → Option ρ) : f_short_cut_int l i k κ = κ (cutL l i k) := by
  have h1 : (l.take i).length ≤ 1048576 := by simp; omega
  simp only [f_short_cut_int, F_short_cut_int, mkF, Int.natCast_nonneg, if_true, Int.ofNat_le, hi, hk, Int.toNat_natCast, clone1 h1]
  rw [if_pos, if_pos]
  · rw [show List.take (l.length - k) (l.drop k) = l.drop k from List.take_of_length_le (by simp)]; rfl
  · simp only [List.length_take]; omega
  · left
    by_cases h2 : l.take i = []
    · right; rw [h2]; rfl
    · left; exact h2
def dig (n : Nat) : List Int := if n < 64 then [2 * n] else [((2 * n % 128 + 128 : Nat) : Int), ((2 * n / 128 : Nat) : Int)]
theorem zig : ∀ n : Nat, n < 300 → IntKind.u64.wrap ↑(BitVec.ofInt 64 (IntKind.u64.wrap (IntKind.u64.wrap (n : Int) * 2)) ^^^ BitVec.ofInt 64 (IntKind.u64.wrap ((n : Int).fdiv 9223372036854775808))).toNat = ((2 * n : Nat) : Int) := by decide +kernel
theorem low7 : ∀ n : Nat, n < 300 → 64 ≤ n → IntKind.u8.wrap ↑(BitVec.ofInt 8 (IntKind.u8.wrap ((2 * n : Nat) : Int)) ||| 128#8).toNat = ((2 * n % 128 + 128 : Nat) : Int) := by decide +kernel
theorem hi7 : ∀ n : Nat, n < 300 → 64 ≤ n → ((2 * n : Nat) : Int).fdiv 128 = ((2 * n / 128 : Nat) : Int) ∧ IntKind.u8.wrap ((2 * n / 128 : Nat) : Int) = ((2 * n / 128 : Nat) : Int) := by decide +kernel
theorem lo0 : ∀ n : Nat, n < 64 → IntKind.u8.wrap ((2 * n : Nat) : Int) = 2 * (n : Int) := by decide +kernel
theorem cloneB {l : List Int} (h : l.length ≤ 1048576) (κ : List Int → Option ρ) : f_slices_Clone_sbyte_byte l κ = κ l := by
  simp only [f_slices_Clone_sbyte_byte, F_slices_Clone_sbyte_byte]
  rw [if_pos ⟨by omega, by omega⟩]
theorem num1 {b : List Int} (hb : b.length ≤ 10) {n : Nat} (hn : n < 300) (κ : List Int → Option ρ) : f_octet_Num b n κ = κ (b ++ dig n) := by
  simp only [f_octet_Num, F_octet_Num, mkF, cloneB (show b.length ≤ 1048576 by omega)]
  by_cases h : n < 64
  · refine iterC_runE 0 (fun _ => (((2 * n : Nat) : Int), b)) (by exact Prod.ext (zig n hn) rfl) (fun i _ hi => absurd hi (by omega)) (fun k => ?_)
    simp only
    rw [if_neg (by omega), if_pos ⟨by omega, by omega⟩, lo0 n h]
    simp [dig, h]
  · refine iterC_runE 1 (fun i => if i = 0 then (((2 * n : Nat) : Int), b) else (((2 * n / 128 : Nat) : Int), b ++ [((2 * n % 128 + 128 : Nat) : Int)])) (by exact Prod.ext (zig n hn) rfl) (fun i k hi => ?_) (fun k => ?_)
    · obtain rfl : i = 0 := by omega
      simp only [if_true]
      rw [if_pos (by omega), if_pos ⟨by omega, by omega⟩]
      exact congrArg k (Prod.ext (hi7 n hn (by omega)).1 (congrArg (fun x => b ++ [x]) (low7 n hn (by omega))))
    · simp only [Nat.one_ne_zero, if_false]
      rw [if_neg (by omega), if_pos ⟨by simp; omega, by simp; omega⟩, (hi7 n hn (by omega)).2]
      simp [dig, h]
def keyOf (n : Nat) : List UInt8 := (2 :: dig n).map fun x => UInt8.ofNat x.toNat
def keyI (x : Int) : List UInt8 := keyOf x.toNat
theorem key1 {n : Nat} (hn : n < 300) (κ : List UInt8 → Option ρ) : f_short_key [(n : Int)] κ = κ (keyOf n) := by
  simp only [f_short_key, F_short_key, mkF, f_octet_List, F_octet_List]
  rw [show (([(n : Int)].length : Nat) : Int) = ((1 : Nat) : Int) from rfl, num1 (by simp) (by omega)]
  refine iterC_runE 1 (fun i => if i = 0 then ([] ++ dig 1, (0 : Int)) else ([] ++ dig 1 ++ dig n, 1)) (by simp) (fun i k hi => ?_) (fun k => ?_)
  · obtain rfl : i = 0 := by omega
    simp only [if_true]
    rw [if_pos (by decide), if_pos (by omega)]
    simp only [Int.toNat_zero, List.getElem?_cons_zero, Option.bind_some]
    rw [num1 (by simp [dig]) hn]
    rfl
  · simp only [Nat.one_ne_zero, if_false]
    rw [if_neg (by simp)]
    rfl
def decK (l : List UInt8) : Nat := match l with | [_, a] => a.toNat / 2 | [_, a, b] => (a.toNat - 128 + b.toNat * 128) / 2 | _ => 0
theorem decK_key : ∀ n : Nat, n < 300 → decK (keyOf n) = n := by decide +kernel
theorem key_inj {a b : Nat} (ha : a < 300) (hb : b < 300) (h : keyOf a = keyOf b) : a = b := by rw [← decK_key a ha, ← decK_key b hb, h]
theorem keyI_inj {a b : Int} (ha : 0 ≤ a ∧ a < 300) (hb : 0 ≤ b ∧ b < 300) : keyI a = keyI b ↔ a = b := by
  constructor
  · intro h
    have := key_inj (by omega) (by omega) h
    omega
  · rintro rfl; rfl
theorem keys1 {l : List Int} (hl : l.length ≤ 1048576) (h : ∀ x ∈ l, 0 ≤ x ∧ x < 300) (κ : List (List UInt8) → Option ρ) : f_short_keys l κ = κ (l.map keyI) := by
  simp only [f_short_keys, F_short_keys, mkF]
  refine (loop_run l.length (fun i => ((i : Int), (l.take i).map keyI)) ?_ (fun k => by simp only [Int.lt_irrefl, if_false])).trans ?_
  · intro i k hi
    have hx := h l[i] (List.getElem_mem hi)
    simp only [Int.ofNat_lt, hi, if_true, Int.natCast_nonneg, getN hi, Option.bind_some, wrapS (show i < 4611686018427387904 by omega)]
    have e : l[i] = ((l[i].toNat : Nat) : Int) := by omega
    rw [e, key1 (by omega), if_pos ⟨by simp; omega, by simp; omega⟩, take_step hi, List.map_append]
    rfl
  · simp only [Int.lt_irrefl, if_false, List.take_length]
theorem mget_mput {κ ν : Type} [DecidableEq κ] (l : List (κ × ν)) (a b : κ) (v : ν) : mget (mput l a v) b = if b = a then some v else mget l b := by
  induction l with
  | nil => simp [mput, mget]
  | cons p r ih =>
    obtain ⟨c, w⟩ := p
    simp only [mput]
    by_cases h : a = c
    · rw [if_pos h]; subst h
      simp only [mget]
      by_cases hb : b = a <;> simp [hb]
    · rw [if_neg h]
      simp only [mget, ih]
      by_cases hb : b = c
      · subst hb; rw [if_pos rfl, if_pos rfl, if_neg (fun e => h e.symm)]
      · rw [if_neg hb, if_neg hb]
theorem mval_mput {κ ν : Type} [DecidableEq κ] (z : ν) (l : List (κ × ν)) (a b : κ) (v : ν) : mval z (mput l a v) b = if b = a then v else mval z l b := by
  simp only [mval, mget_mput]
  split <;> rfl
def plc (ks : List (List UInt8)) : Nat → List (List UInt8 × List Int)
  | 0 => []
  | i + 1 => mput (plc ks i) (ks[i]?.getD []) (mval [] (plc ks i) (ks[i]?.getD []) ++ [(i : Int)])
def posn (ks : List (List UInt8)) (i : Nat) (k : List UInt8) : List Int := ((List.range i).filter fun j => decide (ks[j]?.getD [] = k)).map fun (j : Nat) => (j : Int)
theorem plc_val (ks : List (List UInt8)) (k : List UInt8) : ∀ i, mval [] (plc ks i) k = posn ks i k
  | 0 => rfl
  | i + 1 => by
    rw [plc, mval_mput, posn, List.range_succ, List.filter_append, List.map_append]
    by_cases h : ks[i]?.getD [] = k
    · subst h
      simp [plc_val ks _ i, posn]
    · rw [if_neg (fun e => h e.symm), plc_val ks k i]
      simp [h, posn]
theorem posn_len (ks : List (List UInt8)) (i : Nat) (k : List UInt8) : (posn ks i k).length ≤ i := by
  simp only [posn, List.length_map]
  exact Nat.le_trans (List.length_filter_le _ _) (by simp)
def srch (i : Int) (q : Int → Bool) (r : Int → Option ρ) (fin : Option ρ) : List Int → Option ρ
  | [] => fin
  | y :: m => if i < y then if q y = true then r y else srch i q r fin m else fin
theorem srch_find {i : Int} {q : Int → Bool} {r : Int → Option ρ} {fin : Option ρ} : ∀ (m : List Int), m.Pairwise (· > ·) → srch i q r fin m = match m.find? (fun y => decide (i < y) && q y) with | some y => r y | none => fin
  | [], _ => rfl
  | y :: m, h => by
    rw [List.pairwise_cons] at h
    rw [srch, List.find?_cons]
    by_cases h1 : i < y
    · rw [if_pos h1]
      cases hq : q y
      · simp only [h1, decide_true, Bool.and_false, Bool.false_eq_true, if_false, srch_find m h.2]
      · simp [h1]
    · rw [if_neg h1]
      have : m.find? (fun y => decide (i < y) && q y) = none := by
        rw [List.find?_eq_none]
        intro x hx
        have := h.1 x hx
        simp only [Bool.and_eq_true, decide_eq_true_eq, not_and]
        intro; omega
      simp [h1, this]
theorem loop_down {Φ : Int → (Int → Option ρ) → Option ρ} (L : List Int) (hL : L.length ≤ 1048576) (i : Int) (q : Int → Bool) (r : Int → Option ρ) (fin : Option ρ)
    (h : ∀ (j : Nat) k (hj : j < L.length), Φ (j : Int) k = if i < L[j] then if q L[j] = true then r L[j] else k (IntKind.i64.wrap ((j : Int) - 1)) else fin) (h0 : ∀ k, Φ (-1) k = fin) :
    iterC Φ (IntKind.i64.wrap ((L.length : Int) - 1)) = srch i q r fin L.reverse := by
  have hw : ∀ j : Nat, j ≤ 1048576 → IntKind.i64.wrap ((j : Int) - 1) = (j : Int) - 1 := fun j hj => wrap64 (by omega) (by omega)
  rw [hw _ hL]
  refine (iterC_is (fun (v : Int) => -1 ≤ v ∧ v < L.length) (fun (v : Int) => srch i q r fin (L.take (v + 1).toNat).reverse) (fun (v : Int) => (v + 1).toNat) ?_ (by omega)).trans ?_
  · intro v k ⟨hv1, hv2⟩ hk
    by_cases hv : v = -1
    · subst hv; rw [h0]; rfl
    · obtain ⟨j, rfl⟩ : ∃ j : Nat, v = j := ⟨v.toNat, by omega⟩
      have hj : j < L.length := by omega
      rw [h j k hj, show (((j : Int) + 1).toNat) = j + 1 by omega, take_step hj, List.reverse_append]
      simp only [List.reverse_cons, List.reverse_nil, List.nil_append, List.cons_append, srch]
      rw [hw _ (by omega), hk _ (by omega) (by omega), show (((j : Int) - 1 + 1).toNat) = j by omega]
  · rw [show ((L.length : Int) - 1 + 1).toNat = L.length by omega, List.take_length]
end Go.Shr
