/- A part of the proof: texts of mine, merged by a program (wip/dev/merge.py). -/
import Derived.Test.YtabkianhbgpfgaaFw5
import Derived.Test.YtabkianhbgpfgaaRows
import Derived.WalkKit
import Derived.ProofKit
import Derived.OpenShut
import Derived.JoinedCond
import Derived.Carry
import Derived.ChangeArms
namespace Go.Fair
open Go Go.Am Go.Proofs
set_option linter.unusedSimpArgs false
set_option linter.unusedVariables false
noncomputable section
section
variable (p0 : List Int) (p1 : List (List Gapi_Edge)) (p2 : Int)
def K_law40_far_0 (p0 : List Int) (p1 : List (List Gapi_Edge)) (p2 : Int) (β : Bool) (H : List Ob) : ((Int) × (Int)) ⊕ ((Int) × (Int)) → Ex × St
  | .inl (v0, v1) => (.normal, ⟨[(1, .d (.sl β (List.map eI p0))), (5, .d (.int IntKind.i64 v0)), (16, .d (.sl β (List.map (esapi_Edge β) p1))), (17, .d (.int IntKind.i64 p2)), (18, .d (.int IntKind.i64 v1))], [], []⟩)
  | .inr (y0_0, y0_1) => ((.exit 0), ⟨[(1, .d (.sl β (List.map eI (p0)))), (5, .d (.int IntKind.i64 y0_0)), (16, .d (.sl β (List.map (esapi_Edge β) (p1)))), (17, .d (.int IntKind.i64 (p2))), (18, .d (.int IntKind.i64 y0_1)), (19, .d (.bool (false)))], [], []⟩)
def F_law40_far_0 : {f : Int → Int → Option (((Int) × (Int)) ⊕ ((Int) × (Int))) // ∀ β H v0 v1 r, r = (f v0 v1).map (K_law40_far_0 p0 p1 p2 β H) → codeX P hints hint6 (loopBody L6_0) ((K_law40_far_0 p0 p1 p2 β H) (.inl (v0, v1))).2 = r} := by
  refine ⟨?f, ?h⟩
  case h =>
    intro β H v0 v1 r hr
    rw [codeX_go]
    have k0 := fun (v0 : Int) (v1 : Int) => kk (K_law40_far_0 p0 p1 p2 β H) (.inl (v0, v1))
    have k1 := fun (y0_0 : Int) (y0_1 : Int) => kk (K_law40_far_0 p0 p1 p2 β H) (.inr (y0_0, y0_1))
    simp only [K_law40_far_0] at k0 k1
    cases β
    all_goals
      simp -implicitDefEqProofs (maxSteps := 1000000) [go_sem, K_law40_far_0, -List.map_append]
      simp only [k0, k1, pulls, len_snoc, List.length_set]
      exact hr.symm
theorem V_law40_far_0 (β : Bool) (H : List Ob) (v0 : Int) (v1 : Int) : codeX P hints hint6 L6_0 ((K_law40_far_0 p0 p1 p2 β H) (.inl (v0, v1))).2 = (iter (fun x => (F_law40_far_0 p0 p1 p2).1 x.1 x.2) (v0, v1)).bind fun y => some (K_law40_far_0 p0 p1 p2 β H (.inr (y.1, y.2))) := by
  exact (loop_iterK (a := loopBody L6_0) (K := (K_law40_far_0 p0 p1 p2 β H)) (f := fun x => (F_law40_far_0 p0 p1 p2).1 x.1 x.2) (fun _ => (F_law40_far_0 p0 p1 p2).2 β H _ _ _ rfl) (fun _ => rfl) (by rintro (_) <;> exact nofun) (v0, v1)).trans map_1
end
section
variable (a0 : Gapi_Graph) (a1 : List Int)
def K_law40_far (a0 : Gapi_Graph) (a1 : List Int) (β : Bool) (H : List Ob) : (Bool) → List T × List Ob
  | y0_0 => ([.d (.bool y0_0)], [])
def F_law40_far : {o : Option (Bool) // ∀ β H r, r = o.map (K_law40_far a0 a1 β H) → call 6 [(eapi_Graph β) a0, (esi64 β) a1] (lockA []) = r} := by
  refine ⟨?f, ?h⟩
  case h =>
    intro β H r hr
    show call 6 [(eapi_Graph β) a0, (esi64 β) a1] [] = r
    have w0 := fun (p0 : List Int) (p1 : List (List Gapi_Edge)) (p2 : Int) (β : Bool) (v0 : Int) (v1 : Int) => go_of (V_law40_far_0 p0 p1 p2 β [] v0 v1)
    simp only [K_law40_far_0, case2_bind, Option.bind_assoc, Option.bind_some] at w0
    have k0 := fun (y0_0 : Bool) => kk (K_law40_far a0 a1 β H) y0_0
    simp only [K_law40_far, List.map_nil] at k0
    cases β
    all_goals
      simp -implicitDefEqProofs (maxSteps := 1000000) [go_sem, ge6, w0, -List.map_append]
      simp only [k0, pulls, len_snoc, List.length_set]
      exact hr.symm
end
theorem U_law40_far (β : Bool) (a0_0 : List Int) (a0_1 : List (List Gapi_Edge)) (a0_2 : List Int) (a1 : List Int) : call 6 [.agg [.sl β (List.map eI a0_0), .sl β (List.map (esapi_Edge β) a0_1), .sl β (List.map (eK .u64) a0_2)], .sl β (List.map eI a1)] (lockA []) = ((F_law40_far (Gapi_Graph.mk a0_0 a0_1 a0_2) a1).1).bind fun y => some (K_law40_far (Gapi_Graph.mk a0_0 a0_1 a0_2) a1 β [] y) := ((F_law40_far (Gapi_Graph.mk a0_0 a0_1 a0_2) a1).2 β [] _ rfl).trans map_1
@[go_sem] theorem W_law40_far (β : Bool) (a0_0 : List Int) (a0_1 : List (List Gapi_Edge)) (a0_2 : List Int) (a1 : List Int) : type_of% (by have h := @U_law40_far β a0_0 a0_1 a0_2 a1; simp only [K_law40_far] at h; exact h) := by have h := @U_law40_far β a0_0 a0_1 a0_2 a1; simp only [K_law40_far] at h; exact h
section
variable (a0 : Gapi_Graph) (a1 : Int)
def K_graph_node (a0 : Gapi_Graph) (a1 : Int) (β : Bool) (H : List Ob) : (Bool) → List T × List Ob
  | y0_0 => ([.d (.bool y0_0)], lockA H)
def F_graph_node : {o : Option (Bool) // ∀ β H r, r = o.map (K_graph_node a0 a1 β H) → call 25 [(eapi_Graph β) a0, eI a1] (lockA H) = r} := by
  refine ⟨?f, ?h⟩
  case h =>
    intro β H r hr
    have k0 := fun (y0_0 : Bool) => kk (K_graph_node a0 a1 β H) y0_0
    simp only [K_graph_node, List.map_nil] at k0
    cases β
    all_goals
      simp -implicitDefEqProofs (maxSteps := 1000000) [go_sem, ge25, -List.map_append]
      simp only [k0, pulls, len_snoc, List.length_set]
      exact hr.symm
end
theorem U_graph_node (β : Bool) (H : List Ob) (a0_0 : List Int) (a0_1 : List (List Gapi_Edge)) (a0_2 : List Int) (a1 : Int) : call 25 [.agg [.sl β (List.map eI a0_0), .sl β (List.map (esapi_Edge β) a0_1), .sl β (List.map (eK .u64) a0_2)], .int .i64 a1] (lockA H) = ((F_graph_node (Gapi_Graph.mk a0_0 a0_1 a0_2) a1).1).bind fun y => some (K_graph_node (Gapi_Graph.mk a0_0 a0_1 a0_2) a1 β H y) := ((F_graph_node (Gapi_Graph.mk a0_0 a0_1 a0_2) a1).2 β H _ rfl).trans map_1
@[go_sem] theorem W_graph_node (β : Bool) (H : List Ob) (a0_0 : List Int) (a0_1 : List (List Gapi_Edge)) (a0_2 : List Int) (a1 : Int) : type_of% (by have h := @U_graph_node β H a0_0 a0_1 a0_2 a1; simp only [K_graph_node] at h; exact h) := by have h := @U_graph_node β H a0_0 a0_1 a0_2 a1; simp only [K_graph_node] at h; exact h
attribute [go_sem] ge27
attribute [go_sem] ge28
attribute [go_sem] ge26
section
variable (p0 : List Int) (p1 : Int) (p2 : List (List Gapi_Edge)) (p3 : List Int)
def K_graph_Check_0 (p0 : List Int) (p1 : Int) (p2 : List (List Gapi_Edge)) (p3 : List Int) (β : Bool) (H : List Ob) : (Int) ⊕ ((Unit) ⊕ (Int)) → Ex × St
  | .inl v0 => (.normal, ⟨[(1, .d (.ptr (0))), (19, .d (.sl β (List.map eI p0))), (20, .d (.int IntKind.i64 p1)), (21, .d (.int IntKind.i64 v0))], [], [.box (.d (.agg [.sl β (List.map eI p0), .sl β (List.map (esapi_Edge β) p2), .sl β (List.map (eK IntKind.u64) p3)]))]⟩)
  | .inr (.inl ()) => (.ret, ⟨[(2, .d (.int IntKind.i64 (10)))], [], [.box (.d (.agg [.sl β (List.map eI (p0)), .sl β (List.map (esapi_Edge β) (p2)), .sl β (List.map (eK IntKind.u64) (p3))]))]⟩)
  | .inr (.inr y1_0) => ((.exit 0), ⟨[(1, .d (.ptr (0))), (19, .d (.sl β (List.map eI (p0)))), (20, .d (.int IntKind.i64 (p1))), (21, .d (.int IntKind.i64 y1_0)), (22, .d (.bool (false)))], [], [.box (.d (.agg [.sl β (List.map eI (p0)), .sl β (List.map (esapi_Edge β) (p2)), .sl β (List.map (eK IntKind.u64) (p3))]))]⟩)
def F_graph_Check_0 : {f : Int → Option ((Int) ⊕ ((Unit) ⊕ (Int))) // ∀ β H v0 r, r = (f v0).map (K_graph_Check_0 p0 p1 p2 p3 β H) → codeX P hints hint15 (loopBody L15_0) ((K_graph_Check_0 p0 p1 p2 p3 β H) (.inl v0)).2 = r} := by
  refine ⟨?f, ?h⟩
  case h =>
    intro β H v0 r hr
    rw [codeX_go]
    have k0 := fun (v0 : Int) => kk (K_graph_Check_0 p0 p1 p2 p3 β H) (.inl v0)
    have k1 := kk (K_graph_Check_0 p0 p1 p2 p3 β H) (.inr (.inl ()))
    have k2 := fun (y1_0 : Int) => kk (K_graph_Check_0 p0 p1 p2 p3 β H) (.inr (.inr y1_0))
    simp only [K_graph_Check_0] at k0 k1 k2
    cases β
    all_goals
      simp -implicitDefEqProofs (maxSteps := 1000000) [go_sem, K_graph_Check_0, -List.map_append]
      simp only [k0, k1, k2, pulls, len_snoc, List.length_set]
      exact hr.symm
theorem V_graph_Check_0 (β : Bool) (H : List Ob) (v0 : Int) : codeX P hints hint15 L15_0 ((K_graph_Check_0 p0 p1 p2 p3 β H) (.inl v0)).2 = case2 (iter ((F_graph_Check_0 p0 p1 p2 p3).1) v0) (fun y => some (K_graph_Check_0 p0 p1 p2 p3 β H (.inr (.inl ())))) (fun y => some (K_graph_Check_0 p0 p1 p2 p3 β H (.inr (.inr y)))) := by
  exact (loop_iterK (a := loopBody L15_0) (K := (K_graph_Check_0 p0 p1 p2 p3 β H)) (f := (F_graph_Check_0 p0 p1 p2 p3).1) (fun _ => (F_graph_Check_0 p0 p1 p2 p3).2 β H _ _ rfl) (fun _ => rfl) (by rintro (_ | _) <;> exact nofun) v0).trans map_2
end
section
variable (p0 : List Gapi_Edge) (p1 : Int) (p2 : List Int) (p3 : List (List Gapi_Edge)) (p4 : List Int)
def K_slices_IndexFunc_sapi_Edge_api_Edge_in_graph_Check_0 (p0 : List Gapi_Edge) (p1 : Int) (p2 : List Int) (p3 : List (List Gapi_Edge)) (p4 : List Int) (β : Bool) (H : List Ob) : (Int) ⊕ ((Int) ⊕ (Int)) → Ex × St
  | .inl v0 => (.normal, ⟨[(0, .d (.sl β (List.map eapi_Edge p0))), (1, .d (.fn (Fn.func 27) [] [.ptr (0)])), (7, .d (.int IntKind.i64 p1)), (8, .d (.int IntKind.i64 v0))], [], [.box (.d (.agg [.sl β (List.map eI p2), .sl β (List.map (esapi_Edge β) p3), .sl β (List.map (eK IntKind.u64) p4)]))]⟩)
  | .inr (.inl y0_0) => (.ret, ⟨[(4, .d (.int IntKind.i64 y0_0))], [], [.box (.d (.agg [.sl β (List.map eI (p2)), .sl β (List.map (esapi_Edge β) (p3)), .sl β (List.map (eK IntKind.u64) (p4))]))]⟩)
  | .inr (.inr y1_0) => ((.exit 0), ⟨[(0, .d (.sl β (List.map eapi_Edge (p0)))), (1, .d (.fn (Fn.func 27) [] [.ptr (0)])), (7, .d (.int IntKind.i64 (p1))), (8, .d (.int IntKind.i64 y1_0)), (9, .d (.bool (false)))], [], [.box (.d (.agg [.sl β (List.map eI (p2)), .sl β (List.map (esapi_Edge β) (p3)), .sl β (List.map (eK IntKind.u64) (p4))]))]⟩)
def F_slices_IndexFunc_sapi_Edge_api_Edge_in_graph_Check_0 : {f : Int → Option ((Int) ⊕ ((Int) ⊕ (Int))) // ∀ β H v0 r, r = (f v0).map (K_slices_IndexFunc_sapi_Edge_api_Edge_in_graph_Check_0 p0 p1 p2 p3 p4 β H) → codeX P hints hint28 (loopBody L28_0) ((K_slices_IndexFunc_sapi_Edge_api_Edge_in_graph_Check_0 p0 p1 p2 p3 p4 β H) (.inl v0)).2 = r} := by
  refine ⟨?f, ?h⟩
  case h =>
    intro β H v0 r hr
    rw [codeX_go]
    have k0 := fun (v0 : Int) => kk (K_slices_IndexFunc_sapi_Edge_api_Edge_in_graph_Check_0 p0 p1 p2 p3 p4 β H) (.inl v0)
    have k1 := fun (y0_0 : Int) => kk (K_slices_IndexFunc_sapi_Edge_api_Edge_in_graph_Check_0 p0 p1 p2 p3 p4 β H) (.inr (.inl y0_0))
    have k2 := fun (y1_0 : Int) => kk (K_slices_IndexFunc_sapi_Edge_api_Edge_in_graph_Check_0 p0 p1 p2 p3 p4 β H) (.inr (.inr y1_0))
    simp only [K_slices_IndexFunc_sapi_Edge_api_Edge_in_graph_Check_0] at k0 k1 k2
    cases β
    all_goals
      simp -implicitDefEqProofs (maxSteps := 1000000) [go_sem, K_slices_IndexFunc_sapi_Edge_api_Edge_in_graph_Check_0, -List.map_append]
      simp only [k0, k1, k2, pulls, len_snoc, List.length_set]
      exact hr.symm
theorem V_slices_IndexFunc_sapi_Edge_api_Edge_in_graph_Check_0 (β : Bool) (H : List Ob) (v0 : Int) : codeX P hints hint28 L28_0 ((K_slices_IndexFunc_sapi_Edge_api_Edge_in_graph_Check_0 p0 p1 p2 p3 p4 β H) (.inl v0)).2 = case2 (iter ((F_slices_IndexFunc_sapi_Edge_api_Edge_in_graph_Check_0 p0 p1 p2 p3 p4).1) v0) (fun y => some (K_slices_IndexFunc_sapi_Edge_api_Edge_in_graph_Check_0 p0 p1 p2 p3 p4 β H (.inr (.inl y)))) (fun y => some (K_slices_IndexFunc_sapi_Edge_api_Edge_in_graph_Check_0 p0 p1 p2 p3 p4 β H (.inr (.inr y)))) := by
  exact (loop_iterK (a := loopBody L28_0) (K := (K_slices_IndexFunc_sapi_Edge_api_Edge_in_graph_Check_0 p0 p1 p2 p3 p4 β H)) (f := (F_slices_IndexFunc_sapi_Edge_api_Edge_in_graph_Check_0 p0 p1 p2 p3 p4).1) (fun _ => (F_slices_IndexFunc_sapi_Edge_api_Edge_in_graph_Check_0 p0 p1 p2 p3 p4).2 β H _ _ rfl) (fun _ => rfl) (by rintro (_ | _) <;> exact nofun) v0).trans map_2
end
section
variable (p0 : List (List Gapi_Edge)) (p1 : Int) (p2 : List Int) (p3 : List Int)
def K_graph_Check_1 (p0 : List (List Gapi_Edge)) (p1 : Int) (p2 : List Int) (p3 : List Int) (β : Bool) (H : List Ob) : (Int) ⊕ ((Unit) ⊕ (Int)) → Ex × St
  | .inl v0 => (.normal, ⟨[(1, .d (.ptr (0))), (31, .d (.sl β (List.map (esapi_Edge β) p0))), (32, .d (.int IntKind.i64 p1)), (33, .d (.int IntKind.i64 v0))], [], [.box (.d (.agg [.sl β (List.map eI p2), .sl β (List.map (esapi_Edge β) p0), .sl β (List.map (eK IntKind.u64) p3)]))]⟩)
  | .inr (.inl ()) => (.ret, ⟨[(2, .d (.int IntKind.i64 (10)))], [], [.box (.d (.agg [.sl β (List.map eI (p2)), .sl β (List.map (esapi_Edge β) (p0)), .sl β (List.map (eK IntKind.u64) (p3))]))]⟩)
  | .inr (.inr y1_0) => ((.exit 2), ⟨[(1, .d (.ptr (0))), (31, .d (.sl β (List.map (esapi_Edge β) (p0)))), (32, .d (.int IntKind.i64 (p1))), (33, .d (.int IntKind.i64 y1_0)), (34, .d (.bool (false)))], [], [.box (.d (.agg [.sl β (List.map eI (p2)), .sl β (List.map (esapi_Edge β) (p0)), .sl β (List.map (eK IntKind.u64) (p3))]))]⟩)
def F_graph_Check_1 : {f : Int → Option ((Int) ⊕ ((Unit) ⊕ (Int))) // ∀ β H v0 r, r = (f v0).map (K_graph_Check_1 p0 p1 p2 p3 β H) → codeX P hints hint15 (loopBody L15_1) ((K_graph_Check_1 p0 p1 p2 p3 β H) (.inl v0)).2 = r} := by
  refine ⟨?f, ?h⟩
  case h =>
    intro β H v0 r hr
    rw [codeX_go]
    have w0 := fun (p0 : List Gapi_Edge) (p1 : Int) (p2 : List Int) (p3 : List (List Gapi_Edge)) (p4 : List Int) (β : Bool) (v0 : Int) => go_of (V_slices_IndexFunc_sapi_Edge_api_Edge_in_graph_Check_0 p0 p1 p2 p3 p4 β [] v0)
    simp only [K_slices_IndexFunc_sapi_Edge_api_Edge_in_graph_Check_0, case2_bind, Option.bind_assoc, Option.bind_some] at w0
    have k0 := fun (v0 : Int) => kk (K_graph_Check_1 p0 p1 p2 p3 β H) (.inl v0)
    have k1 := kk (K_graph_Check_1 p0 p1 p2 p3 β H) (.inr (.inl ()))
    have k2 := fun (y1_0 : Int) => kk (K_graph_Check_1 p0 p1 p2 p3 β H) (.inr (.inr y1_0))
    simp only [K_graph_Check_1] at k0 k1 k2
    cases β
    all_goals
      simp -implicitDefEqProofs (maxSteps := 1000000) [go_sem, K_graph_Check_1, w0, -List.map_append]
      simp only [k0, k1, k2, pulls, len_snoc, List.length_set]
      exact hr.symm
theorem V_graph_Check_1 (β : Bool) (H : List Ob) (v0 : Int) : codeX P hints hint15 L15_1 ((K_graph_Check_1 p0 p1 p2 p3 β H) (.inl v0)).2 = case2 (iter ((F_graph_Check_1 p0 p1 p2 p3).1) v0) (fun y => some (K_graph_Check_1 p0 p1 p2 p3 β H (.inr (.inl ())))) (fun y => some (K_graph_Check_1 p0 p1 p2 p3 β H (.inr (.inr y)))) := by
  exact (loop_iterK (a := loopBody L15_1) (K := (K_graph_Check_1 p0 p1 p2 p3 β H)) (f := (F_graph_Check_1 p0 p1 p2 p3).1) (fun _ => (F_graph_Check_1 p0 p1 p2 p3).2 β H _ _ rfl) (fun _ => rfl) (by rintro (_ | _) <;> exact nofun) v0).trans map_2
end
section
variable (a0 : Gapi_Graph)
def K_graph_Check (a0 : Gapi_Graph) (β : Bool) (H : List Ob) : (Int) → List T × List Ob
  | y0_0 => ([.d (.int IntKind.i64 y0_0)], [])
def F_graph_Check : {o : Option (Int) // ∀ β H r, r = o.map (K_graph_Check a0 β H) → call 15 [(eapi_Graph β) a0] (lockA []) = r} := by
  refine ⟨?f, ?h⟩
  case h =>
    intro β H r hr
    show call 15 [(eapi_Graph β) a0] [] = r
    have w0 := fun (p0 : List Int) (p1 : Int) (p2 : List (List Gapi_Edge)) (p3 : List Int) (β : Bool) (v0 : Int) => go_of (V_graph_Check_0 p0 p1 p2 p3 β [] v0)
    simp only [K_graph_Check_0, case2_bind, Option.bind_assoc, Option.bind_some] at w0
    have w1 := fun (p0 : List (List Gapi_Edge)) (p1 : Int) (p2 : List Int) (p3 : List Int) (β : Bool) (v0 : Int) => go_of (V_graph_Check_1 p0 p1 p2 p3 β [] v0)
    simp only [K_graph_Check_1, case2_bind, Option.bind_assoc, Option.bind_some] at w1
    have k0 := fun (y0_0 : Int) => kk (K_graph_Check a0 β H) y0_0
    simp only [K_graph_Check, List.map_nil] at k0
    cases β
    all_goals
      simp -implicitDefEqProofs (maxSteps := 1000000) [go_sem, ge15, w0, w1, -List.map_append]
      simp only [k0, pulls, len_snoc, List.length_set]
      exact hr.symm
end
theorem U_graph_Check (β : Bool) (a0_0 : List Int) (a0_1 : List (List Gapi_Edge)) (a0_2 : List Int) : call 15 [.agg [.sl β (List.map eI a0_0), .sl β (List.map (esapi_Edge β) a0_1), .sl β (List.map (eK .u64) a0_2)]] (lockA []) = ((F_graph_Check (Gapi_Graph.mk a0_0 a0_1 a0_2)).1).bind fun y => some (K_graph_Check (Gapi_Graph.mk a0_0 a0_1 a0_2) β [] y) := ((F_graph_Check (Gapi_Graph.mk a0_0 a0_1 a0_2)).2 β [] _ rfl).trans map_1
@[go_sem] theorem W_graph_Check (β : Bool) (a0_0 : List Int) (a0_1 : List (List Gapi_Edge)) (a0_2 : List Int) : type_of% (by have h := @U_graph_Check β a0_0 a0_1 a0_2; simp only [K_graph_Check] at h; exact h) := by have h := @U_graph_Check β a0_0 a0_1 a0_2; simp only [K_graph_Check] at h; exact h
section
variable (p0 : List Int) (p1 : List (List Bool)) (p2 : Int)
def K_fair_fits_0 (p0 : List Int) (p1 : List (List Bool)) (p2 : Int) (β : Bool) (H : List Ob) : (Int) ⊕ ((Unit) ⊕ (Int)) → Ex × St
  | .inl v0 => (.normal, ⟨[(2, .d (.sl β (List.map eI p0))), (15, .d (.sl β (List.map (esbool β) p1))), (16, .d (.int IntKind.i64 p2)), (17, .d (.int IntKind.i64 v0))], [], []⟩)
  | .inr (.inl ()) => (.ret, ⟨[(6, .d (.bool (false)))], [], []⟩)
  | .inr (.inr y1_0) => ((.exit 0), ⟨[(2, .d (.sl β (List.map eI (p0)))), (15, .d (.sl β (List.map (esbool β) (p1)))), (16, .d (.int IntKind.i64 (p2))), (17, .d (.int IntKind.i64 y1_0)), (18, .d (.bool (false)))], [], []⟩)
def F_fair_fits_0 : {f : Int → Option ((Int) ⊕ ((Unit) ⊕ (Int))) // ∀ β H v0 r, r = (f v0).map (K_fair_fits_0 p0 p1 p2 β H) → codeX P hints hint16 (loopBody L16_0) ((K_fair_fits_0 p0 p1 p2 β H) (.inl v0)).2 = r} := by
  refine ⟨?f, ?h⟩
  case h =>
    intro β H v0 r hr
    rw [codeX_go]
    have k0 := fun (v0 : Int) => kk (K_fair_fits_0 p0 p1 p2 β H) (.inl v0)
    have k1 := kk (K_fair_fits_0 p0 p1 p2 β H) (.inr (.inl ()))
    have k2 := fun (y1_0 : Int) => kk (K_fair_fits_0 p0 p1 p2 β H) (.inr (.inr y1_0))
    simp only [K_fair_fits_0] at k0 k1 k2
    cases β
    all_goals
      simp -implicitDefEqProofs (maxSteps := 1000000) [go_sem, K_fair_fits_0, -List.map_append]
      simp only [k0, k1, k2, pulls, len_snoc, List.length_set]
      exact hr.symm
theorem V_fair_fits_0 (β : Bool) (H : List Ob) (v0 : Int) : codeX P hints hint16 L16_0 ((K_fair_fits_0 p0 p1 p2 β H) (.inl v0)).2 = case2 (iter ((F_fair_fits_0 p0 p1 p2).1) v0) (fun y => some (K_fair_fits_0 p0 p1 p2 β H (.inr (.inl ())))) (fun y => some (K_fair_fits_0 p0 p1 p2 β H (.inr (.inr y)))) := by
  exact (loop_iterK (a := loopBody L16_0) (K := (K_fair_fits_0 p0 p1 p2 β H)) (f := (F_fair_fits_0 p0 p1 p2).1) (fun _ => (F_fair_fits_0 p0 p1 p2).2 β H _ _ rfl) (fun _ => rfl) (by rintro (_ | _) <;> exact nofun) v0).trans map_2
end
section
variable (a0 : Gapi_Graph) (a1 : List (List Bool)) (a2 : List Int)
def K_fair_fits (a0 : Gapi_Graph) (a1 : List (List Bool)) (a2 : List Int) (β : Bool) (H : List Ob) : (Bool) → List T × List Ob
  | y0_0 => ([.d (.bool y0_0)], [])
def F_fair_fits : {o : Option (Bool) // ∀ β H r, r = o.map (K_fair_fits a0 a1 a2 β H) → call 16 [(eapi_Graph β) a0, (essbool β) a1, (esi64 β) a2] (lockA []) = r} := by
  refine ⟨?f, ?h⟩
  case h =>
    intro β H r hr
    show call 16 [(eapi_Graph β) a0, (essbool β) a1, (esi64 β) a2] [] = r
    have w0 := fun (p0 : List Int) (p1 : List (List Bool)) (p2 : Int) (β : Bool) (v0 : Int) => go_of (V_fair_fits_0 p0 p1 p2 β [] v0)
    simp only [K_fair_fits_0, case2_bind, Option.bind_assoc, Option.bind_some] at w0
    have k0 := fun (y0_0 : Bool) => kk (K_fair_fits a0 a1 a2 β H) y0_0
    simp only [K_fair_fits, List.map_nil] at k0
    cases β
    all_goals
      simp -implicitDefEqProofs (maxSteps := 1000000) [go_sem, ge16, w0, -List.map_append]
      simp only [k0, pulls, len_snoc, List.length_set]
      exact hr.symm
end
theorem U_fair_fits (β : Bool) (a0_0 : List Int) (a0_1 : List (List Gapi_Edge)) (a0_2 : List Int) (a1 : List (List Bool)) (a2 : List Int) : call 16 [.agg [.sl β (List.map eI a0_0), .sl β (List.map (esapi_Edge β) a0_1), .sl β (List.map (eK .u64) a0_2)], .sl β (List.map (esbool β) a1), .sl β (List.map eI a2)] (lockA []) = ((F_fair_fits (Gapi_Graph.mk a0_0 a0_1 a0_2) a1 a2).1).bind fun y => some (K_fair_fits (Gapi_Graph.mk a0_0 a0_1 a0_2) a1 a2 β [] y) := ((F_fair_fits (Gapi_Graph.mk a0_0 a0_1 a0_2) a1 a2).2 β [] _ rfl).trans map_1
@[go_sem] theorem W_fair_fits (β : Bool) (a0_0 : List Int) (a0_1 : List (List Gapi_Edge)) (a0_2 : List Int) (a1 : List (List Bool)) (a2 : List Int) : type_of% (by have h := @U_fair_fits β a0_0 a0_1 a0_2 a1 a2; simp only [K_fair_fits] at h; exact h) := by have h := @U_fair_fits β a0_0 a0_1 a0_2 a1 a2; simp only [K_fair_fits] at h; exact h
attribute [go_sem] ge18
attribute [go_sem] ge17
section
variable (a0 : Int)
def K_fair_ref (a0 : Int) (β : Bool) (H : List Ob) : (Int) → List T × List Ob
  | y0_0 => ([.d (.int IntKind.i64 y0_0)], lockA H)
def F_fair_ref : {o : Option (Int) // ∀ β H r, r = o.map (K_fair_ref a0 β H) → call 19 [eI a0] (lockA H) = r} := by
  refine ⟨?f, ?h⟩
  case h =>
    intro β H r hr
    have k0 := fun (y0_0 : Int) => kk (K_fair_ref a0 β H) y0_0
    simp only [K_fair_ref, List.map_nil] at k0
    cases β
    all_goals
      simp -implicitDefEqProofs (maxSteps := 1000000) [go_sem, ge19, -List.map_append]
      simp only [k0, pulls, len_snoc, List.length_set]
      exact hr.symm
end
theorem U_fair_ref (H : List Ob) (a0 : Int) : call 19 [.int .i64 a0] (lockA H) = ((F_fair_ref a0).1).bind fun y => some (K_fair_ref a0 true H y) := ((F_fair_ref a0).2 true H _ rfl).trans map_1
@[go_sem] theorem W_fair_ref (H : List Ob) (a0 : Int) : type_of% (by have h := @U_fair_ref H a0; simp only [K_fair_ref] at h; exact h) := by have h := @U_fair_ref H a0; simp only [K_fair_ref] at h; exact h
section
variable (p0 : List Int) (p1 : Int)
def Z_fair_maker_first_in_fair_Sets_0 (p0 : List Int) (p1 : Int) (β : Bool) (H : List Ob) (n0 : Nat) (v0 : Int) (v1 : List (Int)) (v2 : List (Gfair_pair × Int)) (v3 : List (Gfair_pair)) : St := ⟨[(0, .d (.ptr (1))), (5, .bor (.l 5 0) [] 0 n0), (9, .d (.sl β (List.map eI p0))), (10, .d (.int IntKind.i64 p1)), (11, .d (.int IntKind.i64 v0))], [((5, 0), .own (tl eI v1))], [.map (ents efair_pair eI v2), .box (.agg [.d (.map (0)), .own (tl efair_pair v3)])]⟩
def Z_fair_maker_first_in_fair_Sets_0_0 (p0 : List Int) (p1 : Int) (β : Bool) (H : List Ob) (n0 : Nat) (y0_0 : Int) (y0_1 : List Int) (y0_2 : List (Gfair_pair × Int)) (y0_3 : List Gfair_pair) : St := ⟨[(0, .d (.ptr (1))), (5, .bor (.l 5 0) [] 0 n0), (9, .d (.sl β (List.map eI (p0)))), (10, .d (.int IntKind.i64 (p1))), (11, .d (.int IntKind.i64 y0_0)), (12, .d (.bool (false)))], [((5, 0), .own (tl eI y0_1))], [.map (ents efair_pair eI y0_2), .box (.agg [.d (.map (0)), .own (tl efair_pair y0_3)])]⟩
def K_fair_maker_first_in_fair_Sets_0 (p0 : List Int) (p1 : Int) (β : Bool) (H : List Ob) : ((Int) × (List (Int)) × (List (Gfair_pair × Int)) × (List (Gfair_pair))) ⊕ ((Int) × (List Int) × (List (Gfair_pair × Int)) × (List Gfair_pair)) → Ex × St
  | .inl (v0, v1, v2, v3) => (.normal, Z_fair_maker_first_in_fair_Sets_0 p0 p1 β H (List.length v1) v0 v1 v2 v3)
  | .inr (y0_0, y0_1, y0_2, y0_3) => ((.exit 0), Z_fair_maker_first_in_fair_Sets_0_0 p0 p1 β H (List.length y0_1) y0_0 y0_1 y0_2 y0_3)
def F_fair_maker_first_in_fair_Sets_0 : {f : Int → (List (Int)) → (List (Gfair_pair × Int)) → (List (Gfair_pair)) → Option (((Int) × (List (Int)) × (List (Gfair_pair × Int)) × (List (Gfair_pair))) ⊕ ((Int) × (List Int) × (List (Gfair_pair × Int)) × (List Gfair_pair))) // ∀ β H v0 v1 v2 v3 r, r = (f v0 v1 v2 v3).map (K_fair_maker_first_in_fair_Sets_0 p0 p1 β H) → codeX P hints hint17 (loopBody L17_0) ((K_fair_maker_first_in_fair_Sets_0 p0 p1 β H) (.inl (v0, v1, v2, v3))).2 = r} := by
  refine ⟨?f, ?h⟩
  case h =>
    intro β H v0 v1 v2 v3 r hr
    rw [codeX_go]
    have k0 := fun (n0 : Nat) (v0 : Int) (v1 : List (Int)) (v2 : List (Gfair_pair × Int)) (v3 : List (Gfair_pair)) (hn0 : n0 = List.length v1) => kn (K_fair_maker_first_in_fair_Sets_0 p0 p1 β H) (.inl (v0, v1, v2, v3)) (Ex.normal, Z_fair_maker_first_in_fair_Sets_0 p0 p1 β H n0 v0 v1 v2 v3) (by subst_vars; rfl)
    have k1 := fun (n0 : Nat) (y0_0 : Int) (y0_1 : List Int) (y0_2 : List (Gfair_pair × Int)) (y0_3 : List Gfair_pair) (hn0 : n0 = List.length y0_1) => kn (K_fair_maker_first_in_fair_Sets_0 p0 p1 β H) (.inr (y0_0, y0_1, y0_2, y0_3)) ((Ex.exit 0), Z_fair_maker_first_in_fair_Sets_0_0 p0 p1 β H n0 y0_0 y0_1 y0_2 y0_3) (by subst_vars; rfl)
    simp only [K_fair_maker_first_in_fair_Sets_0, Z_fair_maker_first_in_fair_Sets_0, Z_fair_maker_first_in_fair_Sets_0_0] at k0 k1
    cases β
    all_goals
      simp -implicitDefEqProofs (maxSteps := 1000000) [go_sem, K_fair_maker_first_in_fair_Sets_0, Z_fair_maker_first_in_fair_Sets_0, Z_fair_maker_first_in_fair_Sets_0_0, -List.map_append]
      simp only [k0, k1, pulls, len_snoc, List.length_set]
      exact hr.symm
theorem V_fair_maker_first_in_fair_Sets_0 (β : Bool) (H : List Ob) (n0 : Nat) (v0 : Int) (v1 : List (Int)) (v2 : List (Gfair_pair × Int)) (v3 : List (Gfair_pair)) (hn0 : n0 = List.length v1) : codeX P hints hint17 L17_0 (Z_fair_maker_first_in_fair_Sets_0 p0 p1 β H n0 v0 v1 v2 v3) = (iter (fun x => (F_fair_maker_first_in_fair_Sets_0 p0 p1).1 x.1 x.2.1 x.2.2.1 x.2.2.2) (v0, v1, v2, v3)).bind fun y => some (K_fair_maker_first_in_fair_Sets_0 p0 p1 β H (.inr (y.1, y.2.1, y.2.2.1, y.2.2.2))) := by
  subst_vars; exact (loop_iterK (a := loopBody L17_0) (K := (K_fair_maker_first_in_fair_Sets_0 p0 p1 β H)) (f := fun x => (F_fair_maker_first_in_fair_Sets_0 p0 p1).1 x.1 x.2.1 x.2.2.1 x.2.2.2) (fun _ => (F_fair_maker_first_in_fair_Sets_0 p0 p1).2 β H _ _ _ _ _ rfl) (fun _ => rfl) (by rintro (_) <;> exact nofun) (v0, v1, v2, v3)).trans map_1
end
section
variable (p0 : List (List Bool)) (p1 : List Int) (p2 : Int) (p3 : Int) (p4 : List Gapi_Edge) (p5 : Int) (p6 : List Int) (p7 : List (List Gapi_Edge)) (p8 : List Int) (p9 : List Int)
def Z_fair_Sets_0 (p0 : List (List Bool)) (p1 : List Int) (p2 : Int) (p3 : Int) (p4 : List Gapi_Edge) (p5 : Int) (p6 : List Int) (p7 : List (List Gapi_Edge)) (p8 : List Int) (p9 : List Int) (β : Bool) (H : List Ob) (n0 : Nat) (v0 : Int) (v1 : List (Gapi_Edge)) (v2 : List (Gfair_pair × Int)) (v3 : List Gfair_pair) : St := ⟨[(1, .d (.sl β (List.map (esbool β) p0))), (2, .d (.sl β (List.map eI p1))), (3, .loc (Root.l 3 0) [] (0) 0), (6, .loc (Root.l 6 0) [] (0) 0), (11, .d (.ptr (1))), (12, .loc (Root.l 12 0) [] (0) 0), (13, .d (.int IntKind.i64 p2)), (14, .d (.int IntKind.i64 p3)), (15, .bor (.l 15 0) [] 0 n0), (73, .d (.sl β (List.map eapi_Edge p4))), (74, .d (.int IntKind.i64 p5)), (75, .d (.int IntKind.i64 v0))], [((3, 0), .own [.d (.agg [.sl β (List.map eI p6), .sl β (List.map (esapi_Edge β) p7), .sl β (List.map (eK IntKind.u64) p8)])]), ((6, 0), .own [.agg [.own [], .own [], .own []]]), ((12, 0), .own [.agg [.d (.sl false (List.map eI p9)), .own [], .own []]]), ((15, 0), .own (tl eapi_Edge v1))], [.map (ents efair_pair eI v2), .box (.agg [.d (.map (0)), .own (tl efair_pair v3)])]⟩
def Z_fair_Sets_0_0 (p0 : List (List Bool)) (p1 : List Int) (p2 : Int) (p3 : Int) (p4 : List Gapi_Edge) (p5 : Int) (p6 : List Int) (p7 : List (List Gapi_Edge)) (p8 : List Int) (p9 : List Int) (β : Bool) (H : List Ob) (n0 : Nat) (y0_0 : Int) (y0_1 : List Gapi_Edge) (y0_2 : List (Gfair_pair × Int)) (y0_3 : List Gfair_pair) : St := ⟨[(1, .d (.sl β (List.map (esbool β) (p0)))), (2, .d (.sl β (List.map eI (p1)))), (3, .loc (Root.l 3 0) [] (0) 0), (6, .loc (Root.l 6 0) [] (0) 0), (11, .d (.ptr (1))), (12, .loc (Root.l 12 0) [] (0) 0), (13, .d (.int IntKind.i64 (p2))), (14, .d (.int IntKind.i64 (p3))), (15, .bor (.l 15 0) [] 0 n0), (73, .d (.sl β (List.map eapi_Edge (p4)))), (74, .d (.int IntKind.i64 (p5))), (75, .d (.int IntKind.i64 y0_0)), (76, .d (.bool (false)))], [((3, 0), .own [.d (.agg [.sl β (List.map eI (p6)), .sl β (List.map (esapi_Edge β) (p7)), .sl β (List.map (eK IntKind.u64) (p8))])]), ((6, 0), .own [.agg [.own [], .own [], .own []]]), ((12, 0), .own [.agg [.d (.sl false (List.map eI (p9))), .own [], .own []]]), ((15, 0), .own (tl eapi_Edge y0_1))], [.map (ents efair_pair eI y0_2), .box (.agg [.d (.map (0)), .own (tl efair_pair y0_3)])]⟩
def K_fair_Sets_0 (p0 : List (List Bool)) (p1 : List Int) (p2 : Int) (p3 : Int) (p4 : List Gapi_Edge) (p5 : Int) (p6 : List Int) (p7 : List (List Gapi_Edge)) (p8 : List Int) (p9 : List Int) (β : Bool) (H : List Ob) : ((Int) × (List (Gapi_Edge)) × (List (Gfair_pair × Int)) × (List Gfair_pair)) ⊕ ((Int) × (List Gapi_Edge) × (List (Gfair_pair × Int)) × (List Gfair_pair)) → Ex × St
  | .inl (v0, v1, v2, v3) => (.normal, Z_fair_Sets_0 p0 p1 p2 p3 p4 p5 p6 p7 p8 p9 β H (List.length v1) v0 v1 v2 v3)
  | .inr (y0_0, y0_1, y0_2, y0_3) => ((.exit 3), Z_fair_Sets_0_0 p0 p1 p2 p3 p4 p5 p6 p7 p8 p9 β H (List.length y0_1) y0_0 y0_1 y0_2 y0_3)
def F_fair_Sets_0 : {f : Int → (List (Gapi_Edge)) → (List (Gfair_pair × Int)) → (List Gfair_pair) → Option (((Int) × (List (Gapi_Edge)) × (List (Gfair_pair × Int)) × (List Gfair_pair)) ⊕ ((Int) × (List Gapi_Edge) × (List (Gfair_pair × Int)) × (List Gfair_pair))) // ∀ β H v0 v1 v2 v3 r, r = (f v0 v1 v2 v3).map (K_fair_Sets_0 p0 p1 p2 p3 p4 p5 p6 p7 p8 p9 β H) → codeX P hints hint8 (loopBody L8_0) ((K_fair_Sets_0 p0 p1 p2 p3 p4 p5 p6 p7 p8 p9 β H) (.inl (v0, v1, v2, v3))).2 = r} := by
  refine ⟨?f, ?h⟩
  case h =>
    intro β H v0 v1 v2 v3 r hr
    rw [codeX_go]
    have k0 := fun (n0 : Nat) (v0 : Int) (v1 : List (Gapi_Edge)) (v2 : List (Gfair_pair × Int)) (v3 : List Gfair_pair) (hn0 : n0 = List.length v1) => kn (K_fair_Sets_0 p0 p1 p2 p3 p4 p5 p6 p7 p8 p9 β H) (.inl (v0, v1, v2, v3)) (Ex.normal, Z_fair_Sets_0 p0 p1 p2 p3 p4 p5 p6 p7 p8 p9 β H n0 v0 v1 v2 v3) (by subst_vars; rfl)
    have k1 := fun (n0 : Nat) (y0_0 : Int) (y0_1 : List Gapi_Edge) (y0_2 : List (Gfair_pair × Int)) (y0_3 : List Gfair_pair) (hn0 : n0 = List.length y0_1) => kn (K_fair_Sets_0 p0 p1 p2 p3 p4 p5 p6 p7 p8 p9 β H) (.inr (y0_0, y0_1, y0_2, y0_3)) ((Ex.exit 3), Z_fair_Sets_0_0 p0 p1 p2 p3 p4 p5 p6 p7 p8 p9 β H n0 y0_0 y0_1 y0_2 y0_3) (by subst_vars; rfl)
    simp only [K_fair_Sets_0, Z_fair_Sets_0, Z_fair_Sets_0_0] at k0 k1
    cases β
    all_goals
      simp -implicitDefEqProofs (maxSteps := 1000000) [go_sem, K_fair_Sets_0, Z_fair_Sets_0, Z_fair_Sets_0_0, -List.map_append]
      simp only [k0, k1, pulls, len_snoc, List.length_set]
      exact hr.symm
theorem V_fair_Sets_0 (β : Bool) (H : List Ob) (n0 : Nat) (v0 : Int) (v1 : List (Gapi_Edge)) (v2 : List (Gfair_pair × Int)) (v3 : List Gfair_pair) (hn0 : n0 = List.length v1) : codeX P hints hint8 L8_0 (Z_fair_Sets_0 p0 p1 p2 p3 p4 p5 p6 p7 p8 p9 β H n0 v0 v1 v2 v3) = (iter (fun x => (F_fair_Sets_0 p0 p1 p2 p3 p4 p5 p6 p7 p8 p9).1 x.1 x.2.1 x.2.2.1 x.2.2.2) (v0, v1, v2, v3)).bind fun y => some (K_fair_Sets_0 p0 p1 p2 p3 p4 p5 p6 p7 p8 p9 β H (.inr (y.1, y.2.1, y.2.2.1, y.2.2.2))) := by
  subst_vars; exact (loop_iterK (a := loopBody L8_0) (K := (K_fair_Sets_0 p0 p1 p2 p3 p4 p5 p6 p7 p8 p9 β H)) (f := fun x => (F_fair_Sets_0 p0 p1 p2 p3 p4 p5 p6 p7 p8 p9).1 x.1 x.2.1 x.2.2.1 x.2.2.2) (fun _ => (F_fair_Sets_0 p0 p1 p2 p3 p4 p5 p6 p7 p8 p9).2 β H _ _ _ _ _ rfl) (fun _ => rfl) (by rintro (_) <;> exact nofun) (v0, v1, v2, v3)).trans map_1
end
section
variable (p0 : List (List Bool)) (p1 : List Int) (p2 : Int) (p3 : Int) (p4 : List Gapi_Edge) (p5 : Int) (p6 : List Int) (p7 : List (List Gapi_Edge)) (p8 : List Int) (p9 : List Int) (p10 : List (List Gapi_Edge)) (p11 : List Int)
def Z_fair_Sets_0v1 (p0 : List (List Bool)) (p1 : List Int) (p2 : Int) (p3 : Int) (p4 : List Gapi_Edge) (p5 : Int) (p6 : List Int) (p7 : List (List Gapi_Edge)) (p8 : List Int) (p9 : List Int) (p10 : List (List Gapi_Edge)) (p11 : List Int) (β : Bool) (H : List Ob) (n0 : Nat) (v0 : Int) (v1 : List (Gapi_Edge)) (v2 : List (Gfair_pair × Int)) (v3 : List Gfair_pair) : St := ⟨[(1, .d (.sl β (List.map (esbool β) p0))), (2, .d (.sl β (List.map eI p1))), (3, .loc (Root.l 3 0) [] (0) 0), (6, .loc (Root.l 6 0) [] (0) 0), (11, .d (.ptr (1))), (12, .loc (Root.l 12 0) [] (0) 0), (13, .d (.int IntKind.i64 p2)), (14, .d (.int IntKind.i64 p3)), (15, .bor (.l 15 0) [] 0 n0), (73, .d (.sl β (List.map eapi_Edge p4))), (74, .d (.int IntKind.i64 p5)), (75, .d (.int IntKind.i64 v0))], [((3, 0), .own [.d (.agg [.sl β (List.map eI p6), .sl β (List.map (esapi_Edge β) p7), .sl β (List.map (eK IntKind.u64) p8)])]), ((6, 0), .own [.agg [.own [], .own [], .own []]]), ((12, 0), .own [.agg [.d (.sl false (List.map eI p9)), .own (tl (esapi_Edge false) p10), .own (tl (eK IntKind.u64) p11)]]), ((15, 0), .own (tl eapi_Edge v1))], [.map (ents efair_pair eI v2), .box (.agg [.d (.map (0)), .own (tl efair_pair v3)])]⟩
def Z_fair_Sets_0v1_0 (p0 : List (List Bool)) (p1 : List Int) (p2 : Int) (p3 : Int) (p4 : List Gapi_Edge) (p5 : Int) (p6 : List Int) (p7 : List (List Gapi_Edge)) (p8 : List Int) (p9 : List Int) (p10 : List (List Gapi_Edge)) (p11 : List Int) (β : Bool) (H : List Ob) (n0 : Nat) (y0_0 : Int) (y0_1 : List Gapi_Edge) (y0_2 : List (Gfair_pair × Int)) (y0_3 : List Gfair_pair) : St := ⟨[(1, .d (.sl β (List.map (esbool β) (p0)))), (2, .d (.sl β (List.map eI (p1)))), (3, .loc (Root.l 3 0) [] (0) 0), (6, .loc (Root.l 6 0) [] (0) 0), (11, .d (.ptr (1))), (12, .loc (Root.l 12 0) [] (0) 0), (13, .d (.int IntKind.i64 (p2))), (14, .d (.int IntKind.i64 (p3))), (15, .bor (.l 15 0) [] 0 n0), (73, .d (.sl β (List.map eapi_Edge (p4)))), (74, .d (.int IntKind.i64 (p5))), (75, .d (.int IntKind.i64 y0_0)), (76, .d (.bool (false)))], [((3, 0), .own [.d (.agg [.sl β (List.map eI (p6)), .sl β (List.map (esapi_Edge β) (p7)), .sl β (List.map (eK IntKind.u64) (p8))])]), ((6, 0), .own [.agg [.own [], .own [], .own []]]), ((12, 0), .own [.agg [.d (.sl false (List.map eI (p9))), .own (tl (esapi_Edge false) (p10)), .own (tl (eK IntKind.u64) (p11))]]), ((15, 0), .own (tl eapi_Edge y0_1))], [.map (ents efair_pair eI y0_2), .box (.agg [.d (.map (0)), .own (tl efair_pair y0_3)])]⟩
def K_fair_Sets_0v1 (p0 : List (List Bool)) (p1 : List Int) (p2 : Int) (p3 : Int) (p4 : List Gapi_Edge) (p5 : Int) (p6 : List Int) (p7 : List (List Gapi_Edge)) (p8 : List Int) (p9 : List Int) (p10 : List (List Gapi_Edge)) (p11 : List Int) (β : Bool) (H : List Ob) : ((Int) × (List (Gapi_Edge)) × (List (Gfair_pair × Int)) × (List Gfair_pair)) ⊕ ((Int) × (List Gapi_Edge) × (List (Gfair_pair × Int)) × (List Gfair_pair)) → Ex × St
  | .inl (v0, v1, v2, v3) => (.normal, Z_fair_Sets_0v1 p0 p1 p2 p3 p4 p5 p6 p7 p8 p9 p10 p11 β H (List.length v1) v0 v1 v2 v3)
  | .inr (y0_0, y0_1, y0_2, y0_3) => ((.exit 3), Z_fair_Sets_0v1_0 p0 p1 p2 p3 p4 p5 p6 p7 p8 p9 p10 p11 β H (List.length y0_1) y0_0 y0_1 y0_2 y0_3)
def F_fair_Sets_0v1 : {f : Int → (List (Gapi_Edge)) → (List (Gfair_pair × Int)) → (List Gfair_pair) → Option (((Int) × (List (Gapi_Edge)) × (List (Gfair_pair × Int)) × (List Gfair_pair)) ⊕ ((Int) × (List Gapi_Edge) × (List (Gfair_pair × Int)) × (List Gfair_pair))) // ∀ β H v0 v1 v2 v3 r, r = (f v0 v1 v2 v3).map (K_fair_Sets_0v1 p0 p1 p2 p3 p4 p5 p6 p7 p8 p9 p10 p11 β H) → codeX P hints hint8 (loopBody L8_0) ((K_fair_Sets_0v1 p0 p1 p2 p3 p4 p5 p6 p7 p8 p9 p10 p11 β H) (.inl (v0, v1, v2, v3))).2 = r} := by
  refine ⟨?f, ?h⟩
  case h =>
    intro β H v0 v1 v2 v3 r hr
    rw [codeX_go]
    have k0 := fun (n0 : Nat) (v0 : Int) (v1 : List (Gapi_Edge)) (v2 : List (Gfair_pair × Int)) (v3 : List Gfair_pair) (hn0 : n0 = List.length v1) => kn (K_fair_Sets_0v1 p0 p1 p2 p3 p4 p5 p6 p7 p8 p9 p10 p11 β H) (.inl (v0, v1, v2, v3)) (Ex.normal, Z_fair_Sets_0v1 p0 p1 p2 p3 p4 p5 p6 p7 p8 p9 p10 p11 β H n0 v0 v1 v2 v3) (by subst_vars; rfl)
    have k1 := fun (n0 : Nat) (y0_0 : Int) (y0_1 : List Gapi_Edge) (y0_2 : List (Gfair_pair × Int)) (y0_3 : List Gfair_pair) (hn0 : n0 = List.length y0_1) => kn (K_fair_Sets_0v1 p0 p1 p2 p3 p4 p5 p6 p7 p8 p9 p10 p11 β H) (.inr (y0_0, y0_1, y0_2, y0_3)) ((Ex.exit 3), Z_fair_Sets_0v1_0 p0 p1 p2 p3 p4 p5 p6 p7 p8 p9 p10 p11 β H n0 y0_0 y0_1 y0_2 y0_3) (by subst_vars; rfl)
    simp only [K_fair_Sets_0v1, Z_fair_Sets_0v1, Z_fair_Sets_0v1_0] at k0 k1
    cases β
    all_goals
      simp -implicitDefEqProofs (maxSteps := 1000000) [go_sem, K_fair_Sets_0v1, Z_fair_Sets_0v1, Z_fair_Sets_0v1_0, -List.map_append]
      simp only [k0, k1, pulls, len_snoc, List.length_set]
      exact hr.symm
theorem V_fair_Sets_0v1 (β : Bool) (H : List Ob) (n0 : Nat) (v0 : Int) (v1 : List (Gapi_Edge)) (v2 : List (Gfair_pair × Int)) (v3 : List Gfair_pair) (hn0 : n0 = List.length v1) : codeX P hints hint8 L8_0 (Z_fair_Sets_0v1 p0 p1 p2 p3 p4 p5 p6 p7 p8 p9 p10 p11 β H n0 v0 v1 v2 v3) = (iter (fun x => (F_fair_Sets_0v1 p0 p1 p2 p3 p4 p5 p6 p7 p8 p9 p10 p11).1 x.1 x.2.1 x.2.2.1 x.2.2.2) (v0, v1, v2, v3)).bind fun y => some (K_fair_Sets_0v1 p0 p1 p2 p3 p4 p5 p6 p7 p8 p9 p10 p11 β H (.inr (y.1, y.2.1, y.2.2.1, y.2.2.2))) := by
  subst_vars; exact (loop_iterK (a := loopBody L8_0) (K := (K_fair_Sets_0v1 p0 p1 p2 p3 p4 p5 p6 p7 p8 p9 p10 p11 β H)) (f := fun x => (F_fair_Sets_0v1 p0 p1 p2 p3 p4 p5 p6 p7 p8 p9 p10 p11).1 x.1 x.2.1 x.2.2.1 x.2.2.2) (fun _ => (F_fair_Sets_0v1 p0 p1 p2 p3 p4 p5 p6 p7 p8 p9 p10 p11).2 β H _ _ _ _ _ rfl) (fun _ => rfl) (by rintro (_) <;> exact nofun) (v0, v1, v2, v3)).trans map_1
end
section
variable (p0 : List (List Bool)) (p1 : List Int) (p2 : List Int) (p3 : List (List Gapi_Edge)) (p4 : List Int) (p5 : List Int)
def K_fair_Sets_1 (p0 : List (List Bool)) (p1 : List Int) (p2 : List Int) (p3 : List (List Gapi_Edge)) (p4 : List Int) (p5 : List Int) (β : Bool) (H : List Ob) : ((Int) × (List (List Gapi_Edge)) × (List (Int)) × (List (Gfair_pair × Int)) × (List Gfair_pair)) ⊕ (((List (Gfair_pair × Int)) × (List Gfair_pair)) ⊕ ((Int) × (List (List Gapi_Edge)) × (List Int) × (List (Gfair_pair × Int)) × (List Gfair_pair))) → Ex × St
  | .inl (v0, v1, v2, v3, v4) => (.normal, ⟨[(1, .d (.sl β (List.map (esbool β) p0))), (2, .d (.sl β (List.map eI p1))), (3, .loc (Root.l 3 0) [] (0) 0), (6, .loc (Root.l 6 0) [] (0) 0), (11, .d (.ptr (1))), (12, .loc (Root.l 12 0) [] (0) 0), (13, .d (.int IntKind.i64 v0))], [((3, 0), .own [.d (.agg [.sl β (List.map eI p2), .sl β (List.map (esapi_Edge β) p3), .sl β (List.map (eK IntKind.u64) p4)])]), ((6, 0), .own [.agg [.own [], .own [], .own []]]), ((12, 0), .own [.agg [.d (.sl false (List.map eI p5)), .own (tl (esapi_Edge false) v1), .own (tl (eK .u64) v2)]])], [.map (ents efair_pair eI v3), .box (.agg [.d (.map (0)), .own (tl efair_pair v4)])]⟩)
  | .inr (.inl (y0_0, y0_1)) => (.ret, ⟨[(6, .loc (Root.l 6 0) [] (0) 0), (7, .bor (.l 7 0) [] 0 0), (8, .bor (.l 8 0) [] 0 0), (9, .d (.int IntKind.i64 (11)))], [((6, 0), .own [.agg [.own [], .own [], .own []]]), ((7, 0), .own []), ((8, 0), .own [])], [.map (ents efair_pair eI y0_0), .box (.agg [.d (.map (0)), .own (tl efair_pair y0_1)])]⟩)
  | .inr (.inr (y1_0, y1_1, y1_2, y1_3, y1_4)) => ((.exit 1), ⟨[(1, .d (.sl β (List.map (esbool β) (p0)))), (2, .d (.sl β (List.map eI (p1)))), (3, .loc (Root.l 3 0) [] (0) 0), (6, .loc (Root.l 6 0) [] (0) 0), (11, .d (.ptr (1))), (12, .loc (Root.l 12 0) [] (0) 0), (13, .d (.int IntKind.i64 y1_0)), (58, .d (.bool (false)))], [((3, 0), .own [.d (.agg [.sl β (List.map eI (p2)), .sl β (List.map (esapi_Edge β) (p3)), .sl β (List.map (eK IntKind.u64) (p4))])]), ((6, 0), .own [.agg [.own [], .own [], .own []]]), ((12, 0), .own [.agg [.d (.sl false (List.map eI (p5))), .own (tl (esapi_Edge false) y1_1), .own (tl (eK IntKind.u64) y1_2)]])], [.map (ents efair_pair eI y1_3), .box (.agg [.d (.map (0)), .own (tl efair_pair y1_4)])]⟩)
def F_fair_Sets_1 : {f : Int → (List (List Gapi_Edge)) → (List (Int)) → (List (Gfair_pair × Int)) → (List Gfair_pair) → Option (((Int) × (List (List Gapi_Edge)) × (List (Int)) × (List (Gfair_pair × Int)) × (List Gfair_pair)) ⊕ (((List (Gfair_pair × Int)) × (List Gfair_pair)) ⊕ ((Int) × (List (List Gapi_Edge)) × (List Int) × (List (Gfair_pair × Int)) × (List Gfair_pair)))) // ∀ β H v0 v1 v2 v3 v4 r, r = (f v0 v1 v2 v3 v4).map (K_fair_Sets_1 p0 p1 p2 p3 p4 p5 β H) → codeX P hints hint8 (loopBody L8_1) ((K_fair_Sets_1 p0 p1 p2 p3 p4 p5 β H) (.inl (v0, v1, v2, v3, v4))).2 = r} := by
  refine ⟨?f, ?h⟩
  case h =>
    intro β H v0 v1 v2 v3 v4 r hr
    rw [codeX_go]
    have w0 := fun (p0 : List (List Bool)) (p1 : List Int) (p2 : Int) (p3 : Int) (p4 : List Gapi_Edge) (p5 : Int) (p6 : List Int) (p7 : List (List Gapi_Edge)) (p8 : List Int) (p9 : List Int) (β : Bool) (v0 : Int) (v2 : List (Gfair_pair × Int)) (v3 : List Gfair_pair) => go_of (V_fair_Sets_0 p0 p1 p2 p3 p4 p5 p6 p7 p8 p9 β [] 0 v0 [] v2 v3 rfl)
    simp only [K_fair_Sets_0, Z_fair_Sets_0, Z_fair_Sets_0_0, tl_nil, tlo_rep, ents_nil, case2_bind, Option.bind_assoc, Option.bind_some] at w0
    have w1 := fun (p0 : List (List Bool)) (p1 : List Int) (p2 : Int) (p3 : Int) (p4 : List Gapi_Edge) (p5 : Int) (p6 : List Int) (p7 : List (List Gapi_Edge)) (p8 : List Int) (p9 : List Int) (p10 : List (List Gapi_Edge)) (p11 : List Int) (β : Bool) (v0 : Int) (v2 : List (Gfair_pair × Int)) (v3 : List Gfair_pair) => go_of (V_fair_Sets_0v1 p0 p1 p2 p3 p4 p5 p6 p7 p8 p9 p10 p11 β [] 0 v0 [] v2 v3 rfl)
    simp only [K_fair_Sets_0v1, Z_fair_Sets_0v1, Z_fair_Sets_0v1_0, tl_nil, tlo_rep, ents_nil, case2_bind, Option.bind_assoc, Option.bind_some] at w1
    have k0 := fun (v0 : Int) (v1 : List (List Gapi_Edge)) (v2 : List (Int)) (v3 : List (Gfair_pair × Int)) (v4 : List Gfair_pair) => kk (K_fair_Sets_1 p0 p1 p2 p3 p4 p5 β H) (.inl (v0, v1, v2, v3, v4))
    have k1 := fun (y0_0 : List (Gfair_pair × Int)) (y0_1 : List Gfair_pair) => kk (K_fair_Sets_1 p0 p1 p2 p3 p4 p5 β H) (.inr (.inl (y0_0, y0_1)))
    have k2 := fun (y1_0 : Int) (y1_1 : List (List Gapi_Edge)) (y1_2 : List Int) (y1_3 : List (Gfair_pair × Int)) (y1_4 : List Gfair_pair) => kk (K_fair_Sets_1 p0 p1 p2 p3 p4 p5 β H) (.inr (.inr (y1_0, y1_1, y1_2, y1_3, y1_4)))
    simp only [K_fair_Sets_1] at k0 k1 k2
    cases β
    all_goals
      simp -implicitDefEqProofs (maxSteps := 1000000) [go_sem, K_fair_Sets_1, w0, w1, -List.map_append]
      simp only [k0, k1, k2, pulls, len_snoc, List.length_set]
      exact hr.symm
theorem V_fair_Sets_1 (β : Bool) (H : List Ob) (v0 : Int) (v1 : List (List Gapi_Edge)) (v2 : List (Int)) (v3 : List (Gfair_pair × Int)) (v4 : List Gfair_pair) : codeX P hints hint8 L8_1 ((K_fair_Sets_1 p0 p1 p2 p3 p4 p5 β H) (.inl (v0, v1, v2, v3, v4))).2 = case2 (iter (fun x => (F_fair_Sets_1 p0 p1 p2 p3 p4 p5).1 x.1 x.2.1 x.2.2.1 x.2.2.2.1 x.2.2.2.2) (v0, v1, v2, v3, v4)) (fun y => some (K_fair_Sets_1 p0 p1 p2 p3 p4 p5 β H (.inr (.inl (y.1, y.2))))) (fun y => some (K_fair_Sets_1 p0 p1 p2 p3 p4 p5 β H (.inr (.inr (y.1, y.2.1, y.2.2.1, y.2.2.2.1, y.2.2.2.2))))) := by
  exact (loop_iterK (a := loopBody L8_1) (K := (K_fair_Sets_1 p0 p1 p2 p3 p4 p5 β H)) (f := fun x => (F_fair_Sets_1 p0 p1 p2 p3 p4 p5).1 x.1 x.2.1 x.2.2.1 x.2.2.2.1 x.2.2.2.2) (fun _ => (F_fair_Sets_1 p0 p1 p2 p3 p4 p5).2 β H _ _ _ _ _ _ rfl) (fun _ => rfl) (by rintro (_ | _) <;> exact nofun) (v0, v1, v2, v3, v4)).trans map_2
end
section
variable (p0 : List (List Bool)) (p1 : Int) (p2 : Int) (p3 : List Int) (p4 : Int) (p5 : Nat) (p6 : Int) (p7 : List Int) (p8 : List (List Gapi_Edge)) (p9 : List Int) (p10 : List Int) (p11 : List (Gfair_pair × Int)) (p12 : List Gfair_pair)
def Z_fair_Sets_2 (p0 : List (List Bool)) (p1 : Int) (p2 : Int) (p3 : List Int) (p4 : Int) (p5 : Nat) (p6 : Int) (p7 : List Int) (p8 : List (List Gapi_Edge)) (p9 : List Int) (p10 : List Int) (p11 : List (Gfair_pair × Int)) (p12 : List Gfair_pair) (β : Bool) (H : List Ob) (n0 : Nat) (n1 : Nat) (v0 : Int) (v1 : List (List Bool)) : St := ⟨[(1, .d (.sl β (List.map (esbool β) p0))), (6, .loc (Root.l 6 0) [] (0) 0), (11, .d (.ptr (1))), (12, .loc (Root.l 12 0) [] (0) 0), (18, .bor (.l 18 0) [] 0 n0), (19, .bor (.l 19 0) [] 0 n1), (20, .d (.int IntKind.i64 p1)), (21, .d (.int IntKind.i64 p2)), (126, .d (.sl β (List.map eI p3))), (127, .d (.int IntKind.i64 p4)), (128, .d (.int IntKind.i64 p1)), (145, .bor (Root.o 1) [(0, 1)] 0 p5), (146, .d (.int IntKind.i64 p6)), (147, .d (.int IntKind.i64 v0))], [((6, 0), .own [.agg [.own [], .own [], .own []]]), ((12, 0), .own [.agg [.d (.sl false (List.map eI p7)), .own (tl (esapi_Edge false) p8), .own (tl (eK IntKind.u64) p9)]]), ((18, 0), .own (tl eI p10)), ((19, 0), .own (tlo eB v1))], [.map (ents efair_pair eI p11), .box (.agg [.d (.map (0)), .own (tl efair_pair p12)])]⟩
def Z_fair_Sets_2_0 (p0 : List (List Bool)) (p1 : Int) (p2 : Int) (p3 : List Int) (p4 : Int) (p5 : Nat) (p6 : Int) (p7 : List Int) (p8 : List (List Gapi_Edge)) (p9 : List Int) (p10 : List Int) (p11 : List (Gfair_pair × Int)) (p12 : List Gfair_pair) (β : Bool) (H : List Ob) (n0 : Nat) (n1 : Nat) (y0_0 : Int) (y0_1 : List (List Bool)) : St := ⟨[(1, .d (.sl β (List.map (esbool β) (p0)))), (6, .loc (Root.l 6 0) [] (0) 0), (11, .d (.ptr (1))), (12, .loc (Root.l 12 0) [] (0) 0), (18, .bor (.l 18 0) [] 0 n0), (19, .bor (.l 19 0) [] 0 n1), (20, .d (.int IntKind.i64 (p1))), (21, .d (.int IntKind.i64 (p2))), (126, .d (.sl β (List.map eI (p3)))), (127, .d (.int IntKind.i64 (p4))), (128, .d (.int IntKind.i64 (p1))), (145, .bor (Root.o 1) [(0, 1)] 0 (p5)), (146, .d (.int IntKind.i64 (p6))), (147, .d (.int IntKind.i64 y0_0)), (148, .d (.bool (false)))], [((6, 0), .own [.agg [.own [], .own [], .own []]]), ((12, 0), .own [.agg [.d (.sl false (List.map eI (p7))), .own (tl (esapi_Edge false) (p8)), .own (tl (eK IntKind.u64) (p9))]]), ((18, 0), .own (tl eI (p10))), ((19, 0), .own (tlo eB y0_1))], [.map (ents efair_pair eI (p11)), .box (.agg [.d (.map (0)), .own (tl efair_pair (p12))])]⟩
def K_fair_Sets_2 (p0 : List (List Bool)) (p1 : Int) (p2 : Int) (p3 : List Int) (p4 : Int) (p5 : Nat) (p6 : Int) (p7 : List Int) (p8 : List (List Gapi_Edge)) (p9 : List Int) (p10 : List Int) (p11 : List (Gfair_pair × Int)) (p12 : List Gfair_pair) (β : Bool) (H : List Ob) : ((Int) × (List (List Bool))) ⊕ ((Int) × (List (List Bool))) → Ex × St
  | .inl (v0, v1) => (.normal, Z_fair_Sets_2 p0 p1 p2 p3 p4 p5 p6 p7 p8 p9 p10 p11 p12 β H (List.length p10) (List.length v1) v0 v1)
  | .inr (y0_0, y0_1) => ((.exit 7), Z_fair_Sets_2_0 p0 p1 p2 p3 p4 p5 p6 p7 p8 p9 p10 p11 p12 β H (List.length (p10)) (List.length y0_1) y0_0 y0_1)
def F_fair_Sets_2 : {f : Int → (List (List Bool)) → Option (((Int) × (List (List Bool))) ⊕ ((Int) × (List (List Bool)))) // ∀ β H v0 v1 r, r = (f v0 v1).map (K_fair_Sets_2 p0 p1 p2 p3 p4 p5 p6 p7 p8 p9 p10 p11 p12 β H) → codeX P hints hint8 (loopBody L8_2) ((K_fair_Sets_2 p0 p1 p2 p3 p4 p5 p6 p7 p8 p9 p10 p11 p12 β H) (.inl (v0, v1))).2 = r} := by
  refine ⟨?f, ?h⟩
  case h =>
    intro β H v0 v1 r hr
    rw [codeX_go]
    have k0 := fun (n0 : Nat) (n1 : Nat) (v0 : Int) (v1 : List (List Bool)) (hn0 : n0 = List.length p10) (hn1 : n1 = List.length v1) => kn (K_fair_Sets_2 p0 p1 p2 p3 p4 p5 p6 p7 p8 p9 p10 p11 p12 β H) (.inl (v0, v1)) (Ex.normal, Z_fair_Sets_2 p0 p1 p2 p3 p4 p5 p6 p7 p8 p9 p10 p11 p12 β H n0 n1 v0 v1) (by subst_vars; rfl)
    have k1 := fun (n0 : Nat) (n1 : Nat) (y0_0 : Int) (y0_1 : List (List Bool)) (hn0 : n0 = List.length (p10)) (hn1 : n1 = List.length y0_1) => kn (K_fair_Sets_2 p0 p1 p2 p3 p4 p5 p6 p7 p8 p9 p10 p11 p12 β H) (.inr (y0_0, y0_1)) ((Ex.exit 7), Z_fair_Sets_2_0 p0 p1 p2 p3 p4 p5 p6 p7 p8 p9 p10 p11 p12 β H n0 n1 y0_0 y0_1) (by subst_vars; rfl)
    simp only [K_fair_Sets_2, Z_fair_Sets_2, Z_fair_Sets_2_0] at k0 k1
    cases β
    all_goals
      simp -implicitDefEqProofs (maxSteps := 1000000) [go_sem, K_fair_Sets_2, Z_fair_Sets_2, Z_fair_Sets_2_0, -List.map_append]
      simp only [k0, k1, pulls, len_snoc, List.length_set]
      exact hr.symm
theorem V_fair_Sets_2 (β : Bool) (H : List Ob) (n0 : Nat) (n1 : Nat) (v0 : Int) (v1 : List (List Bool)) (hn0 : n0 = List.length p10) (hn1 : n1 = List.length v1) : codeX P hints hint8 L8_2 (Z_fair_Sets_2 p0 p1 p2 p3 p4 p5 p6 p7 p8 p9 p10 p11 p12 β H n0 n1 v0 v1) = (iter (fun x => (F_fair_Sets_2 p0 p1 p2 p3 p4 p5 p6 p7 p8 p9 p10 p11 p12).1 x.1 x.2) (v0, v1)).bind fun y => some (K_fair_Sets_2 p0 p1 p2 p3 p4 p5 p6 p7 p8 p9 p10 p11 p12 β H (.inr (y.1, y.2))) := by
  subst_vars; exact (loop_iterK (a := loopBody L8_2) (K := (K_fair_Sets_2 p0 p1 p2 p3 p4 p5 p6 p7 p8 p9 p10 p11 p12 β H)) (f := fun x => (F_fair_Sets_2 p0 p1 p2 p3 p4 p5 p6 p7 p8 p9 p10 p11 p12).1 x.1 x.2) (fun _ => (F_fair_Sets_2 p0 p1 p2 p3 p4 p5 p6 p7 p8 p9 p10 p11 p12).2 β H _ _ _ rfl) (fun _ => rfl) (by rintro (_) <;> exact nofun) (v0, v1)).trans map_1
end
section
variable (p0 : List (List Bool)) (p1 : List Int) (p2 : Int) (p3 : List Int) (p4 : List (List Gapi_Edge)) (p5 : List Int) (p6 : List Int) (p7 : List (Gfair_pair × Int)) (p8 : List Gfair_pair)
def Z_fair_Sets_3 (p0 : List (List Bool)) (p1 : List Int) (p2 : Int) (p3 : List Int) (p4 : List (List Gapi_Edge)) (p5 : List Int) (p6 : List Int) (p7 : List (Gfair_pair × Int)) (p8 : List Gfair_pair) (β : Bool) (H : List Ob) (n0 : Nat) (n1 : Nat) (v0 : Int) (v1 : List (List Bool)) : St := ⟨[(1, .d (.sl β (List.map (esbool β) p0))), (6, .loc (Root.l 6 0) [] (0) 0), (11, .d (.ptr (1))), (12, .loc (Root.l 12 0) [] (0) 0), (18, .bor (.l 18 0) [] 0 n0), (19, .bor (.l 19 0) [] 0 n1), (126, .d (.sl β (List.map eI p1))), (127, .d (.int IntKind.i64 p2)), (128, .d (.int IntKind.i64 v0))], [((6, 0), .own [.agg [.own [], .own [], .own []]]), ((12, 0), .own [.agg [.d (.sl false (List.map eI p3)), .own (tl (esapi_Edge false) p4), .own (tl (eK IntKind.u64) p5)]]), ((18, 0), .own (tl eI p6)), ((19, 0), .own (tlo eB v1))], [.map (ents efair_pair eI p7), .box (.agg [.d (.map (0)), .own (tl efair_pair p8)])]⟩
def Z_fair_Sets_3_0 (p0 : List (List Bool)) (p1 : List Int) (p2 : Int) (p3 : List Int) (p4 : List (List Gapi_Edge)) (p5 : List Int) (p6 : List Int) (p7 : List (Gfair_pair × Int)) (p8 : List Gfair_pair) (β : Bool) (H : List Ob) (n0 : Nat) (n1 : Nat) (y0_0 : Int) (y0_1 : List (List Bool)) : St := ⟨[(1, .d (.sl β (List.map (esbool β) (p0)))), (6, .loc (Root.l 6 0) [] (0) 0), (11, .d (.ptr (1))), (12, .loc (Root.l 12 0) [] (0) 0), (18, .bor (.l 18 0) [] 0 n0), (19, .bor (.l 19 0) [] 0 n1), (126, .d (.sl β (List.map eI (p1)))), (127, .d (.int IntKind.i64 (p2))), (128, .d (.int IntKind.i64 y0_0)), (129, .d (.bool (false)))], [((6, 0), .own [.agg [.own [], .own [], .own []]]), ((12, 0), .own [.agg [.d (.sl false (List.map eI (p3))), .own (tl (esapi_Edge false) (p4)), .own (tl (eK IntKind.u64) (p5))]]), ((18, 0), .own (tl eI (p6))), ((19, 0), .own (tlo eB y0_1))], [.map (ents efair_pair eI (p7)), .box (.agg [.d (.map (0)), .own (tl efair_pair (p8))])]⟩
def K_fair_Sets_3 (p0 : List (List Bool)) (p1 : List Int) (p2 : Int) (p3 : List Int) (p4 : List (List Gapi_Edge)) (p5 : List Int) (p6 : List Int) (p7 : List (Gfair_pair × Int)) (p8 : List Gfair_pair) (β : Bool) (H : List Ob) : ((Int) × (List (List Bool))) ⊕ ((Int) × (List (List Bool))) → Ex × St
  | .inl (v0, v1) => (.normal, Z_fair_Sets_3 p0 p1 p2 p3 p4 p5 p6 p7 p8 β H (List.length p6) (List.length v1) v0 v1)
  | .inr (y0_0, y0_1) => ((.exit 5), Z_fair_Sets_3_0 p0 p1 p2 p3 p4 p5 p6 p7 p8 β H (List.length (p6)) (List.length y0_1) y0_0 y0_1)
def F_fair_Sets_3 : {f : Int → (List (List Bool)) → Option (((Int) × (List (List Bool))) ⊕ ((Int) × (List (List Bool)))) // ∀ β H v0 v1 r, r = (f v0 v1).map (K_fair_Sets_3 p0 p1 p2 p3 p4 p5 p6 p7 p8 β H) → codeX P hints hint8 (loopBody L8_3) ((K_fair_Sets_3 p0 p1 p2 p3 p4 p5 p6 p7 p8 β H) (.inl (v0, v1))).2 = r} := by
  refine ⟨?f, ?h⟩
  case h =>
    intro β H v0 v1 r hr
    rw [codeX_go]
    have w0 := fun (p0 : List (List Bool)) (p1 : Int) (p2 : Int) (p3 : List Int) (p4 : Int) (p5 : Nat) (p6 : Int) (p7 : List Int) (p8 : List (List Gapi_Edge)) (p9 : List Int) (p10 : List Int) (p11 : List (Gfair_pair × Int)) (p12 : List Gfair_pair) (β : Bool) (n0 : Nat) (n1 : Nat) (v0 : Int) (v1 : List (List Bool)) (hn0 : n0 = List.length p10) (hn1 : n1 = List.length v1) => go_of (V_fair_Sets_2 p0 p1 p2 p3 p4 p5 p6 p7 p8 p9 p10 p11 p12 β [] n0 n1 v0 v1 hn0 hn1)
    simp only [K_fair_Sets_2, Z_fair_Sets_2, Z_fair_Sets_2_0, case2_bind, Option.bind_assoc, Option.bind_some] at w0
    have k0 := fun (n0 : Nat) (n1 : Nat) (v0 : Int) (v1 : List (List Bool)) (hn0 : n0 = List.length p6) (hn1 : n1 = List.length v1) => kn (K_fair_Sets_3 p0 p1 p2 p3 p4 p5 p6 p7 p8 β H) (.inl (v0, v1)) (Ex.normal, Z_fair_Sets_3 p0 p1 p2 p3 p4 p5 p6 p7 p8 β H n0 n1 v0 v1) (by subst_vars; rfl)
    have k1 := fun (n0 : Nat) (n1 : Nat) (y0_0 : Int) (y0_1 : List (List Bool)) (hn0 : n0 = List.length (p6)) (hn1 : n1 = List.length y0_1) => kn (K_fair_Sets_3 p0 p1 p2 p3 p4 p5 p6 p7 p8 β H) (.inr (y0_0, y0_1)) ((Ex.exit 5), Z_fair_Sets_3_0 p0 p1 p2 p3 p4 p5 p6 p7 p8 β H n0 n1 y0_0 y0_1) (by subst_vars; rfl)
    simp only [K_fair_Sets_3, Z_fair_Sets_3, Z_fair_Sets_3_0] at k0 k1
    cases β
    all_goals
      simp -implicitDefEqProofs (maxSteps := 1000000) [go_sem, K_fair_Sets_3, Z_fair_Sets_3, Z_fair_Sets_3_0, w0, -List.map_append]
      simp only [k0, k1, pulls, len_snoc, List.length_set]
      exact hr.symm
theorem V_fair_Sets_3 (β : Bool) (H : List Ob) (n0 : Nat) (n1 : Nat) (v0 : Int) (v1 : List (List Bool)) (hn0 : n0 = List.length p6) (hn1 : n1 = List.length v1) : codeX P hints hint8 L8_3 (Z_fair_Sets_3 p0 p1 p2 p3 p4 p5 p6 p7 p8 β H n0 n1 v0 v1) = (iter (fun x => (F_fair_Sets_3 p0 p1 p2 p3 p4 p5 p6 p7 p8).1 x.1 x.2) (v0, v1)).bind fun y => some (K_fair_Sets_3 p0 p1 p2 p3 p4 p5 p6 p7 p8 β H (.inr (y.1, y.2))) := by
  subst_vars; exact (loop_iterK (a := loopBody L8_3) (K := (K_fair_Sets_3 p0 p1 p2 p3 p4 p5 p6 p7 p8 β H)) (f := fun x => (F_fair_Sets_3 p0 p1 p2 p3 p4 p5 p6 p7 p8).1 x.1 x.2) (fun _ => (F_fair_Sets_3 p0 p1 p2 p3 p4 p5 p6 p7 p8).2 β H _ _ _ rfl) (fun _ => rfl) (by rintro (_) <;> exact nofun) (v0, v1)).trans map_1
end
section
variable (p0 : Nat) (p1 : Int) (p2 : List Int) (p3 : List (List Gapi_Edge)) (p4 : List Int) (p5 : List (List Bool)) (p6 : List (Gfair_pair × Int)) (p7 : List Gfair_pair)
def Z_fair_Sets_4 (p0 : Nat) (p1 : Int) (p2 : List Int) (p3 : List (List Gapi_Edge)) (p4 : List Int) (p5 : List (List Bool)) (p6 : List (Gfair_pair × Int)) (p7 : List Gfair_pair) (β : Bool) (H : List Ob) (n0 : Nat) (n1 : Nat) (v0 : Int) (v1 : List Int) : St := ⟨[(6, .loc (Root.l 6 0) [] (0) 0), (12, .loc (Root.l 12 0) [] (0) 0), (18, .bor (.l 18 0) [] 0 n0), (19, .bor (.l 19 0) [] 0 n1), (178, .bor (Root.o 1) [(0, 1)] 0 p0), (179, .d (.int IntKind.i64 p1)), (180, .d (.int IntKind.i64 v0))], [((6, 0), .own [.agg [.own [], .own [], .own []]]), ((12, 0), .own [.agg [.d (.sl false (List.map eI p2)), .own (tl (esapi_Edge false) p3), .own (tl (eK IntKind.u64) p4)]]), ((18, 0), .own (tl eI v1)), ((19, 0), .own (tlo eB p5))], [.map (ents efair_pair eI p6), .box (.agg [.d (.map (0)), .own (tl efair_pair p7)])]⟩
def Z_fair_Sets_4_0 (p0 : Nat) (p1 : Int) (p2 : List Int) (p3 : List (List Gapi_Edge)) (p4 : List Int) (p5 : List (List Bool)) (p6 : List (Gfair_pair × Int)) (p7 : List Gfair_pair) (β : Bool) (H : List Ob) (n0 : Nat) (n1 : Nat) (y0_0 : Int) (y0_1 : List Int) : St := ⟨[(6, .loc (Root.l 6 0) [] (0) 0), (12, .loc (Root.l 12 0) [] (0) 0), (18, .bor (.l 18 0) [] 0 n0), (19, .bor (.l 19 0) [] 0 n1), (178, .bor (Root.o 1) [(0, 1)] 0 (p0)), (179, .d (.int IntKind.i64 (p1))), (180, .d (.int IntKind.i64 y0_0)), (181, .d (.bool (false)))], [((6, 0), .own [.agg [.own [], .own [], .own []]]), ((12, 0), .own [.agg [.d (.sl false (List.map eI (p2))), .own (tl (esapi_Edge false) (p3)), .own (tl (eK IntKind.u64) (p4))]]), ((18, 0), .own (tl eI y0_1)), ((19, 0), .own (tlo eB (p5)))], [.map (ents efair_pair eI (p6)), .box (.agg [.d (.map (0)), .own (tl efair_pair (p7))])]⟩
def K_fair_Sets_4 (p0 : Nat) (p1 : Int) (p2 : List Int) (p3 : List (List Gapi_Edge)) (p4 : List Int) (p5 : List (List Bool)) (p6 : List (Gfair_pair × Int)) (p7 : List Gfair_pair) (β : Bool) (H : List Ob) : ((Int) × (List Int)) ⊕ ((Int) × (List Int)) → Ex × St
  | .inl (v0, v1) => (.normal, Z_fair_Sets_4 p0 p1 p2 p3 p4 p5 p6 p7 β H (List.length v1) (List.length p5) v0 v1)
  | .inr (y0_0, y0_1) => ((.exit 9), Z_fair_Sets_4_0 p0 p1 p2 p3 p4 p5 p6 p7 β H (List.length y0_1) (List.length (p5)) y0_0 y0_1)
def F_fair_Sets_4 : {f : Int → (List Int) → Option (((Int) × (List Int)) ⊕ ((Int) × (List Int))) // ∀ β H v0 v1 r, r = (f v0 v1).map (K_fair_Sets_4 p0 p1 p2 p3 p4 p5 p6 p7 β H) → codeX P hints hint8 (loopBody L8_4) ((K_fair_Sets_4 p0 p1 p2 p3 p4 p5 p6 p7 β H) (.inl (v0, v1))).2 = r} := by
  refine ⟨?f, ?h⟩
  case h =>
    intro β H v0 v1 r hr
    rw [codeX_go]
    have k0 := fun (n0 : Nat) (n1 : Nat) (v0 : Int) (v1 : List Int) (hn0 : n0 = List.length v1) (hn1 : n1 = List.length p5) => kn (K_fair_Sets_4 p0 p1 p2 p3 p4 p5 p6 p7 β H) (.inl (v0, v1)) (Ex.normal, Z_fair_Sets_4 p0 p1 p2 p3 p4 p5 p6 p7 β H n0 n1 v0 v1) (by subst_vars; rfl)
    have k1 := fun (n0 : Nat) (n1 : Nat) (y0_0 : Int) (y0_1 : List Int) (hn0 : n0 = List.length y0_1) (hn1 : n1 = List.length (p5)) => kn (K_fair_Sets_4 p0 p1 p2 p3 p4 p5 p6 p7 β H) (.inr (y0_0, y0_1)) ((Ex.exit 9), Z_fair_Sets_4_0 p0 p1 p2 p3 p4 p5 p6 p7 β H n0 n1 y0_0 y0_1) (by subst_vars; rfl)
    simp only [K_fair_Sets_4, Z_fair_Sets_4, Z_fair_Sets_4_0] at k0 k1
    cases β
    all_goals
      simp -implicitDefEqProofs (maxSteps := 1000000) [go_sem, K_fair_Sets_4, Z_fair_Sets_4, Z_fair_Sets_4_0, -List.map_append]
      simp only [k0, k1, pulls, len_snoc, List.length_set]
      exact hr.symm
theorem V_fair_Sets_4 (β : Bool) (H : List Ob) (n0 : Nat) (n1 : Nat) (v0 : Int) (v1 : List Int) (hn0 : n0 = List.length v1) (hn1 : n1 = List.length p5) : codeX P hints hint8 L8_4 (Z_fair_Sets_4 p0 p1 p2 p3 p4 p5 p6 p7 β H n0 n1 v0 v1) = (iter (fun x => (F_fair_Sets_4 p0 p1 p2 p3 p4 p5 p6 p7).1 x.1 x.2) (v0, v1)).bind fun y => some (K_fair_Sets_4 p0 p1 p2 p3 p4 p5 p6 p7 β H (.inr (y.1, y.2))) := by
  subst_vars; exact (loop_iterK (a := loopBody L8_4) (K := (K_fair_Sets_4 p0 p1 p2 p3 p4 p5 p6 p7 β H)) (f := fun x => (F_fair_Sets_4 p0 p1 p2 p3 p4 p5 p6 p7).1 x.1 x.2) (fun _ => (F_fair_Sets_4 p0 p1 p2 p3 p4 p5 p6 p7).2 β H _ _ _ rfl) (fun _ => rfl) (by rintro (_) <;> exact nofun) (v0, v1)).trans map_1
end
section
variable (a0 : Gapi_Graph) (a1 : List (List Bool)) (a2 : List Int)
def K_fair_Sets (a0 : Gapi_Graph) (a1 : List (List Bool)) (a2 : List Int) (β : Bool) (H : List Ob) : ((List Int) × (List (List Gapi_Edge)) × (List Int) × (List Int) × (List (List Bool)) × (Int)) → List T × List Ob
  | (y0_0, y0_1, y0_2, y0_3, y0_4, y0_5) => ([.d (.agg [.sl false (List.map eI y0_0), .sl false (List.map (esapi_Edge false) y0_1), .sl false (List.map (eK IntKind.u64) y0_2)]), .d (.sl false (List.map eI y0_3)), .d (.sl false (List.map (esbool false) y0_4)), .d (.int IntKind.i64 y0_5)], [])
def F_fair_Sets : {o : Option ((List Int) × (List (List Gapi_Edge)) × (List Int) × (List Int) × (List (List Bool)) × (Int)) // ∀ β H r, r = o.map (K_fair_Sets a0 a1 a2 β H) → call 8 [(eapi_Graph β) a0, (essbool β) a1, (esi64 β) a2] (lockA []) = r} := by
  refine ⟨?f, ?h⟩
  case h =>
    intro β H r hr
    show call 8 [(eapi_Graph β) a0, (essbool β) a1, (esi64 β) a2] [] = r
    have w0 := fun (p0 : List Int) (p1 : Int) (β : Bool) (v0 : Int) => go_of (V_fair_maker_first_in_fair_Sets_0 p0 p1 β [] 0 v0 [] [] [] rfl)
    simp only [K_fair_maker_first_in_fair_Sets_0, Z_fair_maker_first_in_fair_Sets_0, Z_fair_maker_first_in_fair_Sets_0_0, tl_nil, tlo_rep, ents_nil, case2_bind, Option.bind_assoc, Option.bind_some] at w0
    have w1 := fun (p0 : List (List Bool)) (p1 : List Int) (p2 : List Int) (p3 : List (List Gapi_Edge)) (p4 : List Int) (p5 : List Int) (β : Bool) (v0 : Int) (v3 : List (Gfair_pair × Int)) (v4 : List Gfair_pair) => go_of (V_fair_Sets_1 p0 p1 p2 p3 p4 p5 β [] v0 [] [] v3 v4)
    simp only [K_fair_Sets_1, tl_nil, tlo_rep, ents_nil, case2_bind, Option.bind_assoc, Option.bind_some] at w1
    have w2 := fun (m_v1 : Nat) (p0 : List (List Bool)) (p1 : List Int) (p2 : Int) (p3 : List Int) (p4 : List (List Gapi_Edge)) (p5 : List Int) (p6 : List Int) (p7 : List (Gfair_pair × Int)) (p8 : List Gfair_pair) (β : Bool) (n0 : Nat) (n1 : Nat) (v0 : Int) (hn0 : n0 = List.length p6) (hn1 : n1 = List.length (List.replicate m_v1 [])) => go_of (V_fair_Sets_3 p0 p1 p2 p3 p4 p5 p6 p7 p8 β [] n0 n1 v0 (List.replicate m_v1 []) hn0 hn1)
    simp only [K_fair_Sets_3, Z_fair_Sets_3, Z_fair_Sets_3_0, tl_nil, tlo_rep, ents_nil, case2_bind, Option.bind_assoc, Option.bind_some] at w2
    have w3 := fun (p0 : Nat) (p1 : Int) (p2 : List Int) (p3 : List (List Gapi_Edge)) (p4 : List Int) (p5 : List (List Bool)) (p6 : List (Gfair_pair × Int)) (p7 : List Gfair_pair) (n0 : Nat) (n1 : Nat) (v0 : Int) (v1 : List Int) (hn0 : n0 = List.length v1) (hn1 : n1 = List.length p5) => go_of (V_fair_Sets_4 p0 p1 p2 p3 p4 p5 p6 p7 true [] n0 n1 v0 v1 hn0 hn1)
    simp only [K_fair_Sets_4, Z_fair_Sets_4, Z_fair_Sets_4_0, case2_bind, Option.bind_assoc, Option.bind_some] at w3
    have k0 := fun (y0_0 : List Int) (y0_1 : List (List Gapi_Edge)) (y0_2 : List Int) (y0_3 : List Int) (y0_4 : List (List Bool)) (y0_5 : Int) => kk (K_fair_Sets a0 a1 a2 β H) (y0_0, y0_1, y0_2, y0_3, y0_4, y0_5)
    have k0e0 := fun (y0_5 : Int) => kk (K_fair_Sets a0 a1 a2 β H) (([] : List Int), ([] : List (List Gapi_Edge)), ([] : List Int), ([] : List Int), ([] : List (List Bool)), y0_5)
    simp only [K_fair_Sets, List.map_nil] at k0e0 k0
    cases β
    all_goals
      simp -implicitDefEqProofs (maxSteps := 1000000) [go_sem, ge8, w0, w1, w2, w3, -List.map_append]
      simp only [k0e0, k0, pulls, len_snoc, List.length_set]
      exact hr.symm
end
theorem U_fair_Sets (β : Bool) (a0_0 : List Int) (a0_1 : List (List Gapi_Edge)) (a0_2 : List Int) (a1 : List (List Bool)) (a2 : List Int) : call 8 [.agg [.sl β (List.map eI a0_0), .sl β (List.map (esapi_Edge β) a0_1), .sl β (List.map (eK .u64) a0_2)], .sl β (List.map (esbool β) a1), .sl β (List.map eI a2)] (lockA []) = ((F_fair_Sets (Gapi_Graph.mk a0_0 a0_1 a0_2) a1 a2).1).bind fun y => some (K_fair_Sets (Gapi_Graph.mk a0_0 a0_1 a0_2) a1 a2 β [] (y.1, y.2.1, y.2.2.1, y.2.2.2.1, y.2.2.2.2.1, y.2.2.2.2.2)) := ((F_fair_Sets (Gapi_Graph.mk a0_0 a0_1 a0_2) a1 a2).2 β [] _ rfl).trans map_1
@[go_sem] theorem W_fair_Sets (β : Bool) (a0_0 : List Int) (a0_1 : List (List Gapi_Edge)) (a0_2 : List Int) (a1 : List (List Bool)) (a2 : List Int) : type_of% (by have h := @U_fair_Sets β a0_0 a0_1 a0_2 a1 a2; simp only [K_fair_Sets] at h; exact h) := by have h := @U_fair_Sets β a0_0 a0_1 a0_2 a1 a2; simp only [K_fair_Sets] at h; exact h
@[go_sem] theorem W_law40_lives : call 7 [] (lockA []) = some ([.d (.bool true)], []) := callX_iff.2 ⟨60, by kernel_rfl⟩
section
variable (a0 : Gapi_Graph) (a1 : Int)
def K_r06_Node (a0 : Gapi_Graph) (a1 : Int) (β : Bool) (H : List Ob) : (Bool) → List T × List Ob
  | y0_0 => ([.d (.bool y0_0)], [])
def F_r06_Node : {o : Option (Bool) // ∀ β H r, r = o.map (K_r06_Node a0 a1 β H) → call 24 [(eapi_Graph β) a0, eI a1] (lockA []) = r} := by
  refine ⟨?f, ?h⟩
  case h =>
    intro β H r hr
    show call 24 [(eapi_Graph β) a0, eI a1] [] = r
    have k0 := fun (y0_0 : Bool) => kk (K_r06_Node a0 a1 β H) y0_0
    simp only [K_r06_Node, List.map_nil] at k0
    cases β
    all_goals
      simp -implicitDefEqProofs (maxSteps := 1000000) [go_sem, ge24, -List.map_append]
      simp only [k0, pulls, len_snoc, List.length_set]
      exact hr.symm
end
theorem U_r06_Node (β : Bool) (a0_0 : List Int) (a0_1 : List (List Gapi_Edge)) (a0_2 : List Int) (a1 : Int) : call 24 [.agg [.sl β (List.map eI a0_0), .sl β (List.map (esapi_Edge β) a0_1), .sl β (List.map (eK .u64) a0_2)], .int .i64 a1] (lockA []) = ((F_r06_Node (Gapi_Graph.mk a0_0 a0_1 a0_2) a1).1).bind fun y => some (K_r06_Node (Gapi_Graph.mk a0_0 a0_1 a0_2) a1 β [] y) := ((F_r06_Node (Gapi_Graph.mk a0_0 a0_1 a0_2) a1).2 β [] _ rfl).trans map_1
@[go_sem] theorem W_r06_Node (β : Bool) (a0_0 : List Int) (a0_1 : List (List Gapi_Edge)) (a0_2 : List Int) (a1 : Int) : type_of% (by have h := @U_r06_Node β a0_0 a0_1 a0_2 a1; simp only [K_r06_Node] at h; exact h) := by have h := @U_r06_Node β a0_0 a0_1 a0_2 a1; simp only [K_r06_Node] at h; exact h
section
variable (p0 : List Int) (p1 : List (List Gapi_Edge)) (p2 : List Int)
def K_r06_Check_0 (p0 : List Int) (p1 : List (List Gapi_Edge)) (p2 : List Int) (β : Bool) (H : List Ob) : (Int) ⊕ ((Unit) ⊕ (Int)) → Ex × St
  | .inl v0 => (.normal, ⟨[(1, .loc (Root.l 1 0) [] (0) 0), (3, .d (.int IntKind.i64 v0))], [((1, 0), .own [.d (.agg [.sl β (List.map eI p0), .sl β (List.map (esapi_Edge β) p1), .sl β (List.map (eK IntKind.u64) p2)])])], []⟩)
  | .inr (.inl ()) => (.ret, ⟨[(2, .d (.int IntKind.i64 (10)))], [], []⟩)
  | .inr (.inr y1_0) => ((.exit 0), ⟨[(1, .loc (Root.l 1 0) [] (0) 0), (3, .d (.int IntKind.i64 y1_0)), (21, .d (.bool (false)))], [((1, 0), .own [.d (.agg [.sl β (List.map eI (p0)), .sl β (List.map (esapi_Edge β) (p1)), .sl β (List.map (eK IntKind.u64) (p2))])])], []⟩)
def F_r06_Check_0 : {f : Int → Option ((Int) ⊕ ((Unit) ⊕ (Int))) // ∀ β H v0 r, r = (f v0).map (K_r06_Check_0 p0 p1 p2 β H) → codeX P hints hint14 (loopBody L14_0) ((K_r06_Check_0 p0 p1 p2 β H) (.inl v0)).2 = r} := by
  refine ⟨?f, ?h⟩
  case h =>
    intro β H v0 r hr
    rw [codeX_go]
    have k0 := fun (v0 : Int) => kk (K_r06_Check_0 p0 p1 p2 β H) (.inl v0)
    have k1 := kk (K_r06_Check_0 p0 p1 p2 β H) (.inr (.inl ()))
    have k2 := fun (y1_0 : Int) => kk (K_r06_Check_0 p0 p1 p2 β H) (.inr (.inr y1_0))
    simp only [K_r06_Check_0] at k0 k1 k2
    cases β
    all_goals
      simp -implicitDefEqProofs (maxSteps := 1000000) [go_sem, K_r06_Check_0, -List.map_append]
      simp only [k0, k1, k2, pulls, len_snoc, List.length_set]
      exact hr.symm
theorem V_r06_Check_0 (β : Bool) (H : List Ob) (v0 : Int) : codeX P hints hint14 L14_0 ((K_r06_Check_0 p0 p1 p2 β H) (.inl v0)).2 = case2 (iter ((F_r06_Check_0 p0 p1 p2).1) v0) (fun y => some (K_r06_Check_0 p0 p1 p2 β H (.inr (.inl ())))) (fun y => some (K_r06_Check_0 p0 p1 p2 β H (.inr (.inr y)))) := by
  exact (loop_iterK (a := loopBody L14_0) (K := (K_r06_Check_0 p0 p1 p2 β H)) (f := (F_r06_Check_0 p0 p1 p2).1) (fun _ => (F_r06_Check_0 p0 p1 p2).2 β H _ _ rfl) (fun _ => rfl) (by rintro (_ | _) <;> exact nofun) v0).trans map_2
end
section
variable (p0 : Int) (p1 : List Int) (p2 : List (List Gapi_Edge)) (p3 : List Int)
def K_r06_Check_1 (p0 : Int) (p1 : List Int) (p2 : List (List Gapi_Edge)) (p3 : List Int) (β : Bool) (H : List Ob) : (Int) ⊕ ((Unit) ⊕ (Int)) → Ex × St
  | .inl v0 => (.normal, ⟨[(1, .loc (Root.l 1 0) [] (0) 0), (4, .d (.int IntKind.i64 p0)), (5, .d (.int IntKind.i64 v0))], [((1, 0), .own [.d (.agg [.sl β (List.map eI p1), .sl β (List.map (esapi_Edge β) p2), .sl β (List.map (eK IntKind.u64) p3)])])], []⟩)
  | .inr (.inl ()) => (.ret, ⟨[(2, .d (.int IntKind.i64 (10)))], [], []⟩)
  | .inr (.inr y1_0) => ((.exit 4), ⟨[(1, .loc (Root.l 1 0) [] (0) 0), (4, .d (.int IntKind.i64 (p0))), (5, .d (.int IntKind.i64 y1_0)), (46, .d (.bool (false)))], [((1, 0), .own [.d (.agg [.sl β (List.map eI (p1)), .sl β (List.map (esapi_Edge β) (p2)), .sl β (List.map (eK IntKind.u64) (p3))])])], []⟩)
def F_r06_Check_1 : {f : Int → Option ((Int) ⊕ ((Unit) ⊕ (Int))) // ∀ β H v0 r, r = (f v0).map (K_r06_Check_1 p0 p1 p2 p3 β H) → codeX P hints hint14 (loopBody L14_1) ((K_r06_Check_1 p0 p1 p2 p3 β H) (.inl v0)).2 = r} := by
  refine ⟨?f, ?h⟩
  case h =>
    intro β H v0 r hr
    rw [codeX_go]
    have k0 := fun (v0 : Int) => kk (K_r06_Check_1 p0 p1 p2 p3 β H) (.inl v0)
    have k1 := kk (K_r06_Check_1 p0 p1 p2 p3 β H) (.inr (.inl ()))
    have k2 := fun (y1_0 : Int) => kk (K_r06_Check_1 p0 p1 p2 p3 β H) (.inr (.inr y1_0))
    simp only [K_r06_Check_1] at k0 k1 k2
    cases β
    all_goals
      simp -implicitDefEqProofs (maxSteps := 1000000) [go_sem, K_r06_Check_1, -List.map_append]
      simp only [k0, k1, k2, pulls, len_snoc, List.length_set]
      exact hr.symm
theorem V_r06_Check_1 (β : Bool) (H : List Ob) (v0 : Int) : codeX P hints hint14 L14_1 ((K_r06_Check_1 p0 p1 p2 p3 β H) (.inl v0)).2 = case2 (iter ((F_r06_Check_1 p0 p1 p2 p3).1) v0) (fun y => some (K_r06_Check_1 p0 p1 p2 p3 β H (.inr (.inl ())))) (fun y => some (K_r06_Check_1 p0 p1 p2 p3 β H (.inr (.inr y)))) := by
  exact (loop_iterK (a := loopBody L14_1) (K := (K_r06_Check_1 p0 p1 p2 p3 β H)) (f := (F_r06_Check_1 p0 p1 p2 p3).1) (fun _ => (F_r06_Check_1 p0 p1 p2 p3).2 β H _ _ rfl) (fun _ => rfl) (by rintro (_ | _) <;> exact nofun) v0).trans map_2
end
section
variable (p0 : List Int) (p1 : List (List Gapi_Edge)) (p2 : List Int)
def K_r06_Check_2 (p0 : List Int) (p1 : List (List Gapi_Edge)) (p2 : List Int) (β : Bool) (H : List Ob) : (Int) ⊕ ((Unit) ⊕ (Int)) → Ex × St
  | .inl v0 => (.normal, ⟨[(1, .loc (Root.l 1 0) [] (0) 0), (4, .d (.int IntKind.i64 v0))], [((1, 0), .own [.d (.agg [.sl β (List.map eI p0), .sl β (List.map (esapi_Edge β) p1), .sl β (List.map (eK IntKind.u64) p2)])])], []⟩)
  | .inr (.inl ()) => (.ret, ⟨[(2, .d (.int IntKind.i64 (10)))], [], []⟩)
  | .inr (.inr y1_0) => ((.exit 2), ⟨[(1, .loc (Root.l 1 0) [] (0) 0), (4, .d (.int IntKind.i64 y1_0)), (36, .d (.bool (false)))], [((1, 0), .own [.d (.agg [.sl β (List.map eI (p0)), .sl β (List.map (esapi_Edge β) (p1)), .sl β (List.map (eK IntKind.u64) (p2))])])], []⟩)
def F_r06_Check_2 : {f : Int → Option ((Int) ⊕ ((Unit) ⊕ (Int))) // ∀ β H v0 r, r = (f v0).map (K_r06_Check_2 p0 p1 p2 β H) → codeX P hints hint14 (loopBody L14_2) ((K_r06_Check_2 p0 p1 p2 β H) (.inl v0)).2 = r} := by
  refine ⟨?f, ?h⟩
  case h =>
    intro β H v0 r hr
    rw [codeX_go]
    have w0 := fun (p0 : Int) (p1 : List Int) (p2 : List (List Gapi_Edge)) (p3 : List Int) (β : Bool) (v0 : Int) => go_of (V_r06_Check_1 p0 p1 p2 p3 β [] v0)
    simp only [K_r06_Check_1, case2_bind, Option.bind_assoc, Option.bind_some] at w0
    have k0 := fun (v0 : Int) => kk (K_r06_Check_2 p0 p1 p2 β H) (.inl v0)
    have k1 := kk (K_r06_Check_2 p0 p1 p2 β H) (.inr (.inl ()))
    have k2 := fun (y1_0 : Int) => kk (K_r06_Check_2 p0 p1 p2 β H) (.inr (.inr y1_0))
    simp only [K_r06_Check_2] at k0 k1 k2
    cases β
    all_goals
      simp -implicitDefEqProofs (maxSteps := 1000000) [go_sem, K_r06_Check_2, w0, -List.map_append]
      simp only [k0, k1, k2, pulls, len_snoc, List.length_set]
      exact hr.symm
theorem V_r06_Check_2 (β : Bool) (H : List Ob) (v0 : Int) : codeX P hints hint14 L14_2 ((K_r06_Check_2 p0 p1 p2 β H) (.inl v0)).2 = case2 (iter ((F_r06_Check_2 p0 p1 p2).1) v0) (fun y => some (K_r06_Check_2 p0 p1 p2 β H (.inr (.inl ())))) (fun y => some (K_r06_Check_2 p0 p1 p2 β H (.inr (.inr y)))) := by
  exact (loop_iterK (a := loopBody L14_2) (K := (K_r06_Check_2 p0 p1 p2 β H)) (f := (F_r06_Check_2 p0 p1 p2).1) (fun _ => (F_r06_Check_2 p0 p1 p2).2 β H _ _ rfl) (fun _ => rfl) (by rintro (_ | _) <;> exact nofun) v0).trans map_2
end
section
variable (a0 : Gapi_Graph)
def K_r06_Check (a0 : Gapi_Graph) (β : Bool) (H : List Ob) : (Int) → List T × List Ob
  | y0_0 => ([.d (.int IntKind.i64 y0_0)], [])
def F_r06_Check : {o : Option (Int) // ∀ β H r, r = o.map (K_r06_Check a0 β H) → call 14 [(eapi_Graph β) a0] (lockA []) = r} := by
  refine ⟨?f, ?h⟩
  case h =>
    intro β H r hr
    show call 14 [(eapi_Graph β) a0] [] = r
    have w0 := fun (p0 : List Int) (p1 : List (List Gapi_Edge)) (p2 : List Int) (β : Bool) (v0 : Int) => go_of (V_r06_Check_0 p0 p1 p2 β [] v0)
    simp only [K_r06_Check_0, case2_bind, Option.bind_assoc, Option.bind_some] at w0
    have w1 := fun (p0 : List Int) (p1 : List (List Gapi_Edge)) (p2 : List Int) (β : Bool) (v0 : Int) => go_of (V_r06_Check_2 p0 p1 p2 β [] v0)
    simp only [K_r06_Check_2, case2_bind, Option.bind_assoc, Option.bind_some] at w1
    have k0 := fun (y0_0 : Int) => kk (K_r06_Check a0 β H) y0_0
    simp only [K_r06_Check, List.map_nil] at k0
    cases β
    all_goals
      simp -implicitDefEqProofs (maxSteps := 1000000) [go_sem, ge14, w0, w1, -List.map_append]
      simp only [k0, pulls, len_snoc, List.length_set]
      exact hr.symm
end
theorem U_r06_Check (β : Bool) (a0_0 : List Int) (a0_1 : List (List Gapi_Edge)) (a0_2 : List Int) : call 14 [.agg [.sl β (List.map eI a0_0), .sl β (List.map (esapi_Edge β) a0_1), .sl β (List.map (eK .u64) a0_2)]] (lockA []) = ((F_r06_Check (Gapi_Graph.mk a0_0 a0_1 a0_2)).1).bind fun y => some (K_r06_Check (Gapi_Graph.mk a0_0 a0_1 a0_2) β [] y) := ((F_r06_Check (Gapi_Graph.mk a0_0 a0_1 a0_2)).2 β [] _ rfl).trans map_1
@[go_sem] theorem W_r06_Check (β : Bool) (a0_0 : List Int) (a0_1 : List (List Gapi_Edge)) (a0_2 : List Int) : type_of% (by have h := @U_r06_Check β a0_0 a0_1 a0_2; simp only [K_r06_Check] at h; exact h) := by have h := @U_r06_Check β a0_0 a0_1 a0_2; simp only [K_r06_Check] at h; exact h
section
variable (p0 : List (List Bool)) (p1 : Int)
def K_r40_shaped_0 (p0 : List (List Bool)) (p1 : Int) (β : Bool) (H : List Ob) : (Int) ⊕ ((Unit) ⊕ (Int)) → Ex × St
  | .inl v0 => (.normal, ⟨[(0, .d (.sl β (List.map (esbool β) p0))), (2, .d (.int IntKind.i64 p1)), (7, .d (.int IntKind.i64 v0))], [], []⟩)
  | .inr (.inl ()) => (.ret, ⟨[(6, .d (.bool (false)))], [], []⟩)
  | .inr (.inr y1_0) => ((.exit 0), ⟨[(0, .d (.sl β (List.map (esbool β) (p0)))), (2, .d (.int IntKind.i64 (p1))), (7, .d (.int IntKind.i64 y1_0)), (15, .d (.bool (false)))], [], []⟩)
def F_r40_shaped_0 : {f : Int → Option ((Int) ⊕ ((Unit) ⊕ (Int))) // ∀ β H v0 r, r = (f v0).map (K_r40_shaped_0 p0 p1 β H) → codeX P hints hint20 (loopBody L20_0) ((K_r40_shaped_0 p0 p1 β H) (.inl v0)).2 = r} := by
  refine ⟨?f, ?h⟩
  case h =>
    intro β H v0 r hr
    rw [codeX_go]
    have k0 := fun (v0 : Int) => kk (K_r40_shaped_0 p0 p1 β H) (.inl v0)
    have k1 := kk (K_r40_shaped_0 p0 p1 β H) (.inr (.inl ()))
    have k2 := fun (y1_0 : Int) => kk (K_r40_shaped_0 p0 p1 β H) (.inr (.inr y1_0))
    simp only [K_r40_shaped_0] at k0 k1 k2
    cases β
    all_goals
      simp -implicitDefEqProofs (maxSteps := 1000000) [go_sem, K_r40_shaped_0, -List.map_append]
      simp only [k0, k1, k2, pulls, len_snoc, List.length_set]
      exact hr.symm
theorem V_r40_shaped_0 (β : Bool) (H : List Ob) (v0 : Int) : codeX P hints hint20 L20_0 ((K_r40_shaped_0 p0 p1 β H) (.inl v0)).2 = case2 (iter ((F_r40_shaped_0 p0 p1).1) v0) (fun y => some (K_r40_shaped_0 p0 p1 β H (.inr (.inl ())))) (fun y => some (K_r40_shaped_0 p0 p1 β H (.inr (.inr y)))) := by
  exact (loop_iterK (a := loopBody L20_0) (K := (K_r40_shaped_0 p0 p1 β H)) (f := (F_r40_shaped_0 p0 p1).1) (fun _ => (F_r40_shaped_0 p0 p1).2 β H _ _ rfl) (fun _ => rfl) (by rintro (_ | _) <;> exact nofun) v0).trans map_2
end
section
variable (a0 : List (List Bool)) (a1 : Int) (a2 : Int)
def K_r40_shaped (a0 : List (List Bool)) (a1 : Int) (a2 : Int) (β : Bool) (H : List Ob) : (Bool) → List T × List Ob
  | y0_0 => ([.d (.bool y0_0)], [])
def F_r40_shaped : {o : Option (Bool) // ∀ β H r, r = o.map (K_r40_shaped a0 a1 a2 β H) → call 20 [(essbool β) a0, eI a1, eI a2] (lockA []) = r} := by
  refine ⟨?f, ?h⟩
  case h =>
    intro β H r hr
    show call 20 [(essbool β) a0, eI a1, eI a2] [] = r
    have w0 := fun (p0 : List (List Bool)) (p1 : Int) (β : Bool) (v0 : Int) => go_of (V_r40_shaped_0 p0 p1 β [] v0)
    simp only [K_r40_shaped_0, case2_bind, Option.bind_assoc, Option.bind_some] at w0
    have k0 := fun (y0_0 : Bool) => kk (K_r40_shaped a0 a1 a2 β H) y0_0
    simp only [K_r40_shaped, List.map_nil] at k0
    cases β
    all_goals
      simp -implicitDefEqProofs (maxSteps := 1000000) [go_sem, ge20, w0, -List.map_append]
      simp only [k0, pulls, len_snoc, List.length_set]
      exact hr.symm
end
theorem U_r40_shaped (β : Bool) (a0 : List (List Bool)) (a1 : Int) (a2 : Int) : call 20 [.sl β (List.map (esbool β) a0), .int .i64 a1, .int .i64 a2] (lockA []) = ((F_r40_shaped a0 a1 a2).1).bind fun y => some (K_r40_shaped a0 a1 a2 β [] y) := ((F_r40_shaped a0 a1 a2).2 β [] _ rfl).trans map_1
@[go_sem] theorem W_r40_shaped (β : Bool) (a0 : List (List Bool)) (a1 : Int) (a2 : Int) : type_of% (by have h := @U_r40_shaped β a0 a1 a2; simp only [K_r40_shaped] at h; exact h) := by have h := @U_r40_shaped β a0 a1 a2; simp only [K_r40_shaped] at h; exact h
section
variable (p0 : List Gr40_pair) (p1 : Int) (p2 : Int)
def K_r40_find_0 (p0 : List Gr40_pair) (p1 : Int) (p2 : Int) (β : Bool) (H : List Ob) : (Int) ⊕ ((Int) ⊕ (Int)) → Ex × St
  | .inl v0 => (.normal, ⟨[(0, .d (.sl β (List.map er40_pair p0))), (3, .loc (Root.l 3 0) [] (0) 0), (5, .d (.int IntKind.i64 v0))], [((3, 0), .own [.d (.agg [.int IntKind.i64 p1, .int IntKind.i64 p2])])], []⟩)
  | .inr (.inl y0_0) => (.ret, ⟨[(4, .d (.int IntKind.i64 y0_0))], [], []⟩)
  | .inr (.inr y1_0) => ((.exit 0), ⟨[(0, .d (.sl β (List.map er40_pair (p0)))), (3, .loc (Root.l 3 0) [] (0) 0), (5, .d (.int IntKind.i64 y1_0)), (9, .d (.bool (false)))], [((3, 0), .own [.d (.agg [.int IntKind.i64 (p1), .int IntKind.i64 (p2)])])], []⟩)
def F_r40_find_0 : {f : Int → Option ((Int) ⊕ ((Int) ⊕ (Int))) // ∀ β H v0 r, r = (f v0).map (K_r40_find_0 p0 p1 p2 β H) → codeX P hints hint21 (loopBody L21_0) ((K_r40_find_0 p0 p1 p2 β H) (.inl v0)).2 = r} := by
  refine ⟨?f, ?h⟩
  case h =>
    intro β H v0 r hr
    rw [codeX_go]
    have k0 := fun (v0 : Int) => kk (K_r40_find_0 p0 p1 p2 β H) (.inl v0)
    have k1 := fun (y0_0 : Int) => kk (K_r40_find_0 p0 p1 p2 β H) (.inr (.inl y0_0))
    have k2 := fun (y1_0 : Int) => kk (K_r40_find_0 p0 p1 p2 β H) (.inr (.inr y1_0))
    simp only [K_r40_find_0] at k0 k1 k2
    cases β
    all_goals
      simp -implicitDefEqProofs (maxSteps := 1000000) [go_sem, K_r40_find_0, -List.map_append]
      simp only [k0, k1, k2, pulls, len_snoc, List.length_set]
      exact hr.symm
theorem V_r40_find_0 (β : Bool) (H : List Ob) (v0 : Int) : codeX P hints hint21 L21_0 ((K_r40_find_0 p0 p1 p2 β H) (.inl v0)).2 = case2 (iter ((F_r40_find_0 p0 p1 p2).1) v0) (fun y => some (K_r40_find_0 p0 p1 p2 β H (.inr (.inl y)))) (fun y => some (K_r40_find_0 p0 p1 p2 β H (.inr (.inr y)))) := by
  exact (loop_iterK (a := loopBody L21_0) (K := (K_r40_find_0 p0 p1 p2 β H)) (f := (F_r40_find_0 p0 p1 p2).1) (fun _ => (F_r40_find_0 p0 p1 p2).2 β H _ _ rfl) (fun _ => rfl) (by rintro (_ | _) <;> exact nofun) v0).trans map_2
end
section
variable (a0 : List Gr40_pair) (a1 : Gr40_pair)
def K_r40_find (a0 : List Gr40_pair) (a1 : Gr40_pair) (β : Bool) (H : List Ob) : (Int) → List T × List Ob
  | y0_0 => ([.d (.int IntKind.i64 y0_0)], [])
def F_r40_find : {o : Option (Int) // ∀ β H r, r = o.map (K_r40_find a0 a1 β H) → call 21 [(esr40_pair β) a0, er40_pair a1] (lockA []) = r} := by
  refine ⟨?f, ?h⟩
  case h =>
    intro β H r hr
    show call 21 [(esr40_pair β) a0, er40_pair a1] [] = r
    have w0 := fun (p0 : List Gr40_pair) (p1 : Int) (p2 : Int) (β : Bool) (v0 : Int) => go_of (V_r40_find_0 p0 p1 p2 β [] v0)
    simp only [K_r40_find_0, case2_bind, Option.bind_assoc, Option.bind_some] at w0
    have k0 := fun (y0_0 : Int) => kk (K_r40_find a0 a1 β H) y0_0
    simp only [K_r40_find, List.map_nil] at k0
    cases β
    all_goals
      simp -implicitDefEqProofs (maxSteps := 1000000) [go_sem, ge21, w0, -List.map_append]
      simp only [k0, pulls, len_snoc, List.length_set]
      exact hr.symm
end
theorem U_r40_find (β : Bool) (a0 : List Gr40_pair) (a1_0 : Int) (a1_1 : Int) : call 21 [.sl β (List.map er40_pair a0), .agg [.int .i64 a1_0, .int .i64 a1_1]] (lockA []) = ((F_r40_find a0 (Gr40_pair.mk a1_0 a1_1)).1).bind fun y => some (K_r40_find a0 (Gr40_pair.mk a1_0 a1_1) β [] y) := ((F_r40_find a0 (Gr40_pair.mk a1_0 a1_1)).2 β [] _ rfl).trans map_1
@[go_sem] theorem W_r40_find (β : Bool) (a0 : List Gr40_pair) (a1_0 : Int) (a1_1 : Int) : type_of% (by have h := @U_r40_find β a0 a1_0 a1_1; simp only [K_r40_find] at h; exact h) := by have h := @U_r40_find β a0 a1_0 a1_1; simp only [K_r40_find] at h; exact h
section
variable (a0 : Int)
def K_r40_Ref (a0 : Int) (β : Bool) (H : List Ob) : (Int) → List T × List Ob
  | y0_0 => ([.d (.int IntKind.i64 y0_0)], [])
def F_r40_Ref : {o : Option (Int) // ∀ β H r, r = o.map (K_r40_Ref a0 β H) → call 22 [eI a0] (lockA []) = r} := by
  refine ⟨?f, ?h⟩
  case h =>
    intro β H r hr
    show call 22 [eI a0] [] = r
    have k0 := fun (y0_0 : Int) => kk (K_r40_Ref a0 β H) y0_0
    simp only [K_r40_Ref, List.map_nil] at k0
    cases β
    all_goals
      simp -implicitDefEqProofs (maxSteps := 1000000) [go_sem, ge22, -List.map_append]
      simp only [k0, pulls, len_snoc, List.length_set]
      exact hr.symm
end
theorem U_r40_Ref (a0 : Int) : call 22 [.int .i64 a0] (lockA []) = ((F_r40_Ref a0).1).bind fun y => some (K_r40_Ref a0 true [] y) := ((F_r40_Ref a0).2 true [] _ rfl).trans map_1
@[go_sem] theorem W_r40_Ref (a0 : Int) : type_of% (by have h := @U_r40_Ref a0; simp only [K_r40_Ref] at h; exact h) := by have h := @U_r40_Ref a0; simp only [K_r40_Ref] at h; exact h
section
variable (p0 : List (List Bool)) (p1 : List Int) (p2 : List Int) (p3 : List (List Gapi_Edge)) (p4 : List Int)
def Z_r40_Sets_0 (p0 : List (List Bool)) (p1 : List Int) (p2 : List Int) (p3 : List (List Gapi_Edge)) (p4 : List Int) (β : Bool) (H : List Ob) (n0 : Nat) (v0 : Int) (v1 : List (Gr40_pair)) (v2 : List (Int)) : St := ⟨[(1, .d (.sl β (List.map (esbool β) p0))), (2, .d (.sl β (List.map eI p1))), (3, .loc (Root.l 3 0) [] (0) 0), (6, .loc (Root.l 6 0) [] (0) 0), (11, .bor (.l 11 0) [] 0 n0), (12, .loc (Root.l 12 0) [] (0) 0), (13, .d (.int IntKind.i64 v0))], [((3, 0), .own [.d (.agg [.sl β (List.map eI p2), .sl β (List.map (esapi_Edge β) p3), .sl β (List.map (eK IntKind.u64) p4)])]), ((6, 0), .own [.agg [.own [], .own [], .own []]]), ((11, 0), .own (tl er40_pair v1)), ((12, 0), .own [.agg [.own (tl eI v2), .own [], .own []]])], []⟩
def Z_r40_Sets_0_0 (p0 : List (List Bool)) (p1 : List Int) (p2 : List Int) (p3 : List (List Gapi_Edge)) (p4 : List Int) (β : Bool) (H : List Ob) (n0 : Nat) (y0_0 : Int) (y0_1 : List Gr40_pair) (y0_2 : List Int) : St := ⟨[(1, .d (.sl β (List.map (esbool β) (p0)))), (2, .d (.sl β (List.map eI (p1)))), (3, .loc (Root.l 3 0) [] (0) 0), (6, .loc (Root.l 6 0) [] (0) 0), (11, .bor (.l 11 0) [] 0 n0), (12, .loc (Root.l 12 0) [] (0) 0), (13, .d (.int IntKind.i64 y0_0)), (49, .d (.bool (false)))], [((3, 0), .own [.d (.agg [.sl β (List.map eI (p2)), .sl β (List.map (esapi_Edge β) (p3)), .sl β (List.map (eK IntKind.u64) (p4))])]), ((6, 0), .own [.agg [.own [], .own [], .own []]]), ((11, 0), .own (tl er40_pair y0_1)), ((12, 0), .own [.agg [.own (tl eI y0_2), .own [], .own []]])], []⟩
def K_r40_Sets_0 (p0 : List (List Bool)) (p1 : List Int) (p2 : List Int) (p3 : List (List Gapi_Edge)) (p4 : List Int) (β : Bool) (H : List Ob) : ((Int) × (List (Gr40_pair)) × (List (Int))) ⊕ ((Int) × (List Gr40_pair) × (List Int)) → Ex × St
  | .inl (v0, v1, v2) => (.normal, Z_r40_Sets_0 p0 p1 p2 p3 p4 β H (List.length v1) v0 v1 v2)
  | .inr (y0_0, y0_1, y0_2) => ((.exit 0), Z_r40_Sets_0_0 p0 p1 p2 p3 p4 β H (List.length y0_1) y0_0 y0_1 y0_2)
def F_r40_Sets_0 : {f : Int → (List (Gr40_pair)) → (List (Int)) → Option (((Int) × (List (Gr40_pair)) × (List (Int))) ⊕ ((Int) × (List Gr40_pair) × (List Int))) // ∀ β H v0 v1 v2 r, r = (f v0 v1 v2).map (K_r40_Sets_0 p0 p1 p2 p3 p4 β H) → codeX P hints hint9 (loopBody L9_0) ((K_r40_Sets_0 p0 p1 p2 p3 p4 β H) (.inl (v0, v1, v2))).2 = r} := by
  refine ⟨?f, ?h⟩
  case h =>
    intro β H v0 v1 v2 r hr
    rw [codeX_go]
    have k0 := fun (n0 : Nat) (v0 : Int) (v1 : List (Gr40_pair)) (v2 : List (Int)) (hn0 : n0 = List.length v1) => kn (K_r40_Sets_0 p0 p1 p2 p3 p4 β H) (.inl (v0, v1, v2)) (Ex.normal, Z_r40_Sets_0 p0 p1 p2 p3 p4 β H n0 v0 v1 v2) (by subst_vars; rfl)
    have k1 := fun (n0 : Nat) (y0_0 : Int) (y0_1 : List Gr40_pair) (y0_2 : List Int) (hn0 : n0 = List.length y0_1) => kn (K_r40_Sets_0 p0 p1 p2 p3 p4 β H) (.inr (y0_0, y0_1, y0_2)) ((Ex.exit 0), Z_r40_Sets_0_0 p0 p1 p2 p3 p4 β H n0 y0_0 y0_1 y0_2) (by subst_vars; rfl)
    simp only [K_r40_Sets_0, Z_r40_Sets_0, Z_r40_Sets_0_0] at k0 k1
    cases β
    all_goals
      simp -implicitDefEqProofs (maxSteps := 1000000) [go_sem, K_r40_Sets_0, Z_r40_Sets_0, Z_r40_Sets_0_0, -List.map_append]
      simp only [k0, k1, pulls, len_snoc, List.length_set]
      exact hr.symm
theorem V_r40_Sets_0 (β : Bool) (H : List Ob) (n0 : Nat) (v0 : Int) (v1 : List (Gr40_pair)) (v2 : List (Int)) (hn0 : n0 = List.length v1) : codeX P hints hint9 L9_0 (Z_r40_Sets_0 p0 p1 p2 p3 p4 β H n0 v0 v1 v2) = (iter (fun x => (F_r40_Sets_0 p0 p1 p2 p3 p4).1 x.1 x.2.1 x.2.2) (v0, v1, v2)).bind fun y => some (K_r40_Sets_0 p0 p1 p2 p3 p4 β H (.inr (y.1, y.2.1, y.2.2))) := by
  subst_vars; exact (loop_iterK (a := loopBody L9_0) (K := (K_r40_Sets_0 p0 p1 p2 p3 p4 β H)) (f := fun x => (F_r40_Sets_0 p0 p1 p2 p3 p4).1 x.1 x.2.1 x.2.2) (fun _ => (F_r40_Sets_0 p0 p1 p2 p3 p4).2 β H _ _ _ _ rfl) (fun _ => rfl) (by rintro (_) <;> exact nofun) (v0, v1, v2)).trans map_1
end
section
variable (p0 : List (List Bool)) (p1 : List Int) (p2 : Int) (p3 : Int) (p4 : List Int) (p5 : List (List Gapi_Edge)) (p6 : List Int) (p7 : List Int) (p8 : List Int)
def Z_r40_Sets_1 (p0 : List (List Bool)) (p1 : List Int) (p2 : Int) (p3 : Int) (p4 : List Int) (p5 : List (List Gapi_Edge)) (p6 : List Int) (p7 : List Int) (p8 : List Int) (β : Bool) (H : List Ob) (n0 : Nat) (n1 : Nat) (n2 : Nat) (v0 : Int) (v1 : List Gr40_pair) (v2 : List (Gapi_Edge)) : St := ⟨[(1, .d (.sl β (List.map (esbool β) p0))), (2, .d (.sl β (List.map eI p1))), (3, .loc (Root.l 3 0) [] (0) 0), (6, .loc (Root.l 6 0) [] (0) 0), (11, .bor (.l 11 0) [] 0 n0), (12, .loc (Root.l 12 0) [] (0) 0), (15, .bor (.l 15 0) [] 0 n1), (16, .d (.int IntKind.i64 p2)), (17, .d (.int IntKind.i64 p3)), (18, .bor (.l 18 0) [] 0 n2), (19, .d (.int IntKind.i64 v0))], [((3, 0), .own [.d (.agg [.sl β (List.map eI p4), .sl β (List.map (esapi_Edge β) p5), .sl β (List.map (eK IntKind.u64) p6)])]), ((6, 0), .own [.agg [.own [], .own [], .own []]]), ((11, 0), .own (tl er40_pair v1)), ((12, 0), .own [.agg [.own (tl eI p7), .own [], .own []]]), ((15, 0), .own (tl eI p8)), ((18, 0), .own (tl eapi_Edge v2))], []⟩
def Z_r40_Sets_1_0 (p0 : List (List Bool)) (p1 : List Int) (p2 : Int) (p3 : Int) (p4 : List Int) (p5 : List (List Gapi_Edge)) (p6 : List Int) (p7 : List Int) (p8 : List Int) (β : Bool) (H : List Ob) (n0 : Nat) (n1 : Nat) (n2 : Nat) (y0_0 : Int) (y0_1 : List Gr40_pair) (y0_2 : List Gapi_Edge) : St := ⟨[(1, .d (.sl β (List.map (esbool β) (p0)))), (2, .d (.sl β (List.map eI (p1)))), (3, .loc (Root.l 3 0) [] (0) 0), (6, .loc (Root.l 6 0) [] (0) 0), (11, .bor (.l 11 0) [] 0 n0), (12, .loc (Root.l 12 0) [] (0) 0), (15, .bor (.l 15 0) [] 0 n1), (16, .d (.int IntKind.i64 (p2))), (17, .d (.int IntKind.i64 (p3))), (18, .bor (.l 18 0) [] 0 n2), (19, .d (.int IntKind.i64 y0_0)), (95, .d (.bool (false)))], [((3, 0), .own [.d (.agg [.sl β (List.map eI (p4)), .sl β (List.map (esapi_Edge β) (p5)), .sl β (List.map (eK IntKind.u64) (p6))])]), ((6, 0), .own [.agg [.own [], .own [], .own []]]), ((11, 0), .own (tl er40_pair y0_1)), ((12, 0), .own [.agg [.own (tl eI (p7)), .own [], .own []]]), ((15, 0), .own (tl eI (p8))), ((18, 0), .own (tl eapi_Edge y0_2))], []⟩
def K_r40_Sets_1 (p0 : List (List Bool)) (p1 : List Int) (p2 : Int) (p3 : Int) (p4 : List Int) (p5 : List (List Gapi_Edge)) (p6 : List Int) (p7 : List Int) (p8 : List Int) (β : Bool) (H : List Ob) : ((Int) × (List Gr40_pair) × (List (Gapi_Edge))) ⊕ ((Int) × (List Gr40_pair) × (List Gapi_Edge)) → Ex × St
  | .inl (v0, v1, v2) => (.normal, Z_r40_Sets_1 p0 p1 p2 p3 p4 p5 p6 p7 p8 β H (List.length v1) (List.length p8) (List.length v2) v0 v1 v2)
  | .inr (y0_0, y0_1, y0_2) => ((.exit 4), Z_r40_Sets_1_0 p0 p1 p2 p3 p4 p5 p6 p7 p8 β H (List.length y0_1) (List.length (p8)) (List.length y0_2) y0_0 y0_1 y0_2)
def F_r40_Sets_1 : {f : Int → (List Gr40_pair) → (List (Gapi_Edge)) → Option (((Int) × (List Gr40_pair) × (List (Gapi_Edge))) ⊕ ((Int) × (List Gr40_pair) × (List Gapi_Edge))) // ∀ β H v0 v1 v2 r, r = (f v0 v1 v2).map (K_r40_Sets_1 p0 p1 p2 p3 p4 p5 p6 p7 p8 β H) → codeX P hints hint9 (loopBody L9_1) ((K_r40_Sets_1 p0 p1 p2 p3 p4 p5 p6 p7 p8 β H) (.inl (v0, v1, v2))).2 = r} := by
  refine ⟨?f, ?h⟩
  case h =>
    intro β H v0 v1 v2 r hr
    rw [codeX_go]
    have k0 := fun (n0 : Nat) (n1 : Nat) (n2 : Nat) (v0 : Int) (v1 : List Gr40_pair) (v2 : List (Gapi_Edge)) (hn0 : n0 = List.length v1) (hn1 : n1 = List.length p8) (hn2 : n2 = List.length v2) => kn (K_r40_Sets_1 p0 p1 p2 p3 p4 p5 p6 p7 p8 β H) (.inl (v0, v1, v2)) (Ex.normal, Z_r40_Sets_1 p0 p1 p2 p3 p4 p5 p6 p7 p8 β H n0 n1 n2 v0 v1 v2) (by subst_vars; rfl)
    have k1 := fun (n0 : Nat) (n1 : Nat) (n2 : Nat) (y0_0 : Int) (y0_1 : List Gr40_pair) (y0_2 : List Gapi_Edge) (hn0 : n0 = List.length y0_1) (hn1 : n1 = List.length (p8)) (hn2 : n2 = List.length y0_2) => kn (K_r40_Sets_1 p0 p1 p2 p3 p4 p5 p6 p7 p8 β H) (.inr (y0_0, y0_1, y0_2)) ((Ex.exit 4), Z_r40_Sets_1_0 p0 p1 p2 p3 p4 p5 p6 p7 p8 β H n0 n1 n2 y0_0 y0_1 y0_2) (by subst_vars; rfl)
    simp only [K_r40_Sets_1, Z_r40_Sets_1, Z_r40_Sets_1_0] at k0 k1
    cases β
    all_goals
      simp -implicitDefEqProofs (maxSteps := 1000000) [go_sem, K_r40_Sets_1, Z_r40_Sets_1, Z_r40_Sets_1_0, -List.map_append]
      simp only [k0, k1, pulls, len_snoc, List.length_set]
      exact hr.symm
theorem V_r40_Sets_1 (β : Bool) (H : List Ob) (n0 : Nat) (n1 : Nat) (n2 : Nat) (v0 : Int) (v1 : List Gr40_pair) (v2 : List (Gapi_Edge)) (hn0 : n0 = List.length v1) (hn1 : n1 = List.length p8) (hn2 : n2 = List.length v2) : codeX P hints hint9 L9_1 (Z_r40_Sets_1 p0 p1 p2 p3 p4 p5 p6 p7 p8 β H n0 n1 n2 v0 v1 v2) = (iter (fun x => (F_r40_Sets_1 p0 p1 p2 p3 p4 p5 p6 p7 p8).1 x.1 x.2.1 x.2.2) (v0, v1, v2)).bind fun y => some (K_r40_Sets_1 p0 p1 p2 p3 p4 p5 p6 p7 p8 β H (.inr (y.1, y.2.1, y.2.2))) := by
  subst_vars; exact (loop_iterK (a := loopBody L9_1) (K := (K_r40_Sets_1 p0 p1 p2 p3 p4 p5 p6 p7 p8 β H)) (f := fun x => (F_r40_Sets_1 p0 p1 p2 p3 p4 p5 p6 p7 p8).1 x.1 x.2.1 x.2.2) (fun _ => (F_r40_Sets_1 p0 p1 p2 p3 p4 p5 p6 p7 p8).2 β H _ _ _ _ rfl) (fun _ => rfl) (by rintro (_) <;> exact nofun) (v0, v1, v2)).trans map_1
end
section
variable (p0 : List (List Bool)) (p1 : List Int) (p2 : Int) (p3 : Int) (p4 : List Int) (p5 : List (List Gapi_Edge)) (p6 : List Int) (p7 : List Int) (p8 : List (List Gapi_Edge)) (p9 : List Int) (p10 : List Int)
def Z_r40_Sets_1v1 (p0 : List (List Bool)) (p1 : List Int) (p2 : Int) (p3 : Int) (p4 : List Int) (p5 : List (List Gapi_Edge)) (p6 : List Int) (p7 : List Int) (p8 : List (List Gapi_Edge)) (p9 : List Int) (p10 : List Int) (β : Bool) (H : List Ob) (n0 : Nat) (n1 : Nat) (n2 : Nat) (v0 : Int) (v1 : List Gr40_pair) (v2 : List (Gapi_Edge)) : St := ⟨[(1, .d (.sl β (List.map (esbool β) p0))), (2, .d (.sl β (List.map eI p1))), (3, .loc (Root.l 3 0) [] (0) 0), (6, .loc (Root.l 6 0) [] (0) 0), (11, .bor (.l 11 0) [] 0 n0), (12, .loc (Root.l 12 0) [] (0) 0), (15, .bor (.l 15 0) [] 0 n1), (16, .d (.int IntKind.i64 p2)), (17, .d (.int IntKind.i64 p3)), (18, .bor (.l 18 0) [] 0 n2), (19, .d (.int IntKind.i64 v0))], [((3, 0), .own [.d (.agg [.sl β (List.map eI p4), .sl β (List.map (esapi_Edge β) p5), .sl β (List.map (eK IntKind.u64) p6)])]), ((6, 0), .own [.agg [.own [], .own [], .own []]]), ((11, 0), .own (tl er40_pair v1)), ((12, 0), .own [.agg [.own (tl eI p7), .own (tl (esapi_Edge false) p8), .own (tl (eK IntKind.u64) p9)]]), ((15, 0), .own (tl eI p10)), ((18, 0), .own (tl eapi_Edge v2))], []⟩
def Z_r40_Sets_1v1_0 (p0 : List (List Bool)) (p1 : List Int) (p2 : Int) (p3 : Int) (p4 : List Int) (p5 : List (List Gapi_Edge)) (p6 : List Int) (p7 : List Int) (p8 : List (List Gapi_Edge)) (p9 : List Int) (p10 : List Int) (β : Bool) (H : List Ob) (n0 : Nat) (n1 : Nat) (n2 : Nat) (y0_0 : Int) (y0_1 : List Gr40_pair) (y0_2 : List Gapi_Edge) : St := ⟨[(1, .d (.sl β (List.map (esbool β) (p0)))), (2, .d (.sl β (List.map eI (p1)))), (3, .loc (Root.l 3 0) [] (0) 0), (6, .loc (Root.l 6 0) [] (0) 0), (11, .bor (.l 11 0) [] 0 n0), (12, .loc (Root.l 12 0) [] (0) 0), (15, .bor (.l 15 0) [] 0 n1), (16, .d (.int IntKind.i64 (p2))), (17, .d (.int IntKind.i64 (p3))), (18, .bor (.l 18 0) [] 0 n2), (19, .d (.int IntKind.i64 y0_0)), (95, .d (.bool (false)))], [((3, 0), .own [.d (.agg [.sl β (List.map eI (p4)), .sl β (List.map (esapi_Edge β) (p5)), .sl β (List.map (eK IntKind.u64) (p6))])]), ((6, 0), .own [.agg [.own [], .own [], .own []]]), ((11, 0), .own (tl er40_pair y0_1)), ((12, 0), .own [.agg [.own (tl eI (p7)), .own (tl (esapi_Edge false) (p8)), .own (tl (eK IntKind.u64) (p9))]]), ((15, 0), .own (tl eI (p10))), ((18, 0), .own (tl eapi_Edge y0_2))], []⟩
def K_r40_Sets_1v1 (p0 : List (List Bool)) (p1 : List Int) (p2 : Int) (p3 : Int) (p4 : List Int) (p5 : List (List Gapi_Edge)) (p6 : List Int) (p7 : List Int) (p8 : List (List Gapi_Edge)) (p9 : List Int) (p10 : List Int) (β : Bool) (H : List Ob) : ((Int) × (List Gr40_pair) × (List (Gapi_Edge))) ⊕ ((Int) × (List Gr40_pair) × (List Gapi_Edge)) → Ex × St
  | .inl (v0, v1, v2) => (.normal, Z_r40_Sets_1v1 p0 p1 p2 p3 p4 p5 p6 p7 p8 p9 p10 β H (List.length v1) (List.length p10) (List.length v2) v0 v1 v2)
  | .inr (y0_0, y0_1, y0_2) => ((.exit 4), Z_r40_Sets_1v1_0 p0 p1 p2 p3 p4 p5 p6 p7 p8 p9 p10 β H (List.length y0_1) (List.length (p10)) (List.length y0_2) y0_0 y0_1 y0_2)
def F_r40_Sets_1v1 : {f : Int → (List Gr40_pair) → (List (Gapi_Edge)) → Option (((Int) × (List Gr40_pair) × (List (Gapi_Edge))) ⊕ ((Int) × (List Gr40_pair) × (List Gapi_Edge))) // ∀ β H v0 v1 v2 r, r = (f v0 v1 v2).map (K_r40_Sets_1v1 p0 p1 p2 p3 p4 p5 p6 p7 p8 p9 p10 β H) → codeX P hints hint9 (loopBody L9_1) ((K_r40_Sets_1v1 p0 p1 p2 p3 p4 p5 p6 p7 p8 p9 p10 β H) (.inl (v0, v1, v2))).2 = r} := by
  refine ⟨?f, ?h⟩
  case h =>
    intro β H v0 v1 v2 r hr
    rw [codeX_go]
    have k0 := fun (n0 : Nat) (n1 : Nat) (n2 : Nat) (v0 : Int) (v1 : List Gr40_pair) (v2 : List (Gapi_Edge)) (hn0 : n0 = List.length v1) (hn1 : n1 = List.length p10) (hn2 : n2 = List.length v2) => kn (K_r40_Sets_1v1 p0 p1 p2 p3 p4 p5 p6 p7 p8 p9 p10 β H) (.inl (v0, v1, v2)) (Ex.normal, Z_r40_Sets_1v1 p0 p1 p2 p3 p4 p5 p6 p7 p8 p9 p10 β H n0 n1 n2 v0 v1 v2) (by subst_vars; rfl)
    have k1 := fun (n0 : Nat) (n1 : Nat) (n2 : Nat) (y0_0 : Int) (y0_1 : List Gr40_pair) (y0_2 : List Gapi_Edge) (hn0 : n0 = List.length y0_1) (hn1 : n1 = List.length (p10)) (hn2 : n2 = List.length y0_2) => kn (K_r40_Sets_1v1 p0 p1 p2 p3 p4 p5 p6 p7 p8 p9 p10 β H) (.inr (y0_0, y0_1, y0_2)) ((Ex.exit 4), Z_r40_Sets_1v1_0 p0 p1 p2 p3 p4 p5 p6 p7 p8 p9 p10 β H n0 n1 n2 y0_0 y0_1 y0_2) (by subst_vars; rfl)
    simp only [K_r40_Sets_1v1, Z_r40_Sets_1v1, Z_r40_Sets_1v1_0] at k0 k1
    cases β
    all_goals
      simp -implicitDefEqProofs (maxSteps := 1000000) [go_sem, K_r40_Sets_1v1, Z_r40_Sets_1v1, Z_r40_Sets_1v1_0, -List.map_append]
      simp only [k0, k1, pulls, len_snoc, List.length_set]
      exact hr.symm
theorem V_r40_Sets_1v1 (β : Bool) (H : List Ob) (n0 : Nat) (n1 : Nat) (n2 : Nat) (v0 : Int) (v1 : List Gr40_pair) (v2 : List (Gapi_Edge)) (hn0 : n0 = List.length v1) (hn1 : n1 = List.length p10) (hn2 : n2 = List.length v2) : codeX P hints hint9 L9_1 (Z_r40_Sets_1v1 p0 p1 p2 p3 p4 p5 p6 p7 p8 p9 p10 β H n0 n1 n2 v0 v1 v2) = (iter (fun x => (F_r40_Sets_1v1 p0 p1 p2 p3 p4 p5 p6 p7 p8 p9 p10).1 x.1 x.2.1 x.2.2) (v0, v1, v2)).bind fun y => some (K_r40_Sets_1v1 p0 p1 p2 p3 p4 p5 p6 p7 p8 p9 p10 β H (.inr (y.1, y.2.1, y.2.2))) := by
  subst_vars; exact (loop_iterK (a := loopBody L9_1) (K := (K_r40_Sets_1v1 p0 p1 p2 p3 p4 p5 p6 p7 p8 p9 p10 β H)) (f := fun x => (F_r40_Sets_1v1 p0 p1 p2 p3 p4 p5 p6 p7 p8 p9 p10).1 x.1 x.2.1 x.2.2) (fun _ => (F_r40_Sets_1v1 p0 p1 p2 p3 p4 p5 p6 p7 p8 p9 p10).2 β H _ _ _ _ rfl) (fun _ => rfl) (by rintro (_) <;> exact nofun) (v0, v1, v2)).trans map_1
end
section
variable (p0 : List (List Bool)) (p1 : List Int) (p2 : List Int) (p3 : List (List Gapi_Edge)) (p4 : List Int) (p5 : List Int)
def Z_r40_Sets_2 (p0 : List (List Bool)) (p1 : List Int) (p2 : List Int) (p3 : List (List Gapi_Edge)) (p4 : List Int) (p5 : List Int) (β : Bool) (H : List Ob) (n0 : Nat) (n1 : Nat) (v0 : Int) (v1 : List Gr40_pair) (v2 : List (List Gapi_Edge)) (v3 : List (Int)) (v4 : List (Int)) : St := ⟨[(1, .d (.sl β (List.map (esbool β) p0))), (2, .d (.sl β (List.map eI p1))), (3, .loc (Root.l 3 0) [] (0) 0), (6, .loc (Root.l 6 0) [] (0) 0), (11, .bor (.l 11 0) [] 0 n0), (12, .loc (Root.l 12 0) [] (0) 0), (15, .bor (.l 15 0) [] 0 n1), (16, .d (.int IntKind.i64 v0))], [((3, 0), .own [.d (.agg [.sl β (List.map eI p2), .sl β (List.map (esapi_Edge β) p3), .sl β (List.map (eK IntKind.u64) p4)])]), ((6, 0), .own [.agg [.own [], .own [], .own []]]), ((11, 0), .own (tl er40_pair v1)), ((12, 0), .own [.agg [.own (tl eI p5), .own (tl (esapi_Edge false) v2), .own (tl (eK .u64) v3)]]), ((15, 0), .own (tl eI v4))], []⟩
def Z_r40_Sets_2_1 (p0 : List (List Bool)) (p1 : List Int) (p2 : List Int) (p3 : List (List Gapi_Edge)) (p4 : List Int) (p5 : List Int) (β : Bool) (H : List Ob) (n0 : Nat) (n1 : Nat) (y1_0 : Int) (y1_1 : List Gr40_pair) (y1_2 : List (List Gapi_Edge)) (y1_3 : List Int) (y1_4 : List Int) : St := ⟨[(1, .d (.sl β (List.map (esbool β) (p0)))), (2, .d (.sl β (List.map eI (p1)))), (3, .loc (Root.l 3 0) [] (0) 0), (6, .loc (Root.l 6 0) [] (0) 0), (11, .bor (.l 11 0) [] 0 n0), (12, .loc (Root.l 12 0) [] (0) 0), (15, .bor (.l 15 0) [] 0 n1), (16, .d (.int IntKind.i64 y1_0)), (76, .d (.bool (false)))], [((3, 0), .own [.d (.agg [.sl β (List.map eI (p2)), .sl β (List.map (esapi_Edge β) (p3)), .sl β (List.map (eK IntKind.u64) (p4))])]), ((6, 0), .own [.agg [.own [], .own [], .own []]]), ((11, 0), .own (tl er40_pair y1_1)), ((12, 0), .own [.agg [.own (tl eI (p5)), .own (tl (esapi_Edge false) y1_2), .own (tl (eK IntKind.u64) y1_3)]]), ((15, 0), .own (tl eI y1_4))], []⟩
def K_r40_Sets_2 (p0 : List (List Bool)) (p1 : List Int) (p2 : List Int) (p3 : List (List Gapi_Edge)) (p4 : List Int) (p5 : List Int) (β : Bool) (H : List Ob) : ((Int) × (List Gr40_pair) × (List (List Gapi_Edge)) × (List (Int)) × (List (Int))) ⊕ ((Unit) ⊕ ((Int) × (List Gr40_pair) × (List (List Gapi_Edge)) × (List Int) × (List Int))) → Ex × St
  | .inl (v0, v1, v2, v3, v4) => (.normal, Z_r40_Sets_2 p0 p1 p2 p3 p4 p5 β H (List.length v1) (List.length v4) v0 v1 v2 v3 v4)
  | .inr (.inl ()) => (.ret, ⟨[(6, .loc (Root.l 6 0) [] (0) 0), (7, .bor (.l 7 0) [] 0 0), (8, .bor (.l 8 0) [] 0 0), (9, .d (.int IntKind.i64 (11)))], [((6, 0), .own [.agg [.own [], .own [], .own []]]), ((7, 0), .own []), ((8, 0), .own [])], []⟩)
  | .inr (.inr (y1_0, y1_1, y1_2, y1_3, y1_4)) => ((.exit 2), Z_r40_Sets_2_1 p0 p1 p2 p3 p4 p5 β H (List.length y1_1) (List.length y1_4) y1_0 y1_1 y1_2 y1_3 y1_4)
def F_r40_Sets_2 : {f : Int → (List Gr40_pair) → (List (List Gapi_Edge)) → (List (Int)) → (List (Int)) → Option (((Int) × (List Gr40_pair) × (List (List Gapi_Edge)) × (List (Int)) × (List (Int))) ⊕ ((Unit) ⊕ ((Int) × (List Gr40_pair) × (List (List Gapi_Edge)) × (List Int) × (List Int)))) // ∀ β H v0 v1 v2 v3 v4 r, r = (f v0 v1 v2 v3 v4).map (K_r40_Sets_2 p0 p1 p2 p3 p4 p5 β H) → codeX P hints hint9 (loopBody L9_2) ((K_r40_Sets_2 p0 p1 p2 p3 p4 p5 β H) (.inl (v0, v1, v2, v3, v4))).2 = r} := by
  refine ⟨?f, ?h⟩
  case h =>
    intro β H v0 v1 v2 v3 v4 r hr
    rw [codeX_go]
    have w0 := fun (p0 : List (List Bool)) (p1 : List Int) (p2 : Int) (p3 : Int) (p4 : List Int) (p5 : List (List Gapi_Edge)) (p6 : List Int) (p7 : List Int) (p8 : List Int) (β : Bool) (n0 : Nat) (n1 : Nat) (v0 : Int) (v1 : List Gr40_pair) (hn0 : n0 = List.length v1) (hn1 : n1 = List.length p8) => go_of (V_r40_Sets_1 p0 p1 p2 p3 p4 p5 p6 p7 p8 β [] n0 n1 0 v0 v1 [] hn0 hn1 rfl)
    simp only [K_r40_Sets_1, Z_r40_Sets_1, Z_r40_Sets_1_0, tl_nil, tlo_rep, ents_nil, case2_bind, Option.bind_assoc, Option.bind_some] at w0
    have w1 := fun (p0 : List (List Bool)) (p1 : List Int) (p2 : Int) (p3 : Int) (p4 : List Int) (p5 : List (List Gapi_Edge)) (p6 : List Int) (p7 : List Int) (p8 : List (List Gapi_Edge)) (p9 : List Int) (p10 : List Int) (β : Bool) (n0 : Nat) (n1 : Nat) (v0 : Int) (v1 : List Gr40_pair) (hn0 : n0 = List.length v1) (hn1 : n1 = List.length p10) => go_of (V_r40_Sets_1v1 p0 p1 p2 p3 p4 p5 p6 p7 p8 p9 p10 β [] n0 n1 0 v0 v1 [] hn0 hn1 rfl)
    simp only [K_r40_Sets_1v1, Z_r40_Sets_1v1, Z_r40_Sets_1v1_0, tl_nil, tlo_rep, ents_nil, case2_bind, Option.bind_assoc, Option.bind_some] at w1
    have k0 := fun (n0 : Nat) (n1 : Nat) (v0 : Int) (v1 : List Gr40_pair) (v2 : List (List Gapi_Edge)) (v3 : List (Int)) (v4 : List (Int)) (hn0 : n0 = List.length v1) (hn1 : n1 = List.length v4) => kn (K_r40_Sets_2 p0 p1 p2 p3 p4 p5 β H) (.inl (v0, v1, v2, v3, v4)) (Ex.normal, Z_r40_Sets_2 p0 p1 p2 p3 p4 p5 β H n0 n1 v0 v1 v2 v3 v4) (by subst_vars; rfl)
    have k1 := kk (K_r40_Sets_2 p0 p1 p2 p3 p4 p5 β H) (.inr (.inl ()))
    have k2 := fun (n0 : Nat) (n1 : Nat) (y1_0 : Int) (y1_1 : List Gr40_pair) (y1_2 : List (List Gapi_Edge)) (y1_3 : List Int) (y1_4 : List Int) (hn0 : n0 = List.length y1_1) (hn1 : n1 = List.length y1_4) => kn (K_r40_Sets_2 p0 p1 p2 p3 p4 p5 β H) (.inr (.inr (y1_0, y1_1, y1_2, y1_3, y1_4))) ((Ex.exit 2), Z_r40_Sets_2_1 p0 p1 p2 p3 p4 p5 β H n0 n1 y1_0 y1_1 y1_2 y1_3 y1_4) (by subst_vars; rfl)
    simp only [K_r40_Sets_2, Z_r40_Sets_2, Z_r40_Sets_2_1] at k0 k1 k2
    cases β
    all_goals
      simp -implicitDefEqProofs (maxSteps := 1000000) [go_sem, K_r40_Sets_2, Z_r40_Sets_2, Z_r40_Sets_2_1, w0, w1, -List.map_append]
      simp only [k0, k1, k2, pulls, len_snoc, List.length_set]
      exact hr.symm
theorem V_r40_Sets_2 (β : Bool) (H : List Ob) (n0 : Nat) (n1 : Nat) (v0 : Int) (v1 : List Gr40_pair) (v2 : List (List Gapi_Edge)) (v3 : List (Int)) (v4 : List (Int)) (hn0 : n0 = List.length v1) (hn1 : n1 = List.length v4) : codeX P hints hint9 L9_2 (Z_r40_Sets_2 p0 p1 p2 p3 p4 p5 β H n0 n1 v0 v1 v2 v3 v4) = case2 (iter (fun x => (F_r40_Sets_2 p0 p1 p2 p3 p4 p5).1 x.1 x.2.1 x.2.2.1 x.2.2.2.1 x.2.2.2.2) (v0, v1, v2, v3, v4)) (fun y => some (K_r40_Sets_2 p0 p1 p2 p3 p4 p5 β H (.inr (.inl ())))) (fun y => some (K_r40_Sets_2 p0 p1 p2 p3 p4 p5 β H (.inr (.inr (y.1, y.2.1, y.2.2.1, y.2.2.2.1, y.2.2.2.2))))) := by
  subst_vars; exact (loop_iterK (a := loopBody L9_2) (K := (K_r40_Sets_2 p0 p1 p2 p3 p4 p5 β H)) (f := fun x => (F_r40_Sets_2 p0 p1 p2 p3 p4 p5).1 x.1 x.2.1 x.2.2.1 x.2.2.2.1 x.2.2.2.2) (fun _ => (F_r40_Sets_2 p0 p1 p2 p3 p4 p5).2 β H _ _ _ _ _ _ rfl) (fun _ => rfl) (by rintro (_ | _) <;> exact nofun) (v0, v1, v2, v3, v4)).trans map_2
end
section
variable (p0 : List (List Bool)) (p1 : List Int) (p2 : Int) (p3 : List Gr40_pair) (p4 : List Int) (p5 : List (List Gapi_Edge)) (p6 : List Int) (p7 : List Int) (p8 : List (List Bool))
def Z_r40_Sets_3 (p0 : List (List Bool)) (p1 : List Int) (p2 : Int) (p3 : List Gr40_pair) (p4 : List Int) (p5 : List (List Gapi_Edge)) (p6 : List Int) (p7 : List Int) (p8 : List (List Bool)) (β : Bool) (H : List Ob) (n0 : Nat) (n1 : Nat) (n2 : Nat) (n3 : Nat) (v0 : Int) (v1 : List (Bool)) : St := ⟨[(1, .d (.sl β (List.map (esbool β) p0))), (2, .d (.sl β (List.map eI p1))), (6, .loc (Root.l 6 0) [] (0) 0), (11, .bor (.l 11 0) [] 0 n0), (12, .loc (Root.l 12 0) [] (0) 0), (15, .bor (.l 15 0) [] 0 n1), (22, .bor (.l 22 0) [] 0 n2), (23, .d (.int IntKind.i64 p2)), (24, .bor (.l 24 0) [] 0 n3), (25, .d (.int IntKind.i64 v0))], [((6, 0), .own [.agg [.own [], .own [], .own []]]), ((11, 0), .own (tl er40_pair p3)), ((12, 0), .own [.agg [.own (tl eI p4), .own (tl (esapi_Edge false) p5), .own (tl (eK IntKind.u64) p6)]]), ((15, 0), .own (tl eI p7)), ((22, 0), .own (tl (esbool false) p8)), ((24, 0), .own (tl eB v1))], []⟩
def Z_r40_Sets_3_0 (p0 : List (List Bool)) (p1 : List Int) (p2 : Int) (p3 : List Gr40_pair) (p4 : List Int) (p5 : List (List Gapi_Edge)) (p6 : List Int) (p7 : List Int) (p8 : List (List Bool)) (β : Bool) (H : List Ob) (n0 : Nat) (n1 : Nat) (n2 : Nat) (n3 : Nat) (y0_0 : Int) (y0_1 : List Bool) : St := ⟨[(1, .d (.sl β (List.map (esbool β) (p0)))), (2, .d (.sl β (List.map eI (p1)))), (6, .loc (Root.l 6 0) [] (0) 0), (11, .bor (.l 11 0) [] 0 n0), (12, .loc (Root.l 12 0) [] (0) 0), (15, .bor (.l 15 0) [] 0 n1), (22, .bor (.l 22 0) [] 0 n2), (23, .d (.int IntKind.i64 (p2))), (24, .bor (.l 24 0) [] 0 n3), (25, .d (.int IntKind.i64 y0_0)), (158, .d (.bool (false)))], [((6, 0), .own [.agg [.own [], .own [], .own []]]), ((11, 0), .own (tl er40_pair (p3))), ((12, 0), .own [.agg [.own (tl eI (p4)), .own (tl (esapi_Edge false) (p5)), .own (tl (eK IntKind.u64) (p6))]]), ((15, 0), .own (tl eI (p7))), ((22, 0), .own (tl (esbool false) (p8))), ((24, 0), .own (tl eB y0_1))], []⟩
def K_r40_Sets_3 (p0 : List (List Bool)) (p1 : List Int) (p2 : Int) (p3 : List Gr40_pair) (p4 : List Int) (p5 : List (List Gapi_Edge)) (p6 : List Int) (p7 : List Int) (p8 : List (List Bool)) (β : Bool) (H : List Ob) : ((Int) × (List (Bool))) ⊕ ((Int) × (List Bool)) → Ex × St
  | .inl (v0, v1) => (.normal, Z_r40_Sets_3 p0 p1 p2 p3 p4 p5 p6 p7 p8 β H (List.length p3) (List.length p7) (List.length p8) (List.length v1) v0 v1)
  | .inr (y0_0, y0_1) => ((.exit 8), Z_r40_Sets_3_0 p0 p1 p2 p3 p4 p5 p6 p7 p8 β H (List.length (p3)) (List.length (p7)) (List.length (p8)) (List.length y0_1) y0_0 y0_1)
def F_r40_Sets_3 : {f : Int → (List (Bool)) → Option (((Int) × (List (Bool))) ⊕ ((Int) × (List Bool))) // ∀ β H v0 v1 r, r = (f v0 v1).map (K_r40_Sets_3 p0 p1 p2 p3 p4 p5 p6 p7 p8 β H) → codeX P hints hint9 (loopBody L9_3) ((K_r40_Sets_3 p0 p1 p2 p3 p4 p5 p6 p7 p8 β H) (.inl (v0, v1))).2 = r} := by
  refine ⟨?f, ?h⟩
  case h =>
    intro β H v0 v1 r hr
    rw [codeX_go]
    have k0 := fun (n0 : Nat) (n1 : Nat) (n2 : Nat) (n3 : Nat) (v0 : Int) (v1 : List (Bool)) (hn0 : n0 = List.length p3) (hn1 : n1 = List.length p7) (hn2 : n2 = List.length p8) (hn3 : n3 = List.length v1) => kn (K_r40_Sets_3 p0 p1 p2 p3 p4 p5 p6 p7 p8 β H) (.inl (v0, v1)) (Ex.normal, Z_r40_Sets_3 p0 p1 p2 p3 p4 p5 p6 p7 p8 β H n0 n1 n2 n3 v0 v1) (by subst_vars; rfl)
    have k1 := fun (n0 : Nat) (n1 : Nat) (n2 : Nat) (n3 : Nat) (y0_0 : Int) (y0_1 : List Bool) (hn0 : n0 = List.length (p3)) (hn1 : n1 = List.length (p7)) (hn2 : n2 = List.length (p8)) (hn3 : n3 = List.length y0_1) => kn (K_r40_Sets_3 p0 p1 p2 p3 p4 p5 p6 p7 p8 β H) (.inr (y0_0, y0_1)) ((Ex.exit 8), Z_r40_Sets_3_0 p0 p1 p2 p3 p4 p5 p6 p7 p8 β H n0 n1 n2 n3 y0_0 y0_1) (by subst_vars; rfl)
    simp only [K_r40_Sets_3, Z_r40_Sets_3, Z_r40_Sets_3_0] at k0 k1
    cases β
    all_goals
      simp -implicitDefEqProofs (maxSteps := 1000000) [go_sem, K_r40_Sets_3, Z_r40_Sets_3, Z_r40_Sets_3_0, -List.map_append]
      simp only [k0, k1, pulls, len_snoc, List.length_set]
      exact hr.symm
theorem V_r40_Sets_3 (β : Bool) (H : List Ob) (n0 : Nat) (n1 : Nat) (n2 : Nat) (n3 : Nat) (v0 : Int) (v1 : List (Bool)) (hn0 : n0 = List.length p3) (hn1 : n1 = List.length p7) (hn2 : n2 = List.length p8) (hn3 : n3 = List.length v1) : codeX P hints hint9 L9_3 (Z_r40_Sets_3 p0 p1 p2 p3 p4 p5 p6 p7 p8 β H n0 n1 n2 n3 v0 v1) = (iter (fun x => (F_r40_Sets_3 p0 p1 p2 p3 p4 p5 p6 p7 p8).1 x.1 x.2) (v0, v1)).bind fun y => some (K_r40_Sets_3 p0 p1 p2 p3 p4 p5 p6 p7 p8 β H (.inr (y.1, y.2))) := by
  subst_vars; exact (loop_iterK (a := loopBody L9_3) (K := (K_r40_Sets_3 p0 p1 p2 p3 p4 p5 p6 p7 p8 β H)) (f := fun x => (F_r40_Sets_3 p0 p1 p2 p3 p4 p5 p6 p7 p8).1 x.1 x.2) (fun _ => (F_r40_Sets_3 p0 p1 p2 p3 p4 p5 p6 p7 p8).2 β H _ _ _ rfl) (fun _ => rfl) (by rintro (_) <;> exact nofun) (v0, v1)).trans map_1
end
section
variable (p0 : List (List Bool)) (p1 : List Int) (p2 : List Gr40_pair) (p3 : List Int) (p4 : List (List Gapi_Edge)) (p5 : List Int) (p6 : List Int)
def Z_r40_Sets_4 (p0 : List (List Bool)) (p1 : List Int) (p2 : List Gr40_pair) (p3 : List Int) (p4 : List (List Gapi_Edge)) (p5 : List Int) (p6 : List Int) (β : Bool) (H : List Ob) (n0 : Nat) (n1 : Nat) (n2 : Nat) (v0 : Int) (v1 : List (List Bool)) : St := ⟨[(1, .d (.sl β (List.map (esbool β) p0))), (2, .d (.sl β (List.map eI p1))), (6, .loc (Root.l 6 0) [] (0) 0), (11, .bor (.l 11 0) [] 0 n0), (12, .loc (Root.l 12 0) [] (0) 0), (15, .bor (.l 15 0) [] 0 n1), (22, .bor (.l 22 0) [] 0 n2), (23, .d (.int IntKind.i64 v0))], [((6, 0), .own [.agg [.own [], .own [], .own []]]), ((11, 0), .own (tl er40_pair p2)), ((12, 0), .own [.agg [.own (tl eI p3), .own (tl (esapi_Edge false) p4), .own (tl (eK IntKind.u64) p5)]]), ((15, 0), .own (tl eI p6)), ((22, 0), .own (tl (esbool false) v1))], []⟩
def Z_r40_Sets_4_0 (p0 : List (List Bool)) (p1 : List Int) (p2 : List Gr40_pair) (p3 : List Int) (p4 : List (List Gapi_Edge)) (p5 : List Int) (p6 : List Int) (β : Bool) (H : List Ob) (n0 : Nat) (n1 : Nat) (n2 : Nat) (y0_0 : Int) (y0_1 : List (List Bool)) : St := ⟨[(1, .d (.sl β (List.map (esbool β) (p0)))), (2, .d (.sl β (List.map eI (p1)))), (6, .loc (Root.l 6 0) [] (0) 0), (11, .bor (.l 11 0) [] 0 n0), (12, .loc (Root.l 12 0) [] (0) 0), (15, .bor (.l 15 0) [] 0 n1), (22, .bor (.l 22 0) [] 0 n2), (23, .d (.int IntKind.i64 y0_0)), (152, .d (.bool (false)))], [((6, 0), .own [.agg [.own [], .own [], .own []]]), ((11, 0), .own (tl er40_pair (p2))), ((12, 0), .own [.agg [.own (tl eI (p3)), .own (tl (esapi_Edge false) (p4)), .own (tl (eK IntKind.u64) (p5))]]), ((15, 0), .own (tl eI (p6))), ((22, 0), .own (tl (esbool false) y0_1))], []⟩
def K_r40_Sets_4 (p0 : List (List Bool)) (p1 : List Int) (p2 : List Gr40_pair) (p3 : List Int) (p4 : List (List Gapi_Edge)) (p5 : List Int) (p6 : List Int) (β : Bool) (H : List Ob) : ((Int) × (List (List Bool))) ⊕ ((Int) × (List (List Bool))) → Ex × St
  | .inl (v0, v1) => (.normal, Z_r40_Sets_4 p0 p1 p2 p3 p4 p5 p6 β H (List.length p2) (List.length p6) (List.length v1) v0 v1)
  | .inr (y0_0, y0_1) => ((.exit 6), Z_r40_Sets_4_0 p0 p1 p2 p3 p4 p5 p6 β H (List.length (p2)) (List.length (p6)) (List.length y0_1) y0_0 y0_1)
def F_r40_Sets_4 : {f : Int → (List (List Bool)) → Option (((Int) × (List (List Bool))) ⊕ ((Int) × (List (List Bool)))) // ∀ β H v0 v1 r, r = (f v0 v1).map (K_r40_Sets_4 p0 p1 p2 p3 p4 p5 p6 β H) → codeX P hints hint9 (loopBody L9_4) ((K_r40_Sets_4 p0 p1 p2 p3 p4 p5 p6 β H) (.inl (v0, v1))).2 = r} := by
  refine ⟨?f, ?h⟩
  case h =>
    intro β H v0 v1 r hr
    rw [codeX_go]
    have w0 := fun (p0 : List (List Bool)) (p1 : List Int) (p2 : Int) (p3 : List Gr40_pair) (p4 : List Int) (p5 : List (List Gapi_Edge)) (p6 : List Int) (p7 : List Int) (p8 : List (List Bool)) (β : Bool) (n0 : Nat) (n1 : Nat) (n2 : Nat) (v0 : Int) (hn0 : n0 = List.length p3) (hn1 : n1 = List.length p7) (hn2 : n2 = List.length p8) => go_of (V_r40_Sets_3 p0 p1 p2 p3 p4 p5 p6 p7 p8 β [] n0 n1 n2 0 v0 [] hn0 hn1 hn2 rfl)
    simp only [K_r40_Sets_3, Z_r40_Sets_3, Z_r40_Sets_3_0, tl_nil, tlo_rep, ents_nil, case2_bind, Option.bind_assoc, Option.bind_some] at w0
    have k0 := fun (n0 : Nat) (n1 : Nat) (n2 : Nat) (v0 : Int) (v1 : List (List Bool)) (hn0 : n0 = List.length p2) (hn1 : n1 = List.length p6) (hn2 : n2 = List.length v1) => kn (K_r40_Sets_4 p0 p1 p2 p3 p4 p5 p6 β H) (.inl (v0, v1)) (Ex.normal, Z_r40_Sets_4 p0 p1 p2 p3 p4 p5 p6 β H n0 n1 n2 v0 v1) (by subst_vars; rfl)
    have k1 := fun (n0 : Nat) (n1 : Nat) (n2 : Nat) (y0_0 : Int) (y0_1 : List (List Bool)) (hn0 : n0 = List.length (p2)) (hn1 : n1 = List.length (p6)) (hn2 : n2 = List.length y0_1) => kn (K_r40_Sets_4 p0 p1 p2 p3 p4 p5 p6 β H) (.inr (y0_0, y0_1)) ((Ex.exit 6), Z_r40_Sets_4_0 p0 p1 p2 p3 p4 p5 p6 β H n0 n1 n2 y0_0 y0_1) (by subst_vars; rfl)
    simp only [K_r40_Sets_4, Z_r40_Sets_4, Z_r40_Sets_4_0] at k0 k1
    cases β
    all_goals
      simp -implicitDefEqProofs (maxSteps := 1000000) [go_sem, K_r40_Sets_4, Z_r40_Sets_4, Z_r40_Sets_4_0, w0, -List.map_append]
      simp only [k0, k1, pulls, len_snoc, List.length_set]
      exact hr.symm
theorem V_r40_Sets_4 (β : Bool) (H : List Ob) (n0 : Nat) (n1 : Nat) (n2 : Nat) (v0 : Int) (v1 : List (List Bool)) (hn0 : n0 = List.length p2) (hn1 : n1 = List.length p6) (hn2 : n2 = List.length v1) : codeX P hints hint9 L9_4 (Z_r40_Sets_4 p0 p1 p2 p3 p4 p5 p6 β H n0 n1 n2 v0 v1) = (iter (fun x => (F_r40_Sets_4 p0 p1 p2 p3 p4 p5 p6).1 x.1 x.2) (v0, v1)).bind fun y => some (K_r40_Sets_4 p0 p1 p2 p3 p4 p5 p6 β H (.inr (y.1, y.2))) := by
  subst_vars; exact (loop_iterK (a := loopBody L9_4) (K := (K_r40_Sets_4 p0 p1 p2 p3 p4 p5 p6 β H)) (f := fun x => (F_r40_Sets_4 p0 p1 p2 p3 p4 p5 p6).1 x.1 x.2) (fun _ => (F_r40_Sets_4 p0 p1 p2 p3 p4 p5 p6).2 β H _ _ _ rfl) (fun _ => rfl) (by rintro (_) <;> exact nofun) (v0, v1)).trans map_1
end
section
variable (a0 : Gapi_Graph) (a1 : List (List Bool)) (a2 : List Int)
def K_r40_Sets (a0 : Gapi_Graph) (a1 : List (List Bool)) (a2 : List Int) (β : Bool) (H : List Ob) : ((List Int) × (List (List Gapi_Edge)) × (List Int) × (List Int) × (List (List Bool)) × (Int)) → List T × List Ob
  | (y0_0, y0_1, y0_2, y0_3, y0_4, y0_5) => ([.d (.agg [.sl false (List.map eI y0_0), .sl false (List.map (esapi_Edge false) y0_1), .sl false (List.map (eK IntKind.u64) y0_2)]), .d (.sl false (List.map eI y0_3)), .d (.sl false (List.map (esbool false) y0_4)), .d (.int IntKind.i64 y0_5)], [])
def F_r40_Sets : {o : Option ((List Int) × (List (List Gapi_Edge)) × (List Int) × (List Int) × (List (List Bool)) × (Int)) // ∀ β H r, r = o.map (K_r40_Sets a0 a1 a2 β H) → call 9 [(eapi_Graph β) a0, (essbool β) a1, (esi64 β) a2] (lockA []) = r} := by
  refine ⟨?f, ?h⟩
  case h =>
    intro β H r hr
    show call 9 [(eapi_Graph β) a0, (essbool β) a1, (esi64 β) a2] [] = r
    have w0 := fun (p0 : List (List Bool)) (p1 : List Int) (p2 : List Int) (p3 : List (List Gapi_Edge)) (p4 : List Int) (β : Bool) (v0 : Int) => go_of (V_r40_Sets_0 p0 p1 p2 p3 p4 β [] 0 v0 [] [] rfl)
    simp only [K_r40_Sets_0, Z_r40_Sets_0, Z_r40_Sets_0_0, tl_nil, tlo_rep, ents_nil, case2_bind, Option.bind_assoc, Option.bind_some] at w0
    have w1 := fun (p0 : List (List Bool)) (p1 : List Int) (p2 : List Int) (p3 : List (List Gapi_Edge)) (p4 : List Int) (p5 : List Int) (β : Bool) (n0 : Nat) (v0 : Int) (v1 : List Gr40_pair) (hn0 : n0 = List.length v1) => go_of (V_r40_Sets_2 p0 p1 p2 p3 p4 p5 β [] n0 0 v0 v1 [] [] [] hn0 rfl)
    simp only [K_r40_Sets_2, Z_r40_Sets_2, Z_r40_Sets_2_1, tl_nil, tlo_rep, ents_nil, case2_bind, Option.bind_assoc, Option.bind_some] at w1
    have w2 := fun (p0 : List (List Bool)) (p1 : List Int) (p2 : List Gr40_pair) (p3 : List Int) (p4 : List (List Gapi_Edge)) (p5 : List Int) (p6 : List Int) (β : Bool) (n0 : Nat) (n1 : Nat) (v0 : Int) (hn0 : n0 = List.length p2) (hn1 : n1 = List.length p6) => go_of (V_r40_Sets_4 p0 p1 p2 p3 p4 p5 p6 β [] n0 n1 0 v0 [] hn0 hn1 rfl)
    simp only [K_r40_Sets_4, Z_r40_Sets_4, Z_r40_Sets_4_0, tl_nil, tlo_rep, ents_nil, case2_bind, Option.bind_assoc, Option.bind_some] at w2
    have k0 := fun (y0_0 : List Int) (y0_1 : List (List Gapi_Edge)) (y0_2 : List Int) (y0_3 : List Int) (y0_4 : List (List Bool)) (y0_5 : Int) => kk (K_r40_Sets a0 a1 a2 β H) (y0_0, y0_1, y0_2, y0_3, y0_4, y0_5)
    have k0e0 := fun (y0_5 : Int) => kk (K_r40_Sets a0 a1 a2 β H) (([] : List Int), ([] : List (List Gapi_Edge)), ([] : List Int), ([] : List Int), ([] : List (List Bool)), y0_5)
    simp only [K_r40_Sets, List.map_nil] at k0e0 k0
    cases β
    all_goals
      simp -implicitDefEqProofs (maxSteps := 1000000) [go_sem, ge9, w0, w1, w2, -List.map_append]
      simp only [k0e0, k0, pulls, len_snoc, List.length_set]
      exact hr.symm
end
section
variable (p0 : List Int) (p1 : List Int)
end
section
variable (a0 : List Int) (a1 : List Int)
end
section
variable (p0 : List Int) (p1 : List (List Gapi_Edge)) (p2 : List Int) (p3 : List Int) (p4 : List (List Gapi_Edge)) (p5 : List Int)
end
section
variable (p0 : Int) (p1 : List Int) (p2 : List (List Gapi_Edge)) (p3 : List Int) (p4 : List Int) (p5 : List (List Gapi_Edge)) (p6 : List Int)
end
section
variable (p0 : List Int) (p1 : List (List Gapi_Edge)) (p2 : List Int) (p3 : List Int) (p4 : List (List Gapi_Edge)) (p5 : List Int)
end
section
variable (a0 : Gapi_Graph) (a1 : Gapi_Graph)
end
section
variable (p0 : List Int) (p1 : List Int)
end
section
variable (a0 : List Int) (a1 : List Int)
end
section
variable (p0 : List (List Bool)) (p1 : List (List Bool)) (p2 : Int) (p3 : Int) (p4 : Int)
end
section
variable (p0 : List (List Bool)) (p1 : List (List Bool)) (p2 : Int)
end
section
variable (a0 : List (List Bool)) (a1 : List (List Bool))
end
section
variable (a0 : Gapi_Graph) (a1 : List (List Bool)) (a2 : List Int)
end
section
variable (p0 : List (List Bool)) (p1 : List Int) (p2 : List Int) (p3 : Int) (p4 : Int) (p5 : List Int) (p6 : Int) (p7 : Int) (p8 : List Int) (p9 : List (List Gapi_Edge)) (p10 : List Int)
def Z_law40_met_0 (p0 : List (List Bool)) (p1 : List Int) (p2 : List Int) (p3 : Int) (p4 : Int) (p5 : List Int) (p6 : Int) (p7 : Int) (p8 : List Int) (p9 : List (List Gapi_Edge)) (p10 : List Int) (β : Bool) (H : List Ob) (n0 : Nat) (v0 : Int) (v1 : List Bool) : St := ⟨[(1, .d (.sl β (List.map (esbool β) p0))), (2, .d (.sl β (List.map eI p1))), (4, .d (.sl β (List.map eI p2))), (5, .loc (Root.l 5 0) [] (0) 0), (11, .bor (.l 11 0) [] 0 n0), (12, .d (.int IntKind.i64 p3)), (13, .d (.int IntKind.i64 p4)), (19, .d (.sl β (List.map eI p5))), (20, .d (.int IntKind.i64 p6)), (21, .d (.int IntKind.i64 p3)), (26, .d (.sl β (List.map eI p1))), (27, .d (.int IntKind.i64 p7)), (28, .d (.int IntKind.i64 v0))], [((5, 0), .own [.d (.agg [.sl β (List.map eI p8), .sl β (List.map (esapi_Edge β) p9), .sl β (List.map (eK IntKind.u64) p10)])]), ((11, 0), .own (tl eB v1))], []⟩
def Z_law40_met_0_0 (p0 : List (List Bool)) (p1 : List Int) (p2 : List Int) (p3 : Int) (p4 : Int) (p5 : List Int) (p6 : Int) (p7 : Int) (p8 : List Int) (p9 : List (List Gapi_Edge)) (p10 : List Int) (β : Bool) (H : List Ob) (n0 : Nat) (y0_0 : Int) (y0_1 : List Bool) : St := ⟨[(1, .d (.sl β (List.map (esbool β) (p0)))), (2, .d (.sl β (List.map eI (p1)))), (4, .d (.sl β (List.map eI (p2)))), (5, .loc (Root.l 5 0) [] (0) 0), (11, .bor (.l 11 0) [] 0 n0), (12, .d (.int IntKind.i64 (p3))), (13, .d (.int IntKind.i64 (p4))), (19, .d (.sl β (List.map eI (p5)))), (20, .d (.int IntKind.i64 (p6))), (21, .d (.int IntKind.i64 (p3))), (26, .d (.sl β (List.map eI (p1)))), (27, .d (.int IntKind.i64 (p7))), (28, .d (.int IntKind.i64 y0_0)), (29, .d (.bool (false)))], [((5, 0), .own [.d (.agg [.sl β (List.map eI (p8)), .sl β (List.map (esapi_Edge β) (p9)), .sl β (List.map (eK IntKind.u64) (p10))])]), ((11, 0), .own (tl eB y0_1))], []⟩
def K_law40_met_0 (p0 : List (List Bool)) (p1 : List Int) (p2 : List Int) (p3 : Int) (p4 : Int) (p5 : List Int) (p6 : Int) (p7 : Int) (p8 : List Int) (p9 : List (List Gapi_Edge)) (p10 : List Int) (β : Bool) (H : List Ob) : ((Int) × (List Bool)) ⊕ ((Int) × (List Bool)) → Ex × St
  | .inl (v0, v1) => (.normal, Z_law40_met_0 p0 p1 p2 p3 p4 p5 p6 p7 p8 p9 p10 β H (List.length v1) v0 v1)
  | .inr (y0_0, y0_1) => ((.exit 2), Z_law40_met_0_0 p0 p1 p2 p3 p4 p5 p6 p7 p8 p9 p10 β H (List.length y0_1) y0_0 y0_1)
def F_law40_met_0 : {f : Int → (List Bool) → Option (((Int) × (List Bool)) ⊕ ((Int) × (List Bool))) // ∀ β H v0 v1 r, r = (f v0 v1).map (K_law40_met_0 p0 p1 p2 p3 p4 p5 p6 p7 p8 p9 p10 β H) → codeX P hints hint13 (loopBody L13_0) ((K_law40_met_0 p0 p1 p2 p3 p4 p5 p6 p7 p8 p9 p10 β H) (.inl (v0, v1))).2 = r} := by
  refine ⟨?f, ?h⟩
  case h =>
    intro β H v0 v1 r hr
    rw [codeX_go]
    have k0 := fun (n0 : Nat) (v0 : Int) (v1 : List Bool) (hn0 : n0 = List.length v1) => kn (K_law40_met_0 p0 p1 p2 p3 p4 p5 p6 p7 p8 p9 p10 β H) (.inl (v0, v1)) (Ex.normal, Z_law40_met_0 p0 p1 p2 p3 p4 p5 p6 p7 p8 p9 p10 β H n0 v0 v1) (by subst_vars; rfl)
    have k1 := fun (n0 : Nat) (y0_0 : Int) (y0_1 : List Bool) (hn0 : n0 = List.length y0_1) => kn (K_law40_met_0 p0 p1 p2 p3 p4 p5 p6 p7 p8 p9 p10 β H) (.inr (y0_0, y0_1)) ((Ex.exit 2), Z_law40_met_0_0 p0 p1 p2 p3 p4 p5 p6 p7 p8 p9 p10 β H n0 y0_0 y0_1) (by subst_vars; rfl)
    simp only [K_law40_met_0, Z_law40_met_0, Z_law40_met_0_0] at k0 k1
    cases β
    all_goals
      simp -implicitDefEqProofs (maxSteps := 1000000) [go_sem, K_law40_met_0, Z_law40_met_0, Z_law40_met_0_0, -List.map_append]
      simp only [k0, k1, pulls, len_snoc, List.length_set]
      exact hr.symm
theorem V_law40_met_0 (β : Bool) (H : List Ob) (n0 : Nat) (v0 : Int) (v1 : List Bool) (hn0 : n0 = List.length v1) : codeX P hints hint13 L13_0 (Z_law40_met_0 p0 p1 p2 p3 p4 p5 p6 p7 p8 p9 p10 β H n0 v0 v1) = (iter (fun x => (F_law40_met_0 p0 p1 p2 p3 p4 p5 p6 p7 p8 p9 p10).1 x.1 x.2) (v0, v1)).bind fun y => some (K_law40_met_0 p0 p1 p2 p3 p4 p5 p6 p7 p8 p9 p10 β H (.inr (y.1, y.2))) := by
  subst_vars; exact (loop_iterK (a := loopBody L13_0) (K := (K_law40_met_0 p0 p1 p2 p3 p4 p5 p6 p7 p8 p9 p10 β H)) (f := fun x => (F_law40_met_0 p0 p1 p2 p3 p4 p5 p6 p7 p8 p9 p10).1 x.1 x.2) (fun _ => (F_law40_met_0 p0 p1 p2 p3 p4 p5 p6 p7 p8 p9 p10).2 β H _ _ _ rfl) (fun _ => rfl) (by rintro (_) <;> exact nofun) (v0, v1)).trans map_1
end
section
variable (p0 : List (List Bool)) (p1 : List Int) (p2 : List Int) (p3 : List Int) (p4 : Int) (p5 : List Int) (p6 : List (List Gapi_Edge)) (p7 : List Int)
def Z_law40_met_1 (p0 : List (List Bool)) (p1 : List Int) (p2 : List Int) (p3 : List Int) (p4 : Int) (p5 : List Int) (p6 : List (List Gapi_Edge)) (p7 : List Int) (β : Bool) (H : List Ob) (n0 : Nat) (v0 : Int) (v1 : List Bool) : St := ⟨[(1, .d (.sl β (List.map (esbool β) p0))), (2, .d (.sl β (List.map eI p1))), (4, .d (.sl β (List.map eI p2))), (5, .loc (Root.l 5 0) [] (0) 0), (11, .bor (.l 11 0) [] 0 n0), (19, .d (.sl β (List.map eI p3))), (20, .d (.int IntKind.i64 p4)), (21, .d (.int IntKind.i64 v0))], [((5, 0), .own [.d (.agg [.sl β (List.map eI p5), .sl β (List.map (esapi_Edge β) p6), .sl β (List.map (eK IntKind.u64) p7)])]), ((11, 0), .own (tl eB v1))], []⟩
def Z_law40_met_1_0 (p0 : List (List Bool)) (p1 : List Int) (p2 : List Int) (p3 : List Int) (p4 : Int) (p5 : List Int) (p6 : List (List Gapi_Edge)) (p7 : List Int) (β : Bool) (H : List Ob) (n0 : Nat) (y0_0 : Int) (y0_1 : List Bool) : St := ⟨[(1, .d (.sl β (List.map (esbool β) (p0)))), (2, .d (.sl β (List.map eI (p1)))), (4, .d (.sl β (List.map eI (p2)))), (5, .loc (Root.l 5 0) [] (0) 0), (11, .bor (.l 11 0) [] 0 n0), (19, .d (.sl β (List.map eI (p3)))), (20, .d (.int IntKind.i64 (p4))), (21, .d (.int IntKind.i64 y0_0)), (22, .d (.bool (false)))], [((5, 0), .own [.d (.agg [.sl β (List.map eI (p5)), .sl β (List.map (esapi_Edge β) (p6)), .sl β (List.map (eK IntKind.u64) (p7))])]), ((11, 0), .own (tl eB y0_1))], []⟩
def K_law40_met_1 (p0 : List (List Bool)) (p1 : List Int) (p2 : List Int) (p3 : List Int) (p4 : Int) (p5 : List Int) (p6 : List (List Gapi_Edge)) (p7 : List Int) (β : Bool) (H : List Ob) : ((Int) × (List Bool)) ⊕ ((Int) × (List Bool)) → Ex × St
  | .inl (v0, v1) => (.normal, Z_law40_met_1 p0 p1 p2 p3 p4 p5 p6 p7 β H (List.length v1) v0 v1)
  | .inr (y0_0, y0_1) => ((.exit 0), Z_law40_met_1_0 p0 p1 p2 p3 p4 p5 p6 p7 β H (List.length y0_1) y0_0 y0_1)
def F_law40_met_1 : {f : Int → (List Bool) → Option (((Int) × (List Bool)) ⊕ ((Int) × (List Bool))) // ∀ β H v0 v1 r, r = (f v0 v1).map (K_law40_met_1 p0 p1 p2 p3 p4 p5 p6 p7 β H) → codeX P hints hint13 (loopBody L13_1) ((K_law40_met_1 p0 p1 p2 p3 p4 p5 p6 p7 β H) (.inl (v0, v1))).2 = r} := by
  refine ⟨?f, ?h⟩
  case h =>
    intro β H v0 v1 r hr
    rw [codeX_go]
    have w0 := fun (p0 : List (List Bool)) (p1 : List Int) (p2 : List Int) (p3 : Int) (p4 : Int) (p5 : List Int) (p6 : Int) (p7 : Int) (p8 : List Int) (p9 : List (List Gapi_Edge)) (p10 : List Int) (β : Bool) (n0 : Nat) (v0 : Int) (v1 : List Bool) (hn0 : n0 = List.length v1) => go_of (V_law40_met_0 p0 p1 p2 p3 p4 p5 p6 p7 p8 p9 p10 β [] n0 v0 v1 hn0)
    simp only [K_law40_met_0, Z_law40_met_0, Z_law40_met_0_0, case2_bind, Option.bind_assoc, Option.bind_some] at w0
    have k0 := fun (n0 : Nat) (v0 : Int) (v1 : List Bool) (hn0 : n0 = List.length v1) => kn (K_law40_met_1 p0 p1 p2 p3 p4 p5 p6 p7 β H) (.inl (v0, v1)) (Ex.normal, Z_law40_met_1 p0 p1 p2 p3 p4 p5 p6 p7 β H n0 v0 v1) (by subst_vars; rfl)
    have k1 := fun (n0 : Nat) (y0_0 : Int) (y0_1 : List Bool) (hn0 : n0 = List.length y0_1) => kn (K_law40_met_1 p0 p1 p2 p3 p4 p5 p6 p7 β H) (.inr (y0_0, y0_1)) ((Ex.exit 0), Z_law40_met_1_0 p0 p1 p2 p3 p4 p5 p6 p7 β H n0 y0_0 y0_1) (by subst_vars; rfl)
    simp only [K_law40_met_1, Z_law40_met_1, Z_law40_met_1_0] at k0 k1
    cases β
    all_goals
      simp -implicitDefEqProofs (maxSteps := 1000000) [go_sem, K_law40_met_1, Z_law40_met_1, Z_law40_met_1_0, w0, -List.map_append]
      simp only [k0, k1, pulls, len_snoc, List.length_set]
      exact hr.symm
theorem V_law40_met_1 (β : Bool) (H : List Ob) (n0 : Nat) (v0 : Int) (v1 : List Bool) (hn0 : n0 = List.length v1) : codeX P hints hint13 L13_1 (Z_law40_met_1 p0 p1 p2 p3 p4 p5 p6 p7 β H n0 v0 v1) = (iter (fun x => (F_law40_met_1 p0 p1 p2 p3 p4 p5 p6 p7).1 x.1 x.2) (v0, v1)).bind fun y => some (K_law40_met_1 p0 p1 p2 p3 p4 p5 p6 p7 β H (.inr (y.1, y.2))) := by
  subst_vars; exact (loop_iterK (a := loopBody L13_1) (K := (K_law40_met_1 p0 p1 p2 p3 p4 p5 p6 p7 β H)) (f := fun x => (F_law40_met_1 p0 p1 p2 p3 p4 p5 p6 p7).1 x.1 x.2) (fun _ => (F_law40_met_1 p0 p1 p2 p3 p4 p5 p6 p7).2 β H _ _ _ rfl) (fun _ => rfl) (by rintro (_) <;> exact nofun) (v0, v1)).trans map_1
end
section
variable (a0 : Gapi_Graph) (a1 : List (List Bool)) (a2 : List Int) (a3 : List Int) (a4 : List Int)
def K_law40_met (a0 : Gapi_Graph) (a1 : List (List Bool)) (a2 : List Int) (a3 : List Int) (a4 : List Int) (β : Bool) (H : List Ob) : (List Bool) → List T × List Ob
  | y0_0 => ([.d (.sl false (List.map eB y0_0))], [])
def F_law40_met : {o : Option (List Bool) // ∀ β H r, r = o.map (K_law40_met a0 a1 a2 a3 a4 β H) → call 13 [(eapi_Graph β) a0, (essbool β) a1, (esi64 β) a2, (esi64 β) a3, (esi64 β) a4] (lockA []) = r} := by
  refine ⟨?f, ?h⟩
  case h =>
    intro β H r hr
    show call 13 [(eapi_Graph β) a0, (essbool β) a1, (esi64 β) a2, (esi64 β) a3, (esi64 β) a4] [] = r
    have w0 := fun (p0 : List (List Bool)) (p1 : List Int) (p2 : List Int) (p3 : List Int) (p4 : Int) (p5 : List Int) (p6 : List (List Gapi_Edge)) (p7 : List Int) (β : Bool) (n0 : Nat) (v0 : Int) (v1 : List Bool) (hn0 : n0 = List.length v1) => go_of (V_law40_met_1 p0 p1 p2 p3 p4 p5 p6 p7 β [] n0 v0 v1 hn0)
    simp only [K_law40_met_1, Z_law40_met_1, Z_law40_met_1_0, case2_bind, Option.bind_assoc, Option.bind_some] at w0
    have k0 := fun (y0_0 : List Bool) => kk (K_law40_met a0 a1 a2 a3 a4 β H) y0_0
    simp only [K_law40_met, List.map_nil] at k0
    cases β
    all_goals
      simp -implicitDefEqProofs (maxSteps := 1000000) [go_sem, ge13, w0, -List.map_append]
      simp only [k0, pulls, len_snoc, List.length_set]
      exact hr.symm
end
theorem U_law40_met (β : Bool) (a0_0 : List Int) (a0_1 : List (List Gapi_Edge)) (a0_2 : List Int) (a1 : List (List Bool)) (a2 : List Int) (a3 : List Int) (a4 : List Int) : call 13 [.agg [.sl β (List.map eI a0_0), .sl β (List.map (esapi_Edge β) a0_1), .sl β (List.map (eK .u64) a0_2)], .sl β (List.map (esbool β) a1), .sl β (List.map eI a2), .sl β (List.map eI a3), .sl β (List.map eI a4)] (lockA []) = ((F_law40_met (Gapi_Graph.mk a0_0 a0_1 a0_2) a1 a2 a3 a4).1).bind fun y => some (K_law40_met (Gapi_Graph.mk a0_0 a0_1 a0_2) a1 a2 a3 a4 β [] y) := ((F_law40_met (Gapi_Graph.mk a0_0 a0_1 a0_2) a1 a2 a3 a4).2 β [] _ rfl).trans map_1
@[go_sem] theorem W_law40_met (β : Bool) (a0_0 : List Int) (a0_1 : List (List Gapi_Edge)) (a0_2 : List Int) (a1 : List (List Bool)) (a2 : List Int) (a3 : List Int) (a4 : List Int) : type_of% (by have h := @U_law40_met β a0_0 a0_1 a0_2 a1 a2 a3 a4; simp only [K_law40_met] at h; exact h) := by have h := @U_law40_met β a0_0 a0_1 a0_2 a1 a2 a3 a4; simp only [K_law40_met] at h; exact h
section
variable (p0 : List Int) (p1 : Int) (p2 : List Int) (p3 : List (List Gapi_Edge)) (p4 : List Int)
end
section
variable (p0 : List (List Bool)) (p1 : Int) (p2 : Int) (p3 : List Bool) (p4 : Int)
end
section
variable (p0 : List (List Bool)) (p1 : Int)
end
section
variable (a0 : Gapi_Graph) (a1 : List Int)
end
end
end Go.Fair
namespace Go.Am
open Go
section
variable {α β γ δ σ : Type}
theorem iter_inv {f : α → Option (α ⊕ β)} (I : α → Prop) (Q : β → Prop) (μ : α → Nat)
    (h : ∀ x, I x → (∃ y, f x = some (.inl y) ∧ I y ∧ μ y < μ x) ∨ (∃ z, f x = some (.inr z) ∧ Q z)) : ∀ x, I x → ∃ z, iter f x = some z ∧ Q z := by
  have : ∀ (n : Nat) (x : α), μ x < n → I x → ∃ z, iter f x = some z ∧ Q z := by
    intro n
    induction n with
    | zero => intro x hx; omega
    | succ n ih =>
      intro x hx hI
      rcases h x hI with ⟨y, e, hy, hm⟩ | ⟨z, e, hz⟩
      · rw [iter_inl e]; exact ih y (by omega) hy
      · exact ⟨z, iter_inr e, hz⟩
  exact fun x hx => this (μ x + 1) x (by omega) hx
theorem iter_steps {f : α → Option (α ⊕ β)} (s : Nat → α) (n : Nat) (z : β) (h : ∀ k, k < n → f (s k) = some (.inl (s (k + 1)))) (e : f (s n) = some (.inr z)) : iter f (s 0) = some z := by
  have : ∀ k, k ≤ n → iter f (s 0) = iter f (s k) := by
    intro k
    induction k with
    | zero => intro _; rfl
    | succ k ih => intro hk; rw [ih (by omega), iter_inl (h k (by omega))]
  rw [this n (Nat.le_refl _), iter_inr e]
theorem iter_steps0 {f : α → Option (α ⊕ β)} (s : Nat → α) (n : Nat) {x : α} {z : β} (h0 : s 0 = x) (h : ∀ k, k < n → f (s k) = some (.inl (s (k + 1)))) (e : f (s n) = some (.inr z)) : iter f x = some z := by
  subst h0; exact iter_steps s n z h e
theorem iter_find {f : Int → Option (Int ⊕ (γ ⊕ Int))} (n : Nat) (g : Nat → Option γ)
    (h : ∀ k : Nat, k < n → f k = some (match g k with | some c => .inr (.inl c) | none => .inl ((k : Int) + 1)))
    (e : f n = some (.inr (.inr n))) : iter f 0 = some (((List.range n).findSome? g).elim (.inr (n : Int)) .inl) := by
  have : ∀ j k : Nat, k + j = n → iter f k = some (((List.range' k j).findSome? g).elim (.inr (n : Int)) .inl) := by
    intro j
    induction j with
    | zero => intro k hk; obtain rfl : k = n := by omega
              rw [iter_inr e]; rfl
    | succ j ih =>
      intro k hk
      have h1 := h k (by omega)
      rw [List.range'_succ, List.findSome?_cons]
      cases hg : g k with
      | some c => rw [hg] at h1; rw [iter_inr h1]; rfl
      | none => rw [hg] at h1; rw [iter_inl h1]; exact ih (k + 1) (by omega)
  have := this n 0 (by omega)
  rw [List.range_eq_range']
  exact this
theorem iter_any {f : Int → Option (Int ⊕ (Unit ⊕ Int))} (n : Nat) (p : Nat → Bool)
    (h : ∀ k : Nat, k < n → f k = some (if p k = true then .inl ((k : Int) + 1) else .inr (.inl ())))
    (e : f n = some (.inr (.inr n))) : iter f 0 = some (if (List.range n).all p = true then .inr (n : Int) else .inl ()) := by
  rw [iter_find n (fun k => if p k = true then none else some ()) ?_ e]
  · congr 1
    have : ∀ l : List Nat, (l.findSome? (fun k => if p k = true then none else some ())).elim (Sum.inr (n : Int)) Sum.inl = if l.all p = true then .inr (n : Int) else .inl () := by
      intro l
      induction l with
      | nil => rfl
      | cons a l ih =>
        rw [List.findSome?_cons]
        by_cases ha : p a = true
        · simpa [ha] using ih
        · simp [ha]
    exact this _
  · intro k hk
    rw [h k hk]
    by_cases hp : p k = true <;> simp [hp]
theorem all_range_get {l : List α} {p : α → Bool} : (List.range l.length).all (fun k => (l[k]?).any p) = l.all p := by
  rw [Bool.eq_iff_iff, List.all_eq_true, List.all_eq_true]
  constructor
  · intro h x hx
    obtain ⟨k, hk, rfl⟩ := List.getElem_of_mem hx
    have := h k (List.mem_range.2 hk)
    simpa [hk] using this
  · intro h k hk
    have hk := List.mem_range.1 hk
    simpa [hk] using h _ (List.getElem_mem hk)
theorem range_map_succ {g : Nat → α} {n : Nat} : (List.range (n + 1)).map g = (List.range n).map g ++ [g n] := by simp [List.range_succ]
theorem snoc_ind {P : List α → Prop} (h0 : P []) (h1 : ∀ l x, P l → P (l ++ [x])) (l : List α) : P l := by
  have : ∀ m : List α, P m.reverse := by
    intro m
    induction m with
    | nil => exact h0
    | cons a m ih => rw [List.reverse_cons]; exact h1 _ _ ih
  have h := this l.reverse
  rwa [List.reverse_reverse] at h
theorem nodup_len [DecidableEq α] : ∀ (l m : List α), l.Nodup → (∀ x ∈ l, x ∈ m) → l.length ≤ m.length
  | [], m, _, _ => by simp
  | a :: l, m, hn, h => by
    have ha := h a (by simp)
    rw [List.nodup_cons] at hn
    have h1 := nodup_len l (m.erase a) hn.2 fun x hx => by
      have hne : x ≠ a := fun e => hn.1 (e ▸ hx)
      exact (List.mem_erase_of_ne hne).2 (h x (by simp [hx]))
    rw [List.length_erase_of_mem ha] at h1
    have : 0 < m.length := List.length_pos_of_mem ha
    simp only [List.length_cons]
    omega
end
theorem wrap64 {x : Int} (h1 : -9223372036854775808 ≤ x) (h2 : x ≤ 9223372036854775807) : IntKind.i64.wrap x = x := wrap_i64 h1 h2
theorem wrapS {k : Nat} (h : k < 4611686018427387904) : IntKind.i64.wrap ((k : Int) + 1) = (k : Int) + 1 := wrap_i64 (by omega) (by omega)
end Go.Am
namespace Go.Fair
open Go Go.Am Go.Proofs
set_option linter.unusedSimpArgs false
set_option linter.unusedVariables false
def nodeB (g : Gapi_Graph) (n : Int) : Bool := decide (0 ≤ n) && decide (n < g.Edges.length)
theorem node1 (g : Gapi_Graph) (n : Int) : (F_graph_node g n).1 = some (nodeB g n) := by
  simp only [F_graph_node, nodeB]
  by_cases h : 0 ≤ n <;> simp [h]
theorem node2 (g : Gapi_Graph) (n : Int) : (F_r06_Node g n).1 = some (nodeB g n) := by
  simp only [F_r06_Node, nodeB]
  by_cases h : 0 ≤ n <;> simp [h]
def sumE (l : List (List Gapi_Edge)) : Nat := (l.map List.length).sum
theorem len_sumE {l : List (List Gapi_Edge)} {x : List Gapi_Edge} (h : x ∈ l) : x.length ≤ sumE l := by
  induction l with
  | nil => simp at h
  | cons a r ih =>
    simp only [sumE, List.map_cons, List.sum_cons] at ih ⊢
    rcases List.mem_cons.1 h with rfl | h
    · omega
    · have := ih h; omega
structure Fit (g : Gapi_Graph) : Prop where
  i : g.Init.length ≤ 1048576
  e : g.Edges.length ≤ 1048576
  l : g.Labels.length ≤ 1048576
  s : sumE g.Edges ≤ 1048576
def checkG (g : Gapi_Graph) : Int :=
  if 65536 < g.Edges.length then 11 else if g.Labels.length = g.Edges.length then
    if g.Init.all (nodeB g) = true then if (g.Edges.all fun l => l.all fun e => nodeB g e.To) = true then 0 else 10 else 10
  else 3
variable {g : Gapi_Graph}
theorem gc0 (hf : Fit g) : iter (F_graph_Check_0 g.Init g.Init.length g.Edges g.Labels).1 0 = some (if g.Init.all (nodeB g) = true then .inr (g.Init.length : Int) else .inl ()) := by
  have hi := hf.i
  rw [iter_any g.Init.length (fun k => (g.Init[k]?).any (nodeB g)), all_range_get]
  · intro k hk
    simp only [F_graph_Check_0, Int.ofNat_lt, hk, if_true, Int.natCast_nonneg, Int.toNat_natCast, List.getElem?_eq_getElem hk, Option.bind_some, Option.any_some, node1, wrapS (Nat.lt_of_lt_of_le hk (by omega : g.Init.length ≤ 4611686018427387904))]
    cases nodeB g g.Init[k] <;> rfl
  · simp [F_graph_Check_0]
theorem rc0 (hf : Fit g) : iter (F_r06_Check_0 g.Init g.Edges g.Labels).1 0 = some (if g.Init.all (nodeB g) = true then .inr (g.Init.length : Int) else .inl ()) := by
  have hi := hf.i
  rw [iter_any g.Init.length (fun k => (g.Init[k]?).any (nodeB g)), all_range_get]
  · intro k hk
    simp only [F_r06_Check_0, Int.ofNat_lt, hk, if_true, Int.natCast_nonneg, Int.toNat_natCast, List.getElem?_eq_getElem hk, Option.bind_some, Option.any_some, node2, wrapS (Nat.lt_of_lt_of_le hk (by omega : g.Init.length ≤ 4611686018427387904))]
    cases nodeB g g.Init[k] <;> rfl
  · simp [F_r06_Check_0]
theorem idx1 {l : List Gapi_Edge} (hl : l.length ≤ 1048576) : iter (F_slices_IndexFunc_sapi_Edge_api_Edge_in_graph_Check_0 l l.length g.Init g.Edges g.Labels).1 0 =
    some (((List.range l.length).findSome? (β := Int) fun (k : Nat) => if (l[k]?).any (fun e => nodeB g e.To) = true then none else some (k : Int)).elim (.inr (l.length : Int)) .inl) := by
  refine iter_find l.length _ ?_ ?_
  · intro k hk
    simp only [F_slices_IndexFunc_sapi_Edge_api_Edge_in_graph_Check_0, Int.ofNat_lt, hk, if_true, Int.natCast_nonneg, Int.toNat_natCast, List.getElem?_eq_getElem hk, Option.bind_some, Option.any_some, node1, wrapS (Nat.lt_of_lt_of_le hk (by omega : l.length ≤ 4611686018427387904))]
    cases nodeB g l[k].To <;> rfl
  · simp [F_slices_IndexFunc_sapi_Edge_api_Edge_in_graph_Check_0]
theorem find_any {n : Nat} {p : Nat → Bool} : ((List.range n).findSome? (β := Int) fun (k : Nat) => if p k = true then none else some (k : Int)).elim true (fun x => decide (x < 0)) = (List.range n).all p := by
  generalize List.range n = l
  induction l with
  | nil => rfl
  | cons a l ih =>
    rw [List.findSome?_cons, List.all_cons]
    cases p a
    · simp
    · simpa using ih
theorem gc1 (hf : Fit g) : iter (F_graph_Check_1 g.Edges g.Edges.length g.Init g.Labels).1 0 = some (if (g.Edges.all fun l => l.all fun e => nodeB g e.To) = true then .inr (g.Edges.length : Int) else .inl ()) := by
  have hi := hf.e
  rw [iter_any g.Edges.length (fun k => (g.Edges[k]?).any fun l => l.all fun e => nodeB g e.To), all_range_get]
  · intro k hk
    have hl : (g.Edges[k]).length ≤ 1048576 := Nat.le_trans (len_sumE (List.getElem_mem hk)) hf.s
    simp only [F_graph_Check_1, Int.ofNat_lt, hk, if_true, Int.natCast_nonneg, Int.toNat_natCast, List.getElem?_eq_getElem hk, Option.bind_some, Option.any_some, wrapS (Nat.lt_of_lt_of_le hk (by omega : g.Edges.length ≤ 4611686018427387904)), idx1 hl, case2]
    have h1 := find_any (n := (g.Edges[k]).length) (p := fun j => ((g.Edges[k])[j]?).any fun e => nodeB g e.To)
    rw [all_range_get] at h1
    rw [← h1]
    cases (List.range (g.Edges[k]).length).findSome? (β := Int) fun (k_1 : Nat) => if (g.Edges[k][k_1]?).any (fun e => nodeB g e.To) = true then none else some (k_1 : Int) with
    | none => rfl
    | some c =>
      simp only [Option.elim]
      by_cases hc : 0 ≤ c
      · simp [hc, Int.not_lt.2 hc]
      · simp [hc, Int.not_le.1 hc]
  · simp [F_graph_Check_1]
theorem rc1 {l : List Gapi_Edge} {n : Nat} (hn : g.Edges[n]? = some l) (hl : l.length ≤ 1048576) : iter (F_r06_Check_1 n g.Init g.Edges g.Labels).1 0 = some (if (l.all fun e => nodeB g e.To) = true then .inr (l.length : Int) else .inl ()) := by
  rw [iter_any l.length (fun k => (l[k]?).any fun e => nodeB g e.To), all_range_get]
  · intro k hk
    simp only [F_r06_Check_1, Int.natCast_nonneg, if_true, Int.toNat_natCast, hn, Option.bind_some, Int.ofNat_lt, hk, List.getElem?_eq_getElem hk, Option.any_some, node2, wrapS (Nat.lt_of_lt_of_le hk (by omega : l.length ≤ 4611686018427387904))]
    cases nodeB g l[k].To <;> rfl
  · simp [F_r06_Check_1, hn]
theorem rc2 (hf : Fit g) : iter (F_r06_Check_2 g.Init g.Edges g.Labels).1 0 = some (if (g.Edges.all fun l => l.all fun e => nodeB g e.To) = true then .inr (g.Edges.length : Int) else .inl ()) := by
  have hi := hf.e
  rw [iter_any g.Edges.length (fun k => (g.Edges[k]?).any fun l => l.all fun e => nodeB g e.To), all_range_get]
  · intro k hk
    have hl : (g.Edges[k]).length ≤ 1048576 := Nat.le_trans (len_sumE (List.getElem_mem hk)) hf.s
    simp only [F_r06_Check_2, Int.ofNat_lt, hk, if_true, rc1 (List.getElem?_eq_getElem hk) hl, List.getElem?_eq_getElem hk, Option.any_some, wrapS (Nat.lt_of_lt_of_le hk (by omega : g.Edges.length ≤ 4611686018427387904)), case2]
    cases ((g.Edges[k]).all fun e => nodeB g e.To) <;> rfl
  · simp [F_r06_Check_2]
theorem gCheck (hf : Fit g) : (F_graph_Check g).1 = some (checkG g) := by
  simp only [F_graph_Check, checkG, gc0 hf, gc1 hf]
  have h1 : (65536 < (g.Edges.length : Int)) ↔ 65536 < g.Edges.length := by omega
  have h2 : ((g.Labels.length : Int) = g.Edges.length) ↔ g.Labels.length = g.Edges.length := by omega
  simp only [h1, h2]
  repeat' split
  all_goals simp_all [case2]
theorem rCheck (hf : Fit g) : (F_r06_Check g).1 = some (checkG g) := by
  simp only [F_r06_Check, checkG, rc0 hf, rc2 hf]
  have h1 : (65536 < (g.Edges.length : Int)) ↔ 65536 < g.Edges.length := by omega
  have h2 : ((g.Labels.length : Int) = g.Edges.length) ↔ g.Labels.length = g.Edges.length := by omega
  simp only [h1, h2]
  repeat' split
  all_goals simp_all [case2]
def fitsB (on : List (List Bool)) (n k : Nat) : Bool := decide (on.length = n) && on.all fun l => decide (l.length = k)
theorem gFits {on : List (List Bool)} {refs : List Int} (ho : on.length ≤ 1048576) : (F_fair_fits g on refs).1 = some (fitsB on g.Edges.length refs.length) := by
  have h : iter (F_fair_fits_0 refs on on.length).1 0 = some (if (on.all fun l => decide (l.length = refs.length)) = true then .inr (on.length : Int) else .inl ()) := by
    rw [iter_any on.length (fun k => (on[k]?).any fun l => decide (l.length = refs.length)), all_range_get]
    · intro k hk
      simp only [F_fair_fits_0, Int.natCast_nonneg, if_true, Int.toNat_natCast, Option.bind_some, Int.ofNat_lt, hk, List.getElem?_eq_getElem hk, Option.any_some, wrapS (Nat.lt_of_lt_of_le hk (by omega : on.length ≤ 4611686018427387904)), decide_eq_true_eq, Int.ofNat_inj]
      split <;> rfl
    · simp [F_fair_fits_0]
  simp only [F_fair_fits, h, fitsB, Int.ofNat_inj]
  repeat' split
  all_goals simp_all [case2]
theorem rShaped {on : List (List Bool)} {n k : Nat} (ho : on.length ≤ 1048576) : (F_r40_shaped on n k).1 = some (fitsB on n k) := by
  have h : iter (F_r40_shaped_0 on k).1 0 = some (if (on.all fun l => decide (l.length = k)) = true then .inr (on.length : Int) else .inl ()) := by
    rw [iter_any on.length (fun j => (on[j]?).any fun l => decide (l.length = k)), all_range_get]
    · intro j hk
      simp only [F_r40_shaped_0, Int.natCast_nonneg, if_true, Int.toNat_natCast, Option.bind_some, Int.ofNat_lt, hk, List.getElem?_eq_getElem hk, Option.any_some, wrapS (Nat.lt_of_lt_of_le hk (by omega : on.length ≤ 4611686018427387904)), decide_eq_true_eq, Int.ofNat_inj]
      split <;> rfl
    · simp [F_r40_shaped_0]
  simp only [F_r40_shaped, h, fitsB, Int.ofNat_inj]
  repeat' split
  all_goals simp_all [case2]
def farN (g : Gapi_Graph) : Nat := g.Edges.length + g.Init.length + sumE g.Edges
theorem sumE_take (l : List (List Gapi_Edge)) (i : Nat) (h : i < l.length) : sumE (l.take (i + 1)) = sumE (l.take i) + l[i].length := by
  unfold sumE
  rw [List.take_add_one, List.getElem?_eq_getElem h, List.map_append, List.sum_append]
  simp only [Option.toList_some, List.map_cons, List.map_nil, List.sum_cons, List.sum_nil, Nat.add_zero]
theorem sumE_le (l : List (List Gapi_Edge)) (i : Nat) : sumE (l.take i) ≤ sumE l := by
  have := congrArg (fun x => (List.map List.length x).sum) (List.take_append_drop i l)
  simp only [List.map_append, List.sum_append] at this
  simp only [sumE]
  omega
theorem far1 {refs : List Int} (hf : Fit g) : (F_law40_far g refs).1 = some (decide (400 < farN g) || decide (40 < refs.length)) := by
  have hi := hf.i
  have he := hf.e
  have hs := hf.s
  have h : iter (fun x => (F_law40_far_0 refs g.Edges g.Edges.length).1 x.1 x.2) (IntKind.i64.wrap (g.Edges.length + g.Init.length), 0) = some ((farN g : Int), (g.Edges.length : Int)) := by
    refine iter_steps0 (fun k => (((g.Edges.length + g.Init.length + sumE (g.Edges.take k) : Nat) : Int), (k : Int))) g.Edges.length ?_ ?_ ?_
    · rw [wrap64 (by omega) (by omega)]; simp [sumE]
    · intro k hk
      have h1 := sumE_le g.Edges (k + 1)
      rw [sumE_take _ _ hk] at h1
      simp only [F_law40_far_0, Int.ofNat_lt, hk, if_true, Int.natCast_nonneg, Int.toNat_natCast, List.getElem?_eq_getElem hk, Option.bind_some, sumE_take _ _ hk, wrapS (Nat.lt_of_lt_of_le hk (by omega : g.Edges.length ≤ 4611686018427387904))]
      rw [wrap64 (by omega) (by omega)]
      congr 4
      omega
    · simp [F_law40_far_0, farN]
  simp only [F_law40_far, h, Option.bind_some]
  by_cases h4 : 400 < farN g
  · have : (400 : Int) < farN g := by omega
    simp [h4, this]
  · have : ¬ (400 : Int) < farN g := by omega
    have h5 : (40 < (refs.length : Int)) ↔ 40 < refs.length := by omega
    simp [h4, this, h5]
end Go.Fair
namespace Go.Fair
open Go Go.Am Go.Proofs
set_option linter.unusedSimpArgs false
set_option linter.unusedVariables false
abbrev Pr := Int × Int
def toF (x : Pr) : Gfair_pair := ⟨x.1, x.2⟩
def toR (x : Pr) : Gr40_pair := ⟨x.1, x.2⟩
def refOf (a : Int) : Int := if a < 0 then -1 else IntKind.i64.wrap (a.tdiv 2)
theorem ref1 (a : Int) : (F_fair_ref a).1 = some (refOf a) := by simp only [F_fair_ref, refOf]; split <;> rfl
theorem ref2 (a : Int) : (F_r40_Ref a).1 = some (refOf a) := by simp only [F_r40_Ref, refOf]; split <;> rfl
theorem idxOf_app_mem {l m : List Pr} {x : Pr} (h : x ∈ l) : (l ++ m).idxOf x = l.idxOf x := by rw [List.idxOf_append]; simp [h]
theorem idxOf_app_not {l m : List Pr} {x : Pr} (h : x ∉ l) : (l ++ m).idxOf x = m.idxOf x + l.length := by rw [List.idxOf_append]; simp [h]
def addP (l : List Pr) (x : Pr) : List Pr := if x ∈ l then l else l ++ [x]
theorem addP_mem (l : List Pr) (x : Pr) : x ∈ addP l x := by unfold addP; split <;> simp_all
theorem addP_len (l : List Pr) (x : Pr) : (addP l x).length ≤ l.length + 1 := by unfold addP; split <;> simp
theorem addP_pre (l : List Pr) (x : Pr) : l <+: addP l x := by unfold addP; split <;> simp
def entF (l : List Pr) : List (Gfair_pair × Int) := (List.range l.length).map fun k => (toF (l.getD k (0, 0)), (k : Int))
theorem entF_snoc (l : List Pr) (x : Pr) : entF (l ++ [x]) = entF l ++ [(toF x, (l.length : Int))] := by
  simp only [entF, List.length_append, List.length_cons, List.length_nil, Nat.zero_add, List.range_succ, List.map_append, List.map_cons, List.map_nil]
  congr 1
  · refine List.map_congr_left fun k hk => ?_
    have hk := List.mem_range.1 hk
    simp [List.getD, List.getElem?_append_left hk]
  · simp [List.getD]
theorem mget_app {κ ν : Type} [DecidableEq κ] (a b : List (κ × ν)) (k : κ) : mget (a ++ b) k = (mget a k).or (mget b k) := by
  induction a with
  | nil => rfl
  | cons p a ih =>
    obtain ⟨u, v⟩ := p
    simp only [List.cons_append, mget]
    split
    · rfl
    · exact ih
theorem mput_new {κ ν : Type} [DecidableEq κ] (a : List (κ × ν)) (k : κ) (v : ν) (h : mget a k = none) : mput a k v = a ++ [(k, v)] := by
  induction a with
  | nil => rfl
  | cons p a ih =>
    obtain ⟨u, w⟩ := p
    simp only [mget] at h
    simp only [List.cons_append, mput]
    split at h
    · cases h
    · rename_i hne
      rw [if_neg hne, ih h]
theorem toF_inj {a b : Pr} : toF a = toF b ↔ a = b := by
  obtain ⟨a1, a2⟩ := a
  obtain ⟨b1, b2⟩ := b
  simp [toF]
theorem mget_entF (x : Pr) : ∀ (l : List Pr), mget (entF l) (toF x) = if x ∈ l then some (l.idxOf x : Int) else none := by
  intro l
  induction l using snoc_ind with
  | h0 => rfl
  | h1 l y ih =>
    rw [entF_snoc, mget_app, ih]
    by_cases h : x ∈ l
    · simp [h, idxOf_app_mem h]
    · by_cases e : x = y
      · subst e; simp [h, mget, idxOf_app_not h]
      · simp [h, mget, toF_inj, e]
theorem mhas_entF (x : Pr) (l : List Pr) : mhas (entF l) (toF x) = decide (x ∈ l) := by
  rw [mhas, mget_entF]; by_cases h : x ∈ l <;> simp [h]
theorem mval_entF (x : Pr) (l : List Pr) (h : x ∈ l) : mval 0 (entF l) (toF x) = (l.idxOf x : Int) := by
  rw [mval, mget_entF]; simp [h]
theorem mput_entF (x : Pr) (l : List Pr) (h : x ∉ l) : mput (entF l) (toF x) (l.length : Int) = entF (l ++ [x]) := by
  rw [mput_new _ _ _ (by rw [mget_entF]; simp [h]), entF_snoc]
theorem find_pr (l : List Pr) (x : Pr) (hl : l.length ≤ 4611686018427387904) : (F_r40_find (l.map toR) (toR x)).1 = some (if x ∈ l then (l.idxOf x : Int) else -1) := by
  have h : iter (F_r40_find_0 (l.map toR) (toR x).node (toR x).ref).1 0 = some (((List.range l.length).findSome? (β := Int) fun (k : Nat) => if (l[k]?).any (fun y => decide (y = x)) = true then some (k : Int) else none).elim (.inr (l.length : Int)) .inl) := by
    refine iter_find l.length _ ?_ ?_
    · intro k hk
      have h1 : (l[k].1 = x.1 ∧ l[k].2 = x.2) ↔ l[k] = x := by rw [Prod.ext_iff]
      simp only [F_r40_find_0, List.length_map, Int.ofNat_lt, hk, if_true, Int.natCast_nonneg, Int.toNat_natCast, List.getElem?_map, List.getElem?_eq_getElem hk, Option.map_some, Option.bind_some, Option.any_some, toR, wrapS (Nat.lt_of_lt_of_le hk hl), h1, decide_eq_true_eq]
      split <;> rfl
    · simp [F_r40_find_0]
  have h2 : ∀ (l : List Pr) (i : Nat), ((List.range' i l.length).findSome? (β := Int) fun (k : Nat) => if (l[k - i]?).any (fun y => decide (y = x)) = true then some (k : Int) else none) = if x ∈ l then some ((i + l.idxOf x : Nat) : Int) else none := by
    intro l
    induction l with
    | nil => intro i; rfl
    | cons y l ih =>
      intro i
      rw [List.length_cons, List.range'_succ, List.findSome?_cons]
      simp only [Nat.sub_self, List.getElem?_cons_zero, Option.any_some, decide_eq_true_eq]
      by_cases e : y = x
      · subst e; simp
      · have h3 : ∀ k ∈ List.range' (i + 1) l.length, ((fun (k : Nat) => if ((y :: l)[k - i]?).any (fun y => decide (y = x)) = true then some (k : Int) else none) k : Option Int) = (fun (k : Nat) => if (l[k - (i + 1)]?).any (fun y => decide (y = x)) = true then some (k : Int) else none) k := by
          intro k hk
          have := List.mem_range'_1.1 hk
          simp only
          rw [show k - i = (k - (i + 1)) + 1 by omega, List.getElem?_cons_succ]
        have h4 : ∀ (m : List Nat) (f g : Nat → Option Int), (∀ k ∈ m, f k = g k) → m.findSome? f = m.findSome? g := by
          intro m f g
          induction m with
          | nil => intro _; rfl
          | cons a m ihm =>
            intro hm
            rw [List.findSome?_cons, List.findSome?_cons, hm a (by simp), ihm fun k hk => hm k (by simp [hk])]
        rw [if_neg e]
        simp only
        rw [h4 _ _ _ h3, ih (i + 1)]
        have e2 : ¬ x = y := fun h => e h.symm
        by_cases hx : x ∈ l
        · simp [hx, List.idxOf_cons, beq_eq_false_iff_ne.2 e]; omega
        · simp [hx, e2]
  have h5 := h2 l 0
  rw [← List.range_eq_range'] at h5
  simp only [Nat.sub_zero, Nat.zero_add] at h5
  simp only [F_r40_find, h, h5, case2]
  by_cases hx : x ∈ l <;> simp [hx]
theorem find_pr1 (l : List Pr) (a b : Int) (hl : l.length ≤ 17179869184) : (F_r40_find (l.map toR) ⟨a, b⟩).1 = some (if (a, b) ∈ l then (l.idxOf (a, b) : Int) else -1) := find_pr l (a, b) (by omega)
theorem find_pr2 (l : List Pr) (a b : Int) (hl : l.length ≤ 17179869184) : (F_r40_find (l.map toR ++ [⟨a, b⟩]) ⟨a, b⟩).1 = some ((l ++ [(a, b)]).idxOf (a, b) : Int) := by
  have h := find_pr (l ++ [(a, b)]) (a, b) (by simp; omega)
  rw [List.map_append] at h
  exact h.trans (by simp)
end Go.Fair
namespace Go.Fair
open Go Go.Am Go.Proofs
set_option linter.unusedSimpArgs false
set_option linter.unusedVariables false
theorem foldl_take {α β : Type} (f : β → α → β) (s : β) (l : List α) (k : Nat) (h : k < l.length) : (l.take (k + 1)).foldl f s = f ((l.take k).foldl f s) l[k] := by
  rw [List.take_add_one, List.getElem?_eq_getElem h, List.foldl_append]; rfl
def innerS (s : List Pr × List Gapi_Edge) (e : Gapi_Edge) : List Pr × List Gapi_Edge :=
  (addP s.1 (e.To, refOf e.Act), s.2 ++ [⟨((addP s.1 (e.To, refOf e.Act)).idxOf (e.To, refOf e.Act) : Nat), e.Act⟩])
def inner (l : List Pr) (es : List Gapi_Edge) : List Pr × List Gapi_Edge := es.foldl innerS (l, [])
theorem inner_len1 (es : List Gapi_Edge) (s : List Pr × List Gapi_Edge) : (es.foldl innerS s).1.length ≤ s.1.length + es.length := by
  induction es generalizing s with
  | nil => simp
  | cons e es ih =>
    have := ih (innerS s e)
    have h2 := addP_len s.1 (e.To, refOf e.Act)
    simp only [List.foldl_cons, List.length_cons, innerS] at this ⊢
    omega
theorem inner_len2 (es : List Gapi_Edge) (s : List Pr × List Gapi_Edge) : (es.foldl innerS s).2.length = s.2.length + es.length := by
  induction es generalizing s with
  | nil => simp
  | cons e es ih =>
    have := ih (innerS s e)
    simp only [List.foldl_cons, List.length_cons, innerS, List.length_append, List.length_nil] at this ⊢
    omega
theorem inner_pre (es : List Gapi_Edge) (s : List Pr × List Gapi_Edge) : s.1 <+: (es.foldl innerS s).1 := by
  induction es generalizing s with
  | nil => exact List.prefix_refl _
  | cons e es ih => exact (addP_pre s.1 _).trans (ih (innerS s e))
variable {l : List Pr} {es : List Gapi_Edge}
theorem fair0 {p0 : List (List Bool)} {p1 : List Int} {p2 p3 : Int} {p6 : List Int} {p7 : List (List Gapi_Edge)} {p8 p9 : List Int} (hl : l.length ≤ 4294967296) (he : es.length ≤ 4294967296) :
    iter (fun x => (F_fair_Sets_0 p0 p1 p2 p3 es es.length p6 p7 p8 p9).1 x.1 x.2.1 x.2.2.1 x.2.2.2) (0, [], entF l, l.map toF) = some ((es.length : Int), (inner l es).2, entF (inner l es).1, (inner l es).1.map toF) := by
  refine iter_steps0 (fun k => ((k : Int), ((es.take k).foldl innerS (l, [])).2, entF ((es.take k).foldl innerS (l, [])).1, ((es.take k).foldl innerS (l, [])).1.map toF)) es.length rfl ?_ ?_
  · intro k hk
    have h1 := inner_len1 (es.take k) (l, [])
    have h2 := inner_len2 (es.take k) (l, [])
    rw [List.length_take_of_le (by omega)] at h1 h2
    simp only [List.length_nil, Nat.zero_add] at h1 h2
    rw [foldl_take _ _ _ _ hk]
    generalize (es.take k).foldl innerS (l, []) = s at h1 h2 ⊢
    obtain ⟨s1, s2⟩ := s
    simp only at h1 h2
    have h3 : (⟨es[k].To, refOf es[k].Act⟩ : Gfair_pair) = toF (es[k].To, refOf es[k].Act) := rfl
    simp only [F_fair_Sets_0, Int.ofNat_lt, hk, if_true, Int.natCast_nonneg, Int.toNat_natCast, List.getElem?_eq_getElem hk, Option.bind_some, ref1, h3, mhas_entF, wrapS (Nat.lt_of_lt_of_le hk (by omega : es.length ≤ 4611686018427387904)), List.length_map, innerS, addP, decide_eq_false_iff_not]
    have b1 : (s1.length + 1) * 16 ≤ 140737488355328 ∧ s1.length ≤ 9223372036854775806 := by omega
    have b2 : (s2.length + 1) * 16 ≤ 140737488355328 ∧ s2.length ≤ 9223372036854775806 := by omega
    by_cases hm : (es[k].To, refOf es[k].Act) ∈ s1
    · simp [hm, b2, mval_entF _ _ hm]
    · simp [hm, b1, b2, mput_entF _ _ hm, idxOf_app_not hm]
  · simp [F_fair_Sets_0, inner]
theorem fair0v {p0 : List (List Bool)} {p1 : List Int} {p2 p3 : Int} {p6 : List Int} {p7 : List (List Gapi_Edge)} {p8 p9 : List Int} {p10 : List (List Gapi_Edge)} {p11 : List Int} (hl : l.length ≤ 4294967296) (he : es.length ≤ 4294967296) :
    iter (fun x => (F_fair_Sets_0v1 p0 p1 p2 p3 es es.length p6 p7 p8 p9 p10 p11).1 x.1 x.2.1 x.2.2.1 x.2.2.2) (0, [], entF l, l.map toF) = some ((es.length : Int), (inner l es).2, entF (inner l es).1, (inner l es).1.map toF) := by
  refine Eq.trans ?_ (fair0 (p0 := p0) (p1 := p1) (p2 := p2) (p3 := p3) (p6 := p6) (p7 := p7) (p8 := p8) (p9 := p9) hl he)
  simp only [F_fair_Sets_0, F_fair_Sets_0v1]
theorem r1 {p0 : List (List Bool)} {p1 : List Int} {p2 : Int} {p4 : List Int} {p5 : List (List Gapi_Edge)} {p6 p7 : List Int} {p8 : List Int} {n : Nat} (hn : p5[n]? = some es) (hl : l.length ≤ 4294967296) (he : es.length ≤ 4294967296) :
    iter (fun x => (F_r40_Sets_1 p0 p1 p2 n p4 p5 p6 p7 p8).1 x.1 x.2.1 x.2.2) (0, l.map toR, []) = some ((es.length : Int), (inner l es).1.map toR, (inner l es).2) := by
  refine iter_steps0 (fun k => ((k : Int), ((es.take k).foldl innerS (l, [])).1.map toR, ((es.take k).foldl innerS (l, [])).2)) es.length rfl ?_ ?_
  · intro k hk
    have h1 := inner_len1 (es.take k) (l, [])
    have h2 := inner_len2 (es.take k) (l, [])
    rw [List.length_take_of_le (by omega)] at h1 h2
    simp only [List.length_nil, Nat.zero_add] at h1 h2
    rw [foldl_take _ _ _ _ hk]
    generalize (es.take k).foldl innerS (l, []) = s at h1 h2 ⊢
    obtain ⟨s1, s2⟩ := s
    simp only at h1 h2
    simp only [F_r40_Sets_1, Int.ofNat_lt, hk, if_true, Int.natCast_nonneg, Int.toNat_natCast, hn, List.getElem?_eq_getElem hk, Option.bind_some, ref2, wrapS (Nat.lt_of_lt_of_le hk (by omega : es.length ≤ 4611686018427387904)), List.length_map, innerS, addP,
      find_pr1 s1 es[k].To (refOf es[k].Act) (by omega), find_pr2 s1 es[k].To (refOf es[k].Act) (by omega)]
    have b1 : (s1.length + 1) * 16 ≤ 140737488355328 ∧ s1.length ≤ 9223372036854775806 := by omega
    have b2 : (s2.length + 1) * 16 ≤ 140737488355328 ∧ s2.length ≤ 9223372036854775806 := by omega
    by_cases hm : (es[k].To, refOf es[k].Act) ∈ s1
    · have h5 : ¬ ((s1.idxOf (es[k].To, refOf es[k].Act) : Nat) : Int) < 0 := by omega
      simp [hm, b2, h5]
    · simp [hm, b1, b2, idxOf_app_not hm, toR]
  · simp [F_r40_Sets_1, hn, inner]
theorem r1v {p0 : List (List Bool)} {p1 : List Int} {p2 : Int} {p4 : List Int} {p5 : List (List Gapi_Edge)} {p6 p7 : List Int} {p8 : List (List Gapi_Edge)} {p9 p10 : List Int} {n : Nat} (hn : p5[n]? = some es) (hl : l.length ≤ 4294967296) (he : es.length ≤ 4294967296) :
    iter (fun x => (F_r40_Sets_1v1 p0 p1 p2 n p4 p5 p6 p7 p8 p9 p10).1 x.1 x.2.1 x.2.2) (0, l.map toR, []) = some ((es.length : Int), (inner l es).1.map toR, (inner l es).2) := by
  refine Eq.trans ?_ (r1 (p0 := p0) (p1 := p1) (p2 := p2) (p4 := p4) (p6 := p6) (p7 := p7) (p8 := p7) hn hl he)
  simp only [F_r40_Sets_1, F_r40_Sets_1v1]
def firstS (s : List Pr × List Int) (n : Int) : List Pr × List Int := if (n, -1) ∈ s.1 then s else (s.1 ++ [(n, -1)], s.2 ++ [(s.1.length : Int)])
def first (init : List Int) : List Pr × List Int := init.foldl firstS ([], [])
theorem first_len (init : List Int) (s : List Pr × List Int) (h : s.1.length = s.2.length) : (init.foldl firstS s).1.length = (init.foldl firstS s).2.length ∧ (init.foldl firstS s).1.length ≤ s.1.length + init.length := by
  induction init generalizing s with
  | nil => exact ⟨h, by simp⟩
  | cons n r ih =>
    rw [List.foldl_cons]
    have h2 : (firstS s n).1.length = (firstS s n).2.length ∧ (firstS s n).1.length ≤ s.1.length + 1 := by
      unfold firstS; split <;> simp [h]
    have h3 := ih _ h2.1
    refine ⟨h3.1, ?_⟩
    have := h3.2
    have := h2.2
    simp only [List.length_cons]
    omega
theorem fairF {init : List Int} (hi : init.length ≤ 4294967296) : iter (fun x => (F_fair_maker_first_in_fair_Sets_0 init init.length).1 x.1 x.2.1 x.2.2.1 x.2.2.2) (0, [], [], []) = some ((init.length : Int), (first init).2, entF (first init).1, (first init).1.map toF) := by
  refine iter_steps0 (fun k => ((k : Int), ((init.take k).foldl firstS ([], [])).2, entF ((init.take k).foldl firstS ([], [])).1, ((init.take k).foldl firstS ([], [])).1.map toF)) init.length rfl ?_ ?_
  · intro k hk
    obtain ⟨h1, h2⟩ := first_len (init.take k) ([], []) rfl
    rw [List.length_take_of_le (by omega)] at h2
    simp only [List.length_nil, Nat.zero_add] at h2
    rw [foldl_take _ _ _ _ hk]
    generalize (init.take k).foldl firstS ([], []) = s at h1 h2 ⊢
    obtain ⟨s1, s2⟩ := s
    simp only at h1 h2
    have h3 : (⟨init[k], -1⟩ : Gfair_pair) = toF (init[k], -1) := rfl
    have b1 : (s1.length + 1) * 16 ≤ 140737488355328 ∧ s1.length ≤ 9223372036854775806 := by omega
    have b2 : (s2.length + 1) * 8 ≤ 140737488355328 ∧ s2.length ≤ 9223372036854775806 := by omega
    have b3 : (s1.length : Int) = s2.length := by omega
    simp only [F_fair_maker_first_in_fair_Sets_0, Int.ofNat_lt, hk, if_true, Int.natCast_nonneg, Int.toNat_natCast, List.getElem?_eq_getElem hk, Option.bind_some, h3, mhas_entF, wrapS (Nat.lt_of_lt_of_le hk (by omega : init.length ≤ 4611686018427387904)), List.length_map, firstS, decide_eq_false_iff_not]
    by_cases hm : (init[k], -1) ∈ s1
    · have h5 : ¬ ((s1.idxOf (init[k], -1) : Nat) : Int) = s2.length := by
        have := List.idxOf_lt_length_of_mem hm
        omega
      simp [hm, mval_entF _ _ hm, h5]
    · have h6 := mput_entF _ _ hm
      rw [b3] at h6
      simp [hm, b1, b2, b3, h6]
  · simp [F_fair_maker_first_in_fair_Sets_0, first]
theorem rF {p0 : List (List Bool)} {p1 : List Int} {p3 : List (List Gapi_Edge)} {p4 : List Int} {init : List Int} (hi : init.length ≤ 4294967296) : iter (fun x => (F_r40_Sets_0 p0 p1 init p3 p4).1 x.1 x.2.1 x.2.2) (0, [], []) = some ((init.length : Int), (first init).1.map toR, (first init).2) := by
  refine iter_steps0 (fun k => ((k : Int), ((init.take k).foldl firstS ([], [])).1.map toR, ((init.take k).foldl firstS ([], [])).2)) init.length rfl ?_ ?_
  · intro k hk
    obtain ⟨h1, h2⟩ := first_len (init.take k) ([], []) rfl
    rw [List.length_take_of_le (by omega)] at h2
    simp only [List.length_nil, Nat.zero_add] at h2
    rw [foldl_take _ _ _ _ hk]
    generalize (init.take k).foldl firstS ([], []) = s at h1 h2 ⊢
    obtain ⟨s1, s2⟩ := s
    simp only at h1 h2
    have b1 : (s1.length + 1) * 16 ≤ 140737488355328 ∧ s1.length ≤ 9223372036854775806 := by omega
    have b2 : (s2.length + 1) * 8 ≤ 140737488355328 ∧ s2.length ≤ 9223372036854775806 := by omega
    simp only [F_r40_Sets_0, Int.ofNat_lt, hk, if_true, Int.natCast_nonneg, Int.toNat_natCast, List.getElem?_eq_getElem hk, Option.bind_some, find_pr1 s1 init[k] (-1) (by omega), wrapS (Nat.lt_of_lt_of_le hk (by omega : init.length ≤ 4611686018427387904)), List.length_map, firstS]
    by_cases hm : (init[k], -1) ∈ s1
    · have h5 : ¬ ((s1.idxOf (init[k], -1) : Nat) : Int) < 0 := by omega
      simp [hm, h5]
    · simp [hm, b1, b2, toR]
  · simp [F_r40_Sets_0, first]
end Go.Fair
namespace Go.Fair
open Go Go.Am Go.Proofs
set_option linter.unusedSimpArgs false
set_option linter.unusedVariables false
theorem nc0 (a b : Int) : decide (0 < (T.d (D.agg [D.int IntKind.i64 a, D.int IntKind.i64 b])).nc) = true := rfl
theorem nc1 (a b : Int) : decide (1 < (T.d (D.agg [D.int IntKind.i64 a, D.int IntKind.i64 b])).nc) = true := rfl
structure Os where
  l : List Pr
  E : List (List Gapi_Edge)
  L : List Int
  N : List Int
def edgesAt (g : Gapi_Graph) (x : Pr) : List Gapi_Edge := (g.Edges[x.1.toNat]?).getD []
def outS (g : Gapi_Graph) (s : Os) (x : Pr) : Os := ⟨(inner s.l (edgesAt g x)).1, s.E ++ [(inner s.l (edgesAt g x)).2], s.L ++ [(g.Labels[x.1.toNat]?).getD 0], s.N ++ [x.1]⟩
def st (g : Gapi_Graph) (l0 : List Pr) : Nat → Os
  | 0 => ⟨l0, [], [], []⟩
  | k + 1 => outS g (st g l0 k) ((st g l0 k).l.getD k (0, 0))
def U (g : Gapi_Graph) : List Pr := (g.Init.map fun n => (n, -1)) ++ (g.Edges.flatten.map fun e => (e.To, refOf e.Act))
theorem U_len (g : Gapi_Graph) : (U g).length = g.Init.length + sumE g.Edges := by simp only [U, sumE, List.length_append, List.length_map, List.length_flatten]
structure Inv (g : Gapi_Graph) (l : List Pr) : Prop where
  nd : l.Nodup
  u : ∀ x ∈ l, x ∈ U g
variable {g : Gapi_Graph}
theorem Inv.len {l : List Pr} (h : Inv g l) : l.length ≤ (U g).length := nodup_len l (U g) h.nd h.u
theorem addP_inv {l : List Pr} {x : Pr} (h : Inv g l) (hx : x ∈ U g) : Inv g (addP l x) := by
  unfold addP
  split
  · exact h
  · rename_i hn
    refine ⟨?_, ?_⟩
    · rw [List.nodup_append]
      refine ⟨h.nd, by simp, ?_⟩
      intro a ha b hb
      simp only [List.mem_cons, List.not_mem_nil, or_false] at hb
      subst hb
      exact fun e => hn (e ▸ ha)
    · intro y hy
      rcases List.mem_append.1 hy with hy | hy
      · exact h.u y hy
      · simp only [List.mem_cons, List.not_mem_nil, or_false] at hy
        subst hy; exact hx
theorem inner_inv {es : List Gapi_Edge} (hs : ∀ e ∈ es, (e.To, refOf e.Act) ∈ U g) : ∀ (s : List Pr × List Gapi_Edge), Inv g s.1 → Inv g (es.foldl innerS s).1 := by
  induction es with
  | nil => exact fun s h => h
  | cons e es ih => exact fun s h => ih (fun e he => hs e (by simp [he])) _ (addP_inv h (hs e (by simp)))
theorem edgesAt_U (x : Pr) : ∀ e ∈ edgesAt g x, (e.To, refOf e.Act) ∈ U g := by
  intro e he
  unfold edgesAt at he
  cases h : g.Edges[x.1.toNat]? with
  | none => rw [h] at he; simp at he
  | some es =>
    rw [h] at he
    simp only [Option.getD_some] at he
    refine List.mem_append_right _ (List.mem_map.2 ⟨e, List.mem_flatten.2 ⟨es, List.mem_of_getElem? h, he⟩, rfl⟩)
theorem st_inv {l0 : List Pr} (h : Inv g l0) : ∀ k, Inv g (st g l0 k).l
  | 0 => h
  | k + 1 => inner_inv (edgesAt_U _) _ (st_inv h k)
theorem first_inv (init : List Int) (hi : ∀ n ∈ init, n ∈ g.Init) : ∀ s : List Pr × List Int, Inv g s.1 → Inv g (init.foldl firstS s).1 := by
  induction init with
  | nil => exact fun s h => h
  | cons n r ih =>
    refine fun s h => ih (fun m hm => hi m (by simp [hm])) _ ?_
    have h1 := addP_inv (x := (n, -1)) h (List.mem_append_left _ (List.mem_map.2 ⟨n, hi n (by simp), rfl⟩))
    unfold firstS
    unfold addP at h1
    split
    · exact h
    · rename_i hn
      rw [if_neg hn] at h1
      exact h1
theorem firstI (g : Gapi_Graph) : Inv g (first g.Init).1 := first_inv g.Init (fun _ h => h) _ ⟨by simp, by simp⟩
theorem st_pre (l0 : List Pr) (k : Nat) : (st g l0 k).l <+: (st g l0 (k + 1)).l := inner_pre (edgesAt g ((st g l0 k).l.getD k (0, 0))) ((st g l0 k).l, [])
theorem st_preN (l0 : List Pr) (k : Nat) : ∀ n, (st g l0 k).l <+: (st g l0 (k + n)).l
  | 0 => List.prefix_refl _
  | n + 1 => (st_preN l0 k n).trans (st_pre l0 (k + n))
theorem st_len (l0 : List Pr) : ∀ k, (st g l0 k).E.length = k ∧ (st g l0 k).L.length = k ∧ (st g l0 k).N.length = k
  | 0 => ⟨rfl, rfl, rfl⟩
  | k + 1 => by
    obtain ⟨h1, h2, h3⟩ := st_len l0 k
    simp [st, outS, h1, h2, h3]
theorem exists_first (p : Nat → Prop) [DecidablePred p] {n : Nat} (h : ¬ p n) : ∃ N, ¬ p N ∧ ∀ k, k < N → p k := by
  induction n using Nat.strongRecOn with
  | ind n ih =>
    by_cases hk : ∃ k, k < n ∧ ¬ p k
    · obtain ⟨k, hk, hp⟩ := hk
      exact ih k hk hp
    · refine ⟨n, h, fun k hkn => ?_⟩
      by_cases hp : p k
      · exact hp
      · exact absurd ⟨k, hkn, hp⟩ hk
theorem ends {l0 : List Pr} (h : Inv g l0) : ∃ N, (st g l0 N).l.length = N ∧ ∀ k, k < N → k < (st g l0 k).l.length := by
  obtain ⟨N, h1, h2⟩ := exists_first (fun k => k < (st g l0 k).l.length) (n := (U g).length) (by have := (st_inv h (U g).length).len; omega)
  refine ⟨N, ?_, h2⟩
  cases N with
  | zero => omega
  | succ N =>
    have h3 := h2 N (by omega)
    have h4 := (st_pre (g := g) l0 N).length_le
    omega
theorem checkG_ok (h : checkG g = 0) : g.Labels.length = g.Edges.length ∧ g.Edges.length ≤ 65536 ∧ ∀ x ∈ U g, 0 ≤ x.1 ∧ x.1 < g.Edges.length := by
  unfold checkG at h
  split at h
  · cases h
  split at h
  · split at h
    · split at h
      · rename_i h1 h2 h3 h4
        refine ⟨h2, by omega, fun x hx => ?_⟩
        have hn : nodeB g x.1 = true := by
          rcases List.mem_append.1 hx with hx | hx
          · obtain ⟨n, hn, rfl⟩ := List.mem_map.1 hx
            exact List.all_eq_true.1 h3 n hn
          · obtain ⟨e, he, rfl⟩ := List.mem_map.1 hx
            obtain ⟨es, hes, he⟩ := List.mem_flatten.1 he
            exact List.all_eq_true.1 (List.all_eq_true.1 h4 es hes) e he
        simpa [nodeB] using hn
      · cases h
    · cases h
  · cases h
theorem at_ok (h : checkG g = 0) {x : Pr} (hx : x ∈ U g) : 0 ≤ x.1 ∧ g.Edges[x.1.toNat]? = some (edgesAt g x) ∧ g.Labels[x.1.toNat]? = some ((g.Labels[x.1.toNat]?).getD 0) := by
  obtain ⟨h1, h2, h3⟩ := checkG_ok h
  obtain ⟨h4, h5⟩ := h3 x hx
  have h6 : x.1.toNat < g.Edges.length := by omega
  have h7 : x.1.toNat < g.Labels.length := by omega
  refine ⟨h4, ?_, ?_⟩
  · simp [edgesAt, h6]
  · simp [h7]
theorem edgesAt_len (hf : Fit g) (x : Pr) : (edgesAt g x).length ≤ 1048576 := by
  unfold edgesAt
  cases h : g.Edges[x.1.toNat]? with
  | none => simp
  | some es => exact Nat.le_trans (len_sumE (List.mem_of_getElem? h)) hf.s
section
variable {l0 : List Pr} {N : Nat}
theorem fairO {p0 : List (List Bool)} {p1 p5 : List Int} (hf : Fit g) (hc : checkG g = 0) (hU : (U g).length ≤ 65536) (h0 : Inv g l0) (hN : (st g l0 N).l.length = N) (hk : ∀ k, k < N → k < (st g l0 k).l.length) :
    iter (fun x => (F_fair_Sets_1 p0 p1 g.Init g.Edges g.Labels p5).1 x.1 x.2.1 x.2.2.1 x.2.2.2.1 x.2.2.2.2) (0, [], [], entF l0, l0.map toF) = some (.inr ((N : Int), (st g l0 N).E, (st g l0 N).L, entF (st g l0 N).l, (st g l0 N).l.map toF)) := by
  refine iter_steps0 (fun k => ((k : Int), (st g l0 k).E, (st g l0 k).L, entF (st g l0 k).l, (st g l0 k).l.map toF)) N rfl ?_ ?_
  · intro k hkN
    have h1 := hk k hkN
    have h2 := (st_inv h0 k).len
    have h2' := (st_inv h0 (k + 1)).len
    obtain ⟨h3, h4, h5⟩ := st_len (g := g) l0 k
    have h6 : (st g l0 k).l[k]? = some ((st g l0 k).l.getD k (0, 0)) := by simp [h1]
    have h7 : (st g l0 k).l.getD k (0, 0) ∈ U g := (st_inv h0 k).u _ (by simp [h1])
    obtain ⟨a1, a2, a3⟩ := at_ok hc h7
    have b1 := edgesAt_len hf ((st g l0 k).l.getD k (0, 0))
    rw [show st g l0 (k + 1) = outS g (st g l0 k) ((st g l0 k).l.getD k (0, 0)) from rfl] at h2' ⊢
    generalize (st g l0 k).l.getD k (0, 0) = x at h6 a1 a2 a3 b1 h2' ⊢
    generalize st g l0 k = s at h1 h2 h3 h4 h5 h6 h2' ⊢
    have c1 : ¬ ((65536 : Int) < (inner s.l (edgesAt g x)).1.length) := by simp only [outS] at h2'; omega
    have c2 : (s.E.length + 1) * 24 ≤ 140737488355328 ∧ s.E.length ≤ 9223372036854775806 := by omega
    have c3 : (s.L.length + 1) * 8 ≤ 140737488355328 ∧ s.L.length ≤ 9223372036854775806 := by omega
    have c4 : (k : Int) < (s.l.length : Int) := by omega
    simp only [F_fair_Sets_1, List.length_map, c4, if_true, Int.natCast_nonneg, and_self, Int.toNat_natCast, List.getElem?_map, h6, Option.map_some, Option.bind_some, toF, a1, a2]
    rw [if_pos (nc0 _ _), fair0v (l := s.l) (es := edgesAt g x) (by omega) (by omega), Option.bind_some]
    dsimp only
    rw [List.length_map, if_neg c1, if_pos c2, a3, Option.bind_some, if_pos c3, wrapS (show k < 4611686018427387904 by omega)]
    rfl
  · simp [F_fair_Sets_1, hN]
theorem rO {p0 : List (List Bool)} {p1 p5 : List Int} (hf : Fit g) (hc : checkG g = 0) (hU : (U g).length ≤ 65536) (h0 : Inv g l0) (hN : (st g l0 N).l.length = N) (hk : ∀ k, k < N → k < (st g l0 k).l.length) :
    iter (fun x => (F_r40_Sets_2 p0 p1 g.Init g.Edges g.Labels p5).1 x.1 x.2.1 x.2.2.1 x.2.2.2.1 x.2.2.2.2) (0, l0.map toR, [], [], []) = some (.inr ((N : Int), (st g l0 N).l.map toR, (st g l0 N).E, (st g l0 N).L, (st g l0 N).N)) := by
  refine iter_steps0 (fun k => ((k : Int), (st g l0 k).l.map toR, (st g l0 k).E, (st g l0 k).L, (st g l0 k).N)) N rfl ?_ ?_
  · intro k hkN
    have h1 := hk k hkN
    have h2 := (st_inv h0 k).len
    have h2' := (st_inv h0 (k + 1)).len
    obtain ⟨h3, h4, h5⟩ := st_len (g := g) l0 k
    have h6 : (st g l0 k).l[k]? = some ((st g l0 k).l.getD k (0, 0)) := by simp [h1]
    have h7 : (st g l0 k).l.getD k (0, 0) ∈ U g := (st_inv h0 k).u _ (by simp [h1])
    obtain ⟨a1, a2, a3⟩ := at_ok hc h7
    have b1 := edgesAt_len hf ((st g l0 k).l.getD k (0, 0))
    rw [show st g l0 (k + 1) = outS g (st g l0 k) ((st g l0 k).l.getD k (0, 0)) from rfl] at h2' ⊢
    generalize (st g l0 k).l.getD k (0, 0) = x at h6 a1 a2 a3 b1 h2' ⊢
    generalize st g l0 k = s at h1 h2 h3 h4 h5 h6 h2' ⊢
    have c1 : ¬ ((65536 : Int) < s.l.length) := by omega
    have c2 : (s.E.length + 1) * 24 ≤ 140737488355328 ∧ s.E.length ≤ 9223372036854775806 := by omega
    have c3 : (s.L.length + 1) * 8 ≤ 140737488355328 ∧ s.L.length ≤ 9223372036854775806 := by omega
    have c5 : (s.N.length + 1) * 8 ≤ 140737488355328 ∧ s.N.length ≤ 9223372036854775806 := by omega
    have c4 : (k : Int) < (s.l.length : Int) := by omega
    have c6 : x.1 = ((x.1.toNat : Nat) : Int) := by omega
    simp only [F_r40_Sets_2, List.length_map, c4, c1, if_false, if_true, Int.natCast_nonneg, and_self, Int.toNat_natCast, List.getElem?_map, h6, Option.map_some, Option.bind_some, toR, a1, a2]
    have hr := r1v (p0 := p0) (p1 := p1) (p2 := (k : Int)) (p4 := g.Init) (p5 := g.Edges) (p6 := g.Labels) (p7 := p5) (p8 := s.E) (p9 := s.L) (p10 := s.N) (l := s.l) (es := edgesAt g x) (n := x.1.toNat) a2 (by omega) (by omega)
    rw [← c6] at hr
    rw [if_pos (nc0 _ _), hr, Option.bind_some]
    dsimp only
    rw [if_pos c2, a3, Option.bind_some, if_pos c3, if_pos c5, wrapS (show k < 4611686018427387904 by omega)]
    rfl
  · simp [F_r40_Sets_2, hN]
theorem fairO' {p0 : List (List Bool)} {p1 p5 : List Int} (hf : Fit g) (hc : checkG g = 0) (h0 : Inv g l0) :
    ∃ z, iter (fun x => (F_fair_Sets_1 p0 p1 g.Init g.Edges g.Labels p5).1 x.1 x.2.1 x.2.2.1 x.2.2.2.1 x.2.2.2.2) (0, [], [], entF l0, l0.map toF) = some z ∧
      ((∃ a, z = .inl a) ∨ ∃ N : Nat, z = .inr ((N : Int), (st g l0 N).E, (st g l0 N).L, entF (st g l0 N).l, (st g l0 N).l.map toF)) := by
  have hU : (U g).length ≤ 2097152 := by have := hf.i; have := hf.s; rw [U_len]; omega
  refine iter_inv (fun x => ∃ k : Nat, k ≤ (U g).length ∧ x = ((k : Int), (st g l0 k).E, (st g l0 k).L, entF (st g l0 k).l, (st g l0 k).l.map toF)) _ (fun x => 2097153 - x.1.toNat) ?_ _ ⟨0, by omega, rfl⟩
  rintro _ ⟨k, hkU, rfl⟩
  have h2 := (st_inv h0 k).len
  by_cases h1 : k < (st g l0 k).l.length
  · have h2' := (st_inv h0 (k + 1)).len
    obtain ⟨h3, h4, h5⟩ := st_len (g := g) l0 k
    have h6 : (st g l0 k).l[k]? = some ((st g l0 k).l.getD k (0, 0)) := by simp [h1]
    have h7 : (st g l0 k).l.getD k (0, 0) ∈ U g := (st_inv h0 k).u _ (by simp [h1])
    obtain ⟨a1, a2, a3⟩ := at_ok hc h7
    have b1 := edgesAt_len hf ((st g l0 k).l.getD k (0, 0))
    have hst : st g l0 (k + 1) = outS g (st g l0 k) ((st g l0 k).l.getD k (0, 0)) := rfl
    by_cases c1 : ((65536 : Int) < (inner (st g l0 k).l (edgesAt g ((st g l0 k).l.getD k (0, 0)))).1.length)
    · right
      refine ⟨.inl (entF (inner (st g l0 k).l (edgesAt g ((st g l0 k).l.getD k (0, 0)))).1, (inner (st g l0 k).l (edgesAt g ((st g l0 k).l.getD k (0, 0)))).1.map toF), ?_, .inl ⟨_, rfl⟩⟩
      generalize (st g l0 k).l.getD k (0, 0) = x at h6 a1 a2 a3 b1 c1 ⊢
      generalize st g l0 k = s at h1 h2 h3 h4 h5 h6 c1 ⊢
      have c4 : (k : Int) < (s.l.length : Int) := by omega
      simp only [F_fair_Sets_1, List.length_map, c4, if_true, Int.natCast_nonneg, and_self, Int.toNat_natCast, List.getElem?_map, h6, Option.map_some, Option.bind_some, toF, a1, a2]
      rw [if_pos (nc0 _ _), fair0v (l := s.l) (es := edgesAt g x) (by omega) (by omega), Option.bind_some]
      dsimp only
      rw [List.length_map, if_pos c1]
    · left
      refine ⟨_, ?_, ⟨k + 1, by omega, rfl⟩, by simp only; omega⟩
      rw [hst]
      generalize (st g l0 k).l.getD k (0, 0) = x at h6 a1 a2 a3 b1 c1 ⊢
      generalize st g l0 k = s at h1 h2 h3 h4 h5 h6 c1 ⊢
      have c2 : (s.E.length + 1) * 24 ≤ 140737488355328 ∧ s.E.length ≤ 9223372036854775806 := by omega
      have c3 : (s.L.length + 1) * 8 ≤ 140737488355328 ∧ s.L.length ≤ 9223372036854775806 := by omega
      have c4 : (k : Int) < (s.l.length : Int) := by omega
      simp only [F_fair_Sets_1, List.length_map, c4, if_true, Int.natCast_nonneg, and_self, Int.toNat_natCast, List.getElem?_map, h6, Option.map_some, Option.bind_some, toF, a1, a2]
      rw [if_pos (nc0 _ _), fair0v (l := s.l) (es := edgesAt g x) (by omega) (by omega), Option.bind_some]
      dsimp only
      rw [List.length_map, if_neg c1, if_pos c2, a3, Option.bind_some, if_pos c3, wrapS (show k < 4611686018427387904 by omega)]
      rfl
  · right
    refine ⟨_, ?_, .inr ⟨k, rfl⟩⟩
    have c4 : ¬ ((k : Int) < (st g l0 k).l.length) := by omega
    simp only [F_fair_Sets_1, List.length_map, c4, if_false]
end
end Go.Fair
namespace Go.Fair
open Go Go.Am Go.Proofs
set_option linter.unusedSimpArgs false
set_option linter.unusedVariables false
def onAt (on : List (List Bool)) (n : Int) (k : Nat) : Bool := (((on[n.toNat]?).getD [])[k]?).getD false
def setv (on : List (List Bool)) (r : Int) (k : Nat) (x : Pr) : Bool := decide (x.2 = r) || !onAt on x.1 k
def rowOf (on : List (List Bool)) (refs : List Int) (l : List Pr) (k : Nat) : List Bool := l.map (setv on (refs.getD k 0) k)
def setsOf (on : List (List Bool)) (refs : List Int) (l : List Pr) : List (List Bool) := (List.range refs.length).map (rowOf on refs l)
variable {on : List (List Bool)} {refs : List Int} {l : List Pr}
def OnOk (on : List (List Bool)) (m : Nat) (l : List Pr) : Prop := ∀ x ∈ l, 0 ≤ x.1 ∧ ∃ row, on[x.1.toNat]? = some row ∧ row.length = m
theorem onAt_get (h : OnOk on refs.length l) {x : Pr} (hx : x ∈ l) {k : Nat} (hk : k < refs.length) : ∃ row, on[x.1.toNat]? = some row ∧ row[k]? = some (onAt on x.1 k) := by
  obtain ⟨_, row, h1, h2⟩ := h x hx
  refine ⟨row, h1, ?_⟩
  simp [onAt, h1, h2, hk]
theorem set_map_lt {α : Type} (f g : Nat → α) (n k : Nat) (hk : k < n) (h1 : ∀ j, j < n → j ≠ k → f j = g j) : ((List.range n).map f).set k (g k) = (List.range n).map g := by
  refine List.ext_getElem? fun j => ?_
  rw [List.getElem?_set]
  by_cases hj : j < n
  · by_cases e : k = j
    · subst e; simp [hk]
    · simp [hj, e, h1 j hj fun h => e h.symm]
  · have : ¬ k = j := by omega
    simp [hj, this]
theorem fair2 {p2 : Int} {p3 : List Int} {p4 : Int} {p7 : List Int} {p8 : List (List Gapi_Edge)} {p9 p10 : List Int} {p11 : List (Gfair_pair × Int)} {rows : List (List Bool)} {k p5 : Nat} {p6 : Int} (h5 : p5 = l.length) (h6 : p6 = l.length) (ho : OnOk on refs.length l) (hl : l.length ≤ 4194304) (hk : k < refs.length) (hr : rows[k]? = some (List.replicate l.length false)) (hp : p2 = refs.getD k 0) :
    iter (fun x => (F_fair_Sets_2 on k p2 p3 p4 p5 p6 p7 p8 p9 p10 p11 (l.map toF)).1 x.1 x.2) (0, rows) = some ((l.length : Int), rows.set k (rowOf on refs l k)) := by
  subst h5 h6
  have hkr : k < rows.length := (List.getElem?_eq_some_iff.1 hr).1
  refine iter_steps0 (fun i => ((i : Int), rows.set k ((List.range l.length).map fun j => if j < i then setv on p2 k (l.getD j (0, 0)) else false))) l.length ?_ ?_ ?_
  · simp only [Nat.not_lt_zero, if_false, List.map_const', List.length_range]
    congr 1
    refine List.ext_getElem? fun j => ?_
    rw [List.getElem?_set]
    split
    · rename_i e; subst e; exact hr.symm
    · rfl
  · intro i hi
    have h1 : (l[i] : Pr) ∈ l := List.getElem_mem hi
    obtain ⟨row, h2, h3⟩ := onAt_get ho h1 hk
    have h4 := (ho _ h1).1
    have h5 : l.getD i (0, 0) = l[i] := by simp [hi]
    have h6 : ((List.range l.length).map fun j => if j < i then setv on p2 k (l.getD j (0, 0)) else false).set i (setv on p2 k l[i]) = (List.range l.length).map fun j => if j < i + 1 then setv on p2 k (l.getD j (0, 0)) else false := by
      have h7 := set_map_lt (fun j => if j < i then setv on p2 k (l.getD j (0, 0)) else false) (fun j => if j < i + 1 then setv on p2 k (l.getD j (0, 0)) else false) l.length i hi (fun j _ hj => by
        have : (j < i) ↔ (j < i + 1) := by omega
        simp only [this])
      rw [h5] at h7
      rw [← h7]
      simp [h5]
    rw [← h6]
    have h8 : (List.map (fun j => if j < i then setv on p2 k (l.getD j (0, 0)) else false) (List.range l.length)).length = l.length := by simp
    have h9 : ∃ b, (List.map (fun j => if j < i then setv on p2 k (l.getD j (0, 0)) else false) (List.range l.length))[i]? = some b := ⟨_, List.getElem?_eq_getElem (by omega)⟩
    generalize (List.map (fun j => if j < i then setv on p2 k (l.getD j (0, 0)) else false) (List.range l.length)) = cur at h8 h9 ⊢
    obtain ⟨b, h9⟩ := h9
    have h10 : (rows.set k cur)[k]? = some cur := by simp [hkr]
    have c1 : (i : Int) < (l.length : Int) := by omega
    have c2 : (k : Int) < (rows.length : Int) := by omega
    simp only [F_fair_Sets_2, List.length_map, c1, if_true, Int.natCast_nonneg, and_self, Int.toNat_natCast, List.getElem?_map, List.getElem?_eq_getElem hi, Option.map_some, Option.bind_some, toF, List.length_set, c2, h10, h8, h9, h4, h2, h3, List.set_set, wrapS (show i < 4611686018427387904 by omega), setv]
    by_cases e : l[i].2 = p2
    · simp [e]
    · simp [e]
  · have h5 : ((List.range l.length).map fun j => if j < l.length then setv on p2 k (l.getD j (0, 0)) else false) = rowOf on refs l k := by
      refine List.ext_getElem? fun j => ?_
      by_cases hj : j < l.length
      · simp [hj, rowOf, hp]
      · simp [hj, rowOf]
    simp only [F_fair_Sets_2, h5, List.length_map, Int.lt_irrefl, if_false]
theorem fair3 {p3 : List Int} {p4 : List (List Gapi_Edge)} {p5 p6 : List Int} {p7 : List (Gfair_pair × Int)} (ho : OnOk on refs.length l) (hl : l.length ≤ 4194304) (hk : refs.length ≤ 1048576) :
    iter (fun x => (F_fair_Sets_3 on refs refs.length p3 p4 p5 p6 p7 (l.map toF)).1 x.1 x.2) (0, List.replicate refs.length []) = some ((refs.length : Int), setsOf on refs l) := by
  refine iter_steps0 (fun i => ((i : Int), (List.range refs.length).map fun j => if j < i then rowOf on refs l j else [])) refs.length ?_ ?_ ?_
  · simp only [Nat.not_lt_zero, if_false, List.map_const', List.length_range]; rfl
  · intro i hi
    have h6 : ((List.range refs.length).map fun j => if j < i then rowOf on refs l j else []).set i (rowOf on refs l i) = (List.range refs.length).map fun j => if j < i + 1 then rowOf on refs l j else [] := by
      have h7 := set_map_lt (fun j => if j < i then rowOf on refs l j else []) (fun j => if j < i + 1 then rowOf on refs l j else []) refs.length i hi (fun j _ hj => by
        have : (j < i) ↔ (j < i + 1) := by omega
        simp only [this])
      simpa using h7
    rw [← h6]
    have h8 : (List.map (fun j => if j < i then rowOf on refs l j else []) (List.range refs.length)).length = refs.length := by simp
    have h9 : ∃ b, (List.map (fun j => if j < i then rowOf on refs l j else []) (List.range refs.length))[i]? = some b := ⟨_, List.getElem?_eq_getElem (by omega)⟩
    generalize (List.map (fun j => if j < i then rowOf on refs l j else []) (List.range refs.length)) = rows at h8 h9 ⊢
    obtain ⟨b, h9⟩ := h9
    have c1 : (i : Int) < (refs.length : Int) := by omega
    have c2 : (i : Int) < (rows.length : Int) := by omega
    have c3 : ((l.map toF).length : Int) ≤ 281474976710656 ∧ ((l.map toF).length : Int) ≤ 9223372036854775807 := by rw [List.length_map]; omega
    have h11 : List.replicate (l.map toF).length false = List.replicate l.length false := by rw [List.length_map]
    simp only [F_fair_Sets_3, c1, if_true, Int.natCast_nonneg, Int.toNat_natCast, List.getElem?_eq_getElem hi, Option.bind_some]
    rw [if_pos c3, if_pos ⟨trivial, c2⟩, h9, Option.bind_some, Option.bind_some, h11, fair2 (k := i) (p2 := refs[i]) (List.length_map _) (by rw [List.length_map]) ho hl hi (by rw [List.getElem?_set]; simp; omega) (by simp [hi]), Option.bind_some, wrapS (show i < 4611686018427387904 by omega), List.set_set]
    rfl
  · have h5 : ((List.range refs.length).map fun j => if j < refs.length then rowOf on refs l j else []) = setsOf on refs l := by
      refine List.map_congr_left fun j hj => ?_
      rw [if_pos (List.mem_range.1 hj)]
    simp only [F_fair_Sets_3, h5, Int.lt_irrefl, if_false]
theorem fair4 {p2 : List Int} {p3 : List (List Gapi_Edge)} {p4 : List Int} {p5 : List (List Bool)} {p6 : List (Gfair_pair × Int)} {q0 : Nat} {q1 : Int} (h0 : q0 = l.length) (h1 : q1 = l.length) (hl : l.length ≤ 4194304) :
    iter (fun x => (F_fair_Sets_4 q0 q1 p2 p3 p4 p5 p6 (l.map toF)).1 x.1 x.2) (0, List.replicate l.length 0) = some ((l.length : Int), l.map (·.1)) := by
  subst h0 h1
  refine iter_steps0 (fun i => ((i : Int), (List.range l.length).map fun j => if j < i then (l.getD j (0, 0)).1 else 0)) l.length ?_ ?_ ?_
  · simp only [Nat.not_lt_zero, if_false, List.map_const', List.length_range]; rfl
  · intro i hi
    have h6 : ((List.range l.length).map fun j => if j < i then (l.getD j (0, 0)).1 else 0).set i (l[i].1) = (List.range l.length).map fun j => if j < i + 1 then (l.getD j (0, 0)).1 else 0 := by
      have h7 := set_map_lt (fun j => if j < i then (l.getD j (0, 0)).1 else 0) (fun j => if j < i + 1 then (l.getD j (0, 0)).1 else 0) l.length i hi (fun j _ hj => by
        have : (j < i) ↔ (j < i + 1) := by omega
        simp only [this])
      simpa [hi] using h7
    rw [← h6]
    have h8 : (List.map (fun j => if j < i then (l.getD j (0, 0)).1 else 0) (List.range l.length)).length = l.length := by simp
    have h9 : ∃ b, (List.map (fun j => if j < i then (l.getD j (0, 0)).1 else 0) (List.range l.length))[i]? = some b := ⟨_, List.getElem?_eq_getElem (by omega)⟩
    generalize (List.map (fun j => if j < i then (l.getD j (0, 0)).1 else 0) (List.range l.length)) = cur at h8 h9 ⊢
    obtain ⟨b, h9⟩ := h9
    have c1 : (i : Int) < (l.length : Int) := by omega
    simp only [F_fair_Sets_4, List.length_map, c1, if_true, Int.natCast_nonneg, and_self, Int.toNat_natCast, List.getElem?_map, List.getElem?_eq_getElem hi, Option.map_some, Option.bind_some, toF, h8, h9, wrapS (show i < 4611686018427387904 by omega)]
    rfl
  · have h5 : ((List.range l.length).map fun j => if j < l.length then (l.getD j (0, 0)).1 else 0) = l.map (·.1) := by
      refine List.ext_getElem? fun j => ?_
      by_cases hj : j < l.length
      · simp [hj]
      · simp [hj]
    simp only [F_fair_Sets_4, List.length_map, h5, Int.lt_irrefl, if_false]
theorem rr3 {p4 : List Int} {p5 : List (List Gapi_Edge)} {p6 p7 : List Int} {p8 : List (List Bool)} {k : Nat} (ho : OnOk on refs.length l) (hl : l.length ≤ 4194304) (hk : k < refs.length) :
    iter (fun x => (F_r40_Sets_3 on refs k (l.map toR) p4 p5 p6 p7 p8).1 x.1 x.2) (0, []) = some ((l.length : Int), rowOf on refs l k) := by
  refine iter_steps0 (fun i => ((i : Int), (l.take i).map (setv on (refs.getD k 0) k))) l.length rfl ?_ ?_
  · intro i hi
    have h1 : (l[i] : Pr) ∈ l := List.getElem_mem hi
    obtain ⟨row, h2, h3⟩ := onAt_get ho h1 hk
    have h4 := (ho _ h1).1
    have h5 : (l.take (i + 1)).map (setv on (refs.getD k 0) k) = (l.take i).map (setv on (refs.getD k 0) k) ++ [setv on (refs.getD k 0) k l[i]] := by
      rw [List.take_add_one, List.getElem?_eq_getElem hi, List.map_append]; rfl
    rw [h5]
    have h8 : ((l.take i).map (setv on (refs.getD k 0) k)).length = i := by simp; omega
    generalize (l.take i).map (setv on (refs.getD k 0) k) = cur at h8 ⊢
    have c1 : (i : Int) < (l.length : Int) := by omega
    have c2 : i ≤ 140737488355327 ∧ i ≤ 9223372036854775806 := by omega
    have c3 : refs[k]? = some (refs.getD k 0) := by simp [hk]
    simp only [F_r40_Sets_3, List.length_map, c1, if_true, Int.natCast_nonneg, and_self, Int.toNat_natCast, List.getElem?_map, List.getElem?_eq_getElem hi, Option.map_some, Option.bind_some, toR]
    rw [if_pos (nc1 _ _), c3, Option.bind_some, h8, if_pos c2, if_pos (nc0 _ _), if_pos h4, h2, Option.bind_some, h3, Option.bind_some, if_pos c2, wrapS (show i < 4611686018427387904 by omega)]
    unfold setv
    by_cases e : l[i].2 = refs.getD k 0
    · rw [if_pos e, decide_eq_true e]; rfl
    · rw [if_neg e, decide_eq_false e]; rfl
  · simp [F_r40_Sets_3, rowOf]
theorem rr4 {p3 : List Int} {p4 : List (List Gapi_Edge)} {p5 p6 : List Int} (ho : OnOk on refs.length l) (hl : l.length ≤ 4194304) (hk : refs.length ≤ 1048576) :
    iter (fun x => (F_r40_Sets_4 on refs (l.map toR) p3 p4 p5 p6).1 x.1 x.2) (0, []) = some ((refs.length : Int), setsOf on refs l) := by
  refine iter_steps0 (fun i => ((i : Int), (List.range i).map (rowOf on refs l))) refs.length rfl ?_ ?_
  · intro i hi
    rw [range_map_succ]
    have h8 : ((List.range i).map (rowOf on refs l)).length = i := by simp
    generalize (List.range i).map (rowOf on refs l) = cur at h8 ⊢
    have c1 : (i : Int) < (refs.length : Int) := by omega
    have c2 : (cur.length + 1) * 24 ≤ 140737488355328 ∧ cur.length ≤ 9223372036854775806 := by omega
    simp only [F_r40_Sets_4, c1, if_true, rr3 ho hl hi, Option.bind_some]
    rw [if_pos c2, wrapS (show i < 4611686018427387904 by omega)]
    rfl
  · simp [F_r40_Sets_4, setsOf]
end Go.Fair
namespace Go.Fair
open Go Go.Am Go.Proofs
set_option linter.unusedSimpArgs false
set_option linter.unusedVariables false
variable {g : Gapi_Graph} {on : List (List Bool)} {refs : List Int}
theorem onOk {l : List Pr} (hc : checkG g = 0) (hb : fitsB on g.Edges.length refs.length = true) (hl : Inv g l) : OnOk on refs.length l := by
  intro x hx
  obtain ⟨_, _, h3⟩ := checkG_ok hc
  obtain ⟨h4, h5⟩ := h3 x (hl.u x hx)
  simp only [fitsB, Bool.and_eq_true, decide_eq_true_eq, List.all_eq_true] at hb
  have h6 : x.1.toNat < on.length := by omega
  exact ⟨h4, on[x.1.toNat], by simp [h6], hb.2 _ (List.getElem_mem h6)⟩
def resOk (g : Gapi_Graph) (on : List (List Bool)) (refs : List Int) (N : Nat) : List Int × List (List Gapi_Edge) × List Int × List Int × List (List Bool) × Int :=
  ((first g.Init).2, (st g (first g.Init).1 N).E, (st g (first g.Init).1 N).L, (st g (first g.Init).1 N).l.map (·.1), setsOf on refs (st g (first g.Init).1 N).l, 0)
theorem st_N (l0 : List Pr) : ∀ n, (∀ k, k < n → k < (st g l0 k).l.length) → (st g l0 n).N = ((st g l0 n).l.take n).map (·.1)
  | 0, _ => by simp [st]
  | n + 1, h => by
    have h1 := st_N l0 n fun k hk => h k (by omega)
    have h2 := h n (by omega)
    obtain ⟨t, ht⟩ := st_pre (g := g) l0 n
    have h3 : (st g l0 (n + 1)).N = (st g l0 n).N ++ [((st g l0 n).l[n]).1] := by simp [st, outS, h2]
    rw [← ht, List.take_append_of_le_length (by omega), List.take_add_one, List.getElem?_eq_getElem h2, h3, h1, List.map_append]
    rfl
theorem gSets (hf : Fit g) (ho : on.length ≤ 1048576) (hr : refs.length ≤ 1048576) (hU : (U g).length ≤ 65536) : ∃ N, (checkG g = 0 ∧ fitsB on g.Edges.length refs.length = true → (st g (first g.Init).1 N).l.length = N ∧ ∀ k, k < N → k < (st g (first g.Init).1 k).l.length) ∧
    (F_fair_Sets g on refs).1 = some (if checkG g = 0 then if fitsB on g.Edges.length refs.length = true then if 16 < refs.length then ([], [], [], [], [], 11) else resOk g on refs N else ([], [], [], [], [], 2) else ([], [], [], [], [], checkG g)) ∧
    (F_r40_Sets g on refs).1 = some (if checkG g = 0 then if fitsB on g.Edges.length refs.length = true then if 16 < refs.length then ([], [], [], [], [], 11) else resOk g on refs N else ([], [], [], [], [], 2) else ([], [], [], [], [], checkG g)) := by
  obtain ⟨N, hN, hk⟩ := ends (firstI g)
  refine ⟨N, fun _ => ⟨hN, hk⟩, ?_⟩
  have hi := hf.i
  have h16 : (16 < (refs.length : Int)) ↔ 16 < refs.length := by omega
  simp only [F_fair_Sets, F_r40_Sets, gCheck hf, rCheck hf, Option.bind_some, gFits (g := g) (refs := refs) ho, rShaped ho, h16]
  by_cases hc : checkG g = 0
  · simp only [hc, if_true]
    cases hb : fitsB on g.Edges.length refs.length with
    | false => simp
    | true =>
      by_cases h17 : 16 < refs.length
      · simp [h17]
      · have hI := st_inv (firstI g) N
        have hl := hI.len
        have hO := onOk hc hb hI
        have e1 : ([] : List (Gfair_pair × Int)) = entF [] := rfl
        have b1 : 8 * (((st g (first g.Init).1 N).l.map toF).length : Int) ≤ 281474976710656 ∧ (((st g (first g.Init).1 N).l.map toF).length : Int) ≤ 9223372036854775807 := by rw [List.length_map]; omega
        have b2 : 24 * (refs.length : Int) ≤ 281474976710656 ∧ (refs.length : Int) ≤ 9223372036854775807 := by omega
        have hS := st_N (g := g) (first g.Init).1 N hk
        rw [List.take_of_length_le (by omega)] at hS
        constructor
        · rw [if_neg (by simp), if_neg h17, fairF (by omega), Option.bind_some]
          dsimp only
          rw [fairO hf hc (by omega) (firstI g) hN hk]
          simp only [case2, Option.bind_some]
          rw [if_pos b1, if_pos b2, fair3 hO (by omega) hr, Option.bind_some]
          dsimp only
          rw [show List.replicate (List.map toF (st g (first g.Init).1 N).l).length (0 : Int) = List.replicate (st g (first g.Init).1 N).l.length 0 by rw [List.length_map], fair4 (l := (st g (first g.Init).1 N).l) (List.length_map _) (by rw [List.length_map]) (by omega), Option.bind_some]
          simp [resOk, h17]
        · rw [if_neg (by simp), if_neg h17, rF (by omega), Option.bind_some]
          dsimp only
          rw [rO hf hc (by omega) (firstI g) hN hk]
          simp only [case2, Option.bind_some]
          rw [rr4 hO (by omega) hr, Option.bind_some]
          simp [resOk, h17, hS]
  · simp [hc]
theorem inner_sum (es : List Gapi_Edge) (l : List Pr) : (inner l es).2.length = es.length := by have := inner_len2 es (l, []); simpa [inner] using this
end Go.Fair
namespace Go.Am
open Go Go.RowKit Go.ChangeShapes Go.WideShapes Go.ChangeAt
set_option linter.unusedSimpArgs false
set_option linter.unusedVariables false
open Go.Proofs.Ytabkianhbgpfgaa (Rows.uptoBulk Rows.uptoBulkAll)
abbrev bulkW {H : Type} (d : DataW H) : Nat := Go.Proofs.Ytabkianhbgpfgaa.Rows.uptoBulk d
abbrev bulkAllW {H : Type} (l : List (DataW H)) : Nat := Go.Proofs.Ytabkianhbgpfgaa.Rows.uptoBulkAll l
mutual
/-- how many values and letters -/
def D.bulk : D → Nat
  | .str s => s.length + 1
  | .sl _ l => D.bulks l + 1
  | .agg l => D.bulks l
  | _ => 1
def D.bulks : List D → Nat
  | [] => 0
  | x :: r => x.bulk + D.bulks r
end
theorem D.bulks_append : ∀ (a b : List D), D.bulks (a ++ b) = D.bulks a + D.bulks b
  | [], b => by simp [D.bulks]
  | x :: a, b => by simp only [List.cons_append, D.bulks, D.bulks_append a b]; omega
theorem D.bulks_cells (x : D) : D.bulks x.cells = x.bulk := by cases x <;> simp [D.cells, D.bulk, D.bulks]
def Ty (P : Program) : Nat → TypeId → D → Prop
  | 0, _, _ => False
  | n + 1, t, x =>
    match P.underlying t with
    | some .bool => ∃ b, x = .bool b
    | some (.int k) => ∃ m, x = .int k m ∧ k.min ≤ m ∧ m ≤ k.max
    | some .string => ∃ s, x = .str s
    | some (.slice e) => ∃ l, x = .sl false l ∧ ∀ y ∈ l, Ty P n e y
    | some (.struct fs) => ∃ ys : List D, x = .agg (ys.flatMap D.cells) ∧ All2 (fun (f : Field) y => Ty P n f.type y) fs.toList ys
    | some (.array m e) => ∃ ys : List D, x = .agg (ys.flatMap D.cells) ∧ ys.length = m ∧ ∀ y ∈ ys, Ty P n e y
    | _ => False
def inRow (P : Program) : Nat → List Field → Option Nat
  | o, [] => some o
  | o, f :: r => if f.offset = o then inRow P (o + P.cellsOf f.type) r else none
def tyOk (P : Program) : Nat → TypeId → Bool
  | 0, _ => false
  | n + 1, t =>
    match P.underlying t with
    | some .bool => true
    | some (.int _) => true
    | some .string => true
    | some (.slice e) => tyOk P n e && decide (0 < P.cellsOf e)
    | some (.struct fs) => fs.toList.all (fun f => tyOk P n f.type) && (inRow P 0 fs.toList == some (P.cellsOf t))
    | some (.array m e) => tyOk P n e && decide (P.cellsOf t = m * P.cellsOf e)
    | _ => false
def c0 (W : World) : Cx := { w := W, pm := fun _ b => b < W.heap.size, nO := 0, ρ := id }
theorem mapM_all2 {α β : Type} {f : α → Option β} : ∀ {l : List α} {r : List β}, l.mapM f = some r → All2 (fun a b => f a = some b) l r
  | [], r, h => by simp at h; subst h; rfl
  | a :: l, r, h => by
    rw [List.mapM_cons] at h
    simp only [Option.bind_eq_bind, Option.bind_eq_some_iff, Option.pure_def, Option.some.injEq] at h
    obtain ⟨b, h1, bs, h2, rfl⟩ := h
    exact ⟨b, bs, rfl, h1, mapM_all2 h2⟩
theorem VC.to_cells {c : Cx} {x : D} {cs : List Value} (h : VC c x cs) : VCs c x.cells cs := by
  have hl := VC.len x cs h
  cases x with
  | agg l => exact h
  | _ =>
    simp only [D.nc] at hl
    match cs, hl with
    | [u], _ => exact ⟨u, [], rfl, h, rfl⟩
section
variable {H : Type} {enc : TypeId × Value → H} {P : Program} {W : World} {spare : Nat → Bool}
theorem bulkAll_cons (d : DataW H) (l : List (DataW H)) : bulkAllW (d :: l) = bulkW d + bulkAllW l := by simp [bulkAllW, bulkW, Go.Proofs.Ytabkianhbgpfgaa.Rows.uptoBulkAll]
theorem read_elems {n fuel : Nat} {e : TypeId} {a : Addr} (ha : a.spot = none) (ih : ∀ (cs : List Value) (d : DataW H) (ps : List MemPlace), DataW.trod enc P W 0 spare true fuel e cs = some (d, ps) → ∃ x, VC (c0 W) x cs ∧ Ty P n e x ∧ x.bulk ≤ bulkW d) :
    ∀ (es : List (DataW H × List MemPlace)) (o : Nat), (∀ j, j < es.length → (W.cells? 0 (a.add ((o + j) * P.cellsOf e)) (P.cellsOf e)).bind (DataW.trod enc P W 0 spare true fuel e) = es[j]?) →
      ∃ ys, VE (c0 W) ys a (o * P.cellsOf e) (P.cellsOf e) ∧ (∀ y ∈ ys, Ty P n e y) ∧ D.bulks ys ≤ bulkAllW (es.map (·.1)) ∧ ys.length = es.length
  | [], o, _ => ⟨[], by simp [VE], by simp, by simp [D.bulks], rfl⟩
  | x :: es, o, h => by
    obtain ⟨ys, q1, q2, q3, q4⟩ := read_elems ha ih es (o + 1) (fun j hj => by
      have := h (j + 1) (by simp; omega)
      rw [show o + (j + 1) = o + 1 + j by omega] at this
      simpa using this)
    have h0 := h 0 (by simp)
    simp only [Nat.add_zero, List.getElem?_cons_zero, Option.bind_eq_some_iff] at h0
    obtain ⟨cs, hc, ht⟩ := h0
    obtain ⟨_, hl, hcell⟩ := World.cells?_some hc
    obtain ⟨y, r1, r2, r3⟩ := ih cs x.1 x.2 ht
    refine ⟨y :: ys, ?_, ?_, ?_, by simp [q4]⟩
    · simp only [VE]
      refine ⟨⟨cs, hl, fun j v hj => ?_, r1⟩, by rw [show o * P.cellsOf e + P.cellsOf e = (o + 1) * P.cellsOf e by rw [Nat.add_mul, Nat.one_mul]]; exact q1⟩
      have hjl : j < cs.length := (List.getElem?_eq_some_iff.1 hj).1
      have := hcell j (by omega)
      rw [add_add _ _ _ ha] at this
      rw [← hj]; exact this
    · intro z hz
      rcases List.mem_cons.1 hz with rfl | hz
      · exact r2
      · exact q2 z hz
    · simp only [D.bulks, List.map_cons, bulkAll_cons]; omega
theorem read_fields {n fuel : Nat} {cs : List Value} (ih : ∀ (t : TypeId) (cs : List Value) (d : DataW H) (ps : List MemPlace), tyOk P n t = true → DataW.trod enc P W 0 spare true fuel t cs = some (d, ps) → ∃ x, VC (c0 W) x cs ∧ Ty P n t x ∧ x.bulk ≤ bulkW d) :
    ∀ (fs : List Field) (xs : List (DataW H × List MemPlace)) (o e : Nat), inRow P o fs = some e → (∀ f ∈ fs, tyOk P n f.type = true) → All2 (fun (f : Field) x => DataW.trod enc P W 0 spare true fuel f.type ((cs.drop f.offset).take (P.cellsOf f.type)) = some x) fs xs → e ≤ cs.length →
      ∃ ys, All2 (fun (f : Field) y => Ty P n f.type y) fs ys ∧ VCs (c0 W) (ys.flatMap D.cells) ((cs.drop o).take (e - o)) ∧ D.bulks (ys.flatMap D.cells) ≤ bulkAllW (xs.map (·.1)) ∧ o ≤ e
  | [], xs, o, e, hr, _, ha, _ => by
    simp only [inRow, Option.some.injEq] at hr
    subst hr
    exact ⟨[], rfl, by simp [VCs], by simp [D.bulks], Nat.le_refl _⟩
  | f :: fs, xs, o, e, hr, hok, ha, he => by
    simp only [inRow] at hr
    split at hr
    · rename_i ho
      obtain ⟨x, r, rfl, h1, h2⟩ := ha
      obtain ⟨ys, q1, q2, q3, q4⟩ := read_fields ih fs r _ e hr (fun g hg => hok g (by simp [hg])) h2 he
      obtain ⟨y, r1, r2, r3⟩ := ih f.type _ x.1 x.2 (hok f (by simp)) h1
      refine ⟨y :: ys, ⟨y, ys, rfl, r2, q1⟩, ?_, ?_, by omega⟩
      · rw [List.flatMap_cons]
        have hsp : (cs.drop o).take (e - o) = (cs.drop o).take (P.cellsOf f.type) ++ (cs.drop (o + P.cellsOf f.type)).take (e - (o + P.cellsOf f.type)) := by
          rw [show e - o = P.cellsOf f.type + (e - (o + P.cellsOf f.type)) by omega, List.take_add, List.drop_drop]
        rw [hsp]
        rw [ho] at r1
        exact VCs.append _ _ _ _ (VC.to_cells r1) q2
      · rw [List.flatMap_cons, D.bulks_append, D.bulks_cells, List.map_cons, bulkAll_cons]; omega
    · cases hr
theorem read_items {n fuel : Nat} {t : TypeId} {cs : List Value} (ih : ∀ (cs : List Value) (d : DataW H) (ps : List MemPlace), DataW.trod enc P W 0 spare true fuel t cs = some (d, ps) → ∃ x, VC (c0 W) x cs ∧ Ty P n t x ∧ x.bulk ≤ bulkW d) :
    ∀ (m k : Nat) (xs : List (DataW H × List MemPlace)), All2 (fun (i : Nat) x => DataW.trod enc P W 0 spare true fuel t ((cs.drop (i * P.cellsOf t)).take (P.cellsOf t)) = some x) (List.range' k m) xs →
      ∃ ys : List D, ys.length = m ∧ (∀ y ∈ ys, Ty P n t y) ∧ VCs (c0 W) (ys.flatMap D.cells) ((cs.drop (k * P.cellsOf t)).take (m * P.cellsOf t)) ∧ D.bulks (ys.flatMap D.cells) ≤ bulkAllW (xs.map (·.1))
  | 0, k, xs, ha => ⟨[], rfl, by simp, by simp [VCs], by simp [D.bulks]⟩
  | m + 1, k, xs, ha => by
    rw [List.range'_succ] at ha
    obtain ⟨x, r, rfl, h1, h2⟩ := ha
    obtain ⟨ys, q1, q2, q3, q4⟩ := read_items ih m (k + 1) r h2
    obtain ⟨y, r1, r2, r3⟩ := ih _ x.1 x.2 h1
    refine ⟨y :: ys, by simp [q1], ?_, ?_, ?_⟩
    · intro z hz
      rcases List.mem_cons.1 hz with rfl | hz
      · exact r2
      · exact q2 z hz
    · rw [List.flatMap_cons]
      have hsp : (cs.drop (k * P.cellsOf t)).take ((m + 1) * P.cellsOf t) = (cs.drop (k * P.cellsOf t)).take (P.cellsOf t) ++ (cs.drop ((k + 1) * P.cellsOf t)).take (m * P.cellsOf t) := by
        rw [show (m + 1) * P.cellsOf t = P.cellsOf t + m * P.cellsOf t by rw [Nat.add_mul, Nat.one_mul, Nat.add_comm], List.take_add, List.drop_drop, show (k + 1) * P.cellsOf t = k * P.cellsOf t + P.cellsOf t by rw [Nat.add_mul, Nat.one_mul]]
      rw [hsp]
      exact VCs.append _ _ _ _ (VC.to_cells r1) q3
    · rw [List.flatMap_cons, D.bulks_append, D.bulks_cells, List.map_cons, bulkAll_cons]; omega
theorem read_ok : ∀ (fuel n : Nat) (t : TypeId) (cs : List Value) (d : DataW H) (ps : List MemPlace), tyOk P n t = true → DataW.trod enc P W 0 spare true fuel t cs = some (d, ps) →
    ∃ x, VC (c0 W) x cs ∧ Ty P n t x ∧ x.bulk ≤ bulkW d := by
  intro fuel
  induction fuel with
  | zero => intro n t cs d ps _ h; cases h
  | succ fuel ih =>
    intro n t cs d ps hok h
    cases n with
    | zero => cases hok
    | succ n =>
      simp only [tyOk] at hok
      split at hok
      · rename_i hu
        obtain ⟨b, rfl, hx⟩ := DataW.trod_bool hu h
        simp only [Prod.mk.injEq] at hx
        obtain ⟨rfl, rfl⟩ := hx
        exact ⟨.bool b, by simp [VC], by simp [Ty, hu], by simp [D.bulk, bulkW, Go.Proofs.Ytabkianhbgpfgaa.Rows.uptoBulk]⟩
      · rename_i k hu
        obtain ⟨m, rfl, hx, hw⟩ := DataW.trod_int hu h
        simp only [Prod.mk.injEq] at hx
        obtain ⟨rfl, rfl⟩ := hx
        simp only [Lit.wf, Bool.and_eq_true, decide_eq_true_eq] at hw
        exact ⟨.int k m, by simp [VC], by simp only [Ty, hu]; exact ⟨m, rfl, hw⟩, by simp [D.bulk, bulkW, Go.Proofs.Ytabkianhbgpfgaa.Rows.uptoBulk]⟩
      · rename_i hu
        obtain ⟨s, rfl, hx, hw⟩ := DataW.trod_string hu h
        simp only [Prod.mk.injEq] at hx
        obtain ⟨rfl, rfl⟩ := hx
        exact ⟨.str s.data.toList, by simp only [VC]; exact ⟨s, rfl, rfl⟩, by simp only [Ty, hu]; exact ⟨_, rfl⟩, by simp [D.bulk, bulkW, Go.Proofs.Ytabkianhbgpfgaa.Rows.uptoBulk]⟩
      · rename_i e hu
        simp only [Bool.and_eq_true, decide_eq_true_eq] at hok
        rcases DataW.trod_slice hu h with ⟨rfl, hx⟩ | ⟨a, len, cap, elems, rest, fuel', hf, rfl, hx, hb, hlc, hcm, hel, helem, _, _⟩
        · simp only [Prod.mk.injEq] at hx
          obtain ⟨rfl, rfl⟩ := hx
          exact ⟨.sl false [], by simp only [VC]; exact ⟨none, 0, 0, rfl, rfl, Nat.le_refl _, fun h => absurd rfl h⟩, by simp only [Ty, hu]; exact ⟨[], rfl, by simp⟩, by simp [D.bulk, D.bulks, bulkW, Go.Proofs.Ytabkianhbgpfgaa.Rows.uptoBulk]⟩
        · simp only [Nat.add_right_cancel_iff] at hf
          subst hf
          simp only [Prod.mk.injEq] at hx
          obtain ⟨rfl, rfl⟩ := hx
          have hsl : bulkAllW (elems.map (·.1)) + 1 ≤ bulkW (DataW.slice (elems.map (·.1)) (rest.map (·.1))) := by
            simp only [bulkW, bulkAllW, Go.Proofs.Ytabkianhbgpfgaa.Rows.uptoBulk]; omega
          by_cases hl0 : elems.length = 0
          · have : elems = [] := List.eq_nil_of_length_eq_zero hl0
            subst this
            refine ⟨.sl false [], by simp only [VC]; exact ⟨some a, len, cap, rfl, by simp at hel; simp [← hel], hlc, fun h => absurd rfl h⟩, by simp only [Ty, hu]; exact ⟨[], rfl, by simp⟩, ?_⟩
            simp only [D.bulk, D.bulks]; omega
          · have h0 := helem 0 (by omega)
            have hl' : 0 < elems.length := by omega
            rw [List.getElem?_eq_getElem hl', Option.bind_eq_some_iff] at h0
            obtain ⟨cs0, hc0, _⟩ := h0
            obtain ⟨_, hcl, hcell⟩ := World.cells?_some hc0
            have h00 := hcell 0 hok.2
            rw [List.getElem?_eq_getElem (by omega)] at h00
            have hadd : (a.add (0 * P.cellsOf e)).add 0 = a := by simp [Addr.add]
            rw [hadd] at h00
            have hspot : a.spot = none ∧ a.block < W.heap.size := by
              unfold World.cell? at h00
              split at h00
              · rename_i hb
                split at h00
                · cases h00
                · rename_i hs
                  exact ⟨by simpa using hs, (Array.getElem?_eq_some_iff.1 hb).1⟩
              · cases h00
            obtain ⟨ys, q1, q2, q3, q4⟩ := read_elems (n := n) (e := e) hspot.1 (fun cs d ps ht => ih n e cs d ps hok.1 ht) elems 0 (fun j hj => by rw [Nat.zero_add]; exact helem j (by omega))
            refine ⟨.sl false ys, ?_, by simp only [Ty, hu]; exact ⟨ys, rfl, q2⟩, by simp only [D.bulk]; omega⟩
            simp only [VC]
            exact ⟨some a, len, cap, rfl, by omega, hlc, fun _ => ⟨a, P.cellsOf e, rfl, hspot.1, hspot.2, hok.2, by rwa [Nat.zero_mul] at q1⟩⟩
      · rename_i fs hu
        simp only [Bool.and_eq_true, List.all_eq_true, beq_iff_eq] at hok
        obtain ⟨xs, fuel', hf, hx, hl, hxl, hfs⟩ := DataW.trod_struct hu h
        simp only [Nat.add_right_cancel_iff] at hf
        subst hf
        simp only [Prod.mk.injEq] at hx
        obtain ⟨rfl, rfl⟩ := hx
        have hall : ∀ (l : List Field) (xs : List (DataW H × List MemPlace)), xs.length = l.length → (∀ (i : Nat) (f : Field), l[i]? = some f → DataW.trod enc P W 0 spare true fuel f.type ((cs.drop f.offset).take (P.cellsOf f.type)) = xs[i]?) →
            All2 (fun (f : Field) x => DataW.trod enc P W 0 spare true fuel f.type ((cs.drop f.offset).take (P.cellsOf f.type)) = some x) l xs := by
          intro l
          induction l with
          | nil => intro xs hl _; exact List.eq_nil_of_length_eq_zero hl
          | cons f l ihl =>
            intro xs hl hh
            cases xs with
            | nil => cases hl
            | cons x xs => exact ⟨x, xs, rfl, by simpa using hh 0 f rfl, ihl xs (by simpa using hl) (fun i g hg => by simpa using hh (i + 1) g (by simpa using hg))⟩
        obtain ⟨ys, q1, q2, q3, _⟩ := read_fields (n := n) (fun t cs d ps hk ht => ih n t cs d ps hk ht) fs.toList xs 0 (P.cellsOf t) hok.2 hok.1 (hall _ _ (by simpa using hxl) (fun i f hf => hfs i f (by rw [← Array.getElem?_toList]; exact hf))) (by omega)
        refine ⟨.agg (ys.flatMap D.cells), ?_, by simp only [Ty, hu]; exact ⟨ys, rfl, q1⟩, ?_⟩
        · simp only [VC]
          rw [List.drop_zero, Nat.sub_zero, List.take_of_length_le (by omega)] at q2
          exact q2
        · simp only [D.bulk]
          refine Nat.le_trans q3 ?_
          simp only [bulkW, bulkAllW, Go.Proofs.Ytabkianhbgpfgaa.Rows.uptoBulk]; omega
      · rename_i m e hu
        simp only [Bool.and_eq_true, decide_eq_true_eq] at hok
        have hh : ∃ xs, (List.range m).mapM (fun i => DataW.trod enc P W 0 spare true fuel e ((cs.drop (i * P.cellsOf e)).take (P.cellsOf e))) = some xs ∧ d = .agg (xs.map (·.1)) ∧ cs.length = P.cellsOf t := by
          unfold DataW.trod at h
          rw [hu] at h
          split at h <;> simp_all
          obtain ⟨hl, xs, hp, hd⟩ := h
          exact ⟨xs, hp, hd.1.symm⟩
        obtain ⟨xs, h1, rfl, hl⟩ := hh
        have h2 := mapM_all2 h1
        rw [List.range_eq_range'] at h2
        obtain ⟨ys, q1, q2, q3, q4⟩ := read_items (n := n) (fun cs d ps ht => ih n e cs d ps hok.1 ht) m 0 xs h2
        refine ⟨.agg (ys.flatMap D.cells), ?_, by simp only [Ty, hu]; exact ⟨ys, rfl, q1, q2⟩, ?_⟩
        · simp only [VC]
          rw [Nat.zero_mul, List.drop_zero, List.take_of_length_le (by omega)] at q3
          exact q3
        · simp only [D.bulk]
          refine Nat.le_trans q4 ?_
          simp only [bulkW, bulkAllW, Go.Proofs.Ytabkianhbgpfgaa.Rows.uptoBulk]; omega
      · cases hok
theorem okWide_fits {base n : Nat} {t : TypeId} {v : Value} {x : D} (hok : tyOk P n t = true) (ho : Value.okWide P W .any base t v) (hx : VC (c0 W) x v.cells.toList) (ht : Ty P n t x) : fits x v := by
  cases n with
  | zero => cases hok
  | succ n =>
    have one : (∀ cs, v ≠ .agg cs) → (∀ l, x ≠ .agg l) → fits x v := fun hv hxa => by
      obtain ⟨u, hu, hf⟩ := VV.of_cells hx hxa
      have : v.cells = #[v] := by cases v <;> first | rfl | exact absurd rfl (hv _)
      rw [this] at hu
      simp only [List.cons.injEq, and_true] at hu
      rw [hu]
      exact hf.2
    simp only [tyOk] at hok
    unfold Value.okWide at ho
    simp only [Ty] at ht
    split at hok
    all_goals (rename_i hu; try rw [hu] at ho ht)
    · obtain ⟨b, rfl⟩ := ht
      exact one (fun cs e => by subst e; simp [Cell.okWide, Cell.ok, hu] at ho) (by simp)
    · obtain ⟨m, rfl, _⟩ := ht
      exact one (fun cs e => by subst e; simp [Cell.okWide, Cell.ok, hu] at ho) (by simp)
    · obtain ⟨s, rfl⟩ := ht
      exact one (fun cs e => by subst e; simp [Cell.okWide, Cell.ok, hu] at ho) (by simp)
    · obtain ⟨l, rfl, _⟩ := ht
      exact one (fun cs e => by subst e; simp [Cell.okWide, Cell.ok, hu] at ho) (by simp)
    · obtain ⟨ys, rfl, _⟩ := ht
      obtain ⟨cs, rfl, _⟩ := ho
      exact ⟨cs, rfl⟩
    · obtain ⟨ys, rfl, _⟩ := ht
      obtain ⟨cs, rfl, _⟩ := ho
      exact ⟨cs, rfl⟩
    · cases hok
theorem readAll_ok {n : Nat} : ∀ (ts : List TypeId) (vs : List Value) (ds : List (DataW H)) (ps : List MemPlace), (∀ t ∈ ts, tyOk P n t = true) → (∀ (j : Nat) t v, ts[j]? = some t → vs[j]? = some v → ∃ base, Value.okWide P W .any base t v) → DataW.TrodAll enc P W 0 spare true ts vs ds ps →
    ∃ xs, VVs (c0 W) xs vs ∧ All2 (fun t x => Ty P n t x) ts xs ∧ D.bulks xs ≤ bulkAllW ds
  | [], vs, ds, ps, _, _, h => by
    obtain ⟨rfl, rfl, rfl⟩ := trodAll_nil h
    exact ⟨[], rfl, rfl, by simp [D.bulks]⟩
  | t :: ts, vs, ds, ps, hok, ho, h => by
    obtain ⟨v, vs', d, ds', p, q, rfl, rfl, rfl, ⟨fuel, h1⟩, h2⟩ := trodAll_cons h
    obtain ⟨xs, g1, g2, g3⟩ := readAll_ok ts vs' ds' q (fun t ht => hok t (by simp [ht])) (fun j t v hj hv => ho (j + 1) t v (by simpa using hj) (by simpa using hv)) h2
    obtain ⟨x, k1, k2, k3⟩ := read_ok fuel n t _ d p (hok t (by simp)) h1
    obtain ⟨base, hb⟩ := ho 0 t v rfl rfl
    refine ⟨x :: xs, ⟨v, vs', rfl, k1, okWide_fits (hok t (by simp)) hb k1 k2, g1⟩, ⟨x, xs, rfl, k2, g2⟩, ?_⟩
    simp only [D.bulks, bulkAll_cons]; omega
end
def A0 (W : World) : Av := { w0 := W, F := fun _ _ => False, O0 := fun _ => False, n0 := 0, ρ0 := id, mono := fun _ h => h }
def hd0 : Root → Value
  | .o n => .slice (some ⟨n, 0, none⟩) 1 1
  | .l _ _ => undef
theorem start_ok (W : World) : KR (A0 W) id (fun _ => []) hd0 [] { ct := [], H := [] } [] W := by
  have hget : ∀ r t, ({ ct := [], H := [] } : Wk).get r ≠ some t := fun r t h => by cases r <;> simp [Wk.get, Go.Am.cont, lookR] at h
  refine ⟨fun r t h => absurd h (hget r t), fun _ _ _ => rfl, fun n => rfl, fun n es h => by simp at h, ⟨by simp, by simp, by simp, by simp⟩, fun b hb => ?_, by simp, ⟨rfl, rfl, rfl, Nat.le_refl _, fun _ _ _ => rfl⟩, fun t b h => h.elim, ⟨Nat.le_refl _, fun _ _ => rfl⟩⟩
  rcases hb with ⟨r, hr⟩ | hb <;> simp at *
theorem start_ext (W : World) : Ext (c0 W) (cxOf (A0 W) 0 id (fun _ => []) [] W) :=
  ⟨fun t b hp => ⟨⟨fun ho => by rcases ho with ⟨r, hr⟩ | hb <;> simp at *, fun h => h, hp⟩, rfl⟩, Nat.le_refl _, fun _ _ => rfl⟩
theorem calls_true {P : Program} (hm : P.follows .mixedOrders = true) {hints : FuncId → Hint} {n : Nat} {f : FuncId} {xs : List D} {H2 : List Ob} (e : callN P hints n f xs [] = some ([.d (.bool true)], H2)) {W : World} {args : Array Value} (ha : VVs (c0 W) xs args.toList) :
    Calls P f args W fun e W' => e = .returned (.bool true) ∧ RowKit.Below W.heap.size W W' := by
  obtain ⟨_, h⟩ := callN_ok hm hints n f xs [] _ _ e
  refine Calls.mono (h (A0 W) (fun _ => []) hd0 args rfl (start_ok W) (VVs.ext (start_ext W) _ _ ha)) fun en w' he => ?_
  obtain ⟨v, rfl, ρ', S', hd', M, vs, g1, g2, rfl⟩ := he
  obtain ⟨u, r, M1, M2, rfl, rfl, h3, h4, h5⟩ := g2
  simp only [RetAll] at h5
  obtain ⟨rfl, rfl⟩ := h5
  simp only [TC, VC] at h3
  simp only [fitsT, fits] at h4
  rw [cells_one h4] at h3
  have hu : u = .bool true := by simpa using h3.2
  subst hu
  exact ⟨rfl, g1.fr.os, g1.fr.tape, g1.fr.output, g1.fr.size, fun b hb => g1.fr.kept b hb (fun h => h)⟩
section
variable {H : Type} {enc : TypeId × Value → H} {P : Program}
theorem trodAll_below {W W' : World} (hl : laidOutB P = true) (hb : RowKit.Below W.heap.size W W') (sp : Nat → Bool) : ∀ (ts : List TypeId) (vs : List Value) (ds : List (DataW H)) (ps : List MemPlace), (∀ t ∈ ts, P.readableRec t = true ∧ t < P.types.size) → (∀ x ∈ ps, x.block < W.heap.size) → (∀ x ∈ ps, sp x.block = true) →
    DataW.TrodAll enc P W 0 (fun _ => true) true ts vs ds ps → DataW.TrodAll enc P W' 0 sp true ts vs ds ps
  | [], vs, ds, ps, _, _, _, h => by
    obtain ⟨rfl, rfl, rfl⟩ := trodAll_nil h
    exact rfl
  | t :: ts, vs, ds, ps, hr, hlt, hsp, h => by
    obtain ⟨v, vs', d, ds', p, q, rfl, rfl, rfl, h1, h2⟩ := trodAll_cons h
    obtain ⟨r1, r2⟩ := hr t (by simp)
    exact ⟨p, q, WideElems.Trod_stays hl r1 r2 h1 (fun x hx => hb.same (hlt x (by simp [hx]))) (fun x hx => hsp x (by simp [hx])),
      trodAll_below hl hb sp ts vs' ds' q (fun t ht => hr t (by simp [ht])) (fun x hx => hlt x (by simp [hx])) (fun x hx => hsp x (by simp [hx])) h2, rfl⟩
theorem law_post {fn : Func} {s : ChangeSpec} {apart fresh handsOn again : Bool} {W W' : World} {args : Array Value} {ds gs : List (DataW H)} {before : List MemPlace} {tb : TypeId}
    (hW : DataW.Whole enc P fn.params.toList s.vars apart W args.toList ds gs before) (hv : s.vars = []) (hs : s.fn H ds = { results := [.lit (.bool true)], args := ds }) (hb : RowKit.Below W.heap.size W W') (hl : laidOutB P = true)
    (hr : ∀ t ∈ fn.params.toList, P.readableRec t = true ∧ t < P.types.size) (ht : fn.resultTypes = #[tb]) (hu : P.underlying tb = some .bool) : s.post enc P fn apart fresh handsOn again W args (.bool true) W' := by
  have hlt : ∀ p ∈ before, p.block < W.heap.size := fun p hp => hW.lt p hp
  have hW0 := hW
  obtain ⟨pa, pv, hA, hV, rfl, hz, hn⟩ := hW
  have hpv : gs = [] ∧ pv = [] := by
    rw [hv] at hV
    cases gs with
    | nil => exact ⟨rfl, hV⟩
    | cons g gs => exact hV.elim
  obtain ⟨rfl, rfl⟩ := hpv
  have hargs : ∀ sp : Nat → Bool, (∀ p ∈ pa ++ [], sp p.block = true) → DataW.TrodAll enc P W' 0 sp true fn.params.toList args.toList (s.fn H (ds ++ [])).args pa := fun sp hsp => by
    rw [List.append_nil, hs]
    exact trodAll_below hl hb sp _ _ _ _ hr (fun x hx => hlt x (by simpa using hx)) (fun x hx => hsp x (by simpa using hx)) hA
  have hres : ∀ (b : Nat) (sp : Nat → Bool) (hd : Bool), DataW.TrodAll enc P W' b sp hd fn.resultTypes.toList ((Value.bool true).resultList fn.resultTypes.size) (s.fn H (ds ++ [])).results [] := fun b sp hd => by
    rw [List.append_nil, hs, ht]
    exact trodAll_cons_mk (shut_bool hu _) trodAll_mk0
  have hvars : ∀ sp : Nat → Bool, DataW.TrodVars enc P W' sp s.vars (s.fn H (ds ++ [])).vars [] := fun sp => by
    rw [List.append_nil, hs, hv]; exact rfl
  refine ⟨ds, [], pa ++ [], [], pa, [], hW0, hres _ _ _, hargs _ (fun p hp => by simpa using hlt p hp), hvars _, hb.frame _, fun _ => ⟨ok_one ht rfl (okWide_bool_mk hu _), _, _, ([] ++ pa) ++ [], ⟨[] ++ pa, [], trodAll_append (hargs _ (fun _ _ => rfl)) (hres _ _ _), hvars _, rfl, fun b off hp => ?_, fun ha => by simpa using hn ha⟩, fun p hp _ => by simpa using hp⟩⟩
  have hp' : MemPlace.cell b off ∈ pa ++ [] := by simpa using hp
  have := hlt _ hp'
  rw [hb.frozen (p := ⟨b, off, none⟩) this]
  exact hz b off hp'
end
end Go.Am
namespace Go.Am
open Go
theorem dec_list {α : Type} {Q : α → Prop} (f : α → D) : ∀ (l : List D), (∀ y ∈ l, ∃ a, y = f a ∧ Q a) → ∃ vs : List α, l = vs.map f ∧ ∀ a ∈ vs, Q a
  | [], _ => ⟨[], rfl, by simp⟩
  | y :: l, h => by
    obtain ⟨a, rfl, ha⟩ := h y (by simp)
    obtain ⟨vs, rfl, hs⟩ := dec_list f l (fun z hz => h z (by simp [hz]))
    exact ⟨a :: vs, rfl, by simpa using ⟨ha, hs⟩⟩
theorem bulks_list {α : Type} (f : α → D) (g : α → Nat) (h : ∀ x, (f x).bulk = g x) (l : List α) : D.bulks (l.map f) = (l.map g).sum := by
  induction l with
  | nil => simp [D.bulks]
  | cons a l ih => simp [D.bulks, h, ih]
theorem bulk_list {α : Type} (f : α → D) (g : α → Nat) (h : ∀ x, (f x).bulk = g x) (l : List α) : D.bulk (.sl false (l.map f)) = (l.map g).sum + 1 := by
  rw [D.bulk, bulks_list f g h]
theorem len_sum {α : Type} (g : α → Nat) (h : ∀ x, 1 ≤ g x) (l : List α) : l.length ≤ (l.map g).sum := by
  induction l with
  | nil => simp
  | cons a l ih => have := h a; simp; omega
end Go.Am
namespace Go.Fair
open Go Go.Am Go.Proofs
set_option linter.unusedSimpArgs false
set_option linter.unusedVariables false
def ok3 (m : Int) : Prop := -9223372036854775808 ≤ m ∧ m ≤ 9223372036854775807
def bk3 (_ : Int) : Nat := 1
theorem dec3 {n : Nat} {x : D} (h : Ty P (n + 1) 3 x) : ∃ v : Int, x = eI v ∧ ok3 v := by
  have hu : P.underlying 3 = some (.int .i64) := un3
  simp only [Ty, hu] at h
  obtain ⟨m, rfl, h1, h2⟩ := h
  exact ⟨m, rfl, h1, h2⟩
theorem bkE3 (v : Int) : (eI v).bulk = bk3 v := rfl
def ok4 (_ : Bool) : Prop := True
def bk4 (_ : Bool) : Nat := 1
theorem dec4 {n : Nat} {x : D} (h : Ty P (n + 1) 4 x) : ∃ v : Bool, x = eB v ∧ ok4 v := by
  have hu : P.underlying 4 = some .bool := un4
  simp only [Ty, hu] at h
  obtain ⟨m, rfl⟩ := h
  exact ⟨m, rfl, trivial⟩
theorem bkE4 (v : Bool) : (eB v).bulk = bk4 v := rfl
def ok5 (m : Int) : Prop := 0 ≤ m ∧ m ≤ 255
def bk5 (_ : Int) : Nat := 1
theorem dec5 {n : Nat} {x : D} (h : Ty P (n + 1) 5 x) : ∃ v : Int, x = (eK .u8) v ∧ ok5 v := by
  have hu : P.underlying 5 = some (.int .u8) := un5
  simp only [Ty, hu] at h
  obtain ⟨m, rfl, h1, h2⟩ := h
  exact ⟨m, rfl, h1, h2⟩
theorem bkE5 (v : Int) : ((eK .u8) v).bulk = bk5 v := rfl
def ok45 (m : Int) : Prop := 0 ≤ m ∧ m ≤ 18446744073709551615
def bk45 (_ : Int) : Nat := 1
theorem dec45 {n : Nat} {x : D} (h : Ty P (n + 1) 45 x) : ∃ v : Int, x = (eK .u64) v ∧ ok45 v := by
  have hu : P.underlying 45 = some (.int .u64) := un45
  simp only [Ty, hu] at h
  obtain ⟨m, rfl, h1, h2⟩ := h
  exact ⟨m, rfl, h1, h2⟩
theorem bkE45 (v : Int) : ((eK .u64) v).bulk = bk45 v := rfl
def ok22 (l : List Int) : Prop := ∀ a ∈ l, ok3 a
def bk22 (l : List Int) : Nat := (l.map bk3).sum + 1
theorem dec22 {n : Nat} {x : D} (h : Ty P (n + 2) 22 x) : ∃ v : List Int, x = (esi64 false) v ∧ ok22 v := by
  have hu : P.underlying 22 = some (.slice 3) := un22
  rw [Ty] at h
  simp only [hu] at h
  obtain ⟨l, rfl, hl⟩ := h
  obtain ⟨vs, rfl, hs⟩ := dec_list eI l (fun y hy => dec3 (n := n + 0) (hl y hy))
  exact ⟨vs, rfl, hs⟩
theorem bkE22 (v : List Int) : ((esi64 false) v).bulk = bk22 v := bulk_list eI bk3 bkE3 v
def ok24 (l : List Int) : Prop := ∀ a ∈ l, ok45 a
def bk24 (l : List Int) : Nat := (l.map bk45).sum + 1
theorem dec24 {n : Nat} {x : D} (h : Ty P (n + 2) 24 x) : ∃ v : List Int, x = (esu64 false) v ∧ ok24 v := by
  have hu : P.underlying 24 = some (.slice 45) := un24
  rw [Ty] at h
  simp only [hu] at h
  obtain ⟨l, rfl, hl⟩ := h
  obtain ⟨vs, rfl, hs⟩ := dec_list (eK .u64) l (fun y hy => dec45 (n := n + 0) (hl y hy))
  exact ⟨vs, rfl, hs⟩
theorem bkE24 (v : List Int) : ((esu64 false) v).bulk = bk24 v := bulk_list (eK .u64) bk45 bkE45 v
def ok37 (l : List Int) : Prop := ∀ a ∈ l, ok5 a
def bk37 (l : List Int) : Nat := (l.map bk5).sum + 1
theorem dec37 {n : Nat} {x : D} (h : Ty P (n + 2) 37 x) : ∃ v : List Int, x = (esu8 false) v ∧ ok37 v := by
  have hu : P.underlying 37 = some (.slice 5) := un37
  rw [Ty] at h
  simp only [hu] at h
  obtain ⟨l, rfl, hl⟩ := h
  obtain ⟨vs, rfl, hs⟩ := dec_list (eK .u8) l (fun y hy => dec5 (n := n + 0) (hl y hy))
  exact ⟨vs, rfl, hs⟩
theorem bkE37 (v : List Int) : ((esu8 false) v).bulk = bk37 v := bulk_list (eK .u8) bk5 bkE5 v
def ok38 (l : List Bool) : Prop := ∀ a ∈ l, ok4 a
def bk38 (l : List Bool) : Nat := (l.map bk4).sum + 1
theorem dec38 {n : Nat} {x : D} (h : Ty P (n + 2) 38 x) : ∃ v : List Bool, x = (esbool false) v ∧ ok38 v := by
  have hu : P.underlying 38 = some (.slice 4) := un38
  rw [Ty] at h
  simp only [hu] at h
  obtain ⟨l, rfl, hl⟩ := h
  obtain ⟨vs, rfl, hs⟩ := dec_list eB l (fun y hy => dec4 (n := n + 0) (hl y hy))
  exact ⟨vs, rfl, hs⟩
theorem bkE38 (v : List Bool) : ((esbool false) v).bulk = bk38 v := bulk_list eB bk4 bkE4 v
def ok41 (x : Gapi_Edge) : Prop := ok3 x.To ∧ ok3 x.Act
def bk41 (x : Gapi_Edge) : Nat := bk3 x.To + bk3 x.Act
theorem dec41 {n : Nat} {x : D} (h : Ty P (n + 2) 41 x) : ∃ v : Gapi_Edge, x = eapi_Edge v ∧ ok41 v := by
  have hu : P.underlying 41 = _ := Try.underlying41
  rw [Ty] at h
  simp only [hu] at h
  obtain ⟨ys, rfl, hy⟩ := h
  simp only [All2] at hy
  obtain ⟨a0, r0, rfl, g0, h0⟩ := hy
  obtain ⟨v0, rfl, k0⟩ := dec3 (n := n + 0) g0
  obtain ⟨a1, r1, rfl, g1, h1⟩ := h0
  obtain ⟨v1, rfl, k1⟩ := dec3 (n := n + 0) g1
  subst h1
  exact ⟨⟨v0, v1⟩, rfl, k0, k1⟩
theorem bkE41 (v : Gapi_Edge) : (eapi_Edge v).bulk = bk41 v := by
  have h := fun (l : List D) => D.bulk.eq_3 l
  simp only [eapi_Edge, bk41, D.bulk, D.bulks, ← bkE3] <;> omega
def ok27 (l : List (List Bool)) : Prop := ∀ a ∈ l, ok38 a
def bk27 (l : List (List Bool)) : Nat := (l.map bk38).sum + 1
theorem dec27 {n : Nat} {x : D} (h : Ty P (n + 3) 27 x) : ∃ v : List (List Bool), x = (essbool false) v ∧ ok27 v := by
  have hu : P.underlying 27 = some (.slice 38) := un27
  rw [Ty] at h
  simp only [hu] at h
  obtain ⟨l, rfl, hl⟩ := h
  obtain ⟨vs, rfl, hs⟩ := dec_list (esbool false) l (fun y hy => dec38 (n := n + 0) (hl y hy))
  exact ⟨vs, rfl, hs⟩
theorem bkE27 (v : List (List Bool)) : ((essbool false) v).bulk = bk27 v := bulk_list (esbool false) bk38 bkE38 v
def ok39 (l : List Gapi_Edge) : Prop := ∀ a ∈ l, ok41 a
def bk39 (l : List Gapi_Edge) : Nat := (l.map bk41).sum + 1
theorem dec39 {n : Nat} {x : D} (h : Ty P (n + 3) 39 x) : ∃ v : List Gapi_Edge, x = (esapi_Edge false) v ∧ ok39 v := by
  have hu : P.underlying 39 = some (.slice 41) := un39
  rw [Ty] at h
  simp only [hu] at h
  obtain ⟨l, rfl, hl⟩ := h
  obtain ⟨vs, rfl, hs⟩ := dec_list eapi_Edge l (fun y hy => dec41 (n := n + 0) (hl y hy))
  exact ⟨vs, rfl, hs⟩
theorem bkE39 (v : List Gapi_Edge) : ((esapi_Edge false) v).bulk = bk39 v := bulk_list eapi_Edge bk41 bkE41 v
def ok23 (l : List (List Gapi_Edge)) : Prop := ∀ a ∈ l, ok39 a
def bk23 (l : List (List Gapi_Edge)) : Nat := (l.map bk39).sum + 1
theorem dec23 {n : Nat} {x : D} (h : Ty P (n + 4) 23 x) : ∃ v : List (List Gapi_Edge), x = (essapi_Edge false) v ∧ ok23 v := by
  have hu : P.underlying 23 = some (.slice 39) := un23
  rw [Ty] at h
  simp only [hu] at h
  obtain ⟨l, rfl, hl⟩ := h
  obtain ⟨vs, rfl, hs⟩ := dec_list (esapi_Edge false) l (fun y hy => dec39 (n := n + 0) (hl y hy))
  exact ⟨vs, rfl, hs⟩
theorem bkE23 (v : List (List Gapi_Edge)) : ((essapi_Edge false) v).bulk = bk23 v := bulk_list (esapi_Edge false) bk39 bkE39 v
def ok26 (x : Gapi_Graph) : Prop := ok22 x.Init ∧ ok23 x.Edges ∧ ok24 x.Labels
def bk26 (x : Gapi_Graph) : Nat := bk22 x.Init + bk23 x.Edges + bk24 x.Labels
theorem dec26 {n : Nat} {x : D} (h : Ty P (n + 5) 26 x) : ∃ v : Gapi_Graph, x = (eapi_Graph false) v ∧ ok26 v := by
  have hu : P.underlying 26 = _ := Try.underlying26
  rw [Ty] at h
  simp only [hu] at h
  obtain ⟨ys, rfl, hy⟩ := h
  simp only [All2] at hy
  obtain ⟨a0, r0, rfl, g0, h0⟩ := hy
  obtain ⟨v0, rfl, k0⟩ := dec22 (n := n + 2) g0
  obtain ⟨a1, r1, rfl, g1, h1⟩ := h0
  obtain ⟨v1, rfl, k1⟩ := dec23 (n := n + 0) g1
  obtain ⟨a2, r2, rfl, g2, h2⟩ := h1
  obtain ⟨v2, rfl, k2⟩ := dec24 (n := n + 2) g2
  subst h2
  exact ⟨⟨v0, v1, v2⟩, rfl, k0, k1, k2⟩
theorem bkE26 (v : Gapi_Graph) : ((eapi_Graph false) v).bulk = bk26 v := by
  have h := fun (l : List D) => D.bulk.eq_3 l
  simp only [eapi_Graph, bk26, D.bulk, D.bulks, ← bkE22, ← bkE23, ← bkE24] <;> omega
end Go.Fair
namespace Go.Fair
open Go Go.Am Go.Proofs
theorem fit_bk {g : Gapi_Graph} (h : bk26 g ≤ 1048576) : Fit g := by
  simp only [bk26, bk22, bk23, bk24] at h
  have h1 := len_sum bk3 (fun _ => Nat.le_refl 1) g.Init
  have h2 := len_sum bk39 (fun _ => by unfold bk39; omega) g.Edges
  have h3 := len_sum bk45 (fun _ => Nat.le_refl 1) g.Labels
  have h4 : ∀ l : List (List Gapi_Edge), sumE l ≤ (l.map bk39).sum := by
    intro l
    induction l with
    | nil => simp [sumE]
    | cons a r ih =>
      have h5 := len_sum bk41 (fun _ => by simp [bk41, bk3]) a
      simp only [sumE, List.map_cons, List.sum_cons, bk39] at ih ⊢
      omega
  have h6 := h4 g.Edges
  exact ⟨by omega, by omega, by omega, by omega⟩
theorem on_bk {on : List (List Bool)} (h : bk27 on ≤ 1048576) : on.length ≤ 1048576 := by
  simp only [bk27] at h
  have h2 := len_sum bk38 (fun _ => by unfold bk38; omega) on
  omega
end Go.Fair
