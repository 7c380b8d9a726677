/- 'FairWaysUptoSaid': without the document's answer: along a way of a graph, chosen edge by edge, that goes round for ever, the same edges of the other graph lead to pairs of these nodes, and meet each set again and again just if its ref is done again and again, or is not on. Condition: what is read is of bulk at most 1048576. -/
import Derived.Test.YtabkianhbgpfgaaFw6
namespace Go.Am
open Go
set_option linter.unusedSimpArgs false
set_option linter.unusedVariables false
section
variable {P : Program} {t : TypeId} {lo hi : Option SV} {k : Wk} {b : Bool} {xs : List D} {r : Root} {p : Path} {o len : Nat}
@[go_sem] theorem bound_i {q : IntKind} {n : Int} {d : Nat} : boundE (some (.d (.int q n))) d = if 0 ≤ n then some n.toNat else none := rfl
@[go_sem] theorem slice_bor : sliceE P t (.bor r p o len) lo hi none k = (elemOf P t).bind fun e => (boundE lo 0).bind fun l => (boundE hi len).bind fun h => if l ≤ h ∧ h ≤ len ∧ (P.info? e).isSome ∧ winOk (P.cellsOf e) r p (o + l) (h - l) k then some (.bor r p (o + l) (h - l)) else none := by
  unfold sliceE elemOf
  cases P.underlying t with
  | none => rfl
  | some d => cases d <;> rfl
@[go_sem] theorem winOk_eq {n o m : Nat} : winOk n r p o m k = (((k.get r).bind fun c => c.at p).any fun nd => match nd with | .own es => headT n (win es o m) | _ => false) := by
  unfold winOk
  cases (k.get r).bind fun c => c.at p with
  | none => rfl
  | some x => cases x <;> rfl
theorem headT_tl {α : Type} {f : α → D} {l : List α} {n : Nat} (h : ∀ x, (f x).nc = n) : headT n (tl f l) = true := by
  cases l with
  | nil => rfl
  | cons x l => simp [tl, headT, T.nc, h]
@[go_sem] theorem headT_I {l : List Int} {q : IntKind} : headT 1 (tl (eK q) l) = true := headT_tl fun _ => rfl
@[go_sem] theorem map_take' {α β : Type} {f : α → β} {l : List α} {n : Nat} : (l.map f).take n = (l.take n).map f := by rw [List.map_take]
@[go_sem] theorem map_drop' {α β : Type} {f : α → β} {l : List α} {n : Nat} : (l.map f).drop n = (l.drop n).map f := by rw [List.map_drop]
end
end Go.Am
namespace Go.Fair
open Go Go.Am Go.Proofs
set_option linter.unusedSimpArgs false
set_option linter.unusedVariables false
set_option maxRecDepth 20000
set_option maxHeartbeats 4000000
noncomputable section
attribute [go_sem] own_lit3 lit3_len
section
variable (p0 : List (List Bool)) (p1 : List Int) (p2 : List Int) (p3 : List (List Bool)) (p4 : Int) (p5 : List Int) (p6 : List (List Gapi_Edge)) (p7 : List Int) (p8 : List Int) (p9 : List (List Gapi_Edge)) (p10 : List Int)
def K_law40_FairWays_0 (p0 : List (List Bool)) (p1 : List Int) (p2 : List Int) (p3 : List (List Bool)) (p4 : Int) (p5 : List Int) (p6 : List (List Gapi_Edge)) (p7 : List Int) (p8 : List Int) (p9 : List (List Gapi_Edge)) (p10 : List Int) (β : Bool) (H : List Ob) : (Int) ⊕ ((Unit) ⊕ (Int)) → Ex × St
  | .inl v0 => (.normal, ⟨[(1, .d (.sl β (List.map (esbool β) p0))), (2, .d (.sl β (List.map (eK IntKind.u8) p1))), (3, .loc (Root.l 3 0) [] (0) 0), (7, .bor (.l 7 0) [] 0 3), (8, .loc (Root.l 8 0) [] (0) 0), (9, .d (.sl false (List.map eI p2))), (10, .d (.sl false (List.map (esbool false) p3))), (77, .d (.sl false (List.map (esbool false) p3))), (78, .d (.int IntKind.i64 p4)), (79, .d (.int IntKind.i64 v0))], [((3, 0), .own [.d (.agg [.sl β (List.map eI p5), .sl β (List.map (esapi_Edge β) p6), .sl β (List.map (eK IntKind.u64) p7)])]), ((7, 0), .own (tl eI (lit3 0 1 2))), ((8, 0), .own [.d (.agg [.sl false (List.map eI p8), .sl false (List.map (esapi_Edge false) p9), .sl false (List.map (eK IntKind.u64) p10)])])], []⟩)
  | .inr (.inl ()) => (.ret, ⟨[(6, .d (.bool (false)))], [], []⟩)
  | .inr (.inr y1_0) => ((.exit 0), ⟨[(1, .d (.sl β (List.map (esbool β) (p0)))), (2, .d (.sl β (List.map (eK IntKind.u8) (p1)))), (3, .loc (Root.l 3 0) [] (0) 0), (7, .bor (.l 7 0) [] 0 3), (8, .loc (Root.l 8 0) [] (0) 0), (9, .d (.sl false (List.map eI (p2)))), (10, .d (.sl false (List.map (esbool false) (p3)))), (77, .d (.sl false (List.map (esbool false) (p3)))), (78, .d (.int IntKind.i64 (p4))), (79, .d (.int IntKind.i64 y1_0)), (80, .d (.bool (false)))], [((3, 0), .own [.d (.agg [.sl β (List.map eI (p5)), .sl β (List.map (esapi_Edge β) (p6)), .sl β (List.map (eK IntKind.u64) (p7))])]), ((7, 0), .own (tl eI (lit3 0 1 2))), ((8, 0), .own [.d (.agg [.sl false (List.map eI (p8)), .sl false (List.map (esapi_Edge false) (p9)), .sl false (List.map (eK IntKind.u64) (p10))])])], []⟩)
def F_law40_FairWays_0 : {f : Int → Option ((Int) ⊕ ((Unit) ⊕ (Int))) // ∀ β H v0 r, r = (f v0).map (K_law40_FairWays_0 p0 p1 p2 p3 p4 p5 p6 p7 p8 p9 p10 β H) → codeX P hints hint4 (loopBody L4_0) ((K_law40_FairWays_0 p0 p1 p2 p3 p4 p5 p6 p7 p8 p9 p10 β H) (.inl v0)).2 = r} := by
  refine ⟨?f, ?h⟩
  case h =>
    intro β H v0 r hr
    rw [codeX_go]
    have k0 := fun (v0 : Int) => kk (K_law40_FairWays_0 p0 p1 p2 p3 p4 p5 p6 p7 p8 p9 p10 β H) (.inl v0)
    have k1 := kk (K_law40_FairWays_0 p0 p1 p2 p3 p4 p5 p6 p7 p8 p9 p10 β H) (.inr (.inl ()))
    have k2 := fun (y1_0 : Int) => kk (K_law40_FairWays_0 p0 p1 p2 p3 p4 p5 p6 p7 p8 p9 p10 β H) (.inr (.inr y1_0))
    simp only [K_law40_FairWays_0] at k0 k1 k2
    cases β
    all_goals
      simp -implicitDefEqProofs (maxSteps := 1000000) [go_sem, K_law40_FairWays_0, -List.map_append, -List.map_take, -List.map_drop]
      simp only [k0, k1, k2, pulls, len_snoc, List.length_set]
      exact hr.symm
theorem V_law40_FairWays_0 (β : Bool) (H : List Ob) (v0 : Int) : codeX P hints hint4 L4_0 ((K_law40_FairWays_0 p0 p1 p2 p3 p4 p5 p6 p7 p8 p9 p10 β H) (.inl v0)).2 = case2 (iter ((F_law40_FairWays_0 p0 p1 p2 p3 p4 p5 p6 p7 p8 p9 p10).1) v0) (fun y => some (K_law40_FairWays_0 p0 p1 p2 p3 p4 p5 p6 p7 p8 p9 p10 β H (.inr (.inl ())))) (fun y => some (K_law40_FairWays_0 p0 p1 p2 p3 p4 p5 p6 p7 p8 p9 p10 β H (.inr (.inr y)))) := by
  exact (loop_iterK (a := loopBody L4_0) (K := (K_law40_FairWays_0 p0 p1 p2 p3 p4 p5 p6 p7 p8 p9 p10 β H)) (f := (F_law40_FairWays_0 p0 p1 p2 p3 p4 p5 p6 p7 p8 p9 p10).1) (fun _ => (F_law40_FairWays_0 p0 p1 p2 p3 p4 p5 p6 p7 p8 p9 p10).2 β H _ _ rfl) (fun _ => rfl) (by rintro (_ | _) <;> exact nofun) v0).trans map_2
end
section
variable (p0 : List (List Bool)) (p1 : List Int) (p2 : List Int) (p3 : List (List Bool)) (p4 : Int) (p5 : Int) (p6 : List Int) (p7 : List (List Gapi_Edge)) (p8 : List Int) (p9 : List Int) (p10 : List (List Gapi_Edge)) (p11 : List Int)
def Z_law40_FairWays_1 (p0 : List (List Bool)) (p1 : List Int) (p2 : List Int) (p3 : List (List Bool)) (p4 : Int) (p5 : Int) (p6 : List Int) (p7 : List (List Gapi_Edge)) (p8 : List Int) (p9 : List Int) (p10 : List (List Gapi_Edge)) (p11 : List Int) (β : Bool) (H : List Ob) (n0 : Nat) (n1 : Nat) (n2 : Nat) (v0 : Int) (v1 : Int) (v2 : Int) (v3 : List Int) (v4 : List Int) (v5 : List Int) : St := ⟨[(1, .d (.sl β (List.map (esbool β) p0))), (2, .d (.sl β (List.map (eK IntKind.u8) p1))), (3, .loc (Root.l 3 0) [] (0) 0), (7, .bor (.l 7 0) [] 0 3), (8, .loc (Root.l 8 0) [] (0) 0), (9, .d (.sl false (List.map eI p2))), (10, .d (.sl false (List.map (esbool false) p3))), (14, .d (.int IntKind.i64 v0)), (15, .d (.int IntKind.i64 v1)), (16, .bor (.l 16 0) [] 0 n0), (17, .bor (.l 17 0) [] 0 n1), (18, .bor (.l 18 0) [] 0 n2), (97, .d (.int IntKind.i64 p4)), (99, .d (.sl β (List.map (eK IntKind.u8) p1))), (100, .d (.int IntKind.i64 p5)), (101, .d (.int IntKind.i64 v2))], [((3, 0), .own [.d (.agg [.sl β (List.map eI p6), .sl β (List.map (esapi_Edge β) p7), .sl β (List.map (eK IntKind.u64) p8)])]), ((7, 0), .own (tl eI (lit3 0 1 2))), ((8, 0), .own [.d (.agg [.sl false (List.map eI p9), .sl false (List.map (esapi_Edge false) p10), .sl false (List.map (eK IntKind.u64) p11)])]), ((16, 0), .own (tl eI v3)), ((17, 0), .own (tl eI v4)), ((18, 0), .own (tl eI v5))], []⟩
def Z_law40_FairWays_1_1 (p0 : List (List Bool)) (p1 : List Int) (p2 : List Int) (p3 : List (List Bool)) (p4 : Int) (p5 : Int) (p6 : List Int) (p7 : List (List Gapi_Edge)) (p8 : List Int) (p9 : List Int) (p10 : List (List Gapi_Edge)) (p11 : List Int) (β : Bool) (H : List Ob) (n0 : Nat) (n1 : Nat) (n2 : Nat) (y1_0 : Int) (y1_1 : Int) (y1_2 : Int) (y1_3 : List Int) (y1_4 : List Int) (y1_5 : List Int) : St := ⟨[(1, .d (.sl β (List.map (esbool β) (p0)))), (2, .d (.sl β (List.map (eK IntKind.u8) (p1)))), (3, .loc (Root.l 3 0) [] (0) 0), (7, .bor (.l 7 0) [] 0 3), (8, .loc (Root.l 8 0) [] (0) 0), (9, .d (.sl false (List.map eI (p2)))), (10, .d (.sl false (List.map (esbool false) (p3)))), (14, .d (.int IntKind.i64 y1_0)), (15, .d (.int IntKind.i64 y1_1)), (16, .bor (.l 16 0) [] 0 n0), (17, .bor (.l 17 0) [] 0 n1), (18, .bor (.l 18 0) [] 0 n2), (97, .d (.int IntKind.i64 (p4))), (99, .d (.sl β (List.map (eK IntKind.u8) (p1)))), (100, .d (.int IntKind.i64 (p5))), (101, .d (.int IntKind.i64 y1_2)), (102, .d (.bool (false)))], [((3, 0), .own [.d (.agg [.sl β (List.map eI (p6)), .sl β (List.map (esapi_Edge β) (p7)), .sl β (List.map (eK IntKind.u64) (p8))])]), ((7, 0), .own (tl eI (lit3 0 1 2))), ((8, 0), .own [.d (.agg [.sl false (List.map eI (p9)), .sl false (List.map (esapi_Edge false) (p10)), .sl false (List.map (eK IntKind.u64) (p11))])]), ((16, 0), .own (tl eI y1_3)), ((17, 0), .own (tl eI y1_4)), ((18, 0), .own (tl eI y1_5))], []⟩
def K_law40_FairWays_1 (p0 : List (List Bool)) (p1 : List Int) (p2 : List Int) (p3 : List (List Bool)) (p4 : Int) (p5 : Int) (p6 : List Int) (p7 : List (List Gapi_Edge)) (p8 : List Int) (p9 : List Int) (p10 : List (List Gapi_Edge)) (p11 : List Int) (β : Bool) (H : List Ob) : ((Int) × (Int) × (Int) × (List Int) × (List Int) × (List Int)) ⊕ ((Bool) ⊕ ((Int) × (Int) × (Int) × (List Int) × (List Int) × (List Int))) → Ex × St
  | .inl (v0, v1, v2, v3, v4, v5) => (.normal, Z_law40_FairWays_1 p0 p1 p2 p3 p4 p5 p6 p7 p8 p9 p10 p11 β H (List.length v3) (List.length v4) (List.length v5) v0 v1 v2 v3 v4 v5)
  | .inr (.inl y0_0) => (.ret, ⟨[(6, .d (.bool y0_0))], [], []⟩)
  | .inr (.inr (y1_0, y1_1, y1_2, y1_3, y1_4, y1_5)) => ((.exit 4), Z_law40_FairWays_1_1 p0 p1 p2 p3 p4 p5 p6 p7 p8 p9 p10 p11 β H (List.length y1_3) (List.length y1_4) (List.length y1_5) y1_0 y1_1 y1_2 y1_3 y1_4 y1_5)
def F_law40_FairWays_1 : {f : Int → Int → Int → (List Int) → (List Int) → (List Int) → Option (((Int) × (Int) × (Int) × (List Int) × (List Int) × (List Int)) ⊕ ((Bool) ⊕ ((Int) × (Int) × (Int) × (List Int) × (List Int) × (List Int)))) // ∀ β H v0 v1 v2 v3 v4 v5 r, r = (f v0 v1 v2 v3 v4 v5).map (K_law40_FairWays_1 p0 p1 p2 p3 p4 p5 p6 p7 p8 p9 p10 p11 β H) → codeX P hints hint4 (loopBody L4_1) ((K_law40_FairWays_1 p0 p1 p2 p3 p4 p5 p6 p7 p8 p9 p10 p11 β H) (.inl (v0, v1, v2, v3, v4, v5))).2 = r} := by
  refine ⟨?f, ?h⟩
  case h =>
    intro β H v0 v1 v2 v3 v4 v5 r hr
    rw [codeX_go]
    have k0 := fun (n0 : Nat) (n1 : Nat) (n2 : Nat) (v0 : Int) (v1 : Int) (v2 : Int) (v3 : List Int) (v4 : List Int) (v5 : List Int) (hn0 : n0 = List.length v3) (hn1 : n1 = List.length v4) (hn2 : n2 = List.length v5) => kn (K_law40_FairWays_1 p0 p1 p2 p3 p4 p5 p6 p7 p8 p9 p10 p11 β H) (.inl (v0, v1, v2, v3, v4, v5)) (Ex.normal, Z_law40_FairWays_1 p0 p1 p2 p3 p4 p5 p6 p7 p8 p9 p10 p11 β H n0 n1 n2 v0 v1 v2 v3 v4 v5) (by subst_vars; rfl)
    have k1 := fun (y0_0 : Bool) => kk (K_law40_FairWays_1 p0 p1 p2 p3 p4 p5 p6 p7 p8 p9 p10 p11 β H) (.inr (.inl y0_0))
    have k2 := fun (n0 : Nat) (n1 : Nat) (n2 : Nat) (y1_0 : Int) (y1_1 : Int) (y1_2 : Int) (y1_3 : List Int) (y1_4 : List Int) (y1_5 : List Int) (hn0 : n0 = List.length y1_3) (hn1 : n1 = List.length y1_4) (hn2 : n2 = List.length y1_5) => kn (K_law40_FairWays_1 p0 p1 p2 p3 p4 p5 p6 p7 p8 p9 p10 p11 β H) (.inr (.inr (y1_0, y1_1, y1_2, y1_3, y1_4, y1_5))) ((Ex.exit 4), Z_law40_FairWays_1_1 p0 p1 p2 p3 p4 p5 p6 p7 p8 p9 p10 p11 β H n0 n1 n2 y1_0 y1_1 y1_2 y1_3 y1_4 y1_5) (by subst_vars; rfl)
    simp only [K_law40_FairWays_1, Z_law40_FairWays_1, Z_law40_FairWays_1_1] at k0 k1 k2
    cases β
    all_goals
      simp -implicitDefEqProofs (maxSteps := 1000000) [go_sem, K_law40_FairWays_1, Z_law40_FairWays_1, Z_law40_FairWays_1_1, -List.map_append, -List.map_take, -List.map_drop]
      simp only [k0, k1, k2, pulls, len_snoc, List.length_set]
      exact hr.symm
theorem V_law40_FairWays_1 (β : Bool) (H : List Ob) (n0 : Nat) (n1 : Nat) (n2 : Nat) (v0 : Int) (v1 : Int) (v2 : Int) (v3 : List Int) (v4 : List Int) (v5 : List Int) (hn0 : n0 = List.length v3) (hn1 : n1 = List.length v4) (hn2 : n2 = List.length v5) : codeX P hints hint4 L4_1 (Z_law40_FairWays_1 p0 p1 p2 p3 p4 p5 p6 p7 p8 p9 p10 p11 β H n0 n1 n2 v0 v1 v2 v3 v4 v5) = case2 (iter (fun x => (F_law40_FairWays_1 p0 p1 p2 p3 p4 p5 p6 p7 p8 p9 p10 p11).1 x.1 x.2.1 x.2.2.1 x.2.2.2.1 x.2.2.2.2.1 x.2.2.2.2.2) (v0, v1, v2, v3, v4, v5)) (fun y => some (K_law40_FairWays_1 p0 p1 p2 p3 p4 p5 p6 p7 p8 p9 p10 p11 β H (.inr (.inl y)))) (fun y => some (K_law40_FairWays_1 p0 p1 p2 p3 p4 p5 p6 p7 p8 p9 p10 p11 β H (.inr (.inr (y.1, y.2.1, y.2.2.1, y.2.2.2.1, y.2.2.2.2.1, y.2.2.2.2.2))))) := by
  subst_vars; exact (loop_iterK (a := loopBody L4_1) (K := (K_law40_FairWays_1 p0 p1 p2 p3 p4 p5 p6 p7 p8 p9 p10 p11 β H)) (f := fun x => (F_law40_FairWays_1 p0 p1 p2 p3 p4 p5 p6 p7 p8 p9 p10 p11).1 x.1 x.2.1 x.2.2.1 x.2.2.2.1 x.2.2.2.2.1 x.2.2.2.2.2) (fun _ => (F_law40_FairWays_1 p0 p1 p2 p3 p4 p5 p6 p7 p8 p9 p10 p11).2 β H _ _ _ _ _ _ _ rfl) (fun _ => rfl) (by rintro (_ | _) <;> exact nofun) (v0, v1, v2, v3, v4, v5)).trans map_2
end
section
variable (p0 : List (List Bool)) (p1 : List Int) (p2 : List Int) (p3 : List (List Bool)) (p4 : List Int) (p5 : List (List Gapi_Edge)) (p6 : List Int) (p7 : List Int) (p8 : List (List Gapi_Edge)) (p9 : List Int)
def Z_law40_FairWays_2 (p0 : List (List Bool)) (p1 : List Int) (p2 : List Int) (p3 : List (List Bool)) (p4 : List Int) (p5 : List (List Gapi_Edge)) (p6 : List Int) (p7 : List Int) (p8 : List (List Gapi_Edge)) (p9 : List Int) (β : Bool) (H : List Ob) (n0 : Nat) (n1 : Nat) (n2 : Nat) (v0 : Int) (v1 : Int) (v2 : Int) (v3 : List (Int)) (v4 : List (Int)) (v5 : List (Int)) : St := ⟨[(1, .d (.sl β (List.map (esbool β) p0))), (2, .d (.sl β (List.map (eK IntKind.u8) p1))), (3, .loc (Root.l 3 0) [] (0) 0), (7, .bor (.l 7 0) [] 0 3), (8, .loc (Root.l 8 0) [] (0) 0), (9, .d (.sl false (List.map eI p2))), (10, .d (.sl false (List.map (esbool false) p3))), (14, .d (.int IntKind.i64 v0)), (15, .d (.int IntKind.i64 v1)), (16, .bor (.l 16 0) [] 0 n0), (17, .bor (.l 17 0) [] 0 n1), (18, .bor (.l 18 0) [] 0 n2), (97, .d (.int IntKind.i64 v2))], [((3, 0), .own [.d (.agg [.sl β (List.map eI p4), .sl β (List.map (esapi_Edge β) p5), .sl β (List.map (eK IntKind.u64) p6)])]), ((7, 0), .own (tl eI (lit3 0 1 2))), ((8, 0), .own [.d (.agg [.sl false (List.map eI p7), .sl false (List.map (esapi_Edge false) p8), .sl false (List.map (eK IntKind.u64) p9)])]), ((16, 0), .own (tl eI v3)), ((17, 0), .own (tl eI v4)), ((18, 0), .own (tl eI v5))], []⟩
def Z_law40_FairWays_2_1 (p0 : List (List Bool)) (p1 : List Int) (p2 : List Int) (p3 : List (List Bool)) (p4 : List Int) (p5 : List (List Gapi_Edge)) (p6 : List Int) (p7 : List Int) (p8 : List (List Gapi_Edge)) (p9 : List Int) (β : Bool) (H : List Ob) (n0 : Nat) (n1 : Nat) (n2 : Nat) (y1_0 : Int) (y1_1 : Int) (y1_2 : Int) (y1_3 : List Int) (y1_4 : List Int) (y1_5 : List Int) : St := ⟨[(1, .d (.sl β (List.map (esbool β) (p0)))), (2, .d (.sl β (List.map (eK IntKind.u8) (p1)))), (3, .loc (Root.l 3 0) [] (0) 0), (7, .bor (.l 7 0) [] 0 3), (8, .loc (Root.l 8 0) [] (0) 0), (9, .d (.sl false (List.map eI (p2)))), (10, .d (.sl false (List.map (esbool false) (p3)))), (14, .d (.int IntKind.i64 y1_0)), (15, .d (.int IntKind.i64 y1_1)), (16, .bor (.l 16 0) [] 0 n0), (17, .bor (.l 17 0) [] 0 n1), (18, .bor (.l 18 0) [] 0 n2), (97, .d (.int IntKind.i64 y1_2)), (98, .d (.bool (false)))], [((3, 0), .own [.d (.agg [.sl β (List.map eI (p4)), .sl β (List.map (esapi_Edge β) (p5)), .sl β (List.map (eK IntKind.u64) (p6))])]), ((7, 0), .own (tl eI (lit3 0 1 2))), ((8, 0), .own [.d (.agg [.sl false (List.map eI (p7)), .sl false (List.map (esapi_Edge false) (p8)), .sl false (List.map (eK IntKind.u64) (p9))])]), ((16, 0), .own (tl eI y1_3)), ((17, 0), .own (tl eI y1_4)), ((18, 0), .own (tl eI y1_5))], []⟩
def K_law40_FairWays_2 (p0 : List (List Bool)) (p1 : List Int) (p2 : List Int) (p3 : List (List Bool)) (p4 : List Int) (p5 : List (List Gapi_Edge)) (p6 : List Int) (p7 : List Int) (p8 : List (List Gapi_Edge)) (p9 : List Int) (β : Bool) (H : List Ob) : ((Int) × (Int) × (Int) × (List (Int)) × (List (Int)) × (List (Int))) ⊕ ((Bool) ⊕ ((Int) × (Int) × (Int) × (List Int) × (List Int) × (List Int))) → Ex × St
  | .inl (v0, v1, v2, v3, v4, v5) => (.normal, Z_law40_FairWays_2 p0 p1 p2 p3 p4 p5 p6 p7 p8 p9 β H (List.length v3) (List.length v4) (List.length v5) v0 v1 v2 v3 v4 v5)
  | .inr (.inl y0_0) => (.ret, ⟨[(6, .d (.bool y0_0))], [], []⟩)
  | .inr (.inr (y1_0, y1_1, y1_2, y1_3, y1_4, y1_5)) => ((.exit 2), Z_law40_FairWays_2_1 p0 p1 p2 p3 p4 p5 p6 p7 p8 p9 β H (List.length y1_3) (List.length y1_4) (List.length y1_5) y1_0 y1_1 y1_2 y1_3 y1_4 y1_5)
def F_law40_FairWays_2 : {f : Int → Int → Int → (List (Int)) → (List (Int)) → (List (Int)) → Option (((Int) × (Int) × (Int) × (List (Int)) × (List (Int)) × (List (Int))) ⊕ ((Bool) ⊕ ((Int) × (Int) × (Int) × (List Int) × (List Int) × (List Int)))) // ∀ β H v0 v1 v2 v3 v4 v5 r, r = (f v0 v1 v2 v3 v4 v5).map (K_law40_FairWays_2 p0 p1 p2 p3 p4 p5 p6 p7 p8 p9 β H) → codeX P hints hint4 (loopBody L4_2) ((K_law40_FairWays_2 p0 p1 p2 p3 p4 p5 p6 p7 p8 p9 β H) (.inl (v0, v1, v2, v3, v4, v5))).2 = r} := by
  refine ⟨?f, ?h⟩
  case h =>
    intro β H v0 v1 v2 v3 v4 v5 r hr
    rw [codeX_go]
    have w0 := fun (p0 : List (List Bool)) (p1 : List Int) (p2 : List Int) (p3 : List (List Bool)) (p4 : Int) (p5 : Int) (p6 : List Int) (p7 : List (List Gapi_Edge)) (p8 : List Int) (p9 : List Int) (p10 : List (List Gapi_Edge)) (p11 : List Int) (β : Bool) (n0 : Nat) (n1 : Nat) (n2 : Nat) (v0 : Int) (v1 : Int) (v2 : Int) (v3 : List Int) (v4 : List Int) (v5 : List Int) (hn0 : n0 = List.length v3) (hn1 : n1 = List.length v4) (hn2 : n2 = List.length v5) => go_of (V_law40_FairWays_1 p0 p1 p2 p3 p4 p5 p6 p7 p8 p9 p10 p11 β [] n0 n1 n2 v0 v1 v2 v3 v4 v5 hn0 hn1 hn2)
    simp only [K_law40_FairWays_1, Z_law40_FairWays_1, Z_law40_FairWays_1_1, case2_bind, Option.bind_assoc, Option.bind_some] at w0
    have k0 := fun (n0 : Nat) (n1 : Nat) (n2 : Nat) (v0 : Int) (v1 : Int) (v2 : Int) (v3 : List (Int)) (v4 : List (Int)) (v5 : List (Int)) (hn0 : n0 = List.length v3) (hn1 : n1 = List.length v4) (hn2 : n2 = List.length v5) => kn (K_law40_FairWays_2 p0 p1 p2 p3 p4 p5 p6 p7 p8 p9 β H) (.inl (v0, v1, v2, v3, v4, v5)) (Ex.normal, Z_law40_FairWays_2 p0 p1 p2 p3 p4 p5 p6 p7 p8 p9 β H n0 n1 n2 v0 v1 v2 v3 v4 v5) (by subst_vars; rfl)
    have k1 := fun (y0_0 : Bool) => kk (K_law40_FairWays_2 p0 p1 p2 p3 p4 p5 p6 p7 p8 p9 β H) (.inr (.inl y0_0))
    have k2 := fun (n0 : Nat) (n1 : Nat) (n2 : Nat) (y1_0 : Int) (y1_1 : Int) (y1_2 : Int) (y1_3 : List Int) (y1_4 : List Int) (y1_5 : List Int) (hn0 : n0 = List.length y1_3) (hn1 : n1 = List.length y1_4) (hn2 : n2 = List.length y1_5) => kn (K_law40_FairWays_2 p0 p1 p2 p3 p4 p5 p6 p7 p8 p9 β H) (.inr (.inr (y1_0, y1_1, y1_2, y1_3, y1_4, y1_5))) ((Ex.exit 2), Z_law40_FairWays_2_1 p0 p1 p2 p3 p4 p5 p6 p7 p8 p9 β H n0 n1 n2 y1_0 y1_1 y1_2 y1_3 y1_4 y1_5) (by subst_vars; rfl)
    simp only [K_law40_FairWays_2, Z_law40_FairWays_2, Z_law40_FairWays_2_1] at k0 k1 k2
    cases β
    all_goals
      simp -implicitDefEqProofs (maxSteps := 1000000) [go_sem, K_law40_FairWays_2, Z_law40_FairWays_2, Z_law40_FairWays_2_1, w0, -List.map_append, -List.map_take, -List.map_drop]
      simp only [k0, k1, k2, pulls, len_snoc, List.length_set]
      exact hr.symm
theorem V_law40_FairWays_2 (β : Bool) (H : List Ob) (n0 : Nat) (n1 : Nat) (n2 : Nat) (v0 : Int) (v1 : Int) (v2 : Int) (v3 : List (Int)) (v4 : List (Int)) (v5 : List (Int)) (hn0 : n0 = List.length v3) (hn1 : n1 = List.length v4) (hn2 : n2 = List.length v5) : codeX P hints hint4 L4_2 (Z_law40_FairWays_2 p0 p1 p2 p3 p4 p5 p6 p7 p8 p9 β H n0 n1 n2 v0 v1 v2 v3 v4 v5) = case2 (iter (fun x => (F_law40_FairWays_2 p0 p1 p2 p3 p4 p5 p6 p7 p8 p9).1 x.1 x.2.1 x.2.2.1 x.2.2.2.1 x.2.2.2.2.1 x.2.2.2.2.2) (v0, v1, v2, v3, v4, v5)) (fun y => some (K_law40_FairWays_2 p0 p1 p2 p3 p4 p5 p6 p7 p8 p9 β H (.inr (.inl y)))) (fun y => some (K_law40_FairWays_2 p0 p1 p2 p3 p4 p5 p6 p7 p8 p9 β H (.inr (.inr (y.1, y.2.1, y.2.2.1, y.2.2.2.1, y.2.2.2.2.1, y.2.2.2.2.2))))) := by
  subst_vars; exact (loop_iterK (a := loopBody L4_2) (K := (K_law40_FairWays_2 p0 p1 p2 p3 p4 p5 p6 p7 p8 p9 β H)) (f := fun x => (F_law40_FairWays_2 p0 p1 p2 p3 p4 p5 p6 p7 p8 p9).1 x.1 x.2.1 x.2.2.1 x.2.2.2.1 x.2.2.2.2.1 x.2.2.2.2.2) (fun _ => (F_law40_FairWays_2 p0 p1 p2 p3 p4 p5 p6 p7 p8 p9).2 β H _ _ _ _ _ _ _ rfl) (fun _ => rfl) (by rintro (_ | _) <;> exact nofun) (v0, v1, v2, v3, v4, v5)).trans map_2
end
section
variable (p0 : List (List Bool)) (p1 : Int) (p2 : Int) (p3 : List Bool) (p4 : Int) (p5 : Nat) (p6 : Nat) (p7 : Int) (p8 : List Int)
def Z_law40_FairWays_3 (p0 : List (List Bool)) (p1 : Int) (p2 : Int) (p3 : List Bool) (p4 : Int) (p5 : Nat) (p6 : Nat) (p7 : Int) (p8 : List Int) (β : Bool) (H : List Ob) (n0 : Nat) (v0 : Bool) (v1 : Int) : St := ⟨[(10, .d (.sl false (List.map (esbool false) p0))), (18, .bor (.l 18 0) [] 0 n0), (22, .d (.int IntKind.i64 p1)), (23, .d (.int IntKind.i64 p2)), (24, .d (.sl false (List.map eB p3))), (25, .d (.int IntKind.i64 p4)), (26, .d (.bool v0)), (230, .d (.int IntKind.i64 (3))), (231, .d (.int IntKind.i64 p4)), (238, .bor (.l 18 0) [] p5 p6), (239, .d (.int IntKind.i64 p7)), (240, .d (.int IntKind.i64 v1))], [((18, 0), .own (tl eI p8))], []⟩
def Z_law40_FairWays_3_0 (p0 : List (List Bool)) (p1 : Int) (p2 : Int) (p3 : List Bool) (p4 : Int) (p5 : Nat) (p6 : Nat) (p7 : Int) (p8 : List Int) (β : Bool) (H : List Ob) (n0 : Nat) (y0_0 : Bool) (y0_1 : Int) : St := ⟨[(10, .d (.sl false (List.map (esbool false) (p0)))), (18, .bor (.l 18 0) [] 0 n0), (22, .d (.int IntKind.i64 (p1))), (23, .d (.int IntKind.i64 (p2))), (24, .d (.sl false (List.map eB (p3)))), (25, .d (.int IntKind.i64 (p4))), (26, .d (.bool y0_0)), (230, .d (.int IntKind.i64 (3))), (231, .d (.int IntKind.i64 (p4))), (238, .bor (.l 18 0) [] (p5) (p6)), (239, .d (.int IntKind.i64 (p7))), (240, .d (.int IntKind.i64 y0_1)), (241, .d (.bool (false)))], [((18, 0), .own (tl eI (p8)))], []⟩
def K_law40_FairWays_3 (p0 : List (List Bool)) (p1 : Int) (p2 : Int) (p3 : List Bool) (p4 : Int) (p5 : Nat) (p6 : Nat) (p7 : Int) (p8 : List Int) (β : Bool) (H : List Ob) : ((Bool) × (Int)) ⊕ ((Bool) × (Int)) → Ex × St
  | .inl (v0, v1) => (.normal, Z_law40_FairWays_3 p0 p1 p2 p3 p4 p5 p6 p7 p8 β H (List.length p8) v0 v1)
  | .inr (y0_0, y0_1) => ((.exit 10), Z_law40_FairWays_3_0 p0 p1 p2 p3 p4 p5 p6 p7 p8 β H (List.length (p8)) y0_0 y0_1)
def F_law40_FairWays_3 : {f : Bool → Int → Option (((Bool) × (Int)) ⊕ ((Bool) × (Int))) // ∀ β H v0 v1 r, r = (f v0 v1).map (K_law40_FairWays_3 p0 p1 p2 p3 p4 p5 p6 p7 p8 β H) → codeX P hints hint4 (loopBody L4_3) ((K_law40_FairWays_3 p0 p1 p2 p3 p4 p5 p6 p7 p8 β H) (.inl (v0, v1))).2 = r} := by
  refine ⟨?f, ?h⟩
  case h =>
    intro β H v0 v1 r hr
    rw [codeX_go]
    have k0 := fun (n0 : Nat) (v0 : Bool) (v1 : Int) (hn0 : n0 = List.length p8) => kn (K_law40_FairWays_3 p0 p1 p2 p3 p4 p5 p6 p7 p8 β H) (.inl (v0, v1)) (Ex.normal, Z_law40_FairWays_3 p0 p1 p2 p3 p4 p5 p6 p7 p8 β H n0 v0 v1) (by subst_vars; rfl)
    have k1 := fun (n0 : Nat) (y0_0 : Bool) (y0_1 : Int) (hn0 : n0 = List.length (p8)) => kn (K_law40_FairWays_3 p0 p1 p2 p3 p4 p5 p6 p7 p8 β H) (.inr (y0_0, y0_1)) ((Ex.exit 10), Z_law40_FairWays_3_0 p0 p1 p2 p3 p4 p5 p6 p7 p8 β H n0 y0_0 y0_1) (by subst_vars; rfl)
    simp only [K_law40_FairWays_3, Z_law40_FairWays_3, Z_law40_FairWays_3_0] at k0 k1
    cases β
    all_goals
      simp -implicitDefEqProofs (maxSteps := 1000000) [go_sem, K_law40_FairWays_3, Z_law40_FairWays_3, Z_law40_FairWays_3_0, -List.map_append, -List.map_take, -List.map_drop]
      simp only [k0, k1, pulls, len_snoc, List.length_set]
      exact hr.symm
theorem V_law40_FairWays_3 (β : Bool) (H : List Ob) (n0 : Nat) (v0 : Bool) (v1 : Int) (hn0 : n0 = List.length p8) : codeX P hints hint4 L4_3 (Z_law40_FairWays_3 p0 p1 p2 p3 p4 p5 p6 p7 p8 β H n0 v0 v1) = (iter (fun x => (F_law40_FairWays_3 p0 p1 p2 p3 p4 p5 p6 p7 p8).1 x.1 x.2) (v0, v1)).bind fun y => some (K_law40_FairWays_3 p0 p1 p2 p3 p4 p5 p6 p7 p8 β H (.inr (y.1, y.2))) := by
  subst_vars; exact (loop_iterK (a := loopBody L4_3) (K := (K_law40_FairWays_3 p0 p1 p2 p3 p4 p5 p6 p7 p8 β H)) (f := fun x => (F_law40_FairWays_3 p0 p1 p2 p3 p4 p5 p6 p7 p8).1 x.1 x.2) (fun _ => (F_law40_FairWays_3 p0 p1 p2 p3 p4 p5 p6 p7 p8).2 β H _ _ _ rfl) (fun _ => rfl) (by rintro (_) <;> exact nofun) (v0, v1)).trans map_1
end
section
variable (p0 : List (List Bool)) (p1 : Int) (p2 : Int) (p3 : List Bool) (p4 : List Int)
def Z_law40_FairWays_4 (p0 : List (List Bool)) (p1 : Int) (p2 : Int) (p3 : List Bool) (p4 : List Int) (β : Bool) (H : List Ob) (n0 : Nat) (v0 : Int) : St := ⟨[(10, .d (.sl false (List.map (esbool false) p0))), (18, .bor (.l 18 0) [] 0 n0), (22, .d (.int IntKind.i64 p1)), (23, .d (.int IntKind.i64 p2)), (24, .d (.sl false (List.map eB p3))), (230, .d (.int IntKind.i64 (3))), (231, .d (.int IntKind.i64 v0))], [((18, 0), .own (tl eI p4))], []⟩
def Z_law40_FairWays_4_1 (p0 : List (List Bool)) (p1 : Int) (p2 : Int) (p3 : List Bool) (p4 : List Int) (β : Bool) (H : List Ob) (n0 : Nat) (y1_0 : Int) : St := ⟨[(10, .d (.sl false (List.map (esbool false) (p0)))), (18, .bor (.l 18 0) [] 0 n0), (22, .d (.int IntKind.i64 (p1))), (23, .d (.int IntKind.i64 (p2))), (24, .d (.sl false (List.map eB (p3)))), (230, .d (.int IntKind.i64 (3))), (231, .d (.int IntKind.i64 y1_0)), (232, .d (.bool (false)))], [((18, 0), .own (tl eI (p4)))], []⟩
def K_law40_FairWays_4 (p0 : List (List Bool)) (p1 : Int) (p2 : Int) (p3 : List Bool) (p4 : List Int) (β : Bool) (H : List Ob) : (Int) ⊕ ((Unit) ⊕ (Int)) → Ex × St
  | .inl v0 => (.normal, Z_law40_FairWays_4 p0 p1 p2 p3 p4 β H (List.length p4) v0)
  | .inr (.inl ()) => (.ret, ⟨[(6, .d (.bool (false)))], [], []⟩)
  | .inr (.inr y1_0) => ((.exit 8), Z_law40_FairWays_4_1 p0 p1 p2 p3 p4 β H (List.length (p4)) y1_0)
def F_law40_FairWays_4 : {f : Int → Option ((Int) ⊕ ((Unit) ⊕ (Int))) // ∀ β H v0 r, r = (f v0).map (K_law40_FairWays_4 p0 p1 p2 p3 p4 β H) → codeX P hints hint4 (loopBody L4_4) ((K_law40_FairWays_4 p0 p1 p2 p3 p4 β H) (.inl v0)).2 = r} := by
  refine ⟨?f, ?h⟩
  case h =>
    intro β H v0 r hr
    rw [codeX_go]
    have w0 := fun (p0 : List (List Bool)) (p1 : Int) (p2 : Int) (p3 : List Bool) (p4 : Int) (p5 : Nat) (p6 : Nat) (p7 : Int) (p8 : List Int) (n0 : Nat) (v0 : Bool) (v1 : Int) (hn0 : n0 = List.length p8) => go_of (V_law40_FairWays_3 p0 p1 p2 p3 p4 p5 p6 p7 p8 true [] n0 v0 v1 hn0)
    simp only [K_law40_FairWays_3, Z_law40_FairWays_3, Z_law40_FairWays_3_0, case2_bind, Option.bind_assoc, Option.bind_some] at w0
    have k0 := fun (n0 : Nat) (v0 : Int) (hn0 : n0 = List.length p4) => kn (K_law40_FairWays_4 p0 p1 p2 p3 p4 β H) (.inl v0) (Ex.normal, Z_law40_FairWays_4 p0 p1 p2 p3 p4 β H n0 v0) (by subst_vars; rfl)
    have k1 := kk (K_law40_FairWays_4 p0 p1 p2 p3 p4 β H) (.inr (.inl ()))
    have k2 := fun (n0 : Nat) (y1_0 : Int) (hn0 : n0 = List.length (p4)) => kn (K_law40_FairWays_4 p0 p1 p2 p3 p4 β H) (.inr (.inr y1_0)) ((Ex.exit 8), Z_law40_FairWays_4_1 p0 p1 p2 p3 p4 β H n0 y1_0) (by subst_vars; rfl)
    simp only [K_law40_FairWays_4, Z_law40_FairWays_4, Z_law40_FairWays_4_1] at k0 k1 k2
    cases β
    all_goals
      simp -implicitDefEqProofs (maxSteps := 1000000) [go_sem, K_law40_FairWays_4, Z_law40_FairWays_4, Z_law40_FairWays_4_1, w0, -List.map_append, -List.map_take, -List.map_drop]
      simp only [k0, k1, k2, pulls, len_snoc, List.length_set]
      exact hr.symm
theorem V_law40_FairWays_4 (β : Bool) (H : List Ob) (n0 : Nat) (v0 : Int) (hn0 : n0 = List.length p4) : codeX P hints hint4 L4_4 (Z_law40_FairWays_4 p0 p1 p2 p3 p4 β H n0 v0) = case2 (iter ((F_law40_FairWays_4 p0 p1 p2 p3 p4).1) v0) (fun y => some (K_law40_FairWays_4 p0 p1 p2 p3 p4 β H (.inr (.inl ())))) (fun y => some (K_law40_FairWays_4 p0 p1 p2 p3 p4 β H (.inr (.inr y)))) := by
  subst_vars; exact (loop_iterK (a := loopBody L4_4) (K := (K_law40_FairWays_4 p0 p1 p2 p3 p4 β H)) (f := (F_law40_FairWays_4 p0 p1 p2 p3 p4).1) (fun _ => (F_law40_FairWays_4 p0 p1 p2 p3 p4).2 β H _ _ rfl) (fun _ => rfl) (by rintro (_ | _) <;> exact nofun) v0).trans map_2
end
section
variable (p0 : List (List Bool)) (p1 : List (List Bool)) (p2 : Int) (p3 : List Int) (p4 : List (List Gapi_Edge)) (p5 : List Int) (p6 : List Int) (p7 : List Int) (p8 : List Int)
def Z_law40_FairWays_5 (p0 : List (List Bool)) (p1 : List (List Bool)) (p2 : Int) (p3 : List Int) (p4 : List (List Gapi_Edge)) (p5 : List Int) (p6 : List Int) (p7 : List Int) (p8 : List Int) (β : Bool) (H : List Ob) (n0 : Nat) (n1 : Nat) (n2 : Nat) (v0 : Int) : St := ⟨[(1, .d (.sl β (List.map (esbool β) p0))), (3, .loc (Root.l 3 0) [] (0) 0), (7, .bor (.l 7 0) [] 0 3), (10, .d (.sl false (List.map (esbool false) p1))), (16, .bor (.l 16 0) [] 0 n0), (17, .bor (.l 17 0) [] 0 n1), (18, .bor (.l 18 0) [] 0 n2), (22, .d (.int IntKind.i64 p2)), (23, .d (.int IntKind.i64 v0))], [((3, 0), .own [.d (.agg [.sl β (List.map eI p3), .sl β (List.map (esapi_Edge β) p4), .sl β (List.map (eK IntKind.u64) p5)])]), ((7, 0), .own (tl eI (lit3 0 1 2))), ((16, 0), .own (tl eI p6)), ((17, 0), .own (tl eI p7)), ((18, 0), .own (tl eI p8))], []⟩
def Z_law40_FairWays_5_1 (p0 : List (List Bool)) (p1 : List (List Bool)) (p2 : Int) (p3 : List Int) (p4 : List (List Gapi_Edge)) (p5 : List Int) (p6 : List Int) (p7 : List Int) (p8 : List Int) (β : Bool) (H : List Ob) (n0 : Nat) (y1_0 : Int) (y1_1 : List Bool) (y1_2 : Int) : St := ⟨[(10, .d (.sl false (List.map (esbool false) (p1)))), (18, .bor (.l 18 0) [] 0 n0), (22, .d (.int IntKind.i64 (p2))), (23, .d (.int IntKind.i64 y1_0)), (24, .d (.sl false (List.map eB y1_1))), (230, .d (.int IntKind.i64 (3))), (231, .d (.int IntKind.i64 y1_2)), (232, .d (.bool (false)))], [((18, 0), .own (tl eI (p8)))], []⟩
def Z_law40_FairWays_5_2 (p0 : List (List Bool)) (p1 : List (List Bool)) (p2 : Int) (p3 : List Int) (p4 : List (List Gapi_Edge)) (p5 : List Int) (p6 : List Int) (p7 : List Int) (p8 : List Int) (β : Bool) (H : List Ob) (n0 : Nat) (n1 : Nat) (n2 : Nat) (y2_0 : Int) : St := ⟨[(1, .d (.sl β (List.map (esbool β) (p0)))), (3, .loc (Root.l 3 0) [] (0) 0), (7, .bor (.l 7 0) [] 0 3), (10, .d (.sl false (List.map (esbool false) (p1)))), (16, .bor (.l 16 0) [] 0 n0), (17, .bor (.l 17 0) [] 0 n1), (18, .bor (.l 18 0) [] 0 n2), (22, .d (.int IntKind.i64 (p2))), (23, .d (.int IntKind.i64 y2_0)), (190, .d (.bool (false)))], [((3, 0), .own [.d (.agg [.sl β (List.map eI (p3)), .sl β (List.map (esapi_Edge β) (p4)), .sl β (List.map (eK IntKind.u64) (p5))])]), ((7, 0), .own (tl eI (lit3 0 1 2))), ((16, 0), .own (tl eI (p6))), ((17, 0), .own (tl eI (p7))), ((18, 0), .own (tl eI (p8)))], []⟩
def K_law40_FairWays_5 (p0 : List (List Bool)) (p1 : List (List Bool)) (p2 : Int) (p3 : List Int) (p4 : List (List Gapi_Edge)) (p5 : List Int) (p6 : List Int) (p7 : List Int) (p8 : List Int) (β : Bool) (H : List Ob) : (Int) ⊕ ((Unit) ⊕ (((Int) × (List Bool) × (Int)) ⊕ (Int))) → Ex × St
  | .inl v0 => (.normal, Z_law40_FairWays_5 p0 p1 p2 p3 p4 p5 p6 p7 p8 β H (List.length p6) (List.length p7) (List.length p8) v0)
  | .inr (.inl ()) => (.ret, ⟨[(6, .d (.bool (false)))], [], []⟩)
  | .inr (.inr (.inl (y1_0, y1_1, y1_2))) => ((.exit 6), Z_law40_FairWays_5_1 p0 p1 p2 p3 p4 p5 p6 p7 p8 β H (List.length (p8)) y1_0 y1_1 y1_2)
  | .inr (.inr (.inr y2_0)) => ((.exit 6), Z_law40_FairWays_5_2 p0 p1 p2 p3 p4 p5 p6 p7 p8 β H (List.length (p6)) (List.length (p7)) (List.length (p8)) y2_0)
def F_law40_FairWays_5 : {f : Int → Option ((Int) ⊕ ((Unit) ⊕ (((Int) × (List Bool) × (Int)) ⊕ (Int)))) // ∀ β H v0 r, r = (f v0).map (K_law40_FairWays_5 p0 p1 p2 p3 p4 p5 p6 p7 p8 β H) → codeX P hints hint4 (loopBody L4_5) ((K_law40_FairWays_5 p0 p1 p2 p3 p4 p5 p6 p7 p8 β H) (.inl v0)).2 = r} := by
  refine ⟨?f, ?h⟩
  case h =>
    intro β H v0 r hr
    rw [codeX_go]
    have w0 := fun (p0 : List (List Bool)) (p1 : Int) (p2 : Int) (p3 : List Bool) (p4 : List Int) (n0 : Nat) (v0 : Int) (hn0 : n0 = List.length p4) => go_of (V_law40_FairWays_4 p0 p1 p2 p3 p4 true [] n0 v0 hn0)
    simp only [K_law40_FairWays_4, Z_law40_FairWays_4, Z_law40_FairWays_4_1, case2_bind, Option.bind_assoc, Option.bind_some] at w0
    have k0 := fun (n0 : Nat) (n1 : Nat) (n2 : Nat) (v0 : Int) (hn0 : n0 = List.length p6) (hn1 : n1 = List.length p7) (hn2 : n2 = List.length p8) => kn (K_law40_FairWays_5 p0 p1 p2 p3 p4 p5 p6 p7 p8 β H) (.inl v0) (Ex.normal, Z_law40_FairWays_5 p0 p1 p2 p3 p4 p5 p6 p7 p8 β H n0 n1 n2 v0) (by subst_vars; rfl)
    have k1 := kk (K_law40_FairWays_5 p0 p1 p2 p3 p4 p5 p6 p7 p8 β H) (.inr (.inl ()))
    have k2 := fun (n0 : Nat) (y1_0 : Int) (y1_1 : List Bool) (y1_2 : Int) (hn0 : n0 = List.length (p8)) => kn (K_law40_FairWays_5 p0 p1 p2 p3 p4 p5 p6 p7 p8 β H) (.inr (.inr (.inl (y1_0, y1_1, y1_2)))) ((Ex.exit 6), Z_law40_FairWays_5_1 p0 p1 p2 p3 p4 p5 p6 p7 p8 β H n0 y1_0 y1_1 y1_2) (by subst_vars; rfl)
    have k3 := fun (n0 : Nat) (n1 : Nat) (n2 : Nat) (y2_0 : Int) (hn0 : n0 = List.length (p6)) (hn1 : n1 = List.length (p7)) (hn2 : n2 = List.length (p8)) => kn (K_law40_FairWays_5 p0 p1 p2 p3 p4 p5 p6 p7 p8 β H) (.inr (.inr (.inr y2_0))) ((Ex.exit 6), Z_law40_FairWays_5_2 p0 p1 p2 p3 p4 p5 p6 p7 p8 β H n0 n1 n2 y2_0) (by subst_vars; rfl)
    simp only [K_law40_FairWays_5, Z_law40_FairWays_5, Z_law40_FairWays_5_1, Z_law40_FairWays_5_2] at k0 k1 k2 k3
    cases β
    all_goals
      simp -implicitDefEqProofs (maxSteps := 1000000) [go_sem, K_law40_FairWays_5, Z_law40_FairWays_5, Z_law40_FairWays_5_1, Z_law40_FairWays_5_2, w0, -List.map_append, -List.map_take, -List.map_drop]
      simp only [k0, k1, k2, k3, pulls, len_snoc, List.length_set]
      exact hr.symm
theorem V_law40_FairWays_5 (β : Bool) (H : List Ob) (n0 : Nat) (n1 : Nat) (n2 : Nat) (v0 : Int) (hn0 : n0 = List.length p6) (hn1 : n1 = List.length p7) (hn2 : n2 = List.length p8) : codeX P hints hint4 L4_5 (Z_law40_FairWays_5 p0 p1 p2 p3 p4 p5 p6 p7 p8 β H n0 n1 n2 v0) = case2 (iter ((F_law40_FairWays_5 p0 p1 p2 p3 p4 p5 p6 p7 p8).1) v0) (fun y => some (K_law40_FairWays_5 p0 p1 p2 p3 p4 p5 p6 p7 p8 β H (.inr (.inl ())))) (fun r => case2 (some r) (fun y => some (K_law40_FairWays_5 p0 p1 p2 p3 p4 p5 p6 p7 p8 β H (.inr (.inr (.inl (y.1, y.2.1, y.2.2)))))) (fun y => some (K_law40_FairWays_5 p0 p1 p2 p3 p4 p5 p6 p7 p8 β H (.inr (.inr (.inr y)))))) := by
  subst_vars; exact (loop_iterK (a := loopBody L4_5) (K := (K_law40_FairWays_5 p0 p1 p2 p3 p4 p5 p6 p7 p8 β H)) (f := (F_law40_FairWays_5 p0 p1 p2 p3 p4 p5 p6 p7 p8).1) (fun _ => (F_law40_FairWays_5 p0 p1 p2 p3 p4 p5 p6 p7 p8).2 β H _ _ rfl) (fun _ => rfl) (by rintro (_ | _ | _) <;> exact nofun) v0).trans map_3
end
section
variable (a0 : Gapi_Graph) (a1 : List (List Bool)) (a2 : List Int)
def K_law40_FairWays (a0 : Gapi_Graph) (a1 : List (List Bool)) (a2 : List Int) (β : Bool) (H : List Ob) : (Bool) → List T × List Ob
  | y0_0 => ([.d (.bool y0_0)], [])
def F_law40_FairWays : {o : Option (Bool) // ∀ β H r, r = o.map (K_law40_FairWays a0 a1 a2 β H) → call 4 [(eapi_Graph β) a0, (essbool β) a1, (esu8 β) a2] [] = r} := by
  refine ⟨?f, ?h⟩
  case h =>
    intro β H r hr
    have w0 := fun (p0 : List (List Bool)) (p1 : List Int) (p2 : List Int) (p3 : List (List Bool)) (p4 : Int) (p5 : List Int) (p6 : List (List Gapi_Edge)) (p7 : List Int) (p8 : List Int) (p9 : List (List Gapi_Edge)) (p10 : List Int) (β : Bool) (v0 : Int) => go_of (V_law40_FairWays_0 p0 p1 p2 p3 p4 p5 p6 p7 p8 p9 p10 β [] v0)
    simp only [K_law40_FairWays_0, case2_bind, Option.bind_assoc, Option.bind_some] at w0
    have w1 := fun (p0 : List (List Bool)) (p1 : List Int) (p2 : List Int) (p3 : List (List Bool)) (p4 : List Int) (p5 : List (List Gapi_Edge)) (p6 : List Int) (p7 : List Int) (p8 : List (List Gapi_Edge)) (p9 : List Int) (β : Bool) (v0 : Int) (v1 : Int) (v2 : Int) => go_of (V_law40_FairWays_2 p0 p1 p2 p3 p4 p5 p6 p7 p8 p9 β [] 0 0 0 v0 v1 v2 [] [] [] rfl rfl rfl)
    simp only [K_law40_FairWays_2, Z_law40_FairWays_2, Z_law40_FairWays_2_1, tl_nil, tlo_rep, ents_nil, case2_bind, Option.bind_assoc, Option.bind_some] at w1
    have w2 := fun (p0 : List (List Bool)) (p1 : List (List Bool)) (p2 : Int) (p3 : List Int) (p4 : List (List Gapi_Edge)) (p5 : List Int) (p6 : List Int) (p7 : List Int) (p8 : List Int) (β : Bool) (n0 : Nat) (n1 : Nat) (n2 : Nat) (v0 : Int) (hn0 : n0 = List.length p6) (hn1 : n1 = List.length p7) (hn2 : n2 = List.length p8) => go_of (V_law40_FairWays_5 p0 p1 p2 p3 p4 p5 p6 p7 p8 β [] n0 n1 n2 v0 hn0 hn1 hn2)
    simp only [K_law40_FairWays_5, Z_law40_FairWays_5, Z_law40_FairWays_5_1, Z_law40_FairWays_5_2, case2_bind, Option.bind_assoc, Option.bind_some] at w2
    have k0 := fun (y0_0 : Bool) => kk (K_law40_FairWays a0 a1 a2 β H) y0_0
    simp only [K_law40_FairWays, List.map_nil] at k0
    cases β
    all_goals
      simp -implicitDefEqProofs (maxSteps := 1000000) [go_sem, ge4, w0, w1, w2, -List.map_append, -List.map_take, -List.map_drop]
      simp only [k0, pulls, len_snoc, List.length_set]
      exact hr.symm
end
end
end Go.Fair
namespace Go.Fair
open Go Go.Am Go.Proofs
set_option linter.unusedSimpArgs false
set_option linter.unusedVariables false
variable {g : Gapi_Graph} {on : List (List Bool)} {refs : List Int} {l : List Pr}
theorem gSome (hf : Fit g) (ho : on.length ≤ 1048576) (hr : refs.length ≤ 1048576) : ∃ r, (F_fair_Sets g on refs).1 = some r := by
  have hU : (U g).length ≤ 2097152 := by have := hf.i; have := hf.s; rw [U_len]; omega
  have hi := hf.i
  have h16 : (16 < (refs.length : Int)) ↔ 16 < refs.length := by omega
  simp only [F_fair_Sets, gCheck hf, Option.bind_some, gFits (g := g) (refs := refs) ho, h16]
  by_cases hc : checkG g = 0
  · simp only [hc, if_true]
    cases hb : fitsB on g.Edges.length refs.length with
    | false => simp
    | true =>
      by_cases h17 : 16 < refs.length
      · simp [h17]
      · obtain ⟨z, hz, hz2⟩ := fairO' (p0 := on) (p1 := refs) (p5 := (first g.Init).2) hf hc (firstI g)
        rw [if_neg (by simp), if_neg h17, fairF (by omega), Option.bind_some]
        dsimp only
        rw [hz]
        rcases hz2 with ⟨a, rfl⟩ | ⟨N, rfl⟩
        · simp [case2]
        · have hI := st_inv (firstI g) N
          have hl := hI.len
          have hO := onOk hc hb hI
          have b1 : 8 * (((st g (first g.Init).1 N).l.map toF).length : Int) ≤ 281474976710656 ∧ (((st g (first g.Init).1 N).l.map toF).length : Int) ≤ 9223372036854775807 := by rw [List.length_map]; omega
          have b2 : 24 * (refs.length : Int) ≤ 281474976710656 ∧ (refs.length : Int) ≤ 9223372036854775807 := by omega
          simp only [case2, Option.bind_some]
          rw [if_pos b1, if_pos b2, fair3 hO (by omega) hr, Option.bind_some]
          dsimp only
          rw [show List.replicate (List.map toF (st g (first g.Init).1 N).l).length (0 : Int) = List.replicate (st g (first g.Init).1 N).l.length 0 by rw [List.length_map], fair4 (l := (st g (first g.Init).1 N).l) (List.length_map _) (by rw [List.length_map]) (by omega), Option.bind_some]
          exact ⟨_, rfl⟩
  · simp [hc]
theorem pre_get' {a b : List Pr} (h : a <+: b) {i : Nat} {x : Pr} (hi : a[i]? = some x) : b[i]? = some x := by
  obtain ⟨t, rfl⟩ := h
  obtain ⟨hl, _⟩ := List.getElem?_eq_some_iff.1 hi
  rw [List.getElem?_append_left hl, hi]
theorem idx_get {l : List Pr} {x : Pr} (h : x ∈ l) : l[l.idxOf x]? = some x := by
  have h1 := List.idxOf_lt_length_of_mem h
  rw [List.getElem?_eq_getElem h1, List.getElem_idxOf]
theorem inner_edge : ∀ (es : List Gapi_Edge) (s : List Pr × List Gapi_Edge) (j : Nat) (hj : j < es.length), ∃ i : Nat, (es.foldl innerS s).2[s.2.length + j]? = some ⟨i, es[j].Act⟩ ∧ (es.foldl innerS s).1[i]? = some (es[j].To, refOf es[j].Act) := by
  intro es
  induction es with
  | nil => intro s j hj; simp at hj
  | cons e es ih =>
    intro s j hj
    rw [List.foldl_cons]
    cases j with
    | zero =>
      refine ⟨(addP s.1 (e.To, refOf e.Act)).idxOf (e.To, refOf e.Act), ?_, ?_⟩
      · have hp : ∀ (es : List Gapi_Edge) (s : List Pr × List Gapi_Edge), s.2 <+: (es.foldl innerS s).2 := by
          intro es
          induction es with
          | nil => exact fun s => List.prefix_refl _
          | cons e es ih => exact fun s => (List.prefix_append _ _).trans (ih (innerS s e))
        obtain ⟨t, ht⟩ := hp es (innerS s e)
        rw [← ht]
        simp [innerS]
      · exact pre_get' (inner_pre es (innerS s e)) (idx_get (addP_mem _ _))
    | succ j =>
      obtain ⟨i, h1, h2⟩ := ih (innerS s e) j (by simpa using hj)
      refine ⟨i, ?_, h2⟩
      have e2 : (innerS s e).2.length + j = s.2.length + (j + 1) := by simp [innerS]; omega
      rw [e2] at h1
      exact h1
theorem st_E {l0 : List Pr} : ∀ (n k : Nat), k < n → (st g l0 n).E[k]? = some (inner (st g l0 k).l (edgesAt g ((st g l0 k).l.getD k (0, 0)))).2
  | 0, k, h => by omega
  | n + 1, k, h => by
    obtain ⟨h1, _, _⟩ := st_len (g := g) l0 n
    by_cases e : k = n
    · subst e; simp [st, outS, h1]
    · have := st_E (l0 := l0) n k (by omega)
      simp only [st, outS]
      rw [List.getElem?_append_left (by omega), this]
theorem st_edge {l0 : List Pr} {N k : Nat} (hk : k < N) (hkl : ∀ k, k < N → k < (st g l0 k).l.length) {x : Pr} (hx : (st g l0 N).l[k]? = some x) :
    ∃ es, (st g l0 N).E[k]? = some es ∧ es.length = (edgesAt g x).length ∧ ∀ j (hj : j < (edgesAt g x).length), ∃ i : Nat, es[j]? = some ⟨i, (edgesAt g x)[j].Act⟩ ∧ (st g l0 N).l[i]? = some ((edgesAt g x)[j].To, refOf (edgesAt g x)[j].Act) := by
  have h1 := hkl k hk
  have hp : (st g l0 k).l <+: (st g l0 N).l := by have := st_preN (g := g) l0 k (N - k); rwa [show k + (N - k) = N by omega] at this
  have hp1 : (st g l0 (k + 1)).l <+: (st g l0 N).l := by have := st_preN (g := g) l0 (k + 1) (N - (k + 1)); rwa [show k + 1 + (N - (k + 1)) = N by omega] at this
  have h2 : (st g l0 k).l.getD k (0, 0) = x := by
    have := pre_get' hp (List.getElem?_eq_getElem h1)
    rw [hx] at this
    simp only [Option.some.injEq] at this
    simp [h1, this]
  refine ⟨_, st_E N k hk, by rw [inner_sum, h2], fun j hj => ?_⟩
  rw [h2]
  obtain ⟨i, h3, h4⟩ := inner_edge (edgesAt g x) ((st g l0 k).l, []) j hj
  refine ⟨i, ?_, ?_⟩
  · simpa [inner] using h3
  · refine pre_get' hp1 ?_
    rw [show st g l0 (k + 1) = outS g (st g l0 k) ((st g l0 k).l.getD k (0, 0)) from rfl, h2]
    exact h4
structure Z where
  n : Int
  k : Int
  e : Gapi_Edge
  x : Int
structure ZOk (g : Gapi_Graph) (z : Z) : Prop where
  n : 0 ≤ z.n
  k : 0 ≤ z.k
  e : ∃ es, g.Edges[z.n.toNat]? = some es ∧ es[z.k.toNat]? = some z.e
structure At (l : List Pr) (n x : Int) (p : Pr) : Prop where
  hx : 0 ≤ x
  hp : l[x.toNat]? = some p
  hn : p.1 = n
inductive Tr (g : Gapi_Graph) (l : List Pr) : List Z → Int → Int → Prop
  | nil {n x : Int} {p : Pr} : At l n x p → Tr g l [] n x
  | snoc {zs : List Z} {z : Z} {n x : Int} : Tr g l zs z.n z.x → ZOk g z → At l n x (z.e.To, refOf z.e.Act) → Tr g l (zs ++ [z]) n x
theorem Tr.here {zs : List Z} {n x : Int} (h : Tr g l zs n x) : ∃ p, At l n x p := by
  cases h with
  | nil h => exact ⟨_, h⟩
  | snoc _ _ h => exact ⟨_, h⟩
theorem Tr.ok {zs : List Z} {n x : Int} (h : Tr g l zs n x) : ∀ z ∈ zs, ZOk g z ∧ ∃ p, At l z.n z.x p := by
  induction h with
  | nil _ => simp
  | snoc h1 h2 _ ih =>
    intro y hy
    rcases List.mem_append.1 hy with hy | hy
    · exact ih y hy
    · simp only [List.mem_cons, List.not_mem_nil, or_false] at hy
      subst hy
      exact ⟨h2, h1.here⟩
theorem Tr.next {zs : List Z} {n x : Int} (h : Tr g l zs n x) : ∀ i (z y : Z), zs[i]? = some z → zs[i + 1]? = some y → l[y.x.toNat]? = some (z.e.To, refOf z.e.Act) := by
  induction h with
  | nil _ => intro i z y h; simp at h
  | @snoc zs w n x h1 h2 h3 ih =>
    intro i z y hz hy
    by_cases hi : i + 1 < zs.length
    · rw [List.getElem?_append_left (by omega)] at hz
      rw [List.getElem?_append_left hi] at hy
      exact ih i z y hz hy
    · have hl := (List.getElem?_eq_some_iff.1 hy).1
      simp only [List.length_append, List.length_cons, List.length_nil] at hl
      have hi2 : i + 1 = zs.length := by omega
      rw [List.getElem?_append_right (by omega), hi2] at hy
      simp only [Nat.sub_self, List.getElem?_cons_zero, Option.some.injEq] at hy
      subst hy
      rw [List.getElem?_append_left (by omega)] at hz
      cases h1 with
      | nil _ => simp at hi2
      | @snoc zs' v _ _ h4 h5 h6 =>
        simp only [List.length_append, List.length_cons, List.length_nil] at hi2
        have : i = zs'.length := by omega
        subst this
        rw [List.getElem?_append_right (by omega)] at hz
        simp only [Nat.sub_self, List.getElem?_cons_zero, Option.some.injEq] at hz
        subst hz
        exact h6.hp
def mv (on : List (List Bool)) (refs : List Int) (k : Nat) (z : Z) : Bool := decide (refOf z.e.Act = refs.getD k 0) || !onAt on z.n k
def vec (m : Nat) (c : Nat → Bool) : List Bool := (List.range m).map c
theorem vec_len {m : Nat} {c : Nat → Bool} : (vec m c).length = m := by simp [vec]
theorem vec_get {m k : Nat} {c : Nat → Bool} (h : k < m) : (vec m c)[k]? = some (c k) := by simp [vec, h]
theorem vec_set {m k : Nat} {c : Nat → Bool} {b : Bool} (h : k < m) : (vec m c).set k b = vec m fun j => if j = k then b else c j := by
  have := set_map_lt c (fun j => if j = k then b else c j) m k h (fun j _ hj => by simp [hj])
  simpa [vec] using this
theorem vec_congr {m : Nat} {c d : Nat → Bool} (h : ∀ k, k < m → c k = d k) : vec m c = vec m d := List.map_congr_left fun k hk => h k (List.mem_range.1 hk)
def OnZ (on : List (List Bool)) (m : Nat) (zs : List Z) : Prop := ∀ z ∈ zs, ∃ row, on[z.n.toNat]? = some row ∧ row.length = m
theorem met0 {p4 : List Int} {p6 : Int} {ns : List Int} {zs : List Z} {i : Nat} {z : Z} {c : Nat → Bool} {p3 p5 p7 : List Int} {q : List Int} (hz : ZOk g z) (hi : zs[i]? = some z) (ho : ∃ row, on[z.n.toNat]? = some row ∧ row.length = refs.length) (hr : refs.length ≤ 1048576) :
    iter (fun x => (F_law40_met_0 on refs (zs.map (·.k)) i z.n ns p6 refs.length g.Init g.Edges g.Labels).1 x.1 x.2) (0, vec refs.length c) = some ((refs.length : Int), vec refs.length fun k => c k || mv on refs k z) := by
  refine iter_steps0 (fun j => ((j : Int), vec refs.length fun k => if k < j then c k || mv on refs k z else c k)) refs.length ?_ ?_ ?_
  · simp
  · intro j hj
    obtain ⟨es, e1, e2⟩ := hz.e
    obtain ⟨row, r1, r2⟩ := ho
    have h1 : refs.getD j 0 = refs[j] := by simp [hj]
    have h2 : onAt on z.n j = row[j] := by simp [onAt, r1, r2, hj]
    have hset : (vec refs.length fun k => if k < j + 1 then c k || mv on refs k z else c k) = if mv on refs j z = true then (vec refs.length fun k => if k < j then c k || mv on refs k z else c k).set j true else vec refs.length fun k => if k < j then c k || mv on refs k z else c k := by
      by_cases hm : mv on refs j z = true
      · rw [if_pos hm, vec_set hj]
        refine vec_congr fun k hk => ?_
        by_cases e : k = j
        · subst e; simp [hm]
        · have : k < j + 1 ↔ k < j := by omega
          simp [e, this]
      · rw [if_neg hm]
        refine vec_congr fun k hk => ?_
        by_cases e : k = j
        · subst e; simp [hm]
        · have : k < j + 1 ↔ k < j := by omega
          simp [this]
    rw [hset]
    have hv : ∃ b, (vec refs.length fun k => if k < j then c k || mv on refs k z else c k)[j]? = some b := ⟨_, vec_get hj⟩
    have hvl : (vec refs.length fun k => if k < j then c k || mv on refs k z else c k).length = refs.length := vec_len
    generalize (vec refs.length fun k => if k < j then c k || mv on refs k z else c k) = v at hv hvl ⊢
    obtain ⟨b, hv⟩ := hv
    have c1 : (j : Int) < (refs.length : Int) := by omega
    have c2 : 0 ≤ z.n := hz.n
    have c3 : 0 ≤ z.k := hz.k
    have c5 : j < row.length := by omega
    simp only [F_law40_met_0, c1, if_true, Int.natCast_nonneg, Int.toNat_natCast, List.getElem?_eq_getElem hj, Option.bind_some, c2, e1, List.getElem?_map, hi, Option.map_some, c3, e2, ref2, and_self, hvl, hv, r1, List.getElem?_eq_getElem c5, wrapS (show j < 4611686018427387904 by omega), mv, h1, h2]
    by_cases e : refOf z.e.Act = refs[j]
    · simp [e]
    · cases row[j] <;> simp [e]
  · have : (vec refs.length fun k => if k < refs.length then c k || mv on refs k z else c k) = vec refs.length fun k => c k || mv on refs k z := vec_congr fun k hk => by simp [hk]
    simp only [F_law40_met_0, this, Int.lt_irrefl, if_false]
theorem met_law {zs : List Z} (hz : ∀ z ∈ zs, ZOk g z) (ho : OnZ on refs.length zs) (hr : refs.length ≤ 1048576) (hl : zs.length ≤ 4194304) : (F_law40_met g on refs (zs.map (·.n)) (zs.map (·.k))).1 = some (vec refs.length fun k => zs.any (mv on refs k)) := by
  have h : iter (fun x => (F_law40_met_1 on refs (zs.map (·.k)) (zs.map (·.n)) (zs.map (·.n)).length g.Init g.Edges g.Labels).1 x.1 x.2) (0, List.replicate refs.length false) = some ((zs.length : Int), vec refs.length fun k => zs.any (mv on refs k)) := by
    refine iter_steps0 (fun i => ((i : Int), vec refs.length fun k => (zs.take i).any (mv on refs k))) zs.length ?_ ?_ ?_
    · simp only [List.take_zero, List.any_nil, vec, List.map_const', List.length_range]; rfl
    · intro i hi
      have hm : zs[i] ∈ zs := List.getElem_mem hi
      have c1 : (i : Int) < ((zs.map (·.n)).length : Int) := by rw [List.length_map]; omega
      have h2 : (vec refs.length fun k => (zs.take (i + 1)).any (mv on refs k)) = vec refs.length fun k => (zs.take i).any (mv on refs k) || mv on refs k zs[i] := vec_congr fun k _ => by
        rw [List.take_add_one, List.getElem?_eq_getElem hi, List.any_append]; simp
      rw [h2]
      simp only [F_law40_met_1, c1, if_true, Int.natCast_nonneg, Int.toNat_natCast, List.getElem?_map, List.getElem?_eq_getElem hi, Option.map_some, Option.bind_some]
      rw [met0 (p3 := []) (p4 := []) (p5 := []) (p7 := []) (q := []) (hz _ hm) (List.getElem?_eq_getElem hi) (ho _ hm) hr, Option.bind_some, wrapS (show i < 4611686018427387904 by omega)]
      rfl
    · simp only [F_law40_met_1, List.length_map, Int.lt_irrefl, if_false, List.take_length]
  have b : (refs.length : Int) ≤ 281474976710656 ∧ (refs.length : Int) ≤ 9223372036854775807 := by omega
  simp only [F_law40_met]
  rw [if_pos b, h, Option.bind_some]
end Go.Fair
namespace Go.Fair
open Go Go.Am Go.Proofs
set_option linter.unusedSimpArgs false
set_option linter.unusedVariables false
variable {g : Gapi_Graph} {on : List (List Bool)} {refs : List Int} {l : List Pr}
theorem window {α : Type} {zs : List α} {a b : Nat} {p : α → Bool} : ((zs.drop a).take (b - a)).any p = true ↔ ∃ i z, a ≤ i ∧ i < b ∧ zs[i]? = some z ∧ p z = true := by
  rw [List.any_eq_true]
  constructor
  · rintro ⟨z, hz, hp⟩
    obtain ⟨j, hj⟩ := List.mem_iff_getElem?.1 hz
    rw [List.getElem?_take] at hj
    split at hj
    · rename_i hlt
      rw [List.getElem?_drop] at hj
      exact ⟨a + j, z, by omega, by omega, hj, hp⟩
    · cases hj
  · rintro ⟨i, z, h1, h2, h3, hp⟩
    refine ⟨z, List.mem_iff_getElem?.2 ⟨i - a, ?_⟩, hp⟩
    rw [List.getElem?_take, if_pos (by omega), List.getElem?_drop, show a + (i - a) = i by omega, h3]
def wv (on : List (List Bool)) (refs : List Int) (l : List Pr) (k : Nat) (z : Z) : Bool := setv on (refs.getD k 0) k (l.getD z.x.toNat (0, 0))
theorem wv_of {k : Nat} {z : Z} {q : Pr} (h : l[z.x.toNat]? = some q) : wv on refs l k z = (decide (q.2 = refs.getD k 0) || !onAt on q.1 k) := by
  unfold wv setv
  rw [show l.getD z.x.toNat (0, 0) = q by rw [List.getD_eq_getElem?_getD, h]; rfl]
theorem wv_l {k : Nat} {z : Z} {q : Pr} (h : l[z.x.toNat]? = some q) (hp : q.2 = refs.getD k 0) : wv on refs l k z = true := by rw [wv_of h, decide_eq_true hp]; rfl
theorem wv_r {k : Nat} {z : Z} {q : Pr} (h : l[z.x.toNat]? = some q) (hp : onAt on q.1 k = false) : wv on refs l k z = true := by rw [wv_of h, hp]; simp
theorem mv_l {k : Nat} {z : Z} (hp : refOf z.e.Act = refs.getD k 0) : mv on refs k z = true := by unfold mv; rw [decide_eq_true hp]; rfl
theorem mv_r {k : Nat} {z : Z} (hp : onAt on z.n k = false) : mv on refs k z = true := by unfold mv; rw [hp]; simp
theorem alike {zs : List Z} {n x : Int} (h : Tr g l zs n x) {a b : Nat} (hab : a < b) {za zb : Z} (ha : zs[a]? = some za) (hb : zs[b]? = some zb) (hx : za.x = zb.x) (k : Nat) :
    ((zs.drop a).take (b - a)).any (mv on refs k) = ((zs.drop a).take (b - a)).any (wv on refs l k) := by
  have hlb := (List.getElem?_eq_some_iff.1 hb).1
  have at_ : ∀ i : Nat, i ≤ b → ∃ z : Z, zs[i]? = some z := fun i hi => ⟨_, List.getElem?_eq_getElem (by omega)⟩
  have here : ∀ (i : Nat) (z : Z), zs[i]? = some z → ∃ p, l.getD z.x.toNat (0, 0) = p ∧ l[z.x.toNat]? = some p ∧ p.1 = z.n := by
    intro i z hz
    obtain ⟨_, p, hp⟩ := h.ok z (List.mem_of_getElem? hz)
    exact ⟨p, by simp [List.getD, hp.hp], hp.hp, hp.hn⟩
  rw [Bool.eq_iff_iff, window, window]
  constructor
  · rintro ⟨i, z, h1, h2, h3, hp⟩
    obtain ⟨p, p1, p2, p3⟩ := here i z h3
    simp only [mv, Bool.or_eq_true, decide_eq_true_eq, Bool.not_eq_true'] at hp
    rcases hp with hp | hp
    · by_cases hi : i + 1 < b
      · obtain ⟨y, hy⟩ := at_ (i + 1) (by omega)
        refine ⟨i + 1, y, by omega, hi, hy, ?_⟩
        exact wv_l (h.next i z y h3 hy) hp
      · have hi2 : i + 1 = b := by omega
        subst hi2
        refine ⟨a, za, Nat.le_refl _, by omega, ha, ?_⟩
        have := h.next i z zb h3 hb
        rw [← hx] at this
        exact wv_l this hp
    · exact ⟨i, z, h1, h2, h3, wv_r p2 (by rw [p3]; exact hp)⟩
  · rintro ⟨i, z, h1, h2, h3, hp⟩
    obtain ⟨p, p1, p2, p3⟩ := here i z h3
    rw [wv_of p2] at hp
    simp only [Bool.or_eq_true, decide_eq_true_eq, Bool.not_eq_true'] at hp
    rcases hp with hp | hp
    · by_cases hi : i = a
      · subst hi
        obtain ⟨y, hy⟩ := at_ (b - 1) (by omega)
        refine ⟨b - 1, y, by omega, by omega, hy, ?_⟩
        have := h.next (b - 1) y zb hy (by rw [show b - 1 + 1 = b by omega]; exact hb)
        rw [ha] at h3
        simp only [Option.some.injEq] at h3
        subst h3
        rw [← hx, p2] at this
        simp only [Option.some.injEq] at this
        rw [this] at hp
        exact mv_l hp
      · obtain ⟨y, hy⟩ := at_ (i - 1) (by omega)
        refine ⟨i - 1, y, by omega, by omega, hy, ?_⟩
        have := h.next (i - 1) y z hy (by rw [show i - 1 + 1 = i by omega]; exact h3)
        rw [p2] at this
        simp only [Option.some.injEq] at this
        rw [this] at hp
        exact mv_l hp
    · rw [p3] at hp
      exact ⟨i, z, h1, h2, h3, mv_r hp⟩
section
variable {N : Nat} {l0 : List Pr} {turns : List Int}
structure Ctx (g : Gapi_Graph) (l0 : List Pr) (N : Nat) : Prop where
  f : Fit g
  c : checkG g = 0
  i : Inv g l0
  n : (st g l0 N).l.length = N
  k : ∀ k, k < N → k < (st g l0 k).l.length
theorem ways1 {p0 p3 : List (List Bool)} {p4 : Int} {p9 p11 : List Int} (hC : Ctx g l0 N) (ht : ∀ t ∈ turns, 0 ≤ t ∧ t ≤ 255) (hl : turns.length ≤ 1048576) {zs : List Z} {n x : Int} (hz : zs.length ≤ 4194304) (h : Tr g (st g l0 N).l zs n x) :
    ∃ r, iter (fun x => (F_law40_FairWays_1 p0 turns ((st g l0 N).l.map (·.1)) p3 p4 turns.length g.Init g.Edges g.Labels p9 (st g l0 N).E p11).1 x.1 x.2.1 x.2.2.1 x.2.2.2.1 x.2.2.2.2.1 x.2.2.2.2.2) (n, x, 0, zs.map (·.n), zs.map (·.k), zs.map (·.x)) = some r ∧
      (r = .inl true ∨ ∃ zs' n' x', r = .inr (n', x', (turns.length : Int), zs'.map (·.n), zs'.map (·.k), zs'.map (·.x)) ∧ Tr g (st g l0 N).l zs' n' x' ∧ zs'.length = zs.length + turns.length) := by
  refine iter_inv (fun s => ∃ (i : Nat) (zs' : List Z) (n' x' : Int), i ≤ turns.length ∧ s = (n', x', (i : Int), zs'.map (·.n), zs'.map (·.k), zs'.map (·.x)) ∧ Tr g (st g l0 N).l zs' n' x' ∧ zs'.length = zs.length + i) _ (fun s => turns.length - s.2.2.1.toNat) ?_ _ ⟨0, zs, n, x, by omega, rfl, h, rfl⟩
  rintro _ ⟨i, zs', n', x', hi, rfl, h', hlen⟩
  by_cases hi2 : i < turns.length
  · obtain ⟨p, hp⟩ := h'.here
    have hpU : p ∈ U g := (st_inv hC.i N).u _ (List.mem_of_getElem? hp.hp)
    obtain ⟨a1, a2, a3⟩ := at_ok hC.c hpU
    rw [hp.hn] at a1 a2
    have hxN : x'.toNat < N := by have := (List.getElem?_eq_some_iff.1 hp.hp).1; have := hC.n; omega
    obtain ⟨es', e1, e2, e3⟩ := st_edge hxN hC.k hp.hp
    have c1 : (i : Int) < (turns.length : Int) := by omega
    have c2 : ¬ x' < 0 := by have := hp.hx; omega
    have c3 : ¬ (((st g l0 N).l.map (·.1)).length : Int) ≤ x' := by rw [List.length_map, hC.n]; omega
    have c4 : ((st g l0 N).l.map (·.1))[x'.toNat]? = some n' := by rw [List.getElem?_map, hp.hp]; simp [hp.hn]
    have ht2 := ht _ (List.getElem_mem hi2)
    by_cases hes : edgesAt g p = []
    · right
      refine ⟨.inl true, ?_, .inl rfl⟩
      simp only [F_law40_FairWays_1]
      rw [if_pos c1, if_pos (by omega), Int.toNat_natCast, List.getElem?_eq_getElem hi2, Option.bind_some, if_pos a1, a2, Option.bind_some, if_pos hes]
    · left
      have hpos : 0 < (edgesAt g p).length := List.length_pos_iff.2 hes
      have hw : IntKind.i64.wrap turns[i] = turns[i] := wrap64 (by omega) (by omega)
      have hk1 : 0 ≤ turns[i].tmod (edgesAt g p).length := Int.tmod_nonneg _ ht2.1
      have hk2 : turns[i].tmod (edgesAt g p).length < (edgesAt g p).length := Int.tmod_lt_of_pos _ (by omega)
      have hk3 : (turns[i].tmod (edgesAt g p).length).toNat < (edgesAt g p).length := by omega
      obtain ⟨y, e4, e5⟩ := e3 _ hk3
      have b0 : zs'.length ≤ 8388608 := by omega
      have b1 : ∀ {α : Type} (f : Z → α), ((zs'.map f).length + 1) * 8 ≤ 140737488355328 ∧ (zs'.map f).length ≤ 9223372036854775806 := fun f => by rw [List.length_map]; omega
      have c5 : (es'.length : Int) = (edgesAt g p).length := by omega
      refine ⟨_, ?_, ⟨i + 1, zs' ++ [⟨n', turns[i].tmod (edgesAt g p).length, (edgesAt g p)[(turns[i].tmod (edgesAt g p).length).toNat], x'⟩], (edgesAt g p)[(turns[i].tmod (edgesAt g p).length).toNat].To, (y : Int), by omega, rfl, ?_, by simp; omega⟩, ?_⟩
      · simp only [F_law40_FairWays_1]
        rw [if_pos c1, if_pos (by omega), Int.toNat_natCast, List.getElem?_eq_getElem hi2, Option.bind_some, if_pos a1, a2, Option.bind_some, if_neg hes, if_neg c2, if_neg c3, if_pos hp.hx, c4, Option.bind_some, if_pos rfl, if_pos hp.hx, e1, Option.bind_some, if_pos a1, Option.bind_some, if_pos c5, if_pos a1, Option.bind_some, if_neg hes, if_pos (b1 _), if_pos (b1 _), if_pos (b1 _), if_pos a1, Option.bind_some, hw, if_pos hk1, List.getElem?_eq_getElem hk3, Option.bind_some, if_pos hp.hx, Option.bind_some, if_pos hk1, e4, Option.bind_some, wrapS (show i < 4611686018427387904 by omega)]
        simp
      · exact .snoc h' ⟨a1, hk1, _, a2, List.getElem?_eq_getElem hk3⟩ ⟨by omega, by simpa using e5, rfl⟩
      · simp only; omega
  · right
    have hi3 : i = turns.length := by omega
    subst hi3
    refine ⟨_, ?_, .inr ⟨zs', n', x', rfl, h', hlen⟩⟩
    simp only [F_law40_FairWays_1, Int.lt_irrefl, if_false]
theorem ways2 {p0 p3 : List (List Bool)} {p9 p11 : List Int} (hC : Ctx g l0 N) (ht : ∀ t ∈ turns, 0 ≤ t ∧ t ≤ 255) (hl : turns.length ≤ 1048576) {n x : Int} (h : Tr g (st g l0 N).l [] n x) :
    ∃ r, iter (fun x => (F_law40_FairWays_2 p0 turns ((st g l0 N).l.map (·.1)) p3 g.Init g.Edges g.Labels p9 (st g l0 N).E p11).1 x.1 x.2.1 x.2.2.1 x.2.2.2.1 x.2.2.2.2.1 x.2.2.2.2.2) (n, x, 0, [], [], []) = some r ∧
      (r = .inl true ∨ ∃ zs' n' x' m, r = .inr (n', x', m, zs'.map (·.n), zs'.map (·.k), zs'.map (·.x)) ∧ Tr g (st g l0 N).l zs' n' x' ∧ zs'.length = 3 * turns.length) := by
  refine iter_inv (fun s => ∃ (i : Nat) (zs' : List Z) (n' x' : Int), i ≤ 3 ∧ s = (n', x', (i : Int), zs'.map (·.n), zs'.map (·.k), zs'.map (·.x)) ∧ Tr g (st g l0 N).l zs' n' x' ∧ zs'.length = i * turns.length) _ (fun s => 3 - s.2.2.1.toNat) ?_ _ ⟨0, [], n, x, by omega, rfl, h, by simp⟩
  rintro _ ⟨i, zs', n', x', hi, rfl, h', hlen⟩
  by_cases hi2 : i < 3
  · have hb : zs'.length ≤ 4194304 := by
      have : i * turns.length ≤ 3 * turns.length := Nat.mul_le_mul_right _ (by omega)
      omega
    obtain ⟨r, h1, h2⟩ := ways1 (p0 := p0) (p3 := p3) (p4 := (i : Int)) (p9 := p9) (p11 := p11) hC ht hl hb h'
    have c1 : (i : Int) < 3 := by omega
    rcases h2 with rfl | ⟨zs2, n2, x2, rfl, h3, h4⟩
    · right
      refine ⟨_, ?_, .inl rfl⟩
      simp only [F_law40_FairWays_2, c1, if_true, h1, case2, Option.bind_some]
    · left
      refine ⟨_, ?_, ⟨i + 1, zs2, n2, x2, by omega, rfl, h3, by rw [h4, hlen, Nat.succ_mul]⟩, ?_⟩
      · simp only [F_law40_FairWays_2, c1, if_true, h1, case2, Option.bind_some, wrapS (show i < 4611686018427387904 by omega)]
        rfl
      · simp only; omega
  · right
    have hi3 : i = 3 := by omega
    subst hi3
    exact ⟨_, rfl, .inr ⟨zs', n', x', _, rfl, h', hlen⟩⟩
end
theorem got {zs : List Z} {a b k : Nat} {p1 p2 q7 : Int} {want : List Bool} {q5 q6 : Nat} (hk : k < refs.length) (hb : b ≤ zs.length) (hl : zs.length ≤ 4194304) (h5 : q5 = a) (h6 : q6 = b - a) (h7 : q7 = ((b - a : Nat) : Int))
    (hz : ∀ z ∈ zs, 0 ≤ z.x ∧ z.x.toNat < l.length) :
    iter (fun x => (F_law40_FairWays_3 (setsOf on refs l) p1 p2 want k q5 q6 q7 (zs.map (·.x))).1 x.1 x.2) (false, 0) = some (((zs.drop a).take (b - a)).any (wv on refs l k), ((b - a : Nat) : Int)) := by
  subst h5 h6 h7
  refine iter_steps0 (fun i => (((zs.drop q5).take i).any (wv on refs l k), (i : Int))) (b - q5) rfl ?_ ?_
  · intro i hi
    have h1 : q5 + i < zs.length := by omega
    have hm := hz _ (List.getElem_mem h1)
    have h2 : ((zs.drop q5).take (i + 1)).any (wv on refs l k) = (((zs.drop q5).take i).any (wv on refs l k) || wv on refs l k zs[q5 + i]) := by
      rw [List.take_add_one, List.getElem?_drop, List.getElem?_eq_getElem h1, List.any_append]; simp
    rw [h2]
    have c1 : (i : Int) < ((b - q5 : Nat) : Int) := by omega
    have r1 : (setsOf on refs l)[k]? = some (rowOf on refs l k) := by simp [setsOf, hk]
    have r2 : (rowOf on refs l k)[zs[q5 + i].x.toNat]? = some (wv on refs l k zs[q5 + i]) := by
      simp [rowOf, wv, hm.2]
    simp only [F_law40_FairWays_3]
    rw [if_pos c1, if_pos ⟨by omega, c1⟩, Int.toNat_natCast, List.getElem?_map, List.getElem?_eq_getElem h1, Option.map_some, Option.bind_some, Option.bind_some]
    cases ((zs.drop q5).take i).any (wv on refs l k) with
    | true => simp [wrapS (show i < 4611686018427387904 by omega)]
    | false =>
      rw [if_neg (by simp), if_pos (by omega), Int.toNat_natCast, r1, Option.bind_some, if_pos hm.1, r2, Option.bind_some, wrapS (show i < 4611686018427387904 by omega)]
      simp
  · simp [F_law40_FairWays_3]
theorem F4 {zs : List Z} {n x : Int} {want : List Bool} {a b : Nat} {p2 : Int} (h : Tr g l zs n x) (hab : a < b) (hb : b < zs.length) (hl : zs.length ≤ 4194304) {za zb : Z} (ha : zs[a]? = some za) (hb' : zs[b]? = some zb) (hx : za.x = zb.x)
    (hr : refs.length = 3) (h2 : p2 = (a : Int) + 1) (hw : want = vec 3 fun k => ((zs.drop a).take (b - a)).any (mv on refs k)) :
    iter (F_law40_FairWays_4 (setsOf on refs l) b p2 want (zs.map (·.x))).1 0 = some (.inr 3) := by
  have hz : ∀ z ∈ zs, 0 ≤ z.x ∧ z.x.toNat < l.length := by
    intro z hz
    obtain ⟨_, p, hp⟩ := h.ok z hz
    exact ⟨hp.hx, (List.getElem?_eq_some_iff.1 hp.hp).1⟩
  have hwr : IntKind.i64.wrap (p2 - 1) = a := by rw [h2, wrap64 (by omega) (by omega)]; omega
  have h1 : iter (F_law40_FairWays_4 (setsOf on refs l) b p2 want (zs.map (·.x))).1 0 = some (if (List.range 3).all (fun _ => true) = true then .inr ((3 : Nat) : Int) else .inl ()) := by
    refine iter_any 3 _ ?_ ?_
    · intro k hk
      have c1 : (k : Int) < 3 := by omega
      have c2 : (a : Int) ≤ max (b : Int) 0 ∧ (b : Int) ≤ ((zs.map (·.x)).length : Int) := by rw [List.length_map]; omega
      have e1 : want[k]? = some (((zs.drop a).take (b - a)).any (mv on refs k)) := by rw [hw, vec_get hk]
      simp only [F_law40_FairWays_4]
      rw [if_pos c1, hwr, if_pos (by omega), if_pos (by omega), if_pos c2, got (refs := refs) (a := a) (b := b) (by omega) (by omega) hl (by simp) (by simp) (by simp) hz, Option.bind_some, if_pos (by omega), Int.toNat_natCast, e1, Option.bind_some]
      rw [if_pos (alike (on := on) (refs := refs) h hab ha hb' hx k).symm, wrapS (show k < 4611686018427387904 by omega)]
      rfl
    · rfl
  rw [h1]; rfl
theorem F5 {zs : List Z} {n x : Int} (h : Tr g l zs n x) (hpos : 0 < zs.length) (hl : zs.length ≤ 4194304) (hr : refs = [0, 1, 2]) (ho : OnZ on 3 zs) :
    ∃ w, iter (F_law40_FairWays_5 on (setsOf on refs l) (IntKind.i64.wrap (((zs.map (·.n)).length : Int) - 1)) g.Init g.Edges g.Labels (zs.map (·.n)) (zs.map (·.k)) (zs.map (·.x))).1 (IntKind.i64.wrap (((zs.map (·.n)).length : Int) - 1)) = some (.inr w) := by
  have hlast : IntKind.i64.wrap (((zs.map (·.n)).length : Int) - 1) = ((zs.length - 1 : Nat) : Int) := by rw [List.length_map, wrap64 (by omega) (by omega)]; omega
  rw [hlast]
  obtain ⟨r, h1, w, rfl⟩ := iter_inv (f := (F_law40_FairWays_5 on (setsOf on refs l) ((zs.length - 1 : Nat) : Int) g.Init g.Edges g.Labels (zs.map (·.n)) (zs.map (·.k)) (zs.map (·.x))).1)
    (fun v => ∃ i : Nat, v = (i : Int) ∧ i ≤ zs.length - 1) (fun r => ∃ w, r = .inr w) (fun v => v.toNat) (by
    rintro _ ⟨i, rfl, hi⟩
    cases i with
    | zero => exact .inr ⟨_, rfl, _, rfl⟩
    | succ a =>
      have hw : IntKind.i64.wrap (((a + 1 : Nat) : Int) - 1) = (a : Int) := by rw [wrap64 (by omega) (by omega)]; omega
      have la : a < zs.length := by omega
      have lb : zs.length - 1 < zs.length := by omega
      have ga := List.getElem?_eq_getElem la
      have gb := List.getElem?_eq_getElem lb
      generalize zs[a] = za at ga
      generalize zs[zs.length - 1] = zb at gb
      have m1 : ∀ {α : Type} (f : Z → α), (zs.map f)[a]? = some (f za) := fun f => by rw [List.getElem?_map, ga]; rfl
      have m2 : ∀ {α : Type} (f : Z → α), (zs.map f)[zs.length - 1]? = some (f zb) := fun f => by rw [List.getElem?_map, gb]; rfl
      have c1 : (0 : Int) < ((a + 1 : Nat) : Int) := by omega
      have c2 : ∀ {α : Type} (f : Z → α), 0 ≤ (a : Int) ∧ (a : Int) < ((zs.map f).length : Int) := fun f => by rw [List.length_map]; omega
      have c3 : ∀ {α : Type} (f : Z → α), 0 ≤ ((zs.length - 1 : Nat) : Int) ∧ ((zs.length - 1 : Nat) : Int) < ((zs.map f).length : Int) := fun f => by rw [List.length_map]; omega
      have go_on : ∃ y, some (Sum.inl (a : Int) : Int ⊕ (Unit ⊕ ((Int × List Bool × Int) ⊕ Int))) = some (Sum.inl y) ∧ (∃ i : Nat, y = (i : Int) ∧ i ≤ zs.length - 1) ∧ y.toNat < (((a + 1 : Nat) : Int)).toNat := ⟨_, rfl, ⟨a, rfl, by omega⟩, by omega⟩
      by_cases e1 : za.n = zb.n
      · by_cases e2 : za.x = zb.x
        · right
          have c4 : ∀ {α : Type} (f : Z → α), (a : Int) ≤ max ((zs.length - 1 : Nat) : Int) 0 ∧ ((zs.length - 1 : Nat) : Int) ≤ ((zs.map f).length : Int) := fun f => by rw [List.length_map]; omega
          have hzs : ((zs.drop a).take (zs.length - 1 - a)).length ≤ 4194304 := by simp; omega
          have hlit : List.take 3 (lit3 0 1 2) = refs := by rw [hr]; rfl
          have hsub : ∀ z ∈ (zs.drop a).take (zs.length - 1 - a), z ∈ zs := fun z hz => List.mem_of_mem_drop (List.mem_of_mem_take hz)
          have hm := met_law (g := g) (on := on) (refs := refs) (zs := (zs.drop a).take (zs.length - 1 - a)) (fun z hz => (h.ok z (hsub z hz)).1) (by rw [hr]; exact fun z hz => ho z (hsub z hz)) (by rw [hr]; simp) hzs
          have t1 : ∀ {α : Type} (f : Z → α), List.take (zs.length - 1 - a) (List.drop a (zs.map f)) = ((zs.drop a).take (zs.length - 1 - a)).map f := fun f => by rw [List.map_take, List.map_drop]
          have hf4 := F4 (on := on) (refs := refs) (p2 := ((a + 1 : Nat) : Int)) (want := vec refs.length fun k => ((zs.drop a).take (zs.length - 1 - a)).any (mv on refs k)) h (show a < zs.length - 1 by omega) (by omega) hl ga gb e2 (by rw [hr]; rfl) (by omega) (by rw [hr]; rfl)
          refine ⟨.inr (.inl (((a + 1 : Nat) : Int), vec refs.length fun k => ((zs.drop a).take (zs.length - 1 - a)).any (mv on refs k), 3)), ?_, _, rfl⟩
          · simp only [F_law40_FairWays_5]
            rw [if_pos c1, hw, if_pos (c2 _), Int.toNat_natCast, m1, Option.bind_some, Option.bind_some, if_pos (c3 _), Int.toNat_natCast, m2, Option.bind_some, Option.bind_some, if_pos e1, if_pos (c2 _), m1, Option.bind_some, Option.bind_some, if_pos (c3 _), m2, Option.bind_some, Option.bind_some, if_pos e2,
              if_pos (by omega), if_pos (by omega), if_pos (c4 _), if_pos (by omega), if_pos (by omega), if_pos (c4 _), hlit, t1, t1, hm, Option.bind_some, hf4]
            simp only [case2, Option.bind_some]
        · left
          simp only [F_law40_FairWays_5]
          rw [if_pos c1, hw, if_pos (c2 _), Int.toNat_natCast, m1, Option.bind_some, Option.bind_some, if_pos (c3 _), Int.toNat_natCast, m2, Option.bind_some, Option.bind_some, if_pos e1, if_pos (c2 _), m1, Option.bind_some, Option.bind_some, if_pos (c3 _), m2, Option.bind_some, Option.bind_some, if_neg e2]
          exact go_on
      · left
        simp only [F_law40_FairWays_5]
        rw [if_pos c1, hw, if_pos (c2 _), Int.toNat_natCast, m1, Option.bind_some, Option.bind_some, if_pos (c3 _), Int.toNat_natCast, m2, Option.bind_some, Option.bind_some, if_neg e1]
        exact go_on) _ ⟨zs.length - 1, rfl, Nat.le_refl _⟩
  exact ⟨w, h1⟩
theorem first_head {n : Int} {r : List Int} (h : g.Init = n :: r) : (first g.Init).2[0]? = some 0 ∧ (first g.Init).1[0]? = some (n, -1) := by
  have hp : ∀ (m : List Int) (s : List Pr × List Int), s.1 <+: (m.foldl firstS s).1 ∧ s.2 <+: (m.foldl firstS s).2 := by
    intro m
    induction m with
    | nil => exact fun s => ⟨List.prefix_refl _, List.prefix_refl _⟩
    | cons a m ih =>
      intro s
      have := ih (firstS s a)
      rw [List.foldl_cons]
      refine ⟨List.IsPrefix.trans ?_ this.1, List.IsPrefix.trans ?_ this.2⟩
      · unfold firstS; split <;> simp
      · unfold firstS; split <;> simp
  rw [h, first, List.foldl_cons]
  obtain ⟨⟨t, ht⟩, ⟨u, hu⟩⟩ := hp r (firstS ([], []) n)
  rw [← ht, ← hu]
  simp [firstS]
theorem fairWays_law {turns : List Int} (hf : Fit g) (ho : on.length ≤ 1048576) (ht : ∀ t ∈ turns, 0 ≤ t ∧ t ≤ 255) (hl : turns.length ≤ 1048576) : (F_law40_FairWays g on turns).1 = some true := by
  have hlit : List.take 3 (lit3 0 1 2) = [0, 1, 2] := rfl
  simp only [F_law40_FairWays, hlit, far1 hf, Option.bind_some]
  by_cases hfar : (decide (400 < farN g) || decide (40 < [(0 : Int), 1, 2].length)) = true
  · obtain ⟨r, hr⟩ := gSome (on := on) (refs := [0, 1, 2]) hf ho (by simp)
    have hr' : (F_fair_Sets g on (List.take 3 (lit3 0 1 2))).1 = some r := hr
    rw [hr', Option.bind_some, if_pos hfar]
  · have h4 : farN g ≤ 400 := by simp at hfar; omega
    have hU : (U g).length ≤ 65536 := by rw [U_len]; unfold farN at h4; omega
    obtain ⟨N, h1, h2, _⟩ := gSets (on := on) (refs := [0, 1, 2]) hf ho (by simp) hU
    have h2' : (F_fair_Sets g on (List.take 3 (lit3 0 1 2))).1 = _ := h2
    rw [h2', Option.bind_some, if_neg hfar]
    by_cases hc : checkG g = 0
    · rw [if_pos hc]
      by_cases hb : fitsB on g.Edges.length [(0 : Int), 1, 2].length = true
      · rw [if_pos hb, if_neg (show ¬ 16 < [(0 : Int), 1, 2].length by simp)]
        obtain ⟨hN, hk⟩ := h1 ⟨hc, hb⟩
        have hC : Ctx g (first g.Init).1 N := ⟨hf, hc, firstI g, hN, hk⟩
        obtain ⟨s3, s4, s5⟩ := st_len (g := g) (first g.Init).1 N
        have hNU := (st_inv (firstI g) N).len
        delta resOk
        dsimp only
        rw [if_pos rfl]
        by_cases hi : g.Init = []
        · rw [if_pos hi]
        · rw [if_neg hi]
          by_cases hT : turns = []
          · rw [if_pos hT]
          · rw [if_neg hT]
            obtain ⟨n0, r0, hcons⟩ := List.exists_cons_of_ne_nil hi
            obtain ⟨f1, f2⟩ := first_head hcons
            have hne : (first g.Init).2 ≠ [] := by intro e; rw [e] at f1; simp at f1
            have hs3 : (setsOf on [0, 1, 2] (st g (first g.Init).1 N).l).length = 3 := by simp [setsOf]
            have c1 : ((setsOf on [0, 1, 2] (st g (first g.Init).1 N).l).length : Int) = 3 := by omega
            have c2 : (((st g (first g.Init).1 N).l.map (·.1)).length : Int) = ((st g (first g.Init).1 N).E.length : Int) := by rw [List.length_map, hN, s3]
            have hrows : iter (F_law40_FairWays_0 on turns ((st g (first g.Init).1 N).l.map (·.1)) (setsOf on [0, 1, 2] (st g (first g.Init).1 N).l) (setsOf on [0, 1, 2] (st g (first g.Init).1 N).l).length g.Init g.Edges g.Labels (first g.Init).2 (st g (first g.Init).1 N).E (st g (first g.Init).1 N).L).1 0 = some (if (List.range (setsOf on [0, 1, 2] (st g (first g.Init).1 N).l).length).all (fun _ => true) = true then .inr ((setsOf on [0, 1, 2] (st g (first g.Init).1 N).l).length : Int) else .inl ()) := by
              refine iter_any _ _ ?_ ?_
              · intro k hk
                have e2 : (((setsOf on [0, 1, 2] (st g (first g.Init).1 N).l)[k]).length : Int) = ((st g (first g.Init).1 N).l.map (·.1)).length := by simp [setsOf, rowOf]
                simp only [F_law40_FairWays_0]
                rw [if_pos (by omega), if_pos (by omega), Int.toNat_natCast, List.getElem?_eq_getElem hk, Option.bind_some, if_pos e2, wrapS (show k < 4611686018427387904 by omega)]
                rfl
              · simp only [F_law40_FairWays_0, Int.lt_irrefl, if_false]
            have hat : At (st g (first g.Init).1 N).l n0 0 (n0, -1) := by
              refine ⟨Int.le_refl _, ?_, rfl⟩
              have hp : (st g (first g.Init).1 0).l <+: (st g (first g.Init).1 N).l := by have := st_preN (g := g) (first g.Init).1 0 N; rwa [Nat.zero_add] at this
              exact pre_get' hp f2
            obtain ⟨r, w1, w2⟩ := ways2 (p0 := on) (p3 := setsOf on [0, 1, 2] (st g (first g.Init).1 N).l) (p9 := (first g.Init).2) (p11 := (st g (first g.Init).1 N).L) hC ht hl (Tr.nil hat)
            have hi0 : g.Init[0]? = some n0 := by rw [hcons]; rfl
            rw [if_pos c1, if_pos c2, if_neg hne, hrows]
            simp only [List.all_eq_true, implies_true, if_true, case2, Option.bind_some]
            rw [hi0, Option.bind_some, f1, Option.bind_some, w1]
            rcases w2 with rfl | ⟨zs, n', x', m, rfl, h5, h6⟩
            · rfl
            · have hTl : 0 < turns.length := List.length_pos_iff.2 hT
              have hoZ : OnZ on 3 zs := by
                intro z hz
                obtain ⟨_, p, hp⟩ := h5.ok z hz
                obtain ⟨_, row, hr1, hr2⟩ := onOk hc hb (st_inv (firstI g) N) p (List.mem_of_getElem? hp.hp)
                rw [hp.hn] at hr1
                exact ⟨row, hr1, hr2⟩
              obtain ⟨w, hw⟩ := F5 (on := on) (refs := [0, 1, 2]) h5 (by omega) (by omega) rfl hoZ
              simp only [Option.bind_some, hw]
              cases w <;> rfl
      · rw [if_neg hb, if_neg (by simp)]
    · rw [if_neg hc, if_neg hc]
theorem law_FairWays (g : Gapi_Graph) (on : List (List Bool)) (turns : List Int) (_ : ok26 g) (_ : ok27 on) (h3 : ok37 turns) (h : bk26 g + (bk27 on + bk37 turns) ≤ 1048576) : (F_law40_FairWays g on turns).1 = some true :=
  fairWays_law (fit_bk (by omega)) (on_bk (by omega)) h3 (by have := len_sum bk5 (fun _ => Nat.le_refl 1) turns; unfold bk37 at h; omega)
end Go.Fair
namespace Go.Proofs.Ytabkianhbgpfgaa
open Go Go.Am Go.Fair Go.ChangeShapes Go.WideShapes Go.ChangeAt Go.RowKit
namespace FairWaysLaw
theorem own : ownKnob Try.prog.godebug = none := by kernel_rfl
theorem follows : Try.prog.follows .mixedOrders = true := by kernel_rfl
theorem laid : laidOutB Try.prog = true := by kernel_rfl
theorem okT26 : tyOk Try.prog 8 26 = true := by kernel_rfl
theorem rdT26 : (Try.prog.readableRec 26 && decide (26 < Try.prog.types.size)) = true := by kernel_rfl
theorem okT27 : tyOk Try.prog 8 27 = true := by kernel_rfl
theorem rdT27 : (Try.prog.readableRec 27 && decide (27 < Try.prog.types.size)) = true := by kernel_rfl
theorem okT37 : tyOk Try.prog 8 37 = true := by kernel_rfl
theorem rdT37 : (Try.prog.readableRec 37 && decide (37 < Try.prog.types.size)) = true := by kernel_rfl
theorem contract (H : Type) (enc : TypeId × Value → H) (W : World) (base : Nat) (args : Array Value) (ds gs : List (DataW H)) (before : List MemPlace)
    (hval : ∀ (j : Nat) t v, Try.f4.params[j]? = some t → args[j]? = some v → Value.okWide Try.prog W .any base t v)
    (hW : DataW.Whole enc Try.prog Try.f4.params.toList Rows.fairWaysSpec.vars false W args.toList ds gs before) (hk : Rows.uptoSmall H (ds ++ gs) = true) :
    Calls Try.prog 4 args W fun e W' => ∃ v, e = .returned v ∧ Rows.fairWaysSpec.post enc Try.prog Try.f4 false true false false W args v W' := by
  have hW' := hW
  obtain ⟨p, q, hA0, hV, rfl, hfz, hnd⟩ := hW
  have hA : DataW.TrodAll enc Try.prog W 0 (fun _ => true) true Try.f4.params.toList args.toList ds p := hA0
  obtain ⟨rfl, rfl⟩ := trodVars_none hV
  have hb : Rows.uptoBulkAll ds ≤ 1048576 := of_decide_eq_true (by simpa [Rows.uptoSmall] using hk)
  have hp : Try.f4.params.toList = [26, 27, 37] := by rw [Try.params4]
  obtain ⟨xs, hv, ht, hbk⟩ := readAll_ok (P := Try.prog) (n := 8) Try.f4.params.toList args.toList ds p (by rw [hp]; simp [okT26, okT27, okT37]) (fun j t v h1 h2 => ⟨base, hval j t v (by simpa using h1) (by simpa using h2)⟩) hA
  rw [hp] at ht
  obtain ⟨a0, r0, rfl, h0, a1, r1, rfl, h1, a2, r2, rfl, h2, rfl⟩ := ht
  obtain ⟨x0, rfl, k0⟩ := dec26 (n := 3) h0
  obtain ⟨x1, rfl, k1⟩ := dec27 (n := 5) h1
  obtain ⟨x2, rfl, k2⟩ := dec37 (n := 6) h2
  have hbk2 := Nat.le_trans hbk hb
  simp only [D.bulks, bkE26, bkE27, bkE37, Nat.add_zero] at hbk2
  have hlaw := law_FairWays x0 x1 x2 k0 k1 k2 (by omega)
  obtain ⟨n, hn⟩ := callX_iff.1 ((F_law40_FairWays x0 x1 x2).2 false [] (some ([.d (.bool true)], [])) (by rw [hlaw]; rfl))
  refine (calls_true follows hn hv).mono fun e W' ⟨he, hbl⟩ => ?_
  subst he
  obtain ⟨d0, d1, d2, rfl⟩ : ∃ d0 d1 d2, ds = [d0, d1, d2] := by
    rw [hp] at hA
    obtain ⟨v0, vs0, d0, ds0, p0, q0, _, rfl, rfl, _, g0⟩ := trodAll_cons hA
    obtain ⟨v1, vs1, d1, ds1, p1, q1, _, rfl, rfl, _, g1⟩ := trodAll_cons g0
    obtain ⟨v2, vs2, d2, ds2, p2, q2, _, rfl, rfl, _, g2⟩ := trodAll_cons g1
    obtain ⟨_, rfl, _⟩ := trodAll_nil g2
    exact ⟨d0, d1, d2, rfl⟩
  exact ⟨_, rfl, law_post hW' rfl rfl hbl laid (by
    rw [hp]
    intro t ht
    simp only [List.mem_cons, List.not_mem_nil, or_false] at ht
    rcases ht with rfl | rfl | rfl
    · simpa using rdT26
    · simpa using rdT27
    · simpa using rdT37) (by kernel_rfl) Try.underlying4⟩
set_option maxRecDepth 100000 in
theorem lifted (os : Os) (started : os.Started) (H : Type) (enc : TypeId × Value → H) (F : Stop.Interp) :
    ReturnsInHanded {} Try.checked os 4 .any ((Rows.OpenSpec.upto Rows.fairWaysSpec).pre6 enc Try.prog Try.f4 Rows.fairWaysUptoRow.domain false) (((Rows.OpenSpec.upto Rows.fairWaysSpec).at F).post enc Try.prog Try.f4 false true false false) := by
  refine returnsInHanded_of_cond (C := Try.checked) (s := Rows.OpenSpec.upto Rows.fairWaysSpec) (k := Rows.uptoSmall) rfl own started (by kernel_rfl) Try.func4
    (OpenSpec.witness (enc := enc) (C := Try.checked) (s := Rows.OpenSpec.upto Rows.fairWaysSpec) (k := Rows.uptoSmall) rfl false ⟨#[], #[.agg #[.slice none 0 0, .slice none 0 0, .slice none 0 0], .slice none 0 0, .slice none 0 0], []⟩ 8 (by kernel_rfl) (by kernel_rfl) (by kernel_rfl)
      (x := ([.agg [.nil, .nil, .nil], .nil, .nil], [], [])) (by kernel_rfl) rfl (by kernel_rfl)) ?_
  intro W base args ds gs before hval hW _ hk _
  exact contract H enc W base args ds gs before hval hW hk
end FairWaysLaw
theorem fairWays_upto : Rows.FairWaysUptoSaid :=
  OpenClaim.holds_of_cond 4 Try.f4 rfl rfl rfl rfl rfl rfl rfl ⟨rfl, rfl, rfl, rfl, rfl⟩ rfl rfl rfl rfl rfl (by kernel_rfl) Try.func4 (by kernel_rfl)
    (of_decide_eq_true (by kernel_rfl)) (by unfold Func.isWrapper; first | (rw [if_pos (by decide +kernel)]; kernel_rfl) | (rw [if_neg (by decide +kernel)]; exact ⟨rfl, rfl⟩))
    (fun os started H enc _ F => FairWaysLaw.lifted os started H enc F)
end Go.Proofs.Ytabkianhbgpfgaa
