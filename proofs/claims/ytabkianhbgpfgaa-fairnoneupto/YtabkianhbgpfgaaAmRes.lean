/- The abstract machine: what a call answers, laid under a slot's roots. The contract of a call. -/
import Derived.Test.YtabkianhbgpfgaaAmSnap
namespace Go.Am
open Go Go.RowKit
set_option linter.unusedSimpArgs false
set_option linter.unusedVariables false

def fitsT (t : T) (v : Value) : Prop := match t with | .d x => fits x v | .agg _ => ∃ cs, v = .agg cs | _ => v.oneCell' = true
/-- results, each with what it owns -/
def RetAll (c : Cx) : List T → List Value → List Nat → Prop
  | [], vs, M => vs = [] ∧ M = []
  | t :: ts, vs, M => ∃ v r M1 M2, vs = v :: r ∧ M = M1 ++ M2 ∧ TC c t v.cells.toList M1 ∧ fitsT t v ∧ RetAll c ts r M2
def tupV : List Value → Value
  | [x] => x
  | vs => .tuple vs.toArray
theorem RetAll.ext {c c' : Cx} (h : Ext c c') : ∀ (ts : List T) (vs : List Value) (M : List Nat), Kept c c' M → RetAll c ts vs M → RetAll c' ts vs M
  | [], _, _, _, hp => hp
  | t :: ts, vs, M, hk, hp => by
    obtain ⟨v, r, M1, M2, h1, rfl, h3, h4, h5⟩ := hp
    exact ⟨v, r, M1, M2, h1, rfl, TC.ext h _ _ _ hk.left h3, h4, RetAll.ext h ts r M2 hk.right h5⟩

/-- it leans on none of a slot's roots from number j on -/
def Below (dst j : Nat) (u : SV) : Prop := ∀ i, j ≤ i → (Tr.kill (.l dst i) []).sv u = u
theorem Below.mono {dst j j' : Nat} {u : SV} (h : Below dst j u) (hj : j ≤ j') : Below dst j' u := fun i hi => h i (Nat.le_trans hj hi)
theorem Below.d {dst j : Nat} (x : D) : Below dst j (.d x) := fun _ _ => rfl
theorem Below.bor {dst j i : Nat} (h : i < j) (p : Path) (off len : Nat) : Below dst j (.bor (.l dst i) p off len) := fun i' hi => by
  simp only [Tr.sv, Root.l.injEq, true_and]
  rw [if_neg (by omega)]

section
variable {P : Program} {A : Av} {ρ : Nat → Nat} {S S' : Root → List Nat} {hd : Root → Value} {fl : List Nat} {k k' : Wk} {vals : List (SV × Value)} {w : World}

/-- what a step of laying down keeps -/
structure Laid (A : Av) (ρ : Nat → Nat) (S : Root → List Nat) (hd : Root → Value) (fl : List Nat) (k : Wk) (vals : List (SV × Value)) (w : World) (dst j : Nat) (S' : Root → List Nat) (hd' : Root → Value) (fl' : List Nat) (k' : Wk) (j' : Nat) : Prop where
  kr : KR A ρ S' hd' fl' k' vals w
  ext : Ext (cxOf A k.H.length ρ S fl w) (cxOf A k'.H.length ρ S' fl' w)
  le : j ≤ j'
  H : k'.H = k.H
  stay : ∀ u v, Below dst j u → SO (cxOf A k.H.length ρ S fl w) k.get hd u v → SO (cxOf A k'.H.length ρ S' fl' w) k'.get hd' u v
theorem Laid.refl {dst j : Nat} (h : KR A ρ S hd fl k vals w) : Laid A ρ S hd fl k vals w dst j S hd fl k j := ⟨h, Ext.refl' _, Nat.le_refl _, rfl, fun _ _ _ h => h⟩
theorem Laid.trans {dst j j1 j2 : Nat} {S1 S2 : Root → List Nat} {hd1 hd2 : Root → Value} {fl1 fl2 : List Nat} {k1 k2 : Wk} (x : Laid A ρ S hd fl k vals w dst j S1 hd1 fl1 k1 j1) (y : Laid A ρ S1 hd1 fl1 k1 vals w dst j1 S2 hd2 fl2 k2 j2) : Laid A ρ S hd fl k vals w dst j S2 hd2 fl2 k2 j2 :=
  ⟨y.kr, ⟨fun t g hp => ⟨(y.ext.pm t g (x.ext.pm t g hp).1).1, rfl⟩, Nat.le_trans x.ext.nO y.ext.nO, fun _ _ => rfl⟩, Nat.le_trans x.le y.le, y.H.trans x.H, fun u v hb h => y.stay u v (hb.mono x.le) (x.stay u v hb h)⟩
theorem Laid.stayC {dst j j' : Nat} {hd' : Root → Value} {fl' : List Nat} (x : Laid A ρ S hd fl k vals w dst j S' hd' fl' k' j') {u : SV} {v : Value} (hb : Below dst j u) (h : CO (cxOf A k.H.length ρ S fl w) k.get hd u v) : CO (cxOf A k'.H.length ρ S' fl' w) k'.get hd' u v := by
  cases u with
  | d y => exact VC.ext x.ext _ _ h
  | agg l => exact False.elim h
  | tup l => exact False.elim h
  | dead => trivial
  | bor r p off len => exact x.stay (.bor r p off len) v hb h
  | loc r p i off => exact x.stay (.loc r p i off) v hb h
  | rp b cs => exact x.stay (.rp b cs) v hb h
  | clip b l => exact x.stay (.clip b l) v hb h

theorem resCell_ok {M1 : List Nat} (h : KR A ρ S hd (M1 ++ fl) k vals w) {dst j j' : Nat} {t : T} {v : Value} {sv : SV} (ht : TC (cxOf A k.H.length ρ S (M1 ++ fl) w) t [v] M1) (e : resCell dst j t k = some (sv, j', k')) :
    ∃ S' hd', Laid A ρ S hd (M1 ++ fl) k vals w dst j S' hd' fl k' j' ∧ CO (cxOf A k'.H.length ρ S' fl w) k'.get hd' sv v ∧ Below dst j' sv := by
  cases t with
  | d x =>
    simp only [resCell, Option.some.injEq, Prod.mk.injEq] at e
    obtain ⟨rfl, rfl, rfl⟩ := e
    simp only [TC] at ht
    obtain ⟨rfl, ht⟩ := ht
    exact ⟨S, hd, .refl (by simpa using h), ht, .d x⟩
  | own es =>
    simp only [resCell, Option.some.injEq, Prod.mk.injEq] at e
    obtain ⟨rfl, rfl, rfl⟩ := e
    obtain ⟨n1, n2⟩ := h.newRoot (n := dst) (j := j) ht
    have hb := TC.ext n2 _ _ _ (fun _ _ => rfl) ht
    refine ⟨_, _, ⟨n1, n2, by omega, rfl, fun u v' hu hso => ?_⟩, ?_, .bor (by omega) _ _ _⟩
    · have := SO.kill (K' := (k.new dst j (.own es)).get) (hd' := upd hd (.l dst j) v) (c' := cxOf A k.H.length ρ (upd S (.l dst j) M1) fl w) n2 (.l dst j) [] (fun r q hq => ?_) hso
      · rw [hu j (Nat.le_refl _)] at this
        exact this
      · by_cases hr : r = .l dst j
        · obtain ⟨q1, q2⟩ := hq hr
          exact absurd (List.eq_nil_of_length_eq_zero (by simpa using q2)) q1
        · exact h.hold _ (by show cont (((dst, j), T.own es) :: k.ct) k.H r = _; rw [look_get, if_neg hr]; rfl) (upd_other _ _ hr) (fun _ _ => rfl) q
    · refine ⟨.own es, es, v, by show cont (((dst, j), T.own es) :: k.ct) k.H (.l dst j) = _; rw [look_get, if_pos rfl], rfl, by simp [NodeH], by omega, ?_⟩
      rcases hb with ⟨a, k1, k2, _⟩ | ⟨g', cap', cur', e', sz', S', k1, k2, k3, k4, k5, k6, k7, k8⟩
      · simp only [List.cons.injEq, and_true] at k1
        subst k2
        exact ⟨a, 0, 0, a, 0, k1, by simpa using k1, Nat.le_refl _, fun _ => ⟨rfl, Nat.le_refl _⟩, fun h0 => by simp at h0⟩
      · simp only [List.cons.injEq, and_true] at k1
        refine ⟨_, es.length, cap', _, cap', k1, k1, k4, fun _ => ⟨rfl, Nat.le_refl _⟩, fun h0 => ?_⟩
        exact ⟨g', es[0], rfl, by simp, by simp⟩
  | agg l => simp [resCell] at e
  | dead => simp [resCell] at e

theorem resCells_ok {dst : Nat} : ∀ (ts : List T) (vs : List Value) (M : List Nat) (S : Root → List Nat) (hd : Root → Value) (k k' : Wk) (j j' : Nat) (svs : List SV), KR A ρ S hd (M ++ fl) k vals w → TCs (cxOf A k.H.length ρ S (M ++ fl) w) ts vs M → resCells dst j ts k = some (svs, j', k') →
    ∃ S' hd', Laid A ρ S hd (M ++ fl) k vals w dst j S' hd' fl k' j' ∧ All2 (CO (cxOf A k'.H.length ρ S' fl w) k'.get hd') svs vs ∧ ∀ u ∈ svs, Below dst j' u
  | [], vs, M, S, hd, k, k', j, j', svs, h, ht, e => by
    simp only [resCells, Option.some.injEq, Prod.mk.injEq] at e
    obtain ⟨rfl, rfl, rfl⟩ := e
    simp only [TCs] at ht
    obtain ⟨rfl, rfl⟩ := ht
    exact ⟨S, hd, .refl (by simpa using h), rfl, by simp⟩
  | t :: ts, vs, M, S, hd, k, k', j, j', svs, h, ht, e => by
    simp only [resCells, Option.bind_eq_some_iff, Option.map_eq_some_iff] at e
    obtain ⟨⟨sv, j1, k1⟩, e1, ⟨svs', j2, k2⟩, e2, e3⟩ := e
    simp only [Prod.mk.injEq] at e3
    obtain ⟨rfl, rfl, rfl⟩ := e3
    simp only [TCs] at ht
    obtain ⟨v, r, M1, M2, rfl, rfl, h3, h4⟩ := ht
    rw [List.append_assoc] at h h3 h4
    obtain ⟨S1, hd1, g1, g2, g3⟩ := resCell_ok (fl := M2 ++ fl) h h3 e1
    obtain ⟨S2, hd2, p1, p2, p3⟩ := resCells_ok ts r M2 S1 hd1 k1 k2 j1 j2 svs' g1.kr (TCs.ext g1.ext _ _ _ (fun _ _ => rfl) h4) e2
    rw [List.append_assoc]
    refine ⟨S2, hd2, g1.trans p1, ⟨v, r, rfl, p1.stayC g3 g2, p2⟩, fun u hu => ?_⟩
    rcases List.mem_cons.1 hu with rfl | hu
    · exact g3.mono p1.le
    · exact p3 u hu
theorem Below.agg {dst j : Nat} {l : List SV} (h : ∀ u ∈ l, Below dst j u) : Below dst j (.agg l) := fun i hi => by
  have svs : ∀ l : List SV, Tr.svs (Tr.kill (.l dst i) []) l = l.map (Tr.kill (.l dst i) []).sv := fun l => by
    induction l with
    | nil => rfl
    | cons a r ih => simp [Tr.svs, ih]
  show SV.agg (Tr.svs _ l) = _
  rw [svs]
  congr 1
  rw [List.map_congr_left (g := id) (fun u hu => h u hu i hi)]
  simp

theorem res1_ok {M1 : List Nat} (h : KR A ρ S hd (M1 ++ fl) k vals w) {dst j j' : Nat} {t : T} {v : Value} {sv : SV} (ht : TC (cxOf A k.H.length ρ S (M1 ++ fl) w) t v.cells.toList M1) (hf : fitsT t v) (e : res1 dst j t k = some (sv, j', k')) :
    ∃ S' hd', Laid A ρ S hd (M1 ++ fl) k vals w dst j S' hd' fl k' j' ∧ S1 (cxOf A k'.H.length ρ S' fl w) k'.get hd' sv v ∧ Below dst j' sv := by
  cases t with
  | agg ts =>
    simp only [res1, Option.map_eq_some_iff] at e
    obtain ⟨⟨svs, j1, k1⟩, e1, e2⟩ := e
    simp only [Prod.mk.injEq] at e2
    obtain ⟨rfl, rfl, rfl⟩ := e2
    obtain ⟨cs, rfl⟩ := hf
    simp only [TC] at ht
    obtain ⟨S', hd', g1, g2, g3⟩ := resCells_ok ts _ M1 S hd k k1 j j1 svs h ht e1
    exact ⟨S', hd', g1, ⟨cs, rfl, g2⟩, .agg g3⟩
  | d x =>
    simp only [res1, resCell, Option.some.injEq, Prod.mk.injEq] at e
    obtain ⟨rfl, rfl, rfl⟩ := e
    simp only [TC] at ht
    obtain ⟨rfl, ht⟩ := ht
    exact ⟨S, hd, .refl (by simpa using h), (⟨ht, hf⟩ : VV _ x v), .d x⟩
  | own es =>
    have hv : v.cells = #[v] := cells_one hf
    rw [hv] at ht
    obtain ⟨S', hd', g1, g2, g3⟩ := resCell_ok h ht e
    refine ⟨S', hd', g1, ?_, g3⟩
    simp only [res1, resCell, Option.some.injEq, Prod.mk.injEq] at e
    obtain ⟨rfl, rfl, rfl⟩ := e
    exact g2
  | dead => simp [res1, resCell] at e
theorem resAll_ok {dst : Nat} : ∀ (ts : List T) (vs : List Value) (M : List Nat) (S : Root → List Nat) (hd : Root → Value) (k k' : Wk) (j : Nat) (svs : List SV), KR A ρ S hd (M ++ fl) k vals w → RetAll (cxOf A k.H.length ρ S (M ++ fl) w) ts vs M → resAll dst j ts k = some (svs, k') →
    ∃ S' hd' j', Laid A ρ S hd (M ++ fl) k vals w dst j S' hd' fl k' j' ∧ All2 (S1 (cxOf A k'.H.length ρ S' fl w) k'.get hd') svs vs
  | [], vs, M, S, hd, k, k', j, svs, h, ht, e => by
    simp only [resAll, Option.some.injEq, Prod.mk.injEq] at e
    obtain ⟨rfl, rfl⟩ := e
    obtain ⟨rfl, rfl⟩ := ht
    exact ⟨S, hd, j, .refl (by simpa using h), rfl⟩
  | t :: ts, vs, M, S, hd, k, k', j, svs, h, ht, e => by
    simp only [resAll, Option.bind_eq_some_iff, Option.map_eq_some_iff] at e
    obtain ⟨⟨sv, j1, k1⟩, e1, ⟨svs', k2⟩, e2, e3⟩ := e
    simp only [Prod.mk.injEq] at e3
    obtain ⟨rfl, rfl⟩ := e3
    obtain ⟨v, r, M1, M2, rfl, rfl, h3, h3', h4⟩ := ht
    rw [List.append_assoc] at h h3 h4
    obtain ⟨S1, hd1, g1, g2, g3⟩ := res1_ok (fl := M2 ++ fl) h h3 h3' e1
    obtain ⟨S2, hd2, j2, p1, p2⟩ := resAll_ok ts r M2 S1 hd1 k1 k2 j1 svs' g1.kr (RetAll.ext g1.ext _ _ _ (fun _ _ => rfl) h4) e2
    rw [List.append_assoc]
    refine ⟨S2, hd2, j2, g1.trans p1, ⟨v, r, rfl, ?_, p2⟩⟩
    have hnt : ∀ l, sv ≠ .tup l := fun l hl => by subst hl; exact g2.elim
    exact SO.to_S1 hnt (p1.stay _ _ g3 (SO.of_S1 hnt g2))
theorem resE_ok {M : List Nat} (h : KR A ρ S hd (M ++ fl) k vals w) {dst : Nat} {rs : List T} {vs : List Value} {sv : SV} (hr : RetAll (cxOf A k.H.length ρ S (M ++ fl) w) rs vs M) (e : resE dst rs k = some (sv, k')) :
    ∃ S' hd', KR A ρ S' hd' fl k' vals w ∧ SO (cxOf A k'.H.length ρ S' fl w) k'.get hd' sv (tupV vs) ∧ k'.H = k.H := by
  simp only [resE, Option.map_eq_some_iff, Prod.mk.injEq] at e
  obtain ⟨⟨svs, k1⟩, e1, e2, rfl⟩ := e
  obtain ⟨S', hd', j', g1, g2⟩ := resAll_ok rs vs M S hd k k1 0 svs h hr e1
  refine ⟨S', hd', g1.kr, ?_, g1.H⟩
  have hl := g2.len
  simp only at e2
  split at e2
  · rename_i u
    subst e2
    obtain ⟨v, r, rfl, q1, q2⟩ := g2
    rw [show r = [] from q2]
    exact SO.of_S1 (fun l hl => by subst hl; exact q1.elim) q1
  · rename_i hne
    subst e2
    have : tupV vs = .tuple vs.toArray := by
      match vs, hl with
      | [], _ => rfl
      | [x], hl => exact absurd (List.length_eq_one_iff.1 (by simpa using hl.symm)) (fun ⟨a, ha⟩ => hne a ha)
      | _ :: _ :: _, _ => rfl
    rw [this]
    exact ⟨_, rfl, by simpa using g2⟩

/-! ### the contract -/
/-- a call is over: the shared objects, and the results -/
def Over (A : Av) (H2 : List Ob) (rs : List T) (v : Value) (w' : World) : Prop :=
  ∃ ρ' S' hd' M vs, KR A ρ' S' hd' M { ct := [], H := H2 } [] w' ∧ RetAll (cxOf A H2.length ρ' S' M w') rs vs M ∧ v = tupV vs
def CallOK (P : Program) (call : CallF) : Prop :=
  ∀ f ds H rs H2, call f ds H = some (rs, H2) → (∃ fn, P.funcs[f]? = some fn ∧ fn.body.isSome = true ∧ (fn.name == "runtime.NumGoroutine") = false) ∧
    ∀ (A : Av) (S : Root → List Nat) (hd : Root → Value) (args : Array Value), A.n0 = H.length → KR A A.ρ0 S hd [] { ct := [], H } [] A.w0 → VVs (cxOf A H.length A.ρ0 S [] A.w0) ds args.toList →
      Calls P f args A.w0 fun e w' => ∃ v, e = .returned v ∧ Over A H2 rs v w'
end
end Go.Am
