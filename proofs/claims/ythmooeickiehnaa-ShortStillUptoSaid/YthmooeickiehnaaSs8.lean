/- A part of the proof: texts of mine, merged by a program (wip/dev/merge.py). -/
import Derived.Test.YthmooeickiehnaaSs7
namespace Go.Shr
open Go Go.Am Go.Proofs
set_option linter.unusedSimpArgs false
set_option linter.unusedVariables false
variable {ρ : Type} {g : Gapi_Graph}
def tstep (g : Gapi_Graph) (a : Nat) (T : List (List Gapi_Edge)) (e : Gapi_Edge) : List (List Gapi_Edge) :=
  if nodeB g e.To = true then T.set e.To.toNat ((T[e.To.toNat]?.getD []) ++ [⟨a, e.Act⟩]) else T
def tAt (g : Gapi_Graph) : Nat → List (List Gapi_Edge)
  | 0 => List.replicate g.Edges.length []
  | i + 1 => (edgesAt g i).foldl (tstep g i) (tAt g i)
theorem tstep_len (a : Nat) (T : List (List Gapi_Edge)) (e : Gapi_Edge) : (tstep g a T e).length = T.length := by unfold tstep; split <;> simp
theorem tfold_len (a : Nat) : ∀ (l : List Gapi_Edge) (T : List (List Gapi_Edge)), (l.foldl (tstep g a) T).length = T.length
  | [], _ => rfl
  | e :: l, T => by rw [List.foldl_cons, tfold_len a l, tstep_len]
theorem tAt_len : ∀ i, (tAt g i).length = g.Edges.length
  | 0 => by simp [tAt]
  | i + 1 => by rw [tAt, tfold_len, tAt_len i]
def TOk (g : Gapi_Graph) (n m : Nat) (T : List (List Gapi_Edge)) : Prop := ∀ (b : Nat) row, T[b]? = some row → row.length ≤ m ∧ ∀ e ∈ row, 0 ≤ e.To ∧ e.To < n ∧ ∃ e' ∈ edgesAt g e.To, e'.To = (b : Int)
theorem tstep_ok {a m n : Nat} (hn : a < n) {T : List (List Gapi_Edge)} {e : Gapi_Edge} (he : e ∈ edgesAt g a) (h : TOk g n m T) : TOk g n (m + 1) (tstep g a T e) := by
  intro b row hr
  unfold tstep at hr
  split at hr
  · rename_i hnd
    rw [List.getElem?_set] at hr
    split at hr
    · rename_i hb
      split at hr
      · rename_i hlt
        simp only [Option.some.injEq] at hr
        subst hr
        rw [List.getElem?_eq_getElem hlt, Option.getD_some]
        obtain ⟨h1, h2⟩ := h _ _ (List.getElem?_eq_getElem hlt)
        refine ⟨by simp; omega, fun x hx => ?_⟩
        rcases List.mem_append.1 hx with hx | hx
        · subst hb; exact h2 x hx
        · rw [List.mem_singleton.1 hx]
          refine ⟨by simp, by simp only; omega, e, he, ?_⟩
          have := (nodeB_iff.1 hnd).1
          omega
      · cases hr
    · obtain ⟨h1, h2⟩ := h _ _ hr
      exact ⟨by omega, h2⟩
  · obtain ⟨h1, h2⟩ := h _ _ hr
    exact ⟨by omega, h2⟩
theorem tfold_ok {a n : Nat} (hn : a < n) : ∀ (l : List Gapi_Edge) (m : Nat) (T : List (List Gapi_Edge)), (∀ e ∈ l, e ∈ edgesAt g a) → TOk g n m T → TOk g n (m + l.length) (l.foldl (tstep g a) T)
  | [], _, _, _, h => h
  | e :: l, m, T, hl, h => by
    have := tfold_ok hn l (m + 1) (tstep g a T e) (fun x hx => hl x (by simp [hx])) (tstep_ok hn (hl e (by simp)) h)
    rw [List.length_cons, show m + (l.length + 1) = m + 1 + l.length by omega]
    exact this
theorem TOk.mono {n m n' m' : Nat} {T : List (List Gapi_Edge)} (h : TOk g n m T) (hn : n ≤ n') (hm : m ≤ m') : TOk g n' m' T := fun b row hr => by
  obtain ⟨h1, h2⟩ := h b row hr
  refine ⟨by omega, fun e he => ?_⟩
  obtain ⟨a1, a2, a3⟩ := h2 e he
  exact ⟨a1, by omega, a3⟩
theorem tAt_ok (hf : Fit g) : ∀ i, TOk g i (300 * i) (tAt g i)
  | 0 => fun b row hr => by
    simp only [tAt, List.getElem?_replicate] at hr
    split at hr
    · simp only [Option.some.injEq] at hr; subst hr; simp
    · cases hr
  | i + 1 => by
    have := tfold_ok (n := i + 1) (by omega) (edgesAt g i) (300 * i) (tAt g i) (fun e he => he) ((tAt_ok hf i).mono (by omega) (Nat.le_refl _))
    exact this.mono (Nat.le_refl _) (by have := edgesAt_len hf i; omega)
def turnT (g : Gapi_Graph) : List (List Gapi_Edge) := tAt g g.Edges.length
theorem edgesAt_nat {i : Nat} (h : i < g.Edges.length) : g.Edges[i] = edgesAt g i := by simp [edgesAt, h]
theorem cloneU {l : List Int} (h : l.length ≤ 1048576) (κ : List Int → Option ρ) : f_slices_Clone_suint64_uint64 l κ = κ l := by
  simp only [f_slices_Clone_suint64_uint64, F_slices_Clone_suint64_uint64]
  rw [if_pos ⟨by omega, by omega⟩]
theorem trow (hf : Fit g) {i : Nat} (hi : i < g.Edges.length) (j : Nat) (hj : j ≤ (edgesAt g i).length) : TOk g (i + 1) (300 * i + j) (((edgesAt g i).take j).foldl (tstep g i) (tAt g i)) ∧ (((edgesAt g i).take j).foldl (tstep g i) (tAt g i)).length = g.Edges.length := by
  refine ⟨?_, by rw [tfold_len, tAt_len]⟩
  have := tfold_ok (n := i + 1) (by omega) ((edgesAt g i).take j) (300 * i) (tAt g i) (fun e he => List.mem_of_mem_take he) ((tAt_ok hf i).mono (by omega) (Nat.le_refl _))
  refine this.mono (Nat.le_refl _) (by simp; omega)
theorem turn1 (hf : Fit g) (κ : List Int → List (List Gapi_Edge) → List Int → Option ρ) : f_graph_Turn g κ = κ g.Init (turnT g) g.Labels := by
  have he := hf.e
  simp only [f_graph_Turn, F_graph_Turn, mkF, clone1 hf.i, cloneU hf.l]
  rw [if_pos ⟨by omega, by omega⟩]
  refine (loop_run g.Edges.length (fun i => ((i : Int), tAt g i)) ?_ (fun k => by simp only [Int.lt_irrefl, if_false])).trans ?_
  · intro i k hi
    have hr := edgesAt_len hf i
    simp only [Int.ofNat_lt, hi, if_true, Int.natCast_nonneg, getN hi, Option.bind_some, wrapS (show i < 4611686018427387904 by omega), edgesAt_nat hi]
    refine (loop_run (edgesAt g i).length (fun j => ((j : Int), ((edgesAt g i).take j).foldl (tstep g i) (tAt g i))) ?_ (fun k => by simp only [Int.lt_irrefl, if_false])).trans ?_
    · intro j q hj
      obtain ⟨h1, h2⟩ := trow hf hi j (by omega)
      simp only [Int.ofNat_lt, hj, if_true, Int.natCast_nonneg, getN hj, Option.bind_some, wrapS (show j < 4611686018427387904 by omega), node3, foldl_step hj]
      generalize hT : ((edgesAt g i).take j).foldl (tstep g i) (tAt g i) = T at *
      by_cases hnd : nodeB g (edgesAt g i)[j].To = true
      · obtain ⟨n1, n2⟩ := nodeB_iff.1 hnd
        have hb : (edgesAt g i)[j].To.toNat < T.length := by omega
        have hl := (h1 _ _ (List.getElem?_eq_getElem hb)).1
        have hlt : (edgesAt g i)[j].To < T.length := by omega
        simp only [hnd, if_true, n1, hlt, and_self, List.getElem?_eq_getElem hb, Option.bind_some]
        rw [if_pos ⟨by omega, by omega⟩]
        simp only [tstep, hnd, if_true, List.getElem?_eq_getElem hb, Option.getD_some]
      · simp only [hnd, Bool.false_eq_true, if_false, tstep]
    · simp only [Int.lt_irrefl, if_false, List.take_length]; rfl
  · simp only [Int.lt_irrefl, if_false]; rfl
def goalsL (g : Gapi_Graph) (goal : List Bool) : List Int := ((List.range (min goal.length g.Edges.length)).filter fun i => goal[i]?.getD false).map fun (i : Nat) => (i : Int)
def goalsT (goal : List Bool) (n : Nat) : List Int := ((List.range n).filter fun i => goal[i]?.getD false).map fun (i : Nat) => (i : Int)
theorem goalsT_succ (goal : List Bool) (n : Nat) : goalsT goal (n + 1) = if goal[n]?.getD false = true then goalsT goal n ++ [(n : Int)] else goalsT goal n := by
  unfold goalsT
  rw [List.range_succ, List.filter_append, List.map_append]
  cases h : goal[n]?.getD false <;> simp [h]
theorem goalsT_len (goal : List Bool) (n : Nat) : (goalsT goal n).length ≤ n := by
  simp only [goalsT, List.length_map]
  exact Nat.le_trans (List.length_filter_le _ _) (by simp)
theorem goals1 (hf : Fit g) (goal : List Bool) (κ : List Int → Option ρ) : f_graph_goals g goal κ = κ (goalsL g goal) := by
  have he := hf.e
  simp only [f_graph_goals, F_graph_goals, mkF]
  have hm : (if g.Edges.length < goal.length then (g.Edges.length : Int) else (goal.length : Int)) = ((min goal.length g.Edges.length : Nat) : Int) := by split <;> omega
  rw [hm]
  refine (loop_run (min goal.length g.Edges.length) (fun i => ((i : Int), goalsT goal i)) ?_ (fun k => by simp only [Int.lt_irrefl, if_false])).trans ?_
  · intro i k hi
    have h1 := goalsT_len goal i
    have hg : i < goal.length := by omega
    simp only [Int.ofNat_lt, hi, if_true, Int.natCast_nonneg, getN hg, Option.bind_some, wrapS (show i < 4611686018427387904 by omega), goalsT_succ, List.getElem?_eq_getElem hg, Option.getD_some]
    cases goal[i]
    · simp
    · simp only [if_true]; rw [if_pos ⟨by omega, by omega⟩]
  · simp only [Int.lt_irrefl, if_false]; rfl
end Go.Shr
namespace Go.Shr
open Go Go.Am Go.Proofs
set_option linter.unusedSimpArgs false
set_option linter.unusedVariables false
variable {ρ : Type} {g : Gapi_Graph}
abbrev FN := List Int × List Int
def vstep (d : Nat) (s : FN) (e : Gapi_Edge) : FN :=
  match s.1[e.To.toNat]? with
  | some y => if y < 0 then (s.1.set e.To.toNat d, s.2 ++ [e.To]) else s
  | none => s
def vrow (d : Nat) (row : List Gapi_Edge) (s : FN) : FN := row.foldl (vstep d) s
def neg (far : List Int) : Nat := far.countP fun y => decide (y < 0)
theorem vstep_len (d : Nat) (s : FN) (e : Gapi_Edge) : (vstep d s e).1.length = s.1.length ∧ (vstep d s e).2.length ≤ s.2.length + 1 := by
  unfold vstep
  split
  · split <;> simp
  · simp
theorem vrow_len (d : Nat) : ∀ (row : List Gapi_Edge) (s : FN), (vrow d row s).1.length = s.1.length ∧ (vrow d row s).2.length ≤ s.2.length + row.length
  | [], s => by simp [vrow]
  | e :: row, s => by
    have h1 := vstep_len d s e
    have h2 := vrow_len d row (vstep d s e)
    simp only [vrow, List.foldl_cons, List.length_cons] at h2 ⊢
    omega
theorem vstep_count (d : Nat) (s : FN) (e : Gapi_Edge) : neg (vstep d s e).1 + (vstep d s e).2.length = neg s.1 + s.2.length := by
  unfold vstep
  split
  · rename_i y hy
    split
    · rename_i hlt
      obtain ⟨hl, he⟩ := List.getElem?_eq_some_iff.1 hy
      have h1 : (s.1.set e.To.toNat (d : Int)).countP (fun y => decide (y < 0)) = s.1.countP (fun y => decide (y < 0)) - 1 := by
        rw [List.countP_set hl]
        have h2 : decide (s.1[e.To.toNat] < 0) = true := by rw [he]; simpa using hlt
        have h3 : ¬ (d : Int) < 0 := by omega
        simp [h2, h3]
      have h4 : 0 < s.1.countP (fun y => decide (y < 0)) := List.countP_pos_iff.2 ⟨y, List.mem_of_getElem? hy, by simpa using hlt⟩
      simp only [neg, h1, List.length_append, List.length_cons, List.length_nil]
      omega
    · rfl
  · rfl
theorem vrow_count (d : Nat) : ∀ (row : List Gapi_Edge) (s : FN), neg (vrow d row s).1 + (vrow d row s).2.length = neg s.1 + s.2.length
  | [], s => rfl
  | e :: row, s => (vrow_count d row (vstep d s e)).trans (vstep_count d s e)
def visit (T : List (List Gapi_Edge)) (d : Nat) (s : FN) (x : Int) : FN := vrow d (T[x.toNat]?.getD []) s
def wave (T : List (List Gapi_Edge)) (d : Nat) (W : List Int) (s : FN) : FN := W.foldl (visit T d) s
theorem wave_count (T : List (List Gapi_Edge)) (d : Nat) : ∀ (W : List Int) (s : FN), neg (wave T d W s).1 + (wave T d W s).2.length = neg s.1 + s.2.length
  | [], s => rfl
  | x :: W, s => (wave_count T d W (visit T d s x)).trans (vrow_count d _ s)
theorem wave_len (T : List (List Gapi_Edge)) (d : Nat) : ∀ (W : List Int) (s : FN), (wave T d W s).1.length = s.1.length
  | [], s => rfl
  | x :: W, s => (wave_len T d W (visit T d s x)).trans (vrow_len d _ s).1
def prun (T : List (List Gapi_Edge)) (far W : List Int) (d : Nat) : List Int :=
  if h : W = [] then far else prun T (wave T d W (far, [])).1 (wave T d W (far, [])).2 (d + 1)
termination_by neg far + W.length
decreasing_by
  have := wave_count T d W (far, [])
  have : 0 < W.length := List.length_pos_iff.2 h
  simp only [List.length_nil] at *
  omega
theorem prun_nil {T : List (List Gapi_Edge)} {far : List Int} {d : Nat} : prun T far [] d = far := by rw [prun]; simp
theorem prun_cons {T : List (List Gapi_Edge)} {far W : List Int} {d : Nat} (h : W ≠ []) : prun T far W d = prun T (wave T d W (far, [])).1 (wave T d W (far, [])).2 (d + 1) := by rw [prun]; simp [h]
structure VI (g : Gapi_Graph) (G : List Int) (d : Nat) (s : FN) : Prop where
  len : s.1.length = g.Edges.length
  wit : ∀ (x : Nat) y, s.1[x]? = some y → y = -1 ∨ (y = 0 ∧ (x : Int) ∈ G) ∨ (0 < y ∧ y ≤ d ∧ ∃ e ∈ edgesAt g x, nodeB g e.To = true ∧ s.1[e.To.toNat]? = some (y - 1))
  nx : ∀ x ∈ s.2, nodeB g x = true ∧ s.1[x.toNat]? = some (d : Int)
def Keeps (a b : List Int) : Prop := ∀ (x : Nat) y, a[x]? = some y → 0 ≤ y → b[x]? = some y
theorem vstep_keeps (d : Nat) (s : FN) (e : Gapi_Edge) : Keeps s.1 (vstep d s e).1 := by
  intro x y hx hy
  unfold vstep
  split
  · rename_i z hz
    split
    · rename_i hlt
      simp only
      rw [List.getElem?_set_ne]
      · exact hx
      · intro h; subst h; rw [hz] at hx; simp only [Option.some.injEq] at hx; omega
    · exact hx
  · exact hx
theorem Keeps.trans {a b c : List Int} (h1 : Keeps a b) (h2 : Keeps b c) : Keeps a c := fun x y hx hy => h2 x y (h1 x y hx hy) hy
theorem Keeps.refl (a : List Int) : Keeps a a := fun x y hx _ => hx
theorem vrow_keeps (d : Nat) : ∀ (row : List Gapi_Edge) (s : FN), Keeps s.1 (vrow d row s).1
  | [], s => .refl _
  | e :: row, s => (vstep_keeps d s e).trans (vrow_keeps d row (vstep d s e))
theorem vstep_vi {G : List Int} {d : Nat} {s : FN} {e : Gapi_Edge} {a : Int} (h : VI g G (d + 1) s) (ha : nodeB g a = true) (hd : s.1[a.toNat]? = some (d : Int)) (he : nodeB g e.To = true) (hx : ∃ e' ∈ edgesAt g e.To, e'.To = a) : VI g G (d + 1) (vstep (d + 1) s e) := by
  have hk := vstep_keeps (d + 1) s e
  have hl := (vstep_len (d + 1) s e).1
  have he0 := (nodeB_iff.1 he).1
  unfold vstep at *
  split
  · rename_i y hy
    rw [hy] at hk hl
    simp only at hk hl
    split
    · rename_i hlt
      rw [if_pos hlt] at hk hl
      have hlt2 := (List.getElem?_eq_some_iff.1 hy).1
      refine ⟨by rw [hl]; exact h.len, fun x z hz => ?_, fun x hx' => ?_⟩
      · simp only at hz
        rw [List.getElem?_set] at hz
        split at hz
        · rename_i hxe
          simp only [Option.some.injEq] at hz
          subst hz
          obtain ⟨e', q1, q2⟩ := hx
          refine .inr (.inr ⟨by omega, by omega, e', ?_, by rw [q2]; exact ha, ?_⟩)
          · rwa [show ((x : Nat) : Int) = e.To by omega]
          · rw [q2]
            rw [show (((d + 1 : Nat) : Int) - 1) = (d : Int) by omega]
            exact hk _ _ hd (by omega)
        · rcases h.wit x z hz with q | q | ⟨q1, q2, e', q3, q4, q5⟩
          · exact .inl q
          · exact .inr (.inl q)
          · exact .inr (.inr ⟨q1, q2, e', q3, q4, hk _ _ q5 (by omega)⟩)
      · simp only at hx'
        rcases List.mem_append.1 hx' with hx' | hx'
        · obtain ⟨q1, q2⟩ := h.nx x hx'
          exact ⟨q1, hk _ _ q2 (by omega)⟩
        · rw [List.mem_singleton.1 hx']
          exact ⟨he, by simp only; rw [List.getElem?_set_self hlt2]⟩
    · exact h
  · exact h
theorem vrow_vi {G : List Int} {d : Nat} {a : Int} (ha : nodeB g a = true) : ∀ (row : List Gapi_Edge) (s : FN), (∀ e ∈ row, nodeB g e.To = true ∧ ∃ e' ∈ edgesAt g e.To, e'.To = a) → s.1[a.toNat]? = some (d : Int) → VI g G (d + 1) s → VI g G (d + 1) (vrow (d + 1) row s)
  | [], s, _, _, h => h
  | e :: row, s, hr, hd, h => by
    have h1 := hr e (by simp)
    exact vrow_vi ha row (vstep (d + 1) s e) (fun x hx => hr x (by simp [hx])) (vstep_keeps _ s e _ _ hd (by omega)) (vstep_vi h ha hd h1.1 h1.2)
theorem turn_row (hf : Fit g) {a : Int} (ha : nodeB g a = true) : ∃ row, (turnT g)[a.toNat]? = some row ∧ row.length ≤ 90000 ∧ ∀ e ∈ row, nodeB g e.To = true ∧ ∃ e' ∈ edgesAt g e.To, e'.To = a := by
  obtain ⟨h0, h1⟩ := nodeB_iff.1 ha
  have hl : a.toNat < (turnT g).length := by rw [turnT, tAt_len]; omega
  obtain ⟨q1, q2⟩ := tAt_ok hf g.Edges.length a.toNat _ (List.getElem?_eq_getElem hl)
  refine ⟨_, List.getElem?_eq_getElem hl, by have := hf.e; omega, fun e he => ?_⟩
  obtain ⟨a1, a2, e', a3, a4⟩ := q2 e he
  exact ⟨nodeB_iff.2 ⟨a1, a2⟩, e', a3, by omega⟩
def WOk (g : Gapi_Graph) (far : List Int) (d : Nat) (W : List Int) : Prop := ∀ x ∈ W, nodeB g x = true ∧ far[x.toNat]? = some (d : Int)
theorem WOk.keeps {far far' : List Int} {d : Nat} {W : List Int} (h : WOk g far d W) (hk : Keeps far far') : WOk g far' d W := fun x hx => ⟨(h x hx).1, hk _ _ (h x hx).2 (by omega)⟩
theorem visit_vi (hf : Fit g) {G : List Int} {d : Nat} {s : FN} {x : Int} (hx : nodeB g x = true) (hd : s.1[x.toNat]? = some (d : Int)) (h : VI g G (d + 1) s) : VI g G (d + 1) (visit (turnT g) (d + 1) s x) := by
  obtain ⟨row, r1, r2, r3⟩ := turn_row hf hx
  unfold visit
  rw [r1]
  exact vrow_vi hx row s r3 hd h
theorem wave_vi (hf : Fit g) {G : List Int} {d : Nat} : ∀ (W : List Int) (s : FN), WOk g s.1 d W → VI g G (d + 1) s → VI g G (d + 1) (wave (turnT g) (d + 1) W s)
  | [], s, _, h => h
  | x :: W, s, hw, h => wave_vi hf W (visit (turnT g) (d + 1) s x) (WOk.keeps (fun y hy => hw y (by simp [hy])) (vrow_keeps _ _ s)) (visit_vi hf (hw x (by simp)).1 (hw x (by simp)).2 h)
theorem VI.next {G : List Int} {d : Nat} {s : FN} (h : VI g G d s) : VI g G (d + 1) (s.1, []) := ⟨h.len, fun x y hx => by
  rcases h.wit x y hx with q | q | ⟨q1, q2, q3⟩
  · exact .inl q
  · exact .inr (.inl q)
  · exact .inr (.inr ⟨q1, by omega, q3⟩), fun x hx => by cases hx⟩
structure FarOk (g : Gapi_Graph) (G : List Int) (far : List Int) : Prop where
  len : far.length = g.Edges.length
  wit : ∀ (x : Nat) y, far[x]? = some y → y ≤ 1048576 ∧ (y = -1 ∨ (y = 0 ∧ (x : Int) ∈ G) ∨ (0 < y ∧ ∃ e ∈ edgesAt g x, nodeB g e.To = true ∧ far[e.To.toNat]? = some (y - 1)))
theorem prun_ok (hf : Fit g) {G : List Int} : ∀ (m : Nat) (far W : List Int) (d : Nat), neg far + W.length ≤ m → VI g G (d + 1) (far, []) → WOk g far d W → d + m ≤ 1000000 → FarOk g G (prun (turnT g) far W (d + 1))
  | m, far, W, d, hm, hv, hw, hd => by
    by_cases h : W = []
    · subst h
      rw [prun_nil]
      refine ⟨hv.len, fun x y hx => ?_⟩
      rcases hv.wit x y hx with q | q | ⟨q1, q2, q3⟩
      · exact ⟨by omega, .inl q⟩
      · exact ⟨by omega, .inr (.inl q)⟩
      · exact ⟨by omega, .inr (.inr ⟨q1, q3⟩)⟩
    · rw [prun_cons h]
      have hc := wave_count (turnT g) (d + 1) W (far, [])
      have hp : 0 < W.length := List.length_pos_iff.2 h
      simp only [List.length_nil, Nat.add_zero] at hc
      have hv2 := wave_vi hf W (far, []) hw hv
      cases m with
      | zero => omega
      | succ m => exact prun_ok hf m _ _ (d + 1) (by omega) hv2.next hv2.nx (by omega)
end Go.Shr
namespace Go.Shr
open Go Go.Am Go.Proofs
set_option linter.unusedSimpArgs false
set_option linter.unusedVariables false
variable {ρ : Type} {g : Gapi_Graph}
abbrev RS := Int × List Int × List Int
theorem row1 {row : List Gapi_Edge} {far next : List Int} {d : Nat} (hr : row.length ≤ 1048576) (hn : next.length ≤ 1048576) (h : ∀ e ∈ row, 0 ≤ e.To ∧ e.To < far.length) (K : RS → Option ρ) :
    iterC (fun (v : RS) (k : RS → Option ρ) => if v.fst < ↑row.length then if 0 ≤ v.fst then row[v.fst.toNat]?.bind fun y => if 0 ≤ y.To ∧ y.To < ↑v.snd.fst.length then v.snd.fst[y.To.toNat]?.bind fun y_1 => if y_1 < 0 then if 0 ≤ y.To ∧ y.To < ↑v.snd.fst.length then v.snd.fst[y.To.toNat]?.bind fun y_2 => if (v.snd.snd.length + 1) * 8 ≤ 140737488355328 ∧ v.snd.snd.length ≤ 9223372036854775806 then k (IntKind.i64.wrap (v.fst + 1), v.snd.fst.set y.To.toNat (d : Int), v.snd.snd ++ [y.To]) else none else none else k (IntKind.i64.wrap (v.fst + 1), v.snd.fst, v.snd.snd) else none else none else K v) (0, far, next) =
      K (row.length, (vrow d row (far, next)).1, (vrow d row (far, next)).2) := by
  refine (loop_run row.length (fun j => ((j : Int), (vrow d (row.take j) (far, next)).1, (vrow d (row.take j) (far, next)).2)) ?_ (fun k => by simp only [Int.lt_irrefl, if_false])).trans ?_
  · intro j k hj
    obtain ⟨l1, l2⟩ := vrow_len d (row.take j) (far, next)
    have hs : vrow d (row.take (j + 1)) (far, next) = vstep d (vrow d (row.take j) (far, next)) row[j] := foldl_step hj (vstep d) (far, next)
    have he := h row[j] (List.getElem_mem hj)
    have hb : row[j].To.toNat < (vrow d (row.take j) (far, next)).1.length := by rw [l1]; simp only; omega
    have hc : 0 ≤ row[j].To ∧ row[j].To < (vrow d (row.take j) (far, next)).1.length := by rw [l1]; exact he
    have hl : (vrow d (row.take j) (far, next)).2.length ≤ 2097152 := by simp only [List.length_take] at l2; omega
    simp only [Int.ofNat_lt, hj, if_true, Int.natCast_nonneg, getN hj, Option.bind_some, wrapS (show j < 4611686018427387904 by omega), hs]
    rw [if_pos hc, List.getElem?_eq_getElem hb, Option.bind_some, vstep, List.getElem?_eq_getElem hb]
    simp only
    by_cases hlt : (vrow d (row.take j) (far, next)).1[row[j].To.toNat] < 0
    · simp only [if_pos hlt, if_pos hc, Option.bind_some]
      rw [if_pos ⟨by omega, by omega⟩]
    · simp only [if_neg hlt]
  · simp only [Int.lt_irrefl, if_false, List.take_length]
def set0 (f : List Int) (i : Int) : List Int := f.set i.toNat 0
def far0 (g : Gapi_Graph) (G : List Int) : List Int := G.foldl set0 (List.replicate g.Edges.length (-1))
theorem set0_len : ∀ (G f : List Int), (G.foldl set0 f).length = f.length
  | [], f => rfl
  | i :: G, f => by rw [List.foldl_cons, set0_len G]; simp [set0]
theorem set0_get : ∀ (G f : List Int) (x : Nat) y, (∀ i ∈ G, 0 ≤ i) → (G.foldl set0 f)[x]? = some y → (y = 0 ∧ (x : Int) ∈ G) ∨ ((x : Int) ∉ G ∧ f[x]? = some y)
  | [], f, x, y, _, h => .inr ⟨by simp, h⟩
  | i :: G, f, x, y, hi, h => by
    rcases set0_get G (set0 f i) x y (fun j hj => hi j (by simp [hj])) h with ⟨q1, q2⟩ | ⟨q1, q2⟩
    · exact .inl ⟨q1, by simp [q2]⟩
    · have h0 := hi i (by simp)
      unfold set0 at q2
      rw [List.getElem?_set] at q2
      split at q2
      · rename_i hx
        split at q2
        · simp only [Option.some.injEq] at q2
          exact .inl ⟨q2.symm, by simp; left; omega⟩
        · cases q2
      · rename_i hx
        exact .inr ⟨by simp only [List.mem_cons, not_or]; exact ⟨by omega, q1⟩, q2⟩
theorem far0_len {G : List Int} : (far0 g G).length = g.Edges.length := by rw [far0, set0_len]; simp
theorem goalsL_ok (g : Gapi_Graph) (goal : List Bool) : ∀ x ∈ goalsL g goal, 0 ≤ x ∧ x < g.Edges.length ∧ goal[x.toNat]?.getD false = true := fun x hx => by
  simp only [goalsL, List.mem_map, List.mem_filter, List.mem_range] at hx
  obtain ⟨a, ⟨h1, h2⟩, rfl⟩ := hx
  exact ⟨by omega, by omega, by simpa using h2⟩
theorem goalsL_len (g : Gapi_Graph) (goal : List Bool) : (goalsL g goal).length ≤ g.Edges.length := Nat.le_trans (goalsT_len goal _) (Nat.min_le_right _ _)
theorem far0_vi {G : List Int} (hG : ∀ x ∈ G, 0 ≤ x ∧ x < g.Edges.length) : VI g G 1 (far0 g G, []) ∧ WOk g (far0 g G) 0 G := by
  have h0 : ∀ i ∈ G, 0 ≤ i := fun i hi => (hG i hi).1
  refine ⟨⟨far0_len, fun x y hx => ?_, fun x hx => by cases hx⟩, fun x hx => ?_⟩
  · rcases set0_get G _ x y h0 hx with q | ⟨_, q⟩
    · exact .inr (.inl q)
    · left
      simp only [List.getElem?_replicate] at q
      split at q
      · simpa using q.symm
      · cases q
  · obtain ⟨a, b⟩ := hG x hx
    refine ⟨nodeB_iff.2 ⟨a, b⟩, ?_⟩
    have hl : x.toNat < (far0 g G).length := by rw [far0_len]; omega
    rw [List.getElem?_eq_getElem hl]
    rcases set0_get G _ x.toNat _ h0 (List.getElem?_eq_getElem hl) with q | ⟨q, _⟩
    · exact congrArg some q.1
    · exact absurd (by rwa [show ((x.toNat : Nat) : Int) = x by omega]) q
def farS (g : Gapi_Graph) (G : List Int) : List Int := prun (turnT g) (far0 g G) G 1
theorem farS_ok (hf : Fit g) {G : List Int} (hG : ∀ x ∈ G, 0 ≤ x ∧ x < g.Edges.length) (hl : G.length ≤ g.Edges.length) : FarOk g G (farS g G) := by
  obtain ⟨h1, h2⟩ := far0_vi hG
  have he := hf.e
  have hn : neg (far0 g G) ≤ g.Edges.length := by rw [← far0_len (G := G)]; exact List.countP_le_length
  exact prun_ok hf 600 _ _ 0 (by omega) h1 h2 (by omega)
theorem fill_step (n i : Nat) (h : i < n) (a b : Int) : (List.replicate i a ++ List.replicate (n - i) b).set i a = List.replicate (i + 1) a ++ List.replicate (n - (i + 1)) b := by
  rw [List.set_append_right _ _ (by simp), show n - i = (n - (i + 1)) + 1 by omega, List.replicate_succ (n := n - (i + 1)), List.length_replicate, Nat.sub_self, List.set_cons_zero, List.replicate_succ' (n := i), List.append_assoc]
  rfl
theorem ite_both {α : Type} {c : Prop} [Decidable c] {a b x : α} (h1 : a = x) (h2 : b = x) : (if c then a else b) = x := by split <;> assumption
theorem tdiv64 : ∀ m : Nat, m < 300 → IntKind.i64.wrap ((m : Int).tdiv 64) = ((m / 64 : Nat) : Int) ∧ ¬ (m : Int).tmod 64 < 0 := by decide +kernel
theorem words64 : ∀ n : Nat, n < 301 → IntKind.i64.wrap ((IntKind.i64.wrap (IntKind.i64.wrap ((n : Int) + 64) - 1)).tdiv 64) = (((n + 63) / 64 : Nat) : Int) := by decide +kernel
theorem dist1 (hf : Fit g) {G : List Int} (hG : ∀ x ∈ G, 0 ≤ x ∧ x < g.Edges.length) (hGl : G.length ≤ g.Edges.length) (κ : List Int → Option ρ) : f_graph_distances g G κ = κ (farS g G) := by
  have he := hf.e
  simp only [f_graph_distances, F_graph_distances, mkF]
  rw [if_pos ⟨by omega, by omega⟩]
  refine (loop_runE g.Edges.length (fun i => ((i : Int), List.replicate i (-1) ++ List.replicate (g.Edges.length - i) 0)) (by simp) ?_ (fun k => by simp only [Int.lt_irrefl, if_false])).trans ?_
  · intro i k hi
    have hl : i < (List.replicate i (-1 : Int) ++ List.replicate (g.Edges.length - i) 0).length := by simp; omega
    simp only [Int.ofNat_lt, hi, if_true, Int.natCast_nonneg, hl, and_self, Int.toNat_natCast, List.getElem?_eq_getElem hl, Option.bind_some, wrapS (show i < 4611686018427387904 by omega), fill_step _ _ hi]
  simp only [Int.lt_irrefl, if_false, Nat.sub_self, List.replicate_zero, List.append_nil]
  refine (loop_runE G.length (fun i => ((i : Int), (G.take i).foldl set0 (List.replicate g.Edges.length (-1)))) (by simp) ?_ (fun k => by simp only [Int.lt_irrefl, if_false])).trans ?_
  · intro i k hi
    have hx := hG G[i] (List.getElem_mem hi)
    have hl : G[i].toNat < ((G.take i).foldl set0 (List.replicate g.Edges.length (-1))).length := by rw [set0_len, List.length_replicate]; omega
    have hc : 0 ≤ G[i] ∧ G[i] < ((G.take i).foldl set0 (List.replicate g.Edges.length (-1))).length := by rw [set0_len, List.length_replicate]; exact hx
    simp only [Int.ofNat_lt, hi, if_true, Int.natCast_nonneg, getN hi, Option.bind_some, wrapS (show i < 4611686018427387904 by omega), foldl_step hi]
    rw [if_pos hc, List.getElem?_eq_getElem hl, Option.bind_some]
    rfl
  simp only [Int.lt_irrefl, if_false, List.take_length, turn1 hf, clone1 (show G.length ≤ 1048576 by omega)]
  change (if (if (65536 : Int) < ((far0 g G).length : Nat) then (65536 : Int) else ((far0 g G).length : Nat)) < 0 then _ else _) = _
  have hmin : (if (65536 : Int) < (((far0 g G).length : Nat) : Int) then (65536 : Int) else (((far0 g G).length : Nat) : Int)) = (g.Edges.length : Int) := by rw [far0_len]; split <;> omega
  have hmin' : (if (65536 : Int) < (((List.foldl set0 (List.replicate g.Edges.length (-1)) G).length : Nat) : Int) then (65536 : Int) else (((List.foldl set0 (List.replicate g.Edges.length (-1)) G).length : Nat) : Int)) = (g.Edges.length : Int) := hmin
  rw [hmin, if_neg (by omega)]
  simp only [hmin', words64 _ (show g.Edges.length < 301 by omega)]
  rw [if_neg (by omega), if_pos ⟨by omega, by omega, by omega⟩]
  obtain ⟨v1, v2⟩ := far0_vi hG
  have hn0 : neg (far0 g G) ≤ g.Edges.length := by rw [← far0_len (G := G)]; exact List.countP_le_length
  refine iterC_rel (fun (v : Int × List Int × List Int × List Int) e => ∃ (d : Nat) (far W words : List Int), v = (((d + 1 : Nat) : Int), far, W, words) ∧ VI g G (d + 1) (far, []) ∧ WOk g far d W ∧ words.length = (g.Edges.length + 63) / 64 ∧ d + neg far ≤ 1000 + (if W = [] then 1000 else 0) ∧ W.length ≤ 1000 ∧ e = κ (prun (turnT g) far W (d + 1))) (fun v => neg v.2.1 + v.2.2.1.length) ?_ ⟨0, far0 g G, G, _, rfl, v1, v2, by simp; omega, by omega, by omega, rfl⟩
  rintro v e k ⟨d, far, W, words, rfl, hv, hw, hwl, hd, hWl, rfl⟩ hk
  simp only
  by_cases hW : W = []
  · subst hW
    rw [if_neg (by simp), prun_nil]
  have hp : 0 < W.length := List.length_pos_iff.2 hW
  rw [if_pos hp, prun_cons hW]
  rw [if_neg hW] at hd
  have hcount := wave_count (turnT g) (d + 1) W (far, [])
  simp only [List.length_nil, Nat.add_zero] at hcount
  have hvw := wave_vi hf W (far, []) hw hv
  have hneg : neg far ≤ far.length := List.countP_le_length
  have hfl := hv.len
  simp only at hfl
  refine iterC_rel (fun (v : Int × List Int × List Int × List Int) e => ∃ (j : Nat) (wds : List Int), v = ((j : Int), (wave (turnT g) (d + 1) (W.take j) (far, [])).1, (wave (turnT g) (d + 1) (W.take j) (far, [])).2, wds) ∧ j ≤ W.length ∧ wds.length = (g.Edges.length + 63) / 64 ∧ e = κ (prun (turnT g) (wave (turnT g) (d + 1) W (far, [])).1 (wave (turnT g) (d + 1) W (far, [])).2 (d + 1 + 1))) (fun v => W.length - v.1.toNat) ?_ ⟨0, words, rfl, by omega, hwl, rfl⟩
  rintro v e q ⟨j, wds, rfl, hj, hwd, rfl⟩ hq
  simp only
  by_cases hjl : j < W.length
  · have hnode := (hw W[j] (List.getElem_mem hjl)).1
    obtain ⟨row, r1, r2, r3⟩ := turn_row hf hnode
    obtain ⟨n0, n1⟩ := nodeB_iff.1 hnode
    obtain ⟨m, hm⟩ : ∃ m : Nat, W[j] = (m : Int) := ⟨W[j].toNat, by omega⟩
    have hm3 : m < 300 := by omega
    have hstep : wave (turnT g) (d + 1) (W.take (j + 1)) (far, []) = vrow (d + 1) row (wave (turnT g) (d + 1) (W.take j) (far, [])) := by
      have : wave (turnT g) (d + 1) (W.take (j + 1)) (far, []) = visit (turnT g) (d + 1) (wave (turnT g) (d + 1) (W.take j) (far, [])) W[j] := foldl_step hjl (visit (turnT g) (d + 1)) (far, [])
      rw [this, visit, r1, Option.getD_some]
    have hcj := wave_count (turnT g) (d + 1) (W.take j) (far, [])
    have hlj := wave_len (turnT g) (d + 1) (W.take j) (far, [])
    simp only [List.length_nil, Nat.add_zero] at hcj hlj
    have hrow : ∀ e ∈ row, 0 ≤ e.To ∧ e.To < (wave (turnT g) (d + 1) (W.take j) (far, [])).1.length := fun e he => by
      rw [hlj, hfl]; exact nodeB_iff.1 (r3 e he).1
    obtain ⟨t1, t2⟩ := tdiv64 m hm3
    have hwi : m / 64 < wds.length := by omega
    rw [if_pos (show (j : Int) < W.length by omega), if_pos ⟨by omega, by omega⟩, getN hjl, Option.bind_some]
    rw [hm] at r1 ⊢
    rw [if_neg (by omega), if_neg (by omega), if_pos (by omega), if_pos (by omega), t1, if_pos ⟨by omega, by omega⟩, getN hwi, Option.bind_some, if_neg t2]
    have fin : ∀ wds', wds'.length = (g.Edges.length + 63) / 64 → q (IntKind.i64.wrap ((j : Int) + 1), (vrow (d + 1) row (wave (turnT g) (d + 1) (W.take j) (far, []))).1, (vrow (d + 1) row (wave (turnT g) (d + 1) (W.take j) (far, []))).2, wds') = κ (prun (turnT g) (wave (turnT g) (d + 1) W (far, [])).1 (wave (turnT g) (d + 1) W (far, [])).2 (d + 1 + 1)) := fun wds' hwds => by
      rw [wrapS (show j < 4611686018427387904 by omega)]
      refine hq _ _ ⟨j + 1, wds', by rw [hstep], by omega, hwds, rfl⟩ ?_
      simp only [Int.toNat_natCast]; omega
    have hnx : (wave (turnT g) (d + 1) (W.take j) (far, [])).2.length ≤ 1048576 := by omega
    refine ite_both ?_ ?_
    · rw [if_pos (by omega), r1, Option.bind_some]
      exact (row1 (by omega) hnx hrow _).trans (fin wds hwd)
    · rw [if_pos ⟨by omega, by omega⟩, Option.bind_some, if_neg t2, if_pos ⟨by omega, by omega⟩, Option.bind_some, if_pos (by omega), r1, Option.bind_some]
      exact (row1 (by omega) hnx hrow _).trans (fin _ (by rw [List.length_set]; exact hwd))
  · obtain rfl : j = W.length := by omega
    rw [if_neg (by omega), List.take_length, wrapS (show d + 1 < 4611686018427387904 by omega)]
    refine hk _ _ ⟨d + 1, _, _, wds, rfl, hvw.next, hvw.nx, hwd, ?_, by omega, rfl⟩ ?_
    · by_cases h2 : (wave (turnT g) (d + 1) W (far, [])).2 = []
      · rw [if_pos h2]; omega
      · have : 0 < (wave (turnT g) (d + 1) W (far, [])).2.length := List.length_pos_iff.2 h2
        omega
    · show neg (wave (turnT g) (d + 1) W (far, [])).1 + (wave (turnT g) (d + 1) W (far, [])).2.length < neg far + W.length
      omega
end Go.Shr
namespace Go.Shr
open Go Go.Am Go.Proofs
set_option linter.unusedSimpArgs false
set_option linter.unusedVariables false
variable {ρ : Type} {g : Gapi_Graph}
end Go.Shr
namespace Go.Shr
open Go Go.Am Go.Proofs
set_option linter.unusedSimpArgs false
set_option linter.unusedVariables false
variable {ρ : Type} {g : Gapi_Graph}
def fr (far : List Int) (x : Int) : Int := (far[x.toNat]?).getD (-1)
def pickStep (g : Gapi_Graph) (far : List Int) (t y : Int) : Int :=
  if nodeB g y = true ∧ 0 ≤ fr far y ∧ (t < 0 ∨ fr far y < fr far t ∨ (fr far y = fr far t ∧ y < t)) then y else t
def nextStep (g : Gapi_Graph) (far : List Int) (t : Int) (nx : Int) (e : Gapi_Edge) : Int :=
  if nodeB g e.To = true ∧ fr far e.To = fr far t - 1 ∧ (nx < 0 ∨ e.To < nx) then e.To else nx
def nextOf (g : Gapi_Graph) (far : List Int) (t : Int) : Int := (edgesAt g t).foldl (nextStep g far t) (-1)
def chain (g : Gapi_Graph) (far : List Int) : Nat → Int → List Int
  | 0, t => [t]
  | m + 1, t => t :: chain g far m (nextOf g far t)
theorem fr_some {far : List Int} {x : Int} (hl : far.length = g.Edges.length) (hx : nodeB g x = true) : far[x.toNat]? = some (fr far x) := by
  obtain ⟨h0, h1⟩ := nodeB_iff.1 hx
  have : x.toNat < far.length := by omega
  simp [fr, this]
def PickOk (g : Gapi_Graph) (far from' : List Int) (t : Int) : Prop := t = -1 ∨ (nodeB g t = true ∧ 0 ≤ fr far t ∧ t ∈ from')
theorem pickStep_ok {far from' : List Int} {t y : Int} (h : PickOk g far from' t) (hy : y ∈ from') : PickOk g far from' (pickStep g far t y) := by
  unfold pickStep
  split
  · rename_i hc; exact .inr ⟨hc.1, hc.2.1, hy⟩
  · exact h
theorem pick_ok {far from' : List Int} : ∀ (l : List Int) (t : Int), (∀ y ∈ l, y ∈ from') → PickOk g far from' t → PickOk g far from' (l.foldl (pickStep g far) t)
  | [], t, _, h => h
  | y :: l, t, hl, h => pick_ok l _ (fun z hz => hl z (by simp [hz])) (pickStep_ok h (hl y (by simp)))
def NextOk (g : Gapi_Graph) (far : List Int) (t nx : Int) : Prop := nx = -1 ∨ (nodeB g nx = true ∧ fr far nx = fr far t - 1 ∧ ∃ e ∈ edgesAt g t, e.To = nx)
theorem nextStep_ok {far : List Int} {t nx : Int} {e : Gapi_Edge} (h : NextOk g far t nx) (he : e ∈ edgesAt g t) : NextOk g far t (nextStep g far t nx e) := by
  unfold nextStep
  split
  · rename_i hc; exact .inr ⟨hc.1, hc.2.1, e, he, rfl⟩
  · exact h
theorem next_ok {far : List Int} {t : Int} : ∀ (l : List Gapi_Edge) (nx : Int), (∀ e ∈ l, e ∈ edgesAt g t) → NextOk g far t nx → NextOk g far t (l.foldl (nextStep g far t) nx)
  | [], _, _, h => h
  | e :: l, nx, hl, h => next_ok l _ (fun x hx => hl x (by simp [hx])) (nextStep_ok h (hl e (by simp)))
theorem next_pos {far : List Int} {t : Int} : ∀ (l : List Gapi_Edge) (nx : Int), (0 ≤ nx ∨ ∃ e ∈ l, nodeB g e.To = true ∧ fr far e.To = fr far t - 1) → 0 ≤ l.foldl (nextStep g far t) nx
  | [], nx, h => by
    rcases h with h | ⟨e, he, _⟩
    · exact h
    · cases he
  | e :: l, nx, h => by
    refine next_pos l _ ?_
    by_cases hc : nodeB g e.To = true ∧ fr far e.To = fr far t - 1
    · left
      unfold nextStep
      split
      · exact (nodeB_iff.1 hc.1).1
      · rename_i hn
        simp only [hc.1, hc.2, true_and, not_or] at hn
        omega
    · have : nextStep g far t nx e = nx := by
        unfold nextStep
        rw [if_neg (fun q => hc ⟨q.1, q.2.1⟩)]
      rw [this]
      rcases h with h | ⟨x, hx, h1⟩
      · exact .inl h
      · rcases List.mem_cons.1 hx with rfl | hx
        · exact absurd h1 hc
        · exact .inr ⟨x, hx, h1⟩
theorem next_is {G far : List Int} (h : FarOk g G far) {t : Int} (ht : nodeB g t = true) (hp : 0 < fr far t) : nodeB g (nextOf g far t) = true ∧ fr far (nextOf g far t) = fr far t - 1 ∧ leadsB g t (nextOf g far t) = true := by
  have h0 : 0 ≤ nextOf g far t := by
    refine next_pos _ _ (.inr ?_)
    rcases h.wit _ _ (fr_some h.len ht) with ⟨_, q | q | ⟨_, e, q1, q2, q3⟩⟩
    · omega
    · omega
    · refine ⟨e, ?_, q2, by simp only [fr, q3, Option.getD_some]⟩
      rwa [show ((t.toNat : Nat) : Int) = t by have := (nodeB_iff.1 ht).1; omega] at q1
  rcases next_ok (far := far) (t := t) (edgesAt g t) (-1) (fun e he => he) (.inl rfl) with q | ⟨q1, q2, e, q3, q4⟩
  · have : nextOf g far t = -1 := q
    omega
  · refine ⟨q1, q2, ?_⟩
    simp only [leadsB, ht, Bool.true_and, Bool.and_eq_true]
    exact ⟨q1, List.any_eq_true.2 ⟨e, q3, decide_eq_true q4⟩⟩
theorem chain_len (far : List Int) : ∀ (m : Nat) (t : Int), (chain g far m t).length = m + 1
  | 0, _ => rfl
  | m + 1, t => by rw [chain, List.length_cons, chain_len far m]
theorem chain_head (far : List Int) (m : Nat) (t : Int) : (chain g far m t)[0]? = some t := by cases m <;> rfl
theorem chain_last {G far : List Int} (h : FarOk g G far) : ∀ (m : Nat) (t : Int), nodeB g t = true → fr far t = m → ∃ z, (chain g far m t)[m]? = some z ∧ z ∈ G ∧ nodeB g z = true
  | 0, t, ht, hm => by
    refine ⟨t, rfl, ?_, ht⟩
    rcases h.wit _ _ (fr_some h.len ht) with ⟨_, q | q | q⟩
    · omega
    · rw [show ((t.toNat : Nat) : Int) = t by have := (nodeB_iff.1 ht).1; omega] at q; exact q.2
    · omega
  | m + 1, t, ht, hm => by
    obtain ⟨n1, n2, n3⟩ := next_is h ht (by omega)
    exact chain_last h m _ n1 (by omega)
theorem chain_leads {G far : List Int} (h : FarOk g G far) : ∀ (m : Nat) (t : Int), nodeB g t = true → fr far t = m → ∀ i, i < m → ∀ a b, (chain g far m t)[i]? = some a → (chain g far m t)[i + 1]? = some b → leadsB g a b = true
  | 0, t, _, _, i, hi, _, _, _, _ => by omega
  | m + 1, t, ht, hm, i, hi, a, b, ha, hb => by
    obtain ⟨n1, n2, n3⟩ := next_is h ht (by omega)
    cases i with
    | zero =>
      simp only [chain, List.getElem?_cons_zero, Option.some.injEq, Nat.zero_add, List.getElem?_cons_succ] at ha hb
      rw [chain_head] at hb
      simp only [Option.some.injEq] at hb
      subst ha; subst hb
      exact n3
    | succ i =>
      simp only [chain, List.getElem?_cons_succ] at ha hb
      exact chain_leads h m _ n1 (by omega) i (by omega) a b ha hb
def pathS (g : Gapi_Graph) (from' : List Int) (goal : List Bool) : List Int × Bool :=
  let far := farS g (goalsL g goal)
  let t := from'.foldl (pickStep g far) (-1)
  if t < 0 then ([], false) else (chain g far (fr far t).toNat t, true)
theorem path1 (hf : Fit g) {from' : List Int} (hfr : from'.length ≤ 1048576) (goal : List Bool) (κ : List Int → Bool → Option ρ) : f_graph_Path g from' goal κ = κ (pathS g from' goal).1 (pathS g from' goal).2 := by
  have hG := fun x hx => (goalsL_ok g goal x hx)
  have hGl := goalsL_len g goal
  simp only [f_graph_Path, F_graph_Path, mkF, goals1 hf, dist1 hf (fun x hx => ⟨(hG x hx).1, (hG x hx).2.1⟩) hGl, pathS, node3]
  have hok := farS_ok hf (fun x hx => ⟨(hG x hx).1, (hG x hx).2.1⟩) hGl
  generalize hfar : farS g (goalsL g goal) = far at *
  have hS : ∀ x, nodeB g x = true → far[x.toNat]? = some (fr far x) := fun x hx => fr_some hok.len hx
  have hpk : ∀ i, PickOk g far from' ((from'.take i).foldl (pickStep g far) (-1)) := fun i => pick_ok _ _ (fun y hy => List.mem_of_mem_take hy) (.inl rfl)
  refine (loop_run from'.length (fun i => ((from'.take i).foldl (pickStep g far) (-1), (i : Int))) ?_ (fun k => by simp only [Int.lt_irrefl, if_false])).trans ?_
  · intro i k hi
    have hp := hpk i
    rw [foldl_step hi]
    generalize (from'.take i).foldl (pickStep g far) (-1) = t at hp
    simp only [Int.ofNat_lt, hi, if_true, Int.natCast_nonneg, getN hi, Option.bind_some, wrapS (show i < 4611686018427387904 by omega), pickStep]
    cases hn : nodeB g from'[i]
    · simp
    · have h0 := (nodeB_iff.1 hn).1
      simp only [if_true, h0, hS _ hn, Option.bind_some, true_and]
      by_cases hz : 0 ≤ fr far from'[i]
      · simp only [hz, if_true, true_and]
        by_cases ht : t < 0
        · simp [ht]
        · rcases hp with hp | ⟨hp1, hp2, _⟩
          · omega
          · have ht0 : 0 ≤ t := by omega
            simp only [ht, if_false, ht0, if_true, hS _ hp1, Option.bind_some, false_or]
            by_cases h1 : fr far from'[i] < fr far t
            · simp [h1]
            · by_cases h2 : fr far from'[i] = fr far t
              · by_cases h3 : from'[i] < t <;> simp [h2, h3]
              · simp [h1, h2]
      · simp [hz]
  simp only [Int.lt_irrefl, if_false, List.take_length]
  have hp := hpk from'.length
  rw [List.take_length] at hp
  generalize from'.foldl (pickStep g far) (-1) = t at hp ⊢
  by_cases ht : t < 0
  · simp only [if_pos ht]
  rw [if_neg ht, if_neg ht]
  rcases hp with hp | ⟨hp1, hp2, _⟩
  · omega
  refine iterC_rel (fun (v : Int × List Int) e => ∃ (t : Int) (pre : List Int), v = (t, pre ++ [t]) ∧ nodeB g t = true ∧ 0 ≤ fr far t ∧ (pre.length : Int) + fr far t ≤ 2097152 ∧ e = κ (pre ++ chain g far (fr far t).toNat t) true) (fun v => (fr far v.1).toNat) ?_ ⟨t, [], rfl, hp1, hp2, ?_, rfl⟩
  · rintro v e k ⟨t, pre, rfl, ht, hf0, hb, rfl⟩ hk
    have t0 := (nodeB_iff.1 ht).1
    simp only [t0, if_true, hS _ ht, Option.bind_some, edgesAt_eq ht]
    by_cases hz : fr far t = 0
    · simp [hz, chain]
    · rw [if_neg hz]
      have hle := edgesAt_len hf t
      obtain ⟨n1, n2, n3⟩ := next_is hok ht (by omega)
      have hw : IntKind.i64.wrap (fr far t - 1) = fr far t - 1 := wrap64 (by omega) (by omega)
      refine (loop_run (edgesAt g t).length (fun i => (((edgesAt g t).take i).foldl (nextStep g far t) (-1), (i : Int))) ?_ (fun k => by simp only [Int.lt_irrefl, if_false])).trans ?_
      · intro i q hi
        rw [foldl_step hi]
        generalize ((edgesAt g t).take i).foldl (nextStep g far t) (-1) = nx
        simp only [Int.ofNat_lt, hi, if_true, Int.natCast_nonneg, getN hi, Option.bind_some, wrapS (show i < 4611686018427387904 by omega), nextStep]
        cases hn : nodeB g (edgesAt g t)[i].To
        · simp
        · have h0 := (nodeB_iff.1 hn).1
          simp only [if_true, h0, hS _ hn, Option.bind_some, true_and, hw]
          by_cases h1 : fr far (edgesAt g t)[i].To = fr far t - 1
          · by_cases h2 : nx < 0
            · simp [h1, h2]
            · by_cases h3 : (edgesAt g t)[i].To < nx <;> simp [h1, h2, h3]
          · simp [h1]
      · simp only [Int.lt_irrefl, if_false, List.take_length]
        rw [if_pos (show _ ∧ _ from ⟨by simp; omega, by simp; omega⟩)]
        refine hk _ _ ⟨nextOf g far t, pre ++ [t], rfl, n1, by omega, by simp; omega, ?_⟩ ?_
        · rw [n2, show (fr far t).toNat = (fr far t - 1).toNat + 1 by omega, chain, List.append_assoc]
          rfl
        · show (fr far (nextOf g far t)).toNat < (fr far t).toNat
          omega
  · have := (hok.wit _ _ (hS _ hp1)).1
    simp; omega
structure WayOk (g : Gapi_Graph) (from' : List Int) (goal : List Bool) (way : List Int) : Prop where
  len : 0 < way.length ∧ way.length ≤ 2097152
  first : ∃ x ∈ from', way[0]? = some x
  last : ∃ z, way[way.length - 1]? = some z ∧ goal[z.toNat]?.getD false = true ∧ nodeB g z = true
  leads : ∀ i, i + 1 < way.length → ∀ a b, way[i]? = some a → way[i + 1]? = some b → leadsB g a b = true
theorem path_ok (hf : Fit g) (from' : List Int) (goal : List Bool) (h : (pathS g from' goal).2 = true) : WayOk g from' goal (pathS g from' goal).1 := by
  have hG := fun x hx => (goalsL_ok g goal x hx)
  have hGl := goalsL_len g goal
  have hok := farS_ok hf (fun x hx => ⟨(hG x hx).1, (hG x hx).2.1⟩) hGl
  unfold pathS at h ⊢
  generalize hfar : farS g (goalsL g goal) = far at *
  simp only at h ⊢
  have hp : PickOk g far from' (from'.foldl (pickStep g far) (-1)) := pick_ok _ _ (fun y hy => hy) (.inl rfl)
  generalize from'.foldl (pickStep g far) (-1) = t at hp h ⊢
  by_cases ht : t < 0
  · rw [if_pos ht] at h; cases h
  rw [if_neg ht]
  rcases hp with hp | ⟨hp1, hp2, hp3⟩
  · omega
  have hm : fr far t = ((fr far t).toNat : Nat) := by omega
  have hb := (hok.wit _ _ (fr_some hok.len hp1)).1
  refine ⟨?_, ⟨t, hp3, chain_head _ _ _⟩, ?_, ?_⟩
  · simp only [chain_len]; omega
  · obtain ⟨z, z1, z2, z3⟩ := chain_last hok _ t hp1 hm
    exact ⟨z, by simp only [chain_len, Nat.add_sub_cancel]; exact z1, (hG z z2).2.2, z3⟩
  · intro i hi a b ha hb
    simp only [chain_len] at hi
    exact chain_leads hok _ t hp1 hm i (by omega) a b ha hb
end Go.Shr
namespace Go.Shr
open Go Go.Am Go.Proofs
set_option linter.unusedSimpArgs false
set_option linter.unusedVariables false
variable {ρ : Type} {g : Gapi_Graph}
theorem imms_eI : ∀ l : List Int, T.imms (tl eI l) = true
  | [] => rfl
  | a :: l => by
    have := imms_eI l
    simp only [tl, List.map_cons, T.imms, T.imm, eI, D.imm, Bool.true_and] at this ⊢
    exact this
noncomputable def canCut (g : Gapi_Graph) (sets : List (List Bool)) (stem loop : List Int) (i k : Nat) : Bool := decide (loop[k]? = loop[i]?) && isB g sets stem (cutL loop i k)
noncomputable def inn (g : Gapi_Graph) (sets : List (List Bool)) (stem loop : List Int) (i : Nat) : Option Nat := (List.range loop.length).reverse.find? fun k => decide (i < k) && canCut g sets stem loop i k
noncomputable def firstCut (g : Gapi_Graph) (sets : List (List Bool)) (stem loop : List Int) : Option (Nat × Nat) := (List.range loop.length).findSome? fun i => (inn g sets stem loop i).map fun k => (i, k)
theorem inn_spec {sets : List (List Bool)} {stem loop : List Int} {i k : Nat} (h : inn g sets stem loop i = some k) : i < k ∧ k < loop.length ∧ loop[k]? = loop[i]? ∧ isB g sets stem (cutL loop i k) = true := by
  have h1 := List.find?_some h
  have h2 := List.mem_of_find?_eq_some h
  simp only [canCut, Bool.and_eq_true, decide_eq_true_eq] at h1
  simp only [List.mem_reverse, List.mem_range] at h2
  exact ⟨h1.1, h2, h1.2.1, h1.2.2⟩
theorem firstCut_spec {sets : List (List Bool)} {stem loop : List Int} {i k : Nat} (h : firstCut g sets stem loop = some (i, k)) : i < k ∧ k < loop.length ∧ loop[k]? = loop[i]? ∧ isB g sets stem (cutL loop i k) = true := by
  obtain ⟨a, _, ha⟩ := List.exists_of_findSome?_eq_some h
  simp only [Option.map_eq_some_iff, Prod.mk.injEq] at ha
  obtain ⟨k', h1, rfl, rfl⟩ := ha
  exact inn_spec h1
theorem cutL_len {loop : List Int} {i k : Nat} (h1 : i < k) (h2 : k < loop.length) : (cutL loop i k).length < loop.length := by simp [cutL]; omega
noncomputable def nrm (g : Gapi_Graph) (sets : List (List Bool)) (stem loop : List Int) : List Int :=
  match h : firstCut g sets stem loop with
  | none => loop
  | some p => nrm g sets stem (cutL loop p.1 p.2)
termination_by loop.length
decreasing_by
  have := firstCut_spec (i := p.1) (k := p.2) h
  exact cutL_len this.1 this.2.1
theorem nrm_none {sets : List (List Bool)} {stem loop : List Int} (h : firstCut g sets stem loop = none) : nrm g sets stem loop = loop := by
  rw [nrm]; split <;> simp_all
theorem nrm_some {sets : List (List Bool)} {stem loop : List Int} {i k : Nat} (h : firstCut g sets stem loop = some (i, k)) : nrm g sets stem loop = nrm g sets stem (cutL loop i k) := by
  rw [nrm]; split <;> simp_all
theorem nrm_ok {sets : List (List Bool)} {stem : List Int} : ∀ (n : Nat) (loop : List Int), loop.length ≤ n → isP g sets stem loop → isP g sets stem (nrm g sets stem loop) ∧ (nrm g sets stem loop).length ≤ loop.length
  | 0, loop, hn, h => by
    have : loop = [] := List.length_eq_zero_iff.1 (by omega)
    exact absurd this h.1
  | n + 1, loop, hn, h => by
    cases hc : firstCut g sets stem loop with
    | none => rw [nrm_none hc]; exact ⟨h, Nat.le_refl _⟩
    | some p =>
      obtain ⟨i, k⟩ := p
      obtain ⟨h1, h2, h3, h4⟩ := firstCut_spec hc
      have hl := cutL_len h1 h2
      rw [nrm_some hc]
      obtain ⟨q1, q2⟩ := nrm_ok n (cutL loop i k) (by omega) (isB_iff.1 h4)
      exact ⟨q1, by omega⟩
theorem first_get {sets : List (List Bool)} {stem loop : List Int} {r : Nat → Nat → Option ρ} {fin : Option ρ} : ((List.range loop.length).findSome? fun i => (inn g sets stem loop i).map fun k => r i k).getD fin = match firstCut g sets stem loop with | some p => r p.1 p.2 | none => fin := by
  unfold firstCut
  generalize List.range loop.length = l
  induction l with
  | nil => rfl
  | cons a l ih =>
    rw [List.findSome?_cons, List.findSome?_cons]
    cases inn g sets stem loop a with
    | none => exact ih
    | some k => rfl
theorem find_cast (l : List Nat) (P : Int → Bool) : (l.map fun (j : Nat) => (j : Int)).reverse.find? P = (l.reverse.find? fun (j : Nat) => P (j : Int)).map fun (j : Nat) => (j : Int) := by
  rw [← List.map_reverse, List.find?_map]; rfl
def goalOf (n : Nat) (loop : List Int) : List Bool := loop.foldl (fun f x => f.set x.toNat true) (List.replicate n false)
theorem mark_len : ∀ (l : List Int) (f : List Bool), (l.foldl (fun f (x : Int) => f.set x.toNat true) f).length = f.length
  | [], _ => rfl
  | x :: l, f => by rw [List.foldl_cons, mark_len l]; simp
theorem mark_get : ∀ (l : List Int) (f : List Bool) (x : Nat), (∀ y ∈ l, 0 ≤ y) → (l.foldl (fun f (x : Int) => f.set x.toNat true) f)[x]?.getD false = true → (x : Int) ∈ l ∨ f[x]?.getD false = true
  | [], _, _, _, h => .inr h
  | y :: l, f, x, hp, h => by
    rcases mark_get l (f.set y.toNat true) x (fun z hz => hp z (by simp [hz])) h with q | q
    · exact .inl (by simp [q])
    · rw [List.getElem?_set] at q
      split at q
      · have := hp y (by simp)
        left; simp; left; omega
      · exact .inr q
theorem goalOf_mem {n : Nat} {loop : List Int} (hp : ∀ y ∈ loop, 0 ≤ y) {x : Int} (hx : 0 ≤ x) (h : (goalOf n loop)[x.toNat]?.getD false = true) : x ∈ loop := by
  rcases mark_get loop _ x.toNat hp h with q | q
  · rwa [show ((x.toNat : Nat) : Int) = x by omega] at q
  · simp only [List.getElem?_replicate] at q
    split at q <;> simp at q
def fidx (z : Int) : List Int → Nat
  | [] => 0
  | a :: l => if a = z then 0 else fidx z l + 1
theorem fidx_spec {z : Int} : ∀ {l : List Int}, z ∈ l → fidx z l < l.length ∧ l[fidx z l]? = some z ∧ ∀ i, i < fidx z l → l[i]? ≠ some z
  | [], h => by cases h
  | a :: l, h => by
    unfold fidx
    by_cases ha : a = z
    · rw [if_pos ha]; subst ha; exact ⟨by simp, by simp, fun i hi => by omega⟩
    · rw [if_neg ha]
      obtain ⟨h1, h2, h3⟩ := fidx_spec (l := l) (by rcases List.mem_cons.1 h with q | q; exact absurd q.symm ha; exact q)
      refine ⟨by simp; omega, by simpa using h2, fun i hi => ?_⟩
      cases i with
      | zero => simpa using ha
      | succ i => simpa using h3 i (by omega)
theorem index1 {l : List Int} (hl : l.length ≤ 1048576) {z : Int} (h : z ∈ l) (κ : Int → Option ρ) : f_slices_Index_sint_int l z κ = κ (fidx z l) := by
  obtain ⟨h1, h2, h3⟩ := fidx_spec h
  simp only [f_slices_Index_sint_int, F_slices_Index_sint_int, mkF]
  refine iterC_runE (fidx z l) (fun i => (i : Int)) rfl ?_ ?_
  · intro i k hi
    have hil : i < l.length := by omega
    simp only [Int.ofNat_lt, hil, if_true, Int.natCast_nonneg, getN hil, Option.bind_some, wrapS (show i < 4611686018427387904 by omega)]
    rw [if_neg (fun e => h3 i hi (by rw [List.getElem?_eq_getElem hil, e]))]
  · intro k
    simp only [Int.ofNat_lt, h1, if_true, Int.natCast_nonneg, Int.toNat_natCast, h2, Option.bind_some]
def rotL (l : List Int) (t : Nat) : List Int := l.drop t ++ l.take t
theorem rotL_len (l : List Int) (t : Nat) (h : t ≤ l.length) : (rotL l t).length = l.length := by simp [rotL]; omega
theorem turned1 {l : List Int} (hl : l.length ≤ 1048576) {t : Nat} (ht : t ≤ l.length) (κ : List Int → Option ρ) : f_short_turned_int l t κ = κ (rotL l t) := by
  have e1 : List.take (l.length - t) (l.drop t) = l.drop t := List.take_of_length_le (by simp)
  have h1 : (l.drop t).length ≤ 1048576 := by simp; omega
  simp only [f_short_turned_int, F_short_turned_int, mkF, Int.natCast_nonneg, if_true, Int.ofNat_le, ht, Int.toNat_natCast, e1, clone1 h1]
  rw [if_pos, if_pos]
  · rfl
  · simp only [List.length_drop]; omega
  · left
    by_cases h2 : l.drop t = []
    · right; rw [h2]; rfl
    · left; exact h2
theorem rotL_get {l : List Int} {t n : Nat} (ht : t < l.length) (hn : n < l.length) : (rotL l t)[n]? = l[(t + n) % l.length]? := by
  unfold rotL
  by_cases h : n < l.length - t
  · rw [List.getElem?_append_left (by simp; omega), List.getElem?_drop, Nat.mod_eq_of_lt (by omega)]
  · rw [List.getElem?_append_right (by simp; omega), List.getElem?_take_of_lt (by simp; omega), List.length_drop]
    congr 1
    rw [Nat.mod_eq_sub_mod (by omega), Nat.mod_eq_of_lt (by omega)]
    omega
end Go.Shr
namespace Go.Shr
open Go Go.Am Go.Proofs
set_option linter.unusedSimpArgs false
set_option linter.unusedVariables false
variable {ρ : Type} {g : Gapi_Graph}
theorem find_congr {α : Type} {p q : α → Bool} : ∀ {l : List α}, (∀ x ∈ l, p x = q x) → l.find? p = l.find? q
  | [], _ => rfl
  | a :: l, h => by rw [List.find?_cons, List.find?_cons, h a (by simp), find_congr fun x hx => h x (by simp [hx])]
def lassoT (g : Gapi_Graph) (stem L : List Int) : List Int × List Int :=
  if (pathS g g.Init (goalOf g.Edges.length L)).2 = true ∧ (pathS g g.Init (goalOf g.Edges.length L)).1.length ≤ stem.length then
    ((pathS g g.Init (goalOf g.Edges.length L)).1.take ((pathS g g.Init (goalOf g.Edges.length L)).1.length - 1), rotL L (fidx ((pathS g g.Init (goalOf g.Edges.length L)).1[(pathS g g.Init (goalOf g.Edges.length L)).1.length - 1]?.getD 0) L))
  else (stem, L)
noncomputable def lassoS (g : Gapi_Graph) (sets : List (List Bool)) (stem loop : List Int) : List Int × List Int := if isB g sets stem loop = false then (stem, loop) else lassoT g stem (nrm g sets stem loop)
theorem mark_step {n : Nat} {L : List Int} {i : Nat} (h : i < L.length) : goalOf n (L.take (i + 1)) = (goalOf n (L.take i)).set L[i].toNat true := foldl_step h (fun (f : List Bool) (x : Int) => f.set x.toNat true) _
theorem goalOf_len (n : Nat) (L : List Int) : (goalOf n L).length = n := by rw [goalOf, mark_len]; simp
theorem way_last {L way : List Int} (hL : ∀ x ∈ L, nodeB g x = true) (h : WayOk g g.Init (goalOf g.Edges.length L) way) : ∃ z, way[way.length - 1]? = some z ∧ z ∈ L ∧ nodeB g z = true := by
  obtain ⟨z, z1, z2, z3⟩ := h.last
  exact ⟨z, z1, goalOf_mem (fun y hy => (nodeB_iff.1 (hL y hy)).1) (nodeB_iff.1 z3).1 z2, z3⟩
theorem wrapL {n : Nat} (h0 : 0 < n) (h : n ≤ 2097152) : IntKind.i64.wrap ((n : Int) - 1) = ((n - 1 : Nat) : Int) := wrapP h0 (by omega)
theorem lasso1 (hf : Fit g) {sets : List (List Bool)} {stem loop : List Int} (hs : sets.length ≤ 1048576) (h1 : stem.length ≤ 300) (h2 : loop.length ≤ 40) (κ : List Int → List Int → Option ρ) : f_short_Lasso g sets ⟨stem, loop⟩ κ = κ (lassoS g sets stem loop).1 (lassoS g sets stem loop).2 := by
  have he := hf.e
  simp only [f_short_Lasso, F_short_Lasso, mkF, clone1 (show stem.length ≤ 1048576 by omega), clone1 (show loop.length ≤ 1048576 by omega), is1 hf hs (show stem.length ≤ 1048576 by omega) (show loop.length ≤ 1048576 by omega), lassoS, imms_eI, if_true]
  cases hB : isB g sets stem loop
  · simp
  simp only [Bool.true_eq_false, if_false]
  refine iterC_rel (fun (cur : List Int) e => isP g sets stem cur ∧ cur.length ≤ 40 ∧ e = κ (lassoT g stem (nrm g sets stem cur)).1 (lassoT g stem (nrm g sets stem cur)).2) (fun cur => cur.length) ?_ ⟨isB_iff.1 hB, h2, rfl⟩
  rintro cur e k ⟨hP, hl, rfl⟩ hk
  have hnode : ∀ x ∈ cur, nodeB g x = true := fun x hx => isP_nodes hP x (List.mem_append_right _ hx)
  have hn3 : ∀ x ∈ cur, 0 ≤ x ∧ x < 300 := fun x hx => by have := nodeB_iff.1 (hnode x hx); omega
  rw [keys1 (by omega) hn3]
  have hks : (cur.map keyI).length = cur.length := by simp
  have hkg : ∀ i (h : i < cur.length), (cur.map keyI)[i]? = some (keyI cur[i]) := fun i h => by simp [h]
  refine (loop_runE (cur.map keyI).length (fun i => ((i : Int), plc (cur.map keyI) i)) (by simp [plc]) ?_ (fun k => by simp only [Int.lt_irrefl, if_false])).trans ?_
  · intro i q hi
    rw [hks] at hi
    have hpl := posn_len (cur.map keyI) i (keyI cur[i])
    simp only [hks, Int.ofNat_lt, hi, if_true, Int.natCast_nonneg, Int.toNat_natCast, hkg i hi, Option.bind_some, wrapS (show i < 4611686018427387904 by omega), plc_val]
    rw [if_pos ⟨by omega, by omega⟩]
    simp only [plc, hkg i hi, Option.getD_some, plc_val]
  simp only [Int.lt_irrefl, if_false, hks, plc_val]
  refine (loop_find cur.length (fun i => ((i : Int), decide (0 < i))) (fun i => (inn g sets stem cur i).map fun m => k (cutL cur i m)) ?_ (fun k => by simp only [Int.lt_irrefl, if_false])).trans ?_
  · intro i k2 hi
    have hb : decide (0 < i + 1) = true := by simp
    simp only [Int.ofNat_lt, hi, if_true, Int.natCast_nonneg, Int.toNat_natCast, hkg i hi, Option.bind_some, wrapS (show i < 4611686018427387904 by omega), hb]
    have hLl := posn_len (cur.map keyI) cur.length (keyI cur[i])
    have hmem : ∀ y ∈ posn (cur.map keyI) cur.length (keyI cur[i]), ∃ m : Nat, y = m ∧ m < cur.length := fun y hy => by
      simp only [posn, List.mem_map, List.mem_filter, List.mem_range] at hy
      obtain ⟨m, ⟨hm, _⟩, rfl⟩ := hy
      exact ⟨m, rfl, hm⟩
    refine (loop_down (posn (cur.map keyI) cur.length (keyI cur[i])) (by omega) (i : Int) (fun y => isB g sets stem (cutL cur i y.toNat)) (fun y => k (cutL cur i y.toNat)) (k2 (((i + 1 : Nat) : Int), true)) ?_ ?_).trans ?_
    · intro j q hj
      obtain ⟨m, hm, hml⟩ := hmem _ (List.getElem_mem hj)
      simp only [Int.natCast_nonneg, if_true, Int.toNat_natCast, List.getElem?_eq_getElem hj, Option.bind_some, hm, Int.ofNat_lt]
      by_cases him : i < m
      · have hcl : (cutL cur i m).length ≤ 1048576 := by have := cutL_len him hml; omega
        simp only [if_pos him, cut1 (show cur.length ≤ 1048576 by omega) (show i ≤ cur.length by omega) (show m ≤ cur.length by omega), is1 hf hs (show stem.length ≤ 1048576 by omega) hcl, if_neg (show ¬ (i : Int) < 0 by omega)]
        exact ite_both rfl rfl
      · simp only [if_neg him]
    · intro q
      exact if_neg (by omega)
    · have hdesc : (posn (cur.map keyI) cur.length (keyI cur[i])).reverse.Pairwise (· > ·) := by
        rw [List.pairwise_reverse, posn, List.pairwise_map]
        exact (List.Pairwise.filter _ List.pairwise_lt_range).imp (fun h => by simp only [gt_iff_lt]; omega)
      have hfind : (posn (cur.map keyI) cur.length (keyI cur[i])).reverse.find? (fun y => decide ((i : Int) < y) && isB g sets stem (cutL cur i y.toNat)) = (inn g sets stem cur i).map fun (m : Nat) => (m : Int) := by
        rw [posn, find_cast, inn, ← List.filter_reverse, List.find?_filter]
        congr 1
        refine find_congr fun j hj => ?_
        have hjl : j < cur.length := by simpa using hj
        simp only [canCut, hkg j hjl, Option.getD_some, List.getElem?_eq_getElem hjl, List.getElem?_eq_getElem hi, Option.some.injEq, Int.toNat_natCast, Int.ofNat_lt]
        have := keyI_inj (hn3 cur[j] (List.getElem_mem hjl)) (hn3 cur[i] (List.getElem_mem hi))
        rw [decide_eq_decide.2 this]
        cases decide (cur[j] = cur[i]) <;> cases decide (i < j) <;> simp
      rw [srch_find _ hdesc, hfind]
      cases inn g sets stem cur i with
      | none => rfl
      | some m => simp
  rw [first_get (r := fun i m => k (cutL cur i m))]
  cases hc : firstCut g sets stem cur with
  | some p =>
    obtain ⟨i, j⟩ := p
    obtain ⟨c1, c2, c3, c4⟩ := firstCut_spec hc
    have hcl := cutL_len c1 c2
    rw [nrm_some hc]
    exact hk _ _ ⟨isB_iff.1 c4, Nat.le_trans (Nat.le_of_lt hcl) hl, rfl⟩ hcl
  | none =>
    rw [nrm_none hc]
    simp only [Int.lt_irrefl, if_false]
    rw [if_pos ⟨by omega, by omega⟩]
    refine (loop_run cur.length (fun i => ((i : Int), goalOf g.Edges.length (cur.take i))) ?_ (fun k => by simp only [Int.lt_irrefl, if_false])).trans ?_
    · intro i q hi
      obtain ⟨n0, n1⟩ := nodeB_iff.1 (hnode _ (List.getElem_mem hi))
      have hb : cur[i].toNat < (goalOf g.Edges.length (cur.take i)).length := by rw [goalOf_len]; omega
      have hb2 : cur[i] < (goalOf g.Edges.length (cur.take i)).length := by rw [goalOf_len]; exact n1
      simp only [Int.ofNat_lt, hi, if_true, Int.natCast_nonneg, and_self, getN hi, Option.bind_some, wrapS (show i < 4611686018427387904 by omega), n0, hb2, List.getElem?_eq_getElem hb, mark_step hi]
    simp only [Int.lt_irrefl, if_false, List.take_length, path1 hf hf.i, lassoT]
    have hok := path_ok hf g.Init (goalOf g.Edges.length cur)
    generalize pathS g g.Init (goalOf g.Edges.length cur) = P at hok ⊢
    obtain ⟨way, b⟩ := P
    simp only at hok ⊢
    cases b
    · simp
    have hw := hok rfl
    obtain ⟨z, z1, z2, z3⟩ := way_last hnode hw
    obtain ⟨f1, f2, f3⟩ := fidx_spec z2
    simp only [if_true, true_and]
    have hwS : IntKind.i64.wrap ((stem.length : Int) + 1) = ((stem.length + 1 : Nat) : Int) := wrapS (by omega)
    by_cases hlen : way.length ≤ stem.length
    · have hwl := wrapL hw.len.1 hw.len.2
      rw [if_pos (by rw [hwS]; omega), if_pos hlen]
      simp only [hwl, Int.natCast_nonneg, if_true, Int.toNat_natCast, z1, Option.bind_some, index1 (show cur.length ≤ 1048576 by omega) z2, turned1 (show cur.length ≤ 1048576 by omega) (show fidx z cur ≤ cur.length by omega), Option.getD_some]
      rw [if_pos (by omega)]
    · rw [if_neg (by rw [hwS]; omega), if_neg hlen]
end Go.Shr
namespace Go.Shr
open Go Go.Am Go.Proofs
set_option linter.unusedSimpArgs false
set_option linter.unusedVariables false
variable {ρ : Type} {g : Gapi_Graph}
theorem same1 {a b : List Int} (ha : a.length ≤ 2097152) (κ : Bool → Option ρ) : f_r01_Same a b κ = κ (decide (a = b)) := by
  simp only [f_r01_Same, F_r01_Same, mkF]
  by_cases hl : a.length = b.length
  · rw [if_pos (by omega)]
    refine (loop_all a.length (fun i => (i : Int)) (fun i => decide (a[i]? = b[i]?)) (κ false) ?_ (fun k => by simp only [Int.lt_irrefl, if_false])).trans ?_
    · intro i k hi
      have hb : i < b.length := by omega
      simp only [Int.ofNat_lt, hi, if_true, Int.natCast_nonneg, Int.toNat_natCast, List.getElem?_eq_getElem hi, List.getElem?_eq_getElem hb, Option.bind_some, wrapS (show i < 4611686018427387904 by omega), Option.some.injEq, decide_eq_true_eq]
    · simp only [Int.lt_irrefl, if_false, decide_eq_true_eq]
      by_cases h : a = b
      · subst h; simp
      · rw [if_neg, decide_eq_false h]
        intro hh
        refine h (List.ext_getElem? fun i => ?_)
        by_cases hi : i < a.length
        · exact hh i hi
        · rw [List.getElem?_eq_none (by omega), List.getElem?_eq_none (by omega)]
  · rw [if_neg (by omega), decide_eq_false (fun e => hl (by rw [e]))]
def sumE (l : List (List Gapi_Edge)) : Nat := (l.map List.length).sum
theorem len_sumE {l : List (List Gapi_Edge)} {x : List Gapi_Edge} (h : x ∈ l) : x.length ≤ sumE l := by
  induction l with
  | nil => simp at h
  | cons a r ih =>
    simp only [sumE, List.map_cons, List.sum_cons] at ih ⊢
    rcases List.mem_cons.1 h with rfl | h
    · omega
    · have := ih h; omega
theorem sumE_take {l : List (List Gapi_Edge)} {i : Nat} (h : i < l.length) : sumE (l.take (i + 1)) = sumE (l.take i) + (l[i]).length := by
  rw [sumE, take_step h, List.map_append, List.sum_append]
  simp [sumE]
theorem sumE_le (l : List (List Gapi_Edge)) (i : Nat) : sumE (l.take i) ≤ sumE l := by
  have : sumE l = sumE (l.take i) + sumE (l.drop i) := by
    conv => lhs; rw [← List.take_append_drop i l]
    simp only [sumE, List.map_append, List.sum_append]
  omega
structure Big (g : Gapi_Graph) (sets : List (List Bool)) (stem loop : List Int) : Prop where
  e : g.Edges.length ≤ 1048576
  s : sumE g.Edges ≤ 1048576
  i : g.Init.length ≤ 1048576
  l : g.Labels.length ≤ 1048576
  t : sets.length ≤ 1048576
  a : stem.length ≤ 1048576
  b : loop.length ≤ 1048576
def farB (g : Gapi_Graph) (stem loop : List Int) : Bool := decide (300 < g.Edges.length + stem.length + loop.length + sumE g.Edges) || decide (40 < loop.length)
theorem farLaw {sets : List (List Bool)} {stem loop : List Int} (h : Big g sets stem loop) (κ : Bool → Option ρ) : f_law46_far g ⟨stem, loop⟩ κ = κ (farB g stem loop) := by
  have h1 := h.e; have h2 := h.s; have h3 := h.a; have h4 := h.b
  simp only [f_law46_far, F_law46_far, mkF]
  refine (loop_runE g.Edges.length (fun i => (((g.Edges.length + stem.length + loop.length + sumE (g.Edges.take i) : Nat) : Int), (i : Int))) ?_ ?_ (fun k => by simp only [Int.lt_irrefl, if_false])).trans ?_
  · rw [wrap64 (x := (g.Edges.length : Int) + stem.length) (by omega) (by omega), wrap64 (by omega) (by omega)]
    simp [sumE]
  · intro i k hi
    have h5 := sumE_le g.Edges (i + 1)
    have h6 := sumE_take hi
    simp only [Int.ofNat_lt, hi, if_true, Int.natCast_nonneg, Int.toNat_natCast, List.getElem?_eq_getElem hi, Option.bind_some, wrapS (show i < 4611686018427387904 by omega)]
    rw [wrap64 (by omega) (by omega), h6]
    congr 2
    omega
  · simp only [Int.lt_irrefl, if_false, List.take_length, farB]
    by_cases h7 : 300 < g.Edges.length + stem.length + loop.length + sumE g.Edges
    · rw [if_pos (by omega), decide_eq_true h7, Bool.true_or]
    · rw [if_neg (by omega), decide_eq_false h7, Bool.false_or]
      congr 1
      exact decide_eq_decide.2 (by omega)
theorem fit_of {sets : List (List Bool)} {stem loop : List Int} (h : Big g sets stem loop) (hn : farB g stem loop = false) : Fit g ∧ stem.length ≤ 300 ∧ loop.length ≤ 40 := by
  simp only [farB, Bool.or_eq_false_iff, decide_eq_false_iff_not, Nat.not_lt] at hn
  exact ⟨⟨by omega, fun x hx => by have := len_sumE hx; omega, h.i, h.l⟩, by omega, by omega⟩
theorem isP_loop {sets : List (List Bool)} {stem L : List Int} (h : isP g sets stem L) {a : Nat} {x y : Int} (hx : L[a]? = some x) (hy : L[(a + 1) % L.length]? = some y) : leadsB g x y = true := by
  have ha := (List.getElem?_eq_some_iff.1 hx).1
  refine h.2.2.1 (stem.length + a) (by simp; omega) x y ?_ ?_
  · rw [List.getElem?_append_right (by omega), Nat.add_sub_cancel_left]; exact hx
  · by_cases h1 : a + 1 < L.length
    · rw [Nat.mod_eq_of_lt h1] at hy
      rw [List.getElem?_append_left (by simp; omega), List.getElem?_append_right (by omega), show stem.length + a + 1 - stem.length = a + 1 by omega]
      exact hy
    · have : a + 1 = L.length := by omega
      rw [this, Nat.mod_self] at hy
      rw [List.getElem?_append_right (by simp; omega), show stem.length + a + 1 - (stem ++ L).length = 0 by simp; omega, List.getElem?_take_of_lt (by omega)]
      exact hy
theorem isP_of {sets : List (List Bool)} {stem L : List Int} (h0 : L ≠ []) (h1 : ∃ x ∈ g.Init, (stem ++ L)[0]? = some x) (h2 : ∀ i, i < stem.length → ∀ a b, (stem ++ L)[i]? = some a → (stem ++ L)[i + 1]? = some b → leadsB g a b = true)
    (h3 : ∀ a x y, L[a]? = some x → L[(a + 1) % L.length]? = some y → leadsB g x y = true) (h4 : ∀ s ∈ sets, ∃ x ∈ L, hasB s x = true) : isP g sets stem L := by
  have hp : 0 < L.length := List.length_pos_iff.2 h0
  refine ⟨h0, h1, fun i hi a b ha hb => ?_, h4⟩
  by_cases hs : i < stem.length
  · rw [List.getElem?_append_left (by simp; omega)] at hb
    exact h2 i hs a b ha hb
  · have hl : i - stem.length < L.length := by simp at hi; omega
    rw [List.getElem?_append_right (by omega)] at ha
    refine h3 (i - stem.length) a b ha ?_
    by_cases he : i - stem.length + 1 < L.length
    · rw [List.getElem?_append_left (by simp; omega), List.getElem?_append_right (by omega)] at hb
      rw [Nat.mod_eq_of_lt he, ← hb]
      congr 1; omega
    · rw [List.getElem?_append_right (by simp; omega), List.getElem?_take_of_lt (by simp; omega)] at hb
      rw [show i - stem.length + 1 = L.length by omega, Nat.mod_self, ← hb]
      congr 1; simp; omega
theorem rotL_mem {L : List Int} {t : Nat} {x : Int} : x ∈ rotL L t ↔ x ∈ L := by
  unfold rotL
  rw [List.mem_append, or_comm, ← List.mem_append, List.take_append_drop]
theorem lassoT_ok (hf : Fit g) {sets : List (List Bool)} {stem L : List Int} (h : isP g sets stem L) : isP g sets (lassoT g stem L).1 (lassoT g stem L).2 ∧ (lassoT g stem L).1.length ≤ stem.length ∧ (lassoT g stem L).2.length ≤ L.length := by
  have hnode : ∀ x ∈ L, nodeB g x = true := fun x hx => isP_nodes h x (List.mem_append_right _ hx)
  have hok := path_ok hf g.Init (goalOf g.Edges.length L)
  unfold lassoT
  generalize pathS g g.Init (goalOf g.Edges.length L) = P at hok ⊢
  obtain ⟨way, b⟩ := P
  simp only at hok ⊢
  by_cases hc : b = true ∧ way.length ≤ stem.length
  rotate_left
  · rw [if_neg hc]; exact ⟨h, Nat.le_refl _, Nat.le_refl _⟩
  rw [if_pos hc]
  have hw := hok hc.1
  have hwl := hw.len.1
  obtain ⟨z, z1, z2, z3⟩ := way_last hnode hw
  obtain ⟨f1, f2, f3⟩ := fidx_spec z2
  rw [z1, Option.getD_some]
  simp only
  have hrl := rotL_len L (fidx z L) (by omega)
  have hp : 0 < L.length := by omega
  have hr0 : (rotL L (fidx z L))[0]? = some z := by rw [rotL_get f1 hp, Nat.add_zero, Nat.mod_eq_of_lt f1]; exact f2
  have htl : (way.take (way.length - 1)).length = way.length - 1 := by simp
  have hpre : ∀ i, i < way.length → (way.take (way.length - 1) ++ rotL L (fidx z L))[i]? = way[i]? := fun i hi => by
    by_cases h1 : i < way.length - 1
    · rw [List.getElem?_append_left (by omega), List.getElem?_take_of_lt h1]
    · rw [List.getElem?_append_right (by omega), show i - (way.take (way.length - 1)).length = 0 by omega, hr0, show i = way.length - 1 by omega, z1]
  refine ⟨isP_of (fun e => by rw [e] at hrl; simp at hrl; omega) ?_ (fun i hi a b ha hb => ?_) (fun a x y hx hy => ?_) (fun s hs => ?_), by omega, by omega⟩
  · obtain ⟨x, x1, x2⟩ := hw.first
    exact ⟨x, x1, by rw [hpre 0 hwl]; exact x2⟩
  · rw [hpre _ (by omega)] at ha hb
    exact hw.leads i (by omega) a b ha hb
  · have hal : a < L.length := by have := (List.getElem?_eq_some_iff.1 hx).1; omega
    rw [rotL_get f1 hal] at hx
    rw [hrl, rotL_get f1 (Nat.mod_lt _ hp)] at hy
    refine isP_loop h hx ?_
    rw [← hy]
    congr 1
    rw [Nat.add_mod_mod, Nat.mod_add_mod, Nat.add_assoc]
  · obtain ⟨x, x1, x2⟩ := h.2.2.2 s hs
    exact ⟨x, rotL_mem.2 x1, x2⟩
theorem lassoS_ok (hf : Fit g) {sets : List (List Bool)} {stem loop : List Int} (h : isP g sets stem loop) : isP g sets (lassoS g sets stem loop).1 (lassoS g sets stem loop).2 ∧ (lassoS g sets stem loop).1.length ≤ stem.length ∧ (lassoS g sets stem loop).2.length ≤ loop.length := by
  unfold lassoS
  rw [isB_true h, if_neg (by simp)]
  obtain ⟨n1, n2⟩ := nrm_ok loop.length loop (Nat.le_refl _) h
  obtain ⟨q1, q2, q3⟩ := lassoT_ok hf n1
  exact ⟨q1, q2, by omega⟩
theorem lassoS_len (hf : Fit g) {sets : List (List Bool)} {stem loop : List Int} : (lassoS g sets stem loop).1.length ≤ stem.length ∧ (lassoS g sets stem loop).2.length ≤ loop.length := by
  by_cases h : isP g sets stem loop
  · exact (lassoS_ok hf h).2
  · unfold lassoS
    rw [isB_false h, if_pos rfl]
    exact ⟨Nat.le_refl _, Nat.le_refl _⟩
theorem shortStill {sets : List (List Bool)} {stem loop : List Int} (h : Big g sets stem loop) (κ : Bool → Option ρ) : f_law46_ShortStill g sets ⟨stem, loop⟩ κ = κ true := by
  simp only [f_law46_ShortStill, F_law46_ShortStill, mkF, farLaw h]
  cases hn : farB g stem loop
  rotate_left
  · simp
  obtain ⟨hf, h1, h2⟩ := fit_of h hn
  obtain ⟨l1, l2⟩ := lassoS_len hf (sets := sets) (stem := stem) (loop := loop)
  simp only [Bool.false_eq_true, if_false]
  by_cases hs : (20 : Int) < sets.length
  · rw [if_pos hs]
  · rw [if_neg hs, lasso1 hf h.t h1 h2, is2 hf h.t h.a h.b]
    by_cases hP : isP g sets stem loop
    · obtain ⟨q1, q2, q3⟩ := lassoS_ok hf hP
      rw [isB_true hP, if_neg (by simp), is2 hf h.t (by omega) (by omega), isB_true q1, if_pos rfl, if_pos (by omega), if_pos (by omega)]
    · have e : lassoS g sets stem loop = (stem, loop) := by unfold lassoS; rw [isB_false hP, if_pos rfl]
      rw [isB_false hP, if_pos rfl, e, same1 (show stem.length ≤ 2097152 by omega), decide_eq_true rfl, if_pos rfl, same1 (show loop.length ≤ 2097152 by omega), decide_eq_true rfl, if_pos rfl]
end Go.Shr
