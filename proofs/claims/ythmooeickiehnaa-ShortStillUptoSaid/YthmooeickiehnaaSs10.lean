/- 'ShortStillUptoSaid': a lasso that was made shorter is still one of the graph that meets all sets, and no longer; another one stays as it is. Condition: what is read is of bulk at most 1048576. -/
import Derived.Test.YthmooeickiehnaaSs9
namespace Go.Am
open Go
theorem dec_list {α : Type} {Q : α → Prop} (f : α → D) : ∀ (l : List D), (∀ y ∈ l, ∃ a, y = f a ∧ Q a) → ∃ vs : List α, l = vs.map f ∧ ∀ a ∈ vs, Q a
  | [], _ => ⟨[], rfl, by simp⟩
  | y :: l, h => by
    obtain ⟨a, rfl, ha⟩ := h y (by simp)
    obtain ⟨vs, rfl, hs⟩ := dec_list f l (fun z hz => h z (by simp [hz]))
    exact ⟨a :: vs, rfl, by simpa using ⟨ha, hs⟩⟩
theorem bulks_list {α : Type} (f : α → D) (g : α → Nat) (h : ∀ x, (f x).bulk = g x) (l : List α) : D.bulks (l.map f) = (l.map g).sum := by
  induction l with
  | nil => simp [D.bulks]
  | cons a l ih => simp [D.bulks, h, ih]
theorem bulk_list {α : Type} (f : α → D) (g : α → Nat) (h : ∀ x, (f x).bulk = g x) (l : List α) : D.bulk (.sl false (l.map f)) = (l.map g).sum + 1 := by
  rw [D.bulk, bulks_list f g h]
theorem len_sum {α : Type} (g : α → Nat) (h : ∀ x, 1 ≤ g x) (l : List α) : l.length ≤ (l.map g).sum := by
  induction l with
  | nil => simp
  | cons a l ih => have := h a; simp; omega
end Go.Am
namespace Go.Shr
open Go Go.Am Go.Proofs
set_option linter.unusedSimpArgs false
set_option linter.unusedVariables false
def ok3 (m : Int) : Prop := -9223372036854775808 ≤ m ∧ m ≤ 9223372036854775807
def bk3 (_ : Int) : Nat := 1
theorem dec3 {n : Nat} {x : D} (h : Ty P (n + 1) 3 x) : ∃ v : Int, x = eI v ∧ ok3 v := by
  have hu : P.underlying 3 = some (.int .i64) := un3
  simp only [Ty, hu] at h
  obtain ⟨m, rfl, h1, h2⟩ := h
  exact ⟨m, rfl, h1, h2⟩
theorem bkE3 (v : Int) : (eI v).bulk = bk3 v := rfl
def ok4 (_ : Bool) : Prop := True
def bk4 (_ : Bool) : Nat := 1
theorem dec4 {n : Nat} {x : D} (h : Ty P (n + 1) 4 x) : ∃ v : Bool, x = eB v ∧ ok4 v := by
  have hu : P.underlying 4 = some .bool := un4
  simp only [Ty, hu] at h
  obtain ⟨m, rfl⟩ := h
  exact ⟨m, rfl, trivial⟩
theorem bkE4 (v : Bool) : (eB v).bulk = bk4 v := rfl
def ok66 (m : Int) : Prop := 0 ≤ m ∧ m ≤ 18446744073709551615
def bk66 (_ : Int) : Nat := 1
theorem dec66 {n : Nat} {x : D} (h : Ty P (n + 1) 66 x) : ∃ v : Int, x = (eK .u64) v ∧ ok66 v := by
  have hu : P.underlying 66 = some (.int .u64) := un66
  simp only [Ty, hu] at h
  obtain ⟨m, rfl, h1, h2⟩ := h
  exact ⟨m, rfl, h1, h2⟩
theorem bkE66 (v : Int) : ((eK .u64) v).bulk = bk66 v := rfl
def ok22 (l : List Int) : Prop := ∀ a ∈ l, ok3 a
def bk22 (l : List Int) : Nat := (l.map bk3).sum + 1
theorem dec22 {n : Nat} {x : D} (h : Ty P (n + 2) 22 x) : ∃ v : List Int, x = (esi64 false) v ∧ ok22 v := by
  have hu : P.underlying 22 = some (.slice 3) := un22
  rw [Ty] at h
  simp only [hu] at h
  obtain ⟨l, rfl, hl⟩ := h
  obtain ⟨vs, rfl, hs⟩ := dec_list eI l (fun y hy => dec3 (n := n + 0) (hl y hy))
  exact ⟨vs, rfl, hs⟩
theorem bkE22 (v : List Int) : ((esi64 false) v).bulk = bk22 v := bulk_list eI bk3 bkE3 v
def ok24 (l : List Int) : Prop := ∀ a ∈ l, ok66 a
def bk24 (l : List Int) : Nat := (l.map bk66).sum + 1
theorem dec24 {n : Nat} {x : D} (h : Ty P (n + 2) 24 x) : ∃ v : List Int, x = (esu64 false) v ∧ ok24 v := by
  have hu : P.underlying 24 = some (.slice 66) := un24
  rw [Ty] at h
  simp only [hu] at h
  obtain ⟨l, rfl, hl⟩ := h
  obtain ⟨vs, rfl, hs⟩ := dec_list (eK .u64) l (fun y hy => dec66 (n := n + 0) (hl y hy))
  exact ⟨vs, rfl, hs⟩
theorem bkE24 (v : List Int) : ((esu64 false) v).bulk = bk24 v := bulk_list (eK .u64) bk66 bkE66 v
def ok37 (x : Gapi_Edge) : Prop := ok3 x.To ∧ ok3 x.Act
def bk37 (x : Gapi_Edge) : Nat := bk3 x.To + bk3 x.Act
theorem dec37 {n : Nat} {x : D} (h : Ty P (n + 2) 37 x) : ∃ v : Gapi_Edge, x = eapi_Edge v ∧ ok37 v := by
  have hu : P.underlying 37 = _ := Try.underlying37
  rw [Ty] at h
  simp only [hu] at h
  obtain ⟨ys, rfl, hy⟩ := h
  simp only [All2] at hy
  obtain ⟨a0, r0, rfl, g0, h0⟩ := hy
  obtain ⟨v0, rfl, k0⟩ := dec3 (n := n + 0) g0
  obtain ⟨a1, r1, rfl, g1, h1⟩ := h0
  obtain ⟨v1, rfl, k1⟩ := dec3 (n := n + 0) g1
  subst h1
  exact ⟨⟨v0, v1⟩, rfl, k0, k1⟩
theorem bkE37 (v : Gapi_Edge) : (eapi_Edge v).bulk = bk37 v := by
  have h := fun (l : List D) => D.bulk.eq_3 l
  simp only [eapi_Edge, bk37, D.bulk, D.bulks, ← bkE3] <;> omega
def ok38 (l : List Bool) : Prop := ∀ a ∈ l, ok4 a
def bk38 (l : List Bool) : Nat := (l.map bk4).sum + 1
theorem dec38 {n : Nat} {x : D} (h : Ty P (n + 2) 38 x) : ∃ v : List Bool, x = (esbool false) v ∧ ok38 v := by
  have hu : P.underlying 38 = some (.slice 4) := un38
  rw [Ty] at h
  simp only [hu] at h
  obtain ⟨l, rfl, hl⟩ := h
  obtain ⟨vs, rfl, hs⟩ := dec_list eB l (fun y hy => dec4 (n := n + 0) (hl y hy))
  exact ⟨vs, rfl, hs⟩
theorem bkE38 (v : List Bool) : ((esbool false) v).bulk = bk38 v := bulk_list eB bk4 bkE4 v
def ok27 (l : List (List Bool)) : Prop := ∀ a ∈ l, ok38 a
def bk27 (l : List (List Bool)) : Nat := (l.map bk38).sum + 1
theorem dec27 {n : Nat} {x : D} (h : Ty P (n + 3) 27 x) : ∃ v : List (List Bool), x = (essbool false) v ∧ ok27 v := by
  have hu : P.underlying 27 = some (.slice 38) := un27
  rw [Ty] at h
  simp only [hu] at h
  obtain ⟨l, rfl, hl⟩ := h
  obtain ⟨vs, rfl, hs⟩ := dec_list (esbool false) l (fun y hy => dec38 (n := n + 0) (hl y hy))
  exact ⟨vs, rfl, hs⟩
theorem bkE27 (v : List (List Bool)) : ((essbool false) v).bulk = bk27 v := bulk_list (esbool false) bk38 bkE38 v
def ok29 (x : Gapi_Lasso) : Prop := ok22 x.Stem ∧ ok22 x.Loop
def bk29 (x : Gapi_Lasso) : Nat := bk22 x.Stem + bk22 x.Loop
theorem dec29 {n : Nat} {x : D} (h : Ty P (n + 3) 29 x) : ∃ v : Gapi_Lasso, x = (eapi_Lasso false) v ∧ ok29 v := by
  have hu : P.underlying 29 = _ := Try.underlying29
  rw [Ty] at h
  simp only [hu] at h
  obtain ⟨ys, rfl, hy⟩ := h
  simp only [All2] at hy
  obtain ⟨a0, r0, rfl, g0, h0⟩ := hy
  obtain ⟨v0, rfl, k0⟩ := dec22 (n := n + 0) g0
  obtain ⟨a1, r1, rfl, g1, h1⟩ := h0
  obtain ⟨v1, rfl, k1⟩ := dec22 (n := n + 0) g1
  subst h1
  exact ⟨⟨v0, v1⟩, rfl, k0, k1⟩
theorem bkE29 (v : Gapi_Lasso) : ((eapi_Lasso false) v).bulk = bk29 v := by
  have h := fun (l : List D) => D.bulk.eq_3 l
  simp only [eapi_Lasso, bk29, D.bulk, D.bulks, ← bkE22] <;> omega
def ok35 (l : List Gapi_Edge) : Prop := ∀ a ∈ l, ok37 a
def bk35 (l : List Gapi_Edge) : Nat := (l.map bk37).sum + 1
theorem dec35 {n : Nat} {x : D} (h : Ty P (n + 3) 35 x) : ∃ v : List Gapi_Edge, x = (esapi_Edge false) v ∧ ok35 v := by
  have hu : P.underlying 35 = some (.slice 37) := un35
  rw [Ty] at h
  simp only [hu] at h
  obtain ⟨l, rfl, hl⟩ := h
  obtain ⟨vs, rfl, hs⟩ := dec_list eapi_Edge l (fun y hy => dec37 (n := n + 0) (hl y hy))
  exact ⟨vs, rfl, hs⟩
theorem bkE35 (v : List Gapi_Edge) : ((esapi_Edge false) v).bulk = bk35 v := bulk_list eapi_Edge bk37 bkE37 v
def ok23 (l : List (List Gapi_Edge)) : Prop := ∀ a ∈ l, ok35 a
def bk23 (l : List (List Gapi_Edge)) : Nat := (l.map bk35).sum + 1
theorem dec23 {n : Nat} {x : D} (h : Ty P (n + 4) 23 x) : ∃ v : List (List Gapi_Edge), x = (essapi_Edge false) v ∧ ok23 v := by
  have hu : P.underlying 23 = some (.slice 35) := un23
  rw [Ty] at h
  simp only [hu] at h
  obtain ⟨l, rfl, hl⟩ := h
  obtain ⟨vs, rfl, hs⟩ := dec_list (esapi_Edge false) l (fun y hy => dec35 (n := n + 0) (hl y hy))
  exact ⟨vs, rfl, hs⟩
theorem bkE23 (v : List (List Gapi_Edge)) : ((essapi_Edge false) v).bulk = bk23 v := bulk_list (esapi_Edge false) bk35 bkE35 v
def ok26 (x : Gapi_Graph) : Prop := ok22 x.Init ∧ ok23 x.Edges ∧ ok24 x.Labels
def bk26 (x : Gapi_Graph) : Nat := bk22 x.Init + bk23 x.Edges + bk24 x.Labels
theorem dec26 {n : Nat} {x : D} (h : Ty P (n + 5) 26 x) : ∃ v : Gapi_Graph, x = (eapi_Graph false) v ∧ ok26 v := by
  have hu : P.underlying 26 = _ := Try.underlying26
  rw [Ty] at h
  simp only [hu] at h
  obtain ⟨ys, rfl, hy⟩ := h
  simp only [All2] at hy
  obtain ⟨a0, r0, rfl, g0, h0⟩ := hy
  obtain ⟨v0, rfl, k0⟩ := dec22 (n := n + 2) g0
  obtain ⟨a1, r1, rfl, g1, h1⟩ := h0
  obtain ⟨v1, rfl, k1⟩ := dec23 (n := n + 0) g1
  obtain ⟨a2, r2, rfl, g2, h2⟩ := h1
  obtain ⟨v2, rfl, k2⟩ := dec24 (n := n + 2) g2
  subst h2
  exact ⟨⟨v0, v1, v2⟩, rfl, k0, k1, k2⟩
theorem bkE26 (v : Gapi_Graph) : ((eapi_Graph false) v).bulk = bk26 v := by
  have h := fun (l : List D) => D.bulk.eq_3 l
  simp only [eapi_Graph, bk26, D.bulk, D.bulks, ← bkE22, ← bkE23, ← bkE24] <;> omega
end Go.Shr
namespace Go.Shr
open Go Go.Am Go.Proofs
set_option linter.unusedSimpArgs false
set_option linter.unusedVariables false
theorem sum_le {α : Type} (f h : α → Nat) (hfh : ∀ x, f x ≤ h x) : ∀ l : List α, (l.map f).sum ≤ (l.map h).sum
  | [] => by simp
  | a :: l => by have := hfh a; have := sum_le f h hfh l; simp; omega
theorem big_of {g : Gapi_Graph} {sets : List (List Bool)} {l : Gapi_Lasso} (hb : bk26 g + (bk27 sets + bk29 l) ≤ 1048576) : Big g sets l.Stem l.Loop := by
  have l3 : ∀ x : List Int, x.length ≤ (x.map bk3).sum := fun x => len_sum bk3 (fun _ => Nat.le_refl _) x
  have l66 : ∀ x : List Int, x.length ≤ (x.map bk66).sum := fun x => len_sum bk66 (fun _ => Nat.le_refl _) x
  have l35 : g.Edges.length ≤ (g.Edges.map bk35).sum := len_sum bk35 (fun _ => by simp [bk35]) _
  have l38 : sets.length ≤ (sets.map bk38).sum := len_sum bk38 (fun _ => by simp [bk38]) _
  have le : sumE g.Edges ≤ (g.Edges.map bk35).sum := sum_le _ _ (fun x => by
    have := len_sum bk37 (fun _ => by simp [bk37, bk3]) x
    simp only [bk35]; omega) _
  have a1 := l3 g.Init; have a2 := l66 g.Labels; have a3 := l3 l.Stem; have a4 := l3 l.Loop
  simp only [bk26, bk22, bk23, bk24, bk27, bk29] at hb
  exact ⟨by omega, by omega, by omega, by omega, by omega, by omega, by omega⟩
theorem cbK_some {α : Type} (o : Option α) : cbK o some = o := by unfold cbK; cases o <;> rfl
theorem law_ShortStill (g : Gapi_Graph) (sets : List (List Bool)) (l : Gapi_Lasso) (hb : bk26 g + (bk27 sets + bk29 l) ≤ 1048576) : call 4 [eapi_Graph false g, essbool false sets, eapi_Lasso false l] [] = some ([.d (.bool true)], []) := by
  have h : cbK (call 4 [eapi_Graph false g, essbool false sets, eapi_Lasso false l] []) (some : List T × List Ob → Option (List T × List Ob)) = f_law46_ShortStill g sets l (fun y => some ([T.d (.bool y)], [])) := by
    unfold f_law46_ShortStill
    exact (F_law46_ShortStill g sets l).2 false _ _ (fun _ => rfl)
  rw [cbK_some] at h
  rw [h]
  obtain ⟨stem, loop⟩ := l
  rw [shortStill (big_of (l := ⟨stem, loop⟩) hb)]
end Go.Shr
namespace Go.Proofs.Ythmooeickiehnaa
open Go Go.Am Go.Shr Go.ChangeShapes Go.WideShapes Go.ChangeAt Go.RowKit
namespace ShortStillLaw
theorem own : ownKnob Try.prog.godebug = none := by kernel_rfl
theorem follows : Try.prog.follows .mixedOrders = true := by kernel_rfl
theorem laid : laidOutB Try.prog = true := by kernel_rfl
theorem okT26 : tyOk Try.prog 8 26 = true := by kernel_rfl
theorem rdT26 : (Try.prog.readableRec 26 && decide (26 < Try.prog.types.size)) = true := by kernel_rfl
theorem okT27 : tyOk Try.prog 8 27 = true := by kernel_rfl
theorem rdT27 : (Try.prog.readableRec 27 && decide (27 < Try.prog.types.size)) = true := by kernel_rfl
theorem okT29 : tyOk Try.prog 8 29 = true := by kernel_rfl
theorem rdT29 : (Try.prog.readableRec 29 && decide (29 < Try.prog.types.size)) = true := by kernel_rfl
theorem contract (H : Type) (enc : TypeId × Value → H) (W : World) (base : Nat) (args : Array Value) (ds gs : List (DataW H)) (before : List MemPlace)
    (hval : ∀ (j : Nat) t v, Try.f4.params[j]? = some t → args[j]? = some v → Value.okWide Try.prog W .any base t v)
    (hW : DataW.Whole enc Try.prog Try.f4.params.toList Rows.shortStillSpec.vars false W args.toList ds gs before) (hk : Rows.uptoSmall H (ds ++ gs) = true) :
    Calls Try.prog 4 args W fun e W' => ∃ v, e = .returned v ∧ Rows.shortStillSpec.post enc Try.prog Try.f4 false true false false W args v W' := by
  have hW' := hW
  obtain ⟨p, q, hA0, hV, rfl, hfz, hnd⟩ := hW
  have hA : DataW.TrodAll enc Try.prog W 0 (fun _ => true) true Try.f4.params.toList args.toList ds p := hA0
  obtain ⟨rfl, rfl⟩ := trodVars_none hV
  have hb : Rows.uptoBulkAll ds ≤ 1048576 := of_decide_eq_true (by simpa [Rows.uptoSmall] using hk)
  have hp : Try.f4.params.toList = [26, 27, 29] := by rw [Try.params4]
  obtain ⟨xs, hv, ht, hbk⟩ := readAll_ok (P := Try.prog) (n := 8) Try.f4.params.toList args.toList ds p (by rw [hp]; simp [okT26, okT27, okT29]) (fun j t v h1 h2 => ⟨base, hval j t v (by simpa using h1) (by simpa using h2)⟩) hA
  rw [hp] at ht
  obtain ⟨a0, r0, rfl, h0, a1, r1, rfl, h1, a2, r2, rfl, h2, rfl⟩ := ht
  obtain ⟨x0, rfl, k0⟩ := dec26 (n := 3) h0
  obtain ⟨x1, rfl, k1⟩ := dec27 (n := 5) h1
  obtain ⟨x2, rfl, k2⟩ := dec29 (n := 5) h2
  have hbk2 := Nat.le_trans hbk hb
  simp only [D.bulks, bkE26, bkE27, bkE29, Nat.add_zero] at hbk2
  obtain ⟨n, hn⟩ := callX_iff.1 (law_ShortStill x0 x1 x2 (by omega))
  refine (calls_true follows hn hv).mono fun e W' ⟨he, hbl⟩ => ?_
  subst he
  obtain ⟨d0, d1, d2, rfl⟩ : ∃ d0 d1 d2, ds = [d0, d1, d2] := by
    rw [hp] at hA
    obtain ⟨v0, vs0, d0, ds0, p0, q0, _, rfl, rfl, _, g0⟩ := trodAll_cons hA
    obtain ⟨v1, vs1, d1, ds1, p1, q1, _, rfl, rfl, _, g1⟩ := trodAll_cons g0
    obtain ⟨v2, vs2, d2, ds2, p2, q2, _, rfl, rfl, _, g2⟩ := trodAll_cons g1
    obtain ⟨_, rfl, _⟩ := trodAll_nil g2
    exact ⟨d0, d1, d2, rfl⟩
  exact ⟨_, rfl, law_post hW' rfl rfl hbl laid (by
    rw [hp]
    intro t ht
    simp only [List.mem_cons, List.not_mem_nil, or_false] at ht
    rcases ht with rfl | rfl | rfl
    · simpa using rdT26
    · simpa using rdT27
    · simpa using rdT29) (by kernel_rfl) Try.underlying4⟩
set_option maxRecDepth 100000 in
theorem lifted (os : Os) (started : os.Started) (H : Type) (enc : TypeId × Value → H) (F : Stop.Interp) :
    ReturnsInHanded {} Try.checked os 4 .any ((Rows.OpenSpec.upto Rows.shortStillSpec).pre6 enc Try.prog Try.f4 Rows.shortStillUptoRow.domain false) (((Rows.OpenSpec.upto Rows.shortStillSpec).at F).post enc Try.prog Try.f4 false true false false) := by
  refine returnsInHanded_of_cond (C := Try.checked) (s := Rows.OpenSpec.upto Rows.shortStillSpec) (k := Rows.uptoSmall) rfl own started (by kernel_rfl) Try.func4
    (OpenSpec.witness (enc := enc) (C := Try.checked) (s := Rows.OpenSpec.upto Rows.shortStillSpec) (k := Rows.uptoSmall) rfl false ⟨#[], #[.agg #[.slice none 0 0, .slice none 0 0, .slice none 0 0], .slice none 0 0, .agg #[.slice none 0 0, .slice none 0 0]], []⟩ 8 (by kernel_rfl) (by kernel_rfl) (by kernel_rfl)
      (x := ([.agg [.nil, .nil, .nil], .nil, .agg [.nil, .nil]], [], [])) (by kernel_rfl) rfl (by kernel_rfl)) ?_
  intro W base args ds gs before hval hW _ hk _
  exact contract H enc W base args ds gs before hval hW hk
end ShortStillLaw
theorem shortStill_upto : Rows.ShortStillUptoSaid :=
  OpenClaim.holds_of_cond 4 Try.f4 rfl rfl rfl rfl rfl rfl rfl ⟨rfl, rfl, rfl, rfl, rfl⟩ rfl rfl rfl rfl rfl (by kernel_rfl) Try.func4 (by kernel_rfl)
    (of_decide_eq_true (by kernel_rfl)) (by unfold Func.isWrapper; first | (rw [if_pos (by decide +kernel)]; kernel_rfl) | (rw [if_neg (by decide +kernel)]; exact ⟨rfl, rfl⟩))
    (fun os started H enc _ F => ShortStillLaw.lifted os started H enc F)
end Go.Proofs.Ythmooeickiehnaa
