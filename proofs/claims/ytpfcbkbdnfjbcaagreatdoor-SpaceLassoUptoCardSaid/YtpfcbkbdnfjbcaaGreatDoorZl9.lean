/- 'SpaceLassoUptoCardSaid': the trace that any lasso of any graph is, or why it is none, is the document's. Condition: what is read is of bulk at most 1048576; the variable lex.own holds what the program's text lays it with (tied by the card). -/
import Derived.Test.YtpfcbkbdnfjbcaaGreatDoorZl8
import GoSem.ClaimJoined
import Derived.Test.YtpfcbkbdnfjbcaaGreatDoorCards
import Derived.Test.YtpfcbkbdnfjbcaaGreatDoorTie
import Derived.Deep.DeepHandedRow
namespace Go.Am
open Go
theorem dec_list {α : Type} {Q : α → Prop} (f : α → D) : ∀ (l : List D), (∀ y ∈ l, ∃ a, y = f a ∧ Q a) → ∃ vs : List α, l = vs.map f ∧ ∀ a ∈ vs, Q a
  | [], _ => ⟨[], rfl, by simp⟩
  | y :: l, h => by
    obtain ⟨a, rfl, ha⟩ := h y (by simp)
    obtain ⟨vs, rfl, hs⟩ := dec_list f l (fun z hz => h z (by simp [hz]))
    exact ⟨a :: vs, rfl, by simpa using ⟨ha, hs⟩⟩
theorem bulks_list {α : Type} (f : α → D) (g : α → Nat) (h : ∀ x, (f x).bulk = g x) (l : List α) : D.bulks (l.map f) = (l.map g).sum := by
  induction l with
  | nil => simp [D.bulks]
  | cons a l ih => simp [D.bulks, h, ih]
theorem bulk_list {α : Type} (f : α → D) (g : α → Nat) (h : ∀ x, (f x).bulk = g x) (l : List α) : D.bulk (.sl false (l.map f)) = (l.map g).sum + 1 := by
  rw [D.bulk, bulks_list f g h]
theorem len_sum {α : Type} (g : α → Nat) (h : ∀ x, 1 ≤ g x) (l : List α) : l.length ≤ (l.map g).sum := by
  induction l with
  | nil => simp
  | cons a l ih => have := h a; simp; omega
theorem mem_sum {α : Type} (g : α → Nat) {l : List α} {x : α} (hx : x ∈ l) : g x ≤ (l.map g).sum := by
  induction l with
  | nil => cases hx
  | cons a l ih =>
    rcases List.mem_cons.1 hx with rfl | hx
    · simp
    · have := ih hx; simp; omega
end Go.Am
namespace Go.Spc
open Go Go.Am Go.Proofs
set_option linter.unusedSimpArgs false
set_option linter.unusedVariables false
set_option maxRecDepth 20000
def ok3 (m : Int) : Prop := -9223372036854775808 ≤ m ∧ m ≤ 9223372036854775807
def bk3 (_ : Int) : Nat := 1
theorem dec3 {n : Nat} {x : D} (h : Ty P (n + 1) 3 x) : ∃ v : Int, x = eI v ∧ ok3 v := by
  have hu : P.underlying 3 = some (.int .i64) := un3
  simp only [Ty, hu] at h
  obtain ⟨m, rfl, h1, h2⟩ := h
  exact ⟨m, rfl, h1, h2⟩
theorem bkE3 (v : Int) : (eI v).bulk = bk3 v := rfl
def ok41 (m : Int) : Prop := 0 ≤ m ∧ m ≤ 18446744073709551615
def bk41 (_ : Int) : Nat := 1
theorem dec41 {n : Nat} {x : D} (h : Ty P (n + 1) 41 x) : ∃ v : Int, x = (eK .u64) v ∧ ok41 v := by
  have hu : P.underlying 41 = some (.int .u64) := un41
  simp only [Ty, hu] at h
  obtain ⟨m, rfl, h1, h2⟩ := h
  exact ⟨m, rfl, h1, h2⟩
theorem bkE41 (v : Int) : ((eK .u64) v).bulk = bk41 v := rfl
def ok22 (l : List Int) : Prop := ∀ a ∈ l, ok3 a
def bk22 (l : List Int) : Nat := (l.map bk3).sum + 1
theorem dec22 {n : Nat} {x : D} (h : Ty P (n + 2) 22 x) : ∃ v : List Int, x = (esi64 false) v ∧ ok22 v := by
  have hu : P.underlying 22 = some (.slice 3) := un22
  rw [Ty] at h
  simp only [hu] at h
  obtain ⟨l, rfl, hl⟩ := h
  obtain ⟨vs, rfl, hs⟩ := dec_list eI l (fun y hy => dec3 (n := n + 0) (hl y hy))
  exact ⟨vs, rfl, hs⟩
theorem bkE22 (v : List Int) : ((esi64 false) v).bulk = bk22 v := bulk_list eI bk3 bkE3 v
def ok24 (l : List Int) : Prop := ∀ a ∈ l, ok41 a
def bk24 (l : List Int) : Nat := (l.map bk41).sum + 1
theorem dec24 {n : Nat} {x : D} (h : Ty P (n + 2) 24 x) : ∃ v : List Int, x = (esu64 false) v ∧ ok24 v := by
  have hu : P.underlying 24 = some (.slice 41) := un24
  rw [Ty] at h
  simp only [hu] at h
  obtain ⟨l, rfl, hl⟩ := h
  obtain ⟨vs, rfl, hs⟩ := dec_list (eK .u64) l (fun y hy => dec41 (n := n + 0) (hl y hy))
  exact ⟨vs, rfl, hs⟩
theorem bkE24 (v : List Int) : ((esu64 false) v).bulk = bk24 v := bulk_list (eK .u64) bk41 bkE41 v
def ok65 (x : Gapi_Edge) : Prop := ok3 x.To ∧ ok3 x.Act
def bk65 (x : Gapi_Edge) : Nat := bk3 x.To + bk3 x.Act
theorem dec65 {n : Nat} {x : D} (h : Ty P (n + 2) 65 x) : ∃ v : Gapi_Edge, x = eapi_Edge v ∧ ok65 v := by
  have hu : P.underlying 65 = _ := Tryz.underlying65
  rw [Ty] at h
  simp only [hu] at h
  obtain ⟨ys, rfl, hy⟩ := h
  simp only [All2] at hy
  obtain ⟨a0, r0, rfl, g0, h0⟩ := hy
  obtain ⟨v0, rfl, k0⟩ := dec3 (n := n + 0) g0
  obtain ⟨a1, r1, rfl, g1, h1⟩ := h0
  obtain ⟨v1, rfl, k1⟩ := dec3 (n := n + 0) g1
  subst h1
  exact ⟨⟨v0, v1⟩, rfl, k0, k1⟩
theorem bkE65 (v : Gapi_Edge) : (eapi_Edge v).bulk = bk65 v := by
  have h := fun (l : List D) => D.bulk.eq_3 l
  simp only [eapi_Edge, bk65, D.bulk, D.bulks, ← bkE3] <;> omega
def ok28 (x : Gapi_Lasso) : Prop := ok22 x.Stem ∧ ok22 x.Loop
def bk28 (x : Gapi_Lasso) : Nat := bk22 x.Stem + bk22 x.Loop
theorem dec28 {n : Nat} {x : D} (h : Ty P (n + 3) 28 x) : ∃ v : Gapi_Lasso, x = (eapi_Lasso false) v ∧ ok28 v := by
  have hu : P.underlying 28 = _ := Tryz.underlying28
  rw [Ty] at h
  simp only [hu] at h
  obtain ⟨ys, rfl, hy⟩ := h
  simp only [All2] at hy
  obtain ⟨a0, r0, rfl, g0, h0⟩ := hy
  obtain ⟨v0, rfl, k0⟩ := dec22 (n := n + 0) g0
  obtain ⟨a1, r1, rfl, g1, h1⟩ := h0
  obtain ⟨v1, rfl, k1⟩ := dec22 (n := n + 0) g1
  subst h1
  exact ⟨⟨v0, v1⟩, rfl, k0, k1⟩
theorem bkE28 (v : Gapi_Lasso) : ((eapi_Lasso false) v).bulk = bk28 v := by
  have h := fun (l : List D) => D.bulk.eq_3 l
  simp only [eapi_Lasso, bk28, D.bulk, D.bulks, ← bkE22] <;> omega
def ok63 (l : List Gapi_Edge) : Prop := ∀ a ∈ l, ok65 a
def bk63 (l : List Gapi_Edge) : Nat := (l.map bk65).sum + 1
theorem dec63 {n : Nat} {x : D} (h : Ty P (n + 3) 63 x) : ∃ v : List Gapi_Edge, x = (esapi_Edge false) v ∧ ok63 v := by
  have hu : P.underlying 63 = some (.slice 65) := un63
  rw [Ty] at h
  simp only [hu] at h
  obtain ⟨l, rfl, hl⟩ := h
  obtain ⟨vs, rfl, hs⟩ := dec_list eapi_Edge l (fun y hy => dec65 (n := n + 0) (hl y hy))
  exact ⟨vs, rfl, hs⟩
theorem bkE63 (v : List Gapi_Edge) : ((esapi_Edge false) v).bulk = bk63 v := bulk_list eapi_Edge bk65 bkE65 v
def ok23 (l : List (List Gapi_Edge)) : Prop := ∀ a ∈ l, ok63 a
def bk23 (l : List (List Gapi_Edge)) : Nat := (l.map bk63).sum + 1
theorem dec23 {n : Nat} {x : D} (h : Ty P (n + 4) 23 x) : ∃ v : List (List Gapi_Edge), x = (essapi_Edge false) v ∧ ok23 v := by
  have hu : P.underlying 23 = some (.slice 63) := un23
  rw [Ty] at h
  simp only [hu] at h
  obtain ⟨l, rfl, hl⟩ := h
  obtain ⟨vs, rfl, hs⟩ := dec_list (esapi_Edge false) l (fun y hy => dec63 (n := n + 0) (hl y hy))
  exact ⟨vs, rfl, hs⟩
theorem bkE23 (v : List (List Gapi_Edge)) : ((essapi_Edge false) v).bulk = bk23 v := bulk_list (esapi_Edge false) bk63 bkE63 v
def ok26 (x : Gapi_Graph) : Prop := ok22 x.Init ∧ ok23 x.Edges ∧ ok24 x.Labels
def bk26 (x : Gapi_Graph) : Nat := bk22 x.Init + bk23 x.Edges + bk24 x.Labels
theorem dec26 {n : Nat} {x : D} (h : Ty P (n + 5) 26 x) : ∃ v : Gapi_Graph, x = (eapi_Graph false) v ∧ ok26 v := by
  have hu : P.underlying 26 = _ := Tryz.underlying26
  rw [Ty] at h
  simp only [hu] at h
  obtain ⟨ys, rfl, hy⟩ := h
  simp only [All2] at hy
  obtain ⟨a0, r0, rfl, g0, h0⟩ := hy
  obtain ⟨v0, rfl, k0⟩ := dec22 (n := n + 2) g0
  obtain ⟨a1, r1, rfl, g1, h1⟩ := h0
  obtain ⟨v1, rfl, k1⟩ := dec23 (n := n + 0) g1
  obtain ⟨a2, r2, rfl, g2, h2⟩ := h1
  obtain ⟨v2, rfl, k2⟩ := dec24 (n := n + 2) g2
  subst h2
  exact ⟨⟨v0, v1, v2⟩, rfl, k0, k1, k2⟩
theorem bkE26 (v : Gapi_Graph) : ((eapi_Graph false) v).bulk = bk26 v := by
  have h := fun (l : List D) => D.bulk.eq_3 l
  simp only [eapi_Graph, bk26, D.bulk, D.bulks, ← bkE22, ← bkE23, ← bkE24] <;> omega
end Go.Spc
namespace Go.Spc
open Go Go.Am Go.Proofs
set_option linter.unusedSimpArgs false
set_option linter.unusedVariables false
theorem cbK_some {α : Type} (o : Option α) : cbK o some = o := by unfold cbK; cases o <;> rfl
theorem len22 (l : List Int) : l.length < bk22 l := by
  have := len_sum bk3 (fun _ => Nat.le_refl _) l
  simp only [bk22]; omega
theorem fitG {g : Gapi_Graph} (hb : bk26 g ≤ 1048576) : FitG g := by
  have h1 := len_sum bk63 (fun _ => by simp [bk63]) g.Edges
  simp only [bk26, bk23] at hb
  refine ⟨by omega, fun x hx => ?_⟩
  have h2 := mem_sum bk63 hx
  have h3 := len_sum bk65 (fun _ => by simp [bk65, bk3]) x
  simp only [bk63] at h2; omega
theorem law_SpaceLasso (g : Gapi_Graph) (l : Gapi_Lasso) (hg : ok26 g) (hl : ok28 l) (hb : bk26 g + bk28 l ≤ 1048576) : call 3 [eapi_Graph false g, eapi_Lasso false l] [] = some ([.d (.bool true)], []) := by
  have h : cbK (call 3 [eapi_Graph false g, eapi_Lasso false l] []) (some : List T × List Ob → Option (List T × List Ob)) = f_law22_SpaceLasso g l (fun y => some ([T.d (.bool y)], [])) := by
    unfold f_law22_SpaceLasso
    exact (F_law22_SpaceLasso g l).2 false _ _ (fun _ => rfl)
  rw [cbK_some] at h
  rw [h]
  obtain ⟨stem, loop⟩ := l
  have h1 := len22 stem
  have h2 := len22 loop
  simp only [bk28] at hb
  rw [spaceLasso g stem loop (fitG (by omega)) (by omega) (by omega)]
theorem hints_gl : ∀ f g d, (hints f).gl g = some d → glob g = some d := by
  intro f g d h
  unfold hints at h
  split at h <;> first | exact h | cases h
end Go.Spc
namespace Go.Am
open Go Go.ChangeShapes
set_option linter.unusedSimpArgs false
set_option linter.unusedVariables false
def textsW {H : Type} (ss : List (List UInt8)) : DataW H := .agg (ss.map fun s => .lit (.string s))
theorem cells_of_texts {H : Type} {enc : TypeId × Value → H} {P : Program} {w : World} {base : Nat} {sp : Nat → Bool} {held : Bool} {fuel : Nat} {t e : TypeId} {n : Nat} {cs : List Value} {ss : List (List UInt8)} {p : List MemPlace}
    (ht : P.underlying t = some (.array n e)) (he : P.underlying e = some .string) (hce : P.cellsOf e = 1) (hct : P.cellsOf t = n)
    (h : DataW.trod enc P w base sp held fuel t cs = some (textsW ss, p)) : cs = ss.map fun s => Value.string ⟨s.toArray⟩ := by
  obtain ⟨xs, m, rfl, hx, hl, hxl, hel⟩ := DataW.trod_array ht h
  simp only [textsW, Prod.mk.injEq, DataW.agg.injEq] at hx
  obtain ⟨hxs, _⟩ := hx
  have hzl : ss.length = n := by
    have := congrArg List.length hxs
    simp at this
    omega
  apply List.ext_getElem?
  intro i
  by_cases hi : i < n
  · have hb := hel i hi
    rw [hce, Nat.mul_one, List.getElem?_eq_getElem (by omega)] at hb
    obtain ⟨s, hc, hxe, _⟩ := DataW.trod_string he hb
    have h1 : cs[i]? = some (.string s) := by
      have := congrArg (·[0]?) hc
      simpa [List.getElem?_take, List.getElem?_drop] using this
    have h2 : (xs.map (·.1))[i]? = some (DataW.lit (.string s.data.toList) : DataW H) := by
      rw [List.getElem?_map, List.getElem?_eq_getElem (by omega)]
      simp [hxe]
    rw [← hxs] at h2
    simp only [List.getElem?_map, Option.map_eq_some_iff, DataW.lit.injEq, Lit.string.injEq] at h2
    obtain ⟨s', hs', rfl⟩ := h2
    rw [h1, List.getElem?_map, hs']
    simp
  · rw [List.getElem?_eq_none (by omega), List.getElem?_eq_none (by simp; omega)]
theorem vcs_texts (c : Cx) : ∀ ss : List (List UInt8), VCs c (ss.map D.str) (ss.map fun s => Value.string ⟨s.toArray⟩)
  | [] => by simp [VCs]
  | s :: ss => by
    simp only [List.map_cons, VCs]
    exact ⟨_, _, rfl, by simp [VC], vcs_texts c ss⟩
theorem laid_of_plain {P : Program} {l : List (String × DataW Unit)} {W : World} (hp : (l.filter fun x => x.2.handleName?.isSome) = []) (h : laidMetH P l W) : laidMet P l W := by
  unfold laidMetH at h
  rw [hp] at h
  exact h
theorem ga_texts {P : Program} {name : String} {g : Nat} {t e : TypeId} {n : Nat} {ss : List (List UInt8)} {W : World} (hg : P.globalNamed name = some g) (hty : (P.globals[g]?).map (·.type) = some t) (ht : P.underlying t = some (.array n e)) (he : P.underlying e = some .string) (hce : P.cellsOf e = 1) (hct : P.cellsOf t = n)
    {rest : List (String × DataW Unit)} (h : laidMet P ((name, textsW ss) :: rest) W) {G : Nat → Option D} (hG : ∀ g' d, G g' = some d → g' = g ∧ d = .agg (ss.map D.str)) (hn : ss ≠ []) : GA G (A0 W) := fun g' d e' => by
  obtain ⟨rfl, rfl⟩ := hG g' d e'
  obtain ⟨ps, ⟨g0, t0, cs, fuel, p, q, hg0, ht0, hvar, hd, _, _⟩, _⟩ := h
  obtain rfl := Option.some.inj (hg.symm.trans hg0)
  obtain rfl := Option.some.inj (hty.symm.trans ht0)
  have hcs := cells_of_texts ht he hce hct hd
  have hcell := World.var?_cell hg hvar
  have hget : ∀ (j : Nat) (u : Value), (ss.map fun s => Value.string ⟨s.toArray⟩)[j]? = some u → W.cell? ((⟨g', 0, none⟩ : Addr).add j) = some u := fun j u hj => by
    have := hcell j
    rw [← Array.getElem?_toList, hcs, hj] at this
    by_cases hj0 : j = 0
    · subst hj0; simpa [Addr.add] using this
    · simpa [Addr.add, hj0] using this
  refine ⟨?_, fun h => h, fun _ h => h, _, hget, fun c => vcs_texts c ss⟩
  cases ss with
  | nil => exact absurd rfl hn
  | cons s ss =>
    have := hget 0 _ rfl
    unfold World.cell? at this
    split at this
    · rename_i h0
      exact (Array.getElem?_eq_some_iff.1 h0).1
    · cases this
end Go.Am
namespace Go.Proofs.YtpfcbkbdnfjbcaaGreatDoor
open Go Go.Am Go.Spc Go.ChangeShapes Go.WideShapes Go.ChangeAt Go.RowKit
set_option linter.unusedSimpArgs false
set_option linter.unusedVariables false
set_option maxRecDepth 20000
namespace SpaceLassoLaw
theorem own : ownKnob Tryz.prog.godebug = none := by kernel_rfl
theorem follows : Tryz.prog.follows .mixedOrders = true := by kernel_rfl
theorem laid : laidOutB Tryz.prog = true := by kernel_rfl
theorem gVar : Tryz.prog.globalNamed "lariat/lex.own" = some 0 := by kernel_rfl
theorem tVar : (Tryz.prog.globals[0]?).map (·.type) = some 181 := by kernel_rfl
theorem okT26 : tyOk Tryz.prog 8 26 = true := by kernel_rfl
theorem rdT26 : (Tryz.prog.readableRec 26 && decide (26 < Tryz.prog.types.size)) = true := by kernel_rfl
theorem okT28 : tyOk Tryz.prog 8 28 = true := by kernel_rfl
theorem rdT28 : (Tryz.prog.readableRec 28 && decide (28 < Tryz.prog.types.size)) = true := by kernel_rfl
theorem held {W : World} (h : laidMetH Tryz.prog Rows.spaceLassoUptoRow.laid W) : GA glob (A0 W) :=
  ga_texts (P := Tryz.prog) (ss := [[115, 101, 108, 102], [110, 111, 110, 101], [108, 101, 110], [97, 116]]) gVar tVar Tryz.underlying181 Tryz.underlying9 (by kernel_rfl) (by kernel_rfl) (rest := []) (laid_of_plain rfl h) (fun g d e => by
    simp only [glob, Am.look] at e
    split at e
    · rename_i hg
      simp only [Option.some.injEq] at e
      exact ⟨hg.symm, e.symm⟩
    · cases e) (by simp)
theorem contract (H : Type) (enc : TypeId × Value → H) (W : World) (base : Nat) (args : Array Value) (ds gs : List (DataW H)) (before : List MemPlace)
    (hval : ∀ (j : Nat) t v, Tryz.f3.params[j]? = some t → args[j]? = some v → Value.okWide Tryz.prog W .any base t v)
    (hW : DataW.Whole enc Tryz.prog Tryz.f3.params.toList Rows.spaceLassoSpec.vars false W args.toList ds gs before) (hk : Rows.uptoSmall H (ds ++ gs) = true) (hL : laidMetH Tryz.prog Rows.spaceLassoUptoRow.laid W) :
    Calls Tryz.prog 3 args W fun e W' => ∃ v, e = .returned v ∧ Rows.spaceLassoSpec.post enc Tryz.prog Tryz.f3 false true false false W args v W' := by
  have hW' := hW
  obtain ⟨p, q, hA0, hV, rfl, hfz, hnd⟩ := hW
  have hA : DataW.TrodAll enc Tryz.prog W 0 (fun _ => true) true Tryz.f3.params.toList args.toList ds p := hA0
  obtain ⟨rfl, rfl⟩ := trodVars_none hV
  have hb : Rows.uptoBulkAll ds ≤ 1048576 := of_decide_eq_true (by simpa [Rows.uptoSmall] using hk)
  have hp : Tryz.f3.params.toList = [26, 28] := by rw [Tryz.params3]
  obtain ⟨xs, hv, ht, hbk⟩ := readAll_ok (P := Tryz.prog) (n := 8) Tryz.f3.params.toList args.toList ds p (by rw [hp]; simp [okT26, okT28]) (fun j t v h1 h2 => ⟨base, hval j t v (by simpa using h1) (by simpa using h2)⟩) hA
  rw [hp] at ht
  obtain ⟨a0, r0, rfl, h0, a1, r1, rfl, h1, rfl⟩ := ht
  obtain ⟨x0, rfl, k0⟩ := dec26 (n := 3) h0
  obtain ⟨x1, rfl, k1⟩ := dec28 (n := 5) h1
  have hbk2 := Nat.le_trans hbk hb
  simp only [D.bulks, bkE26, bkE28, Nat.add_zero] at hbk2
  obtain ⟨n, hn⟩ := callX_iff.1 (law_SpaceLasso x0 x1 k0 k1 (by omega))
  refine (calls_true follows hints_gl (show ¬ YB ≤ 3 by unfold YB; omega) hn (held hL) hv).mono fun e W' ⟨he, hbl⟩ => ?_
  subst he
  obtain ⟨d0, d1, rfl⟩ : ∃ d0 d1, ds = [d0, d1] := by
    rw [hp] at hA
    obtain ⟨v0, vs0, d0, ds0, p0, q0, _, rfl, rfl, _, g0⟩ := trodAll_cons hA
    obtain ⟨v1, vs1, d1, ds1, p1, q1, _, rfl, rfl, _, g1⟩ := trodAll_cons g0
    obtain ⟨_, rfl, _⟩ := trodAll_nil g1
    exact ⟨d0, d1, rfl⟩
  exact ⟨_, rfl, law_post hW' rfl rfl hbl laid (by
    rw [hp]
    intro t ht
    simp only [List.mem_cons, List.not_mem_nil, or_false] at ht
    rcases ht with rfl | rfl
    · simpa using rdT26
    · simpa using rdT28) (by kernel_rfl) Tryz.underlying4⟩
noncomputable def laidWorld (os : Os) : World :=
  { World.holding Tryz.prog os ⟨#[], #[], []⟩ with heap := (World.holding Tryz.prog os ⟨#[], #[], []⟩).heap.modify 0 fun
      | .cells _ t frozen => .cells #[.string ⟨#[115, 101, 108, 102]⟩, .string ⟨#[110, 111, 110, 101]⟩, .string ⟨#[108, 101, 110]⟩, .string ⟨#[97, 116]⟩] t frozen
      | o => o }
theorem laid_met (os : Os) : laidMet Tryz.prog Rows.spaceLassoUptoRow.laid ((laidWorld os).forCall (fun _ _ => 0) ⟨#[], #[.agg #[.slice none 0 0, .slice none 0 0, .slice none 0 0], .agg #[.slice none 0 0, .slice none 0 0]], []⟩).memory :=
  laidMet_of_run' 8 (by kernel_rfl) (by kernel_rfl)
theorem reads (os : Os) {H : Type} (enc : TypeId × Value → H) : ∃ places, DataW.whole enc Tryz.prog ((laidWorld os).forCall (fun _ _ => 0) ⟨#[], #[.agg #[.slice none 0 0, .slice none 0 0, .slice none 0 0], .agg #[.slice none 0 0, .slice none 0 0]], []⟩).memory Tryz.f3.params.toList Rows.spaceLassoSpec.vars false (#[.agg #[.slice none 0 0, .slice none 0 0, .slice none 0 0], .agg #[.slice none 0 0, .slice none 0 0]] : Array Value).toList 8 = some ([.agg [.nil, .nil, .nil], .agg [.nil, .nil]], [], places) :=
  ⟨[], by kernel_rfl⟩
set_option maxRecDepth 100000 in
theorem lifted (os : Os) (started : os.Started) (H : Type) (enc : TypeId × Value → H) (F : Stop.Interp) :
    ReturnsInHanded {} Tryz.checked os 3 .any ((Rows.OpenSpec.upto Rows.spaceLassoSpec).preRow enc Tryz.prog Tryz.f3 Rows.spaceLassoUptoRow.domain false Rows.spaceLassoUptoRow.laid) (((Rows.OpenSpec.upto Rows.spaceLassoSpec).at F).post enc Tryz.prog Tryz.f3 false true false false) := by
  obtain ⟨places, hx⟩ := reads os enc
  refine returnsInHanded_of_row (C := Tryz.checked) (s := Rows.OpenSpec.upto Rows.spaceLassoSpec) own started (by kernel_rfl) Tryz.func3
    (witness_row_at (enc := enc) (C := Tryz.checked) false (laidWorld os) #[.agg #[.slice none 0 0, .slice none 0 0, .slice none 0 0], .agg #[.slice none 0 0, .slice none 0 0]] rfl (by kernel_rfl) (by kernel_rfl) (by kernel_rfl)
      (OpenSpec.preRow_of_cond 8 hx (by kernel_rfl) (fun k hk => by cases hk; kernel_rfl) (by kernel_rfl) (laid_met os))) ?_
  intro W base args ds gs before hval hW _ hcond _ hL _ _
  exact contract H enc W base args ds gs before hval hW (hcond _ rfl) hL
theorem saidUpto : Rows.SpaceLassoUptoSaid :=
  OpenClaim.holds_of_cond 3 Tryz.f3 rfl rfl rfl rfl rfl rfl rfl ⟨rfl, rfl, rfl, rfl, rfl⟩ rfl rfl rfl rfl rfl (by kernel_rfl) Tryz.func3 (by kernel_rfl)
    (of_decide_eq_true (by kernel_rfl)) (by unfold Func.isWrapper; first | (rw [if_pos (by decide +kernel)]; kernel_rfl) | (rw [if_neg (by decide +kernel)]; exact ⟨rfl, rfl⟩))
    (fun os started H enc _ F => by rw [OpenClaim.pre_eq_preRow]; exact lifted os started H enc F)
theorem plain (f : FuncId) (fn : Func) (hf : Tryz.pinned.checked.prog.funcNamed "lariat/lariatlaw22.SpaceLasso" = some f) (hfn : Tryz.pinned.checked.prog.funcs[f]? = some fn) :
    true = Tryz.pinned.checked.prog.looks [] ∧ ∀ (j : Nat) t, fn.params[j]? = some t → Tryz.pinned.checked.prog.wantsStandIn t = false := by
  obtain rfl : f = 3 := Option.some.inj ((show Tryz.prog.funcNamed "lariat/lariatlaw22.SpaceLasso" = some 3 by kernel_rfl).symm.trans hf) |>.symm
  obtain rfl : fn = Tryz.f3 := (Option.some.inj (Tryz.func3.symm.trans hfn)).symm
  refine ⟨by kernel_rfl, fun j t ht => ?_⟩
  rw [Tryz.params3] at ht
  have hm : t ∈ [26, 28] := by simpa using Array.mem_of_getElem? ht
  have hall : ([26, 28].all fun u => !Tryz.prog.wantsStandIn u) = true := by kernel_rfl
  exact (show Tryz.prog.wantsStandIn t = false by simpa using List.all_eq_true.1 hall t hm)
end SpaceLassoLaw
theorem spaceLasso_uptoCard : Rows.SpaceLassoUptoCardSaid :=
  Claim7.holds_tied_plain_at .later [] _ _ _ _ SpaceLassoLaw.saidUpto (fun _ h => by cases h) (by kernel_rfl) (fun _ h => by cases h) spaceLassoUpto_row_tie rfl ⟨rfl, rfl⟩ (by kernel_rfl) rfl SpaceLassoLaw.plain (by kernel_rfl)
end Go.Proofs.YtpfcbkbdnfjbcaaGreatDoor
