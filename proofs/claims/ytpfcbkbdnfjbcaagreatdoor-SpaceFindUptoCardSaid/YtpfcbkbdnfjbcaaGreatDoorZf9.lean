/- 'SpaceFindUptoCardSaid': the number of any state among any states, or that it is none of them, is the document's. Condition: what is read is of bulk at most 1048576; the variable lex.own holds what the program's text lays it with (tied by the card). -/
import Derived.Test.YtpfcbkbdnfjbcaaGreatDoorZf8
import GoSem.ClaimJoined
import Derived.Test.YtpfcbkbdnfjbcaaGreatDoorCards
import Derived.Test.YtpfcbkbdnfjbcaaGreatDoorTie
import Derived.Deep.DeepHandedRow
namespace Go.Am
open Go
theorem dec_list {α : Type} {Q : α → Prop} (f : α → D) : ∀ (l : List D), (∀ y ∈ l, ∃ a, y = f a ∧ Q a) → ∃ vs : List α, l = vs.map f ∧ ∀ a ∈ vs, Q a
  | [], _ => ⟨[], rfl, by simp⟩
  | y :: l, h => by
    obtain ⟨a, rfl, ha⟩ := h y (by simp)
    obtain ⟨vs, rfl, hs⟩ := dec_list f l (fun z hz => h z (by simp [hz]))
    exact ⟨a :: vs, rfl, by simpa using ⟨ha, hs⟩⟩
theorem bulks_list {α : Type} (f : α → D) (g : α → Nat) (h : ∀ x, (f x).bulk = g x) (l : List α) : D.bulks (l.map f) = (l.map g).sum := by
  induction l with
  | nil => simp [D.bulks]
  | cons a l ih => simp [D.bulks, h, ih]
theorem bulk_list {α : Type} (f : α → D) (g : α → Nat) (h : ∀ x, (f x).bulk = g x) (l : List α) : D.bulk (.sl false (l.map f)) = (l.map g).sum + 1 := by
  rw [D.bulk, bulks_list f g h]
theorem len_sum {α : Type} (g : α → Nat) (h : ∀ x, 1 ≤ g x) (l : List α) : l.length ≤ (l.map g).sum := by
  induction l with
  | nil => simp
  | cons a l ih => have := h a; simp; omega
theorem mem_sum {α : Type} (g : α → Nat) {l : List α} {x : α} (hx : x ∈ l) : g x ≤ (l.map g).sum := by
  induction l with
  | nil => cases hx
  | cons a l ih =>
    rcases List.mem_cons.1 hx with rfl | hx
    · simp
    · have := ih hx; simp; omega
end Go.Am
namespace Go.Spc
open Go Go.Am Go.Proofs
set_option linter.unusedSimpArgs false
set_option linter.unusedVariables false
set_option maxRecDepth 20000
def ok3 (m : Int) : Prop := -9223372036854775808 ≤ m ∧ m ≤ 9223372036854775807
def bk3 (_ : Int) : Nat := 1
theorem dec3 {n : Nat} {x : D} (h : Ty P (n + 1) 3 x) : ∃ v : Int, x = eI v ∧ ok3 v := by
  have hu : P.underlying 3 = some (.int .i64) := un3
  simp only [Ty, hu] at h
  obtain ⟨m, rfl, h1, h2⟩ := h
  exact ⟨m, rfl, h1, h2⟩
theorem bkE3 (v : Int) : (eI v).bulk = bk3 v := rfl
def ok22 (l : List Int) : Prop := ∀ a ∈ l, ok3 a
def bk22 (l : List Int) : Nat := (l.map bk3).sum + 1
theorem dec22 {n : Nat} {x : D} (h : Ty P (n + 2) 22 x) : ∃ v : List Int, x = (esi64 false) v ∧ ok22 v := by
  have hu : P.underlying 22 = some (.slice 3) := un22
  rw [Ty] at h
  simp only [hu] at h
  obtain ⟨l, rfl, hl⟩ := h
  obtain ⟨vs, rfl, hs⟩ := dec_list eI l (fun y hy => dec3 (n := n + 0) (hl y hy))
  exact ⟨vs, rfl, hs⟩
theorem bkE22 (v : List Int) : ((esi64 false) v).bulk = bk22 v := bulk_list eI bk3 bkE3 v
def ok29 (l : List (List Int)) : Prop := ∀ a ∈ l, ok22 a
def bk29 (l : List (List Int)) : Nat := (l.map bk22).sum + 1
theorem dec29 {n : Nat} {x : D} (h : Ty P (n + 3) 29 x) : ∃ v : List (List Int), x = (essi64 false) v ∧ ok29 v := by
  have hu : P.underlying 29 = some (.slice 22) := un29
  rw [Ty] at h
  simp only [hu] at h
  obtain ⟨l, rfl, hl⟩ := h
  obtain ⟨vs, rfl, hs⟩ := dec_list (esi64 false) l (fun y hy => dec22 (n := n + 0) (hl y hy))
  exact ⟨vs, rfl, hs⟩
theorem bkE29 (v : List (List Int)) : ((essi64 false) v).bulk = bk29 v := bulk_list (esi64 false) bk22 bkE22 v
end Go.Spc
namespace Go.Spc
open Go Go.Am Go.Proofs
set_option linter.unusedSimpArgs false
set_option linter.unusedVariables false
theorem cbK_some {α : Type} (o : Option α) : cbK o some = o := by unfold cbK; cases o <;> rfl
theorem len22 (l : List Int) : l.length < bk22 l := by
  have := len_sum bk3 (fun _ => Nat.le_refl _) l
  simp only [bk22]; omega
theorem in64s {l : List Int} (h : ok22 l) (hb : bk22 l ≤ 1048576) : In64s l := ⟨h, by have := len22 l; omega⟩
theorem in64ss {l : List (List Int)} (h : ok29 l) (hb : bk29 l ≤ 1048576) : In64ss l := by
  have h1 := len_sum bk22 (fun _ => by simp [bk22]) l
  refine ⟨fun x hx => in64s (h x hx) ?_, ?_⟩
  · have := mem_sum bk22 hx
    simp only [bk29] at hb; omega
  · simp only [bk29] at hb; omega
theorem law_SpaceFind (l : List (List Int)) (s : List Int) (a : Int) (hl : ok29 l) (hs : ok22 s) (ha : ok3 a) (hb : bk29 l + (bk22 s + bk3 a) ≤ 1048576) : call 4 [essi64 false l, esi64 false s, eI a] [] = some ([.d (.bool true)], []) := by
  have h : cbK (call 4 [essi64 false l, esi64 false s, eI a] []) (some : List T × List Ob → Option (List T × List Ob)) = f_law22_SpaceFind l s a (fun y => some ([T.d (.bool y)], [])) := by
    unfold f_law22_SpaceFind
    exact (F_law22_SpaceFind l s a).2 false _ _ (fun _ => rfl)
  rw [cbK_some] at h
  rw [h, spaceFind l s a (in64ss hl (by omega)) (in64s hs (by omega))]
theorem hints_gl : ∀ f g d, (hints f).gl g = some d → glob g = some d := by
  intro f g d h
  unfold hints at h
  split at h <;> first | exact h | cases h
end Go.Spc
namespace Go.Am
open Go Go.ChangeShapes
set_option linter.unusedSimpArgs false
set_option linter.unusedVariables false
def textsW {H : Type} (ss : List (List UInt8)) : DataW H := .agg (ss.map fun s => .lit (.string s))
theorem cells_of_texts {H : Type} {enc : TypeId × Value → H} {P : Program} {w : World} {base : Nat} {sp : Nat → Bool} {held : Bool} {fuel : Nat} {t e : TypeId} {n : Nat} {cs : List Value} {ss : List (List UInt8)} {p : List MemPlace}
    (ht : P.underlying t = some (.array n e)) (he : P.underlying e = some .string) (hce : P.cellsOf e = 1) (hct : P.cellsOf t = n)
    (h : DataW.trod enc P w base sp held fuel t cs = some (textsW ss, p)) : cs = ss.map fun s => Value.string ⟨s.toArray⟩ := by
  obtain ⟨xs, m, rfl, hx, hl, hxl, hel⟩ := DataW.trod_array ht h
  simp only [textsW, Prod.mk.injEq, DataW.agg.injEq] at hx
  obtain ⟨hxs, _⟩ := hx
  have hzl : ss.length = n := by
    have := congrArg List.length hxs
    simp at this
    omega
  apply List.ext_getElem?
  intro i
  by_cases hi : i < n
  · have hb := hel i hi
    rw [hce, Nat.mul_one, List.getElem?_eq_getElem (by omega)] at hb
    obtain ⟨s, hc, hxe, _⟩ := DataW.trod_string he hb
    have h1 : cs[i]? = some (.string s) := by
      have := congrArg (·[0]?) hc
      simpa [List.getElem?_take, List.getElem?_drop] using this
    have h2 : (xs.map (·.1))[i]? = some (DataW.lit (.string s.data.toList) : DataW H) := by
      rw [List.getElem?_map, List.getElem?_eq_getElem (by omega)]
      simp [hxe]
    rw [← hxs] at h2
    simp only [List.getElem?_map, Option.map_eq_some_iff, DataW.lit.injEq, Lit.string.injEq] at h2
    obtain ⟨s', hs', rfl⟩ := h2
    rw [h1, List.getElem?_map, hs']
    simp
  · rw [List.getElem?_eq_none (by omega), List.getElem?_eq_none (by simp; omega)]
theorem vcs_texts (c : Cx) : ∀ ss : List (List UInt8), VCs c (ss.map D.str) (ss.map fun s => Value.string ⟨s.toArray⟩)
  | [] => by simp [VCs]
  | s :: ss => by
    simp only [List.map_cons, VCs]
    exact ⟨_, _, rfl, by simp [VC], vcs_texts c ss⟩
theorem laid_of_plain {P : Program} {l : List (String × DataW Unit)} {W : World} (hp : (l.filter fun x => x.2.handleName?.isSome) = []) (h : laidMetH P l W) : laidMet P l W := by
  unfold laidMetH at h
  rw [hp] at h
  exact h
theorem ga_texts {P : Program} {name : String} {g : Nat} {t e : TypeId} {n : Nat} {ss : List (List UInt8)} {W : World} (hg : P.globalNamed name = some g) (hty : (P.globals[g]?).map (·.type) = some t) (ht : P.underlying t = some (.array n e)) (he : P.underlying e = some .string) (hce : P.cellsOf e = 1) (hct : P.cellsOf t = n)
    {rest : List (String × DataW Unit)} (h : laidMet P ((name, textsW ss) :: rest) W) {G : Nat → Option D} (hG : ∀ g' d, G g' = some d → g' = g ∧ d = .agg (ss.map D.str)) (hn : ss ≠ []) : GA G (A0 W) := fun g' d e' => by
  obtain ⟨rfl, rfl⟩ := hG g' d e'
  obtain ⟨ps, ⟨g0, t0, cs, fuel, p, q, hg0, ht0, hvar, hd, _, _⟩, _⟩ := h
  obtain rfl := Option.some.inj (hg.symm.trans hg0)
  obtain rfl := Option.some.inj (hty.symm.trans ht0)
  have hcs := cells_of_texts ht he hce hct hd
  have hcell := World.var?_cell hg hvar
  have hget : ∀ (j : Nat) (u : Value), (ss.map fun s => Value.string ⟨s.toArray⟩)[j]? = some u → W.cell? ((⟨g', 0, none⟩ : Addr).add j) = some u := fun j u hj => by
    have := hcell j
    rw [← Array.getElem?_toList, hcs, hj] at this
    by_cases hj0 : j = 0
    · subst hj0; simpa [Addr.add] using this
    · simpa [Addr.add, hj0] using this
  refine ⟨?_, fun h => h, fun _ h => h, _, hget, fun c => vcs_texts c ss⟩
  cases ss with
  | nil => exact absurd rfl hn
  | cons s ss =>
    have := hget 0 _ rfl
    unfold World.cell? at this
    split at this
    · rename_i h0
      exact (Array.getElem?_eq_some_iff.1 h0).1
    · cases this
end Go.Am
namespace Go.Proofs.YtpfcbkbdnfjbcaaGreatDoor
open Go Go.Am Go.Spc Go.ChangeShapes Go.WideShapes Go.ChangeAt Go.RowKit
set_option linter.unusedSimpArgs false
set_option linter.unusedVariables false
set_option maxRecDepth 20000
namespace SpaceFindLaw
theorem own : ownKnob Tryz.prog.godebug = none := by kernel_rfl
theorem follows : Tryz.prog.follows .mixedOrders = true := by kernel_rfl
theorem laid : laidOutB Tryz.prog = true := by kernel_rfl
theorem gVar : Tryz.prog.globalNamed "lariat/lex.own" = some 0 := by kernel_rfl
theorem tVar : (Tryz.prog.globals[0]?).map (·.type) = some 181 := by kernel_rfl
theorem okT3 : tyOk Tryz.prog 8 3 = true := by kernel_rfl
theorem rdT3 : (Tryz.prog.readableRec 3 && decide (3 < Tryz.prog.types.size)) = true := by kernel_rfl
theorem okT22 : tyOk Tryz.prog 8 22 = true := by kernel_rfl
theorem rdT22 : (Tryz.prog.readableRec 22 && decide (22 < Tryz.prog.types.size)) = true := by kernel_rfl
theorem okT29 : tyOk Tryz.prog 8 29 = true := by kernel_rfl
theorem rdT29 : (Tryz.prog.readableRec 29 && decide (29 < Tryz.prog.types.size)) = true := by kernel_rfl
theorem held {W : World} (h : laidMetH Tryz.prog Rows.spaceFindUptoRow.laid W) : GA glob (A0 W) :=
  ga_texts (P := Tryz.prog) (ss := [[115, 101, 108, 102], [110, 111, 110, 101], [108, 101, 110], [97, 116]]) gVar tVar Tryz.underlying181 Tryz.underlying9 (by kernel_rfl) (by kernel_rfl) (rest := []) (laid_of_plain rfl h) (fun g d e => by
    simp only [glob, Am.look] at e
    split at e
    · rename_i hg
      simp only [Option.some.injEq] at e
      exact ⟨hg.symm, e.symm⟩
    · cases e) (by simp)
theorem contract (H : Type) (enc : TypeId × Value → H) (W : World) (base : Nat) (args : Array Value) (ds gs : List (DataW H)) (before : List MemPlace)
    (hval : ∀ (j : Nat) t v, Tryz.f4.params[j]? = some t → args[j]? = some v → Value.okWide Tryz.prog W .any base t v)
    (hW : DataW.Whole enc Tryz.prog Tryz.f4.params.toList Rows.spaceFindSpec.vars false W args.toList ds gs before) (hk : Rows.uptoSmall H (ds ++ gs) = true) (hL : laidMetH Tryz.prog Rows.spaceFindUptoRow.laid W) :
    Calls Tryz.prog 4 args W fun e W' => ∃ v, e = .returned v ∧ Rows.spaceFindSpec.post enc Tryz.prog Tryz.f4 false true false false W args v W' := by
  have hW' := hW
  obtain ⟨p, q, hA0, hV, rfl, hfz, hnd⟩ := hW
  have hA : DataW.TrodAll enc Tryz.prog W 0 (fun _ => true) true Tryz.f4.params.toList args.toList ds p := hA0
  obtain ⟨rfl, rfl⟩ := trodVars_none hV
  have hb : Rows.uptoBulkAll ds ≤ 1048576 := of_decide_eq_true (by simpa [Rows.uptoSmall] using hk)
  have hp : Tryz.f4.params.toList = [29, 22, 3] := by rw [Tryz.params4]
  obtain ⟨xs, hv, ht, hbk⟩ := readAll_ok (P := Tryz.prog) (n := 8) Tryz.f4.params.toList args.toList ds p (by rw [hp]; simp [okT3, okT22, okT29]) (fun j t v h1 h2 => ⟨base, hval j t v (by simpa using h1) (by simpa using h2)⟩) hA
  rw [hp] at ht
  obtain ⟨a0, r0, rfl, h0, a1, r1, rfl, h1, a2, r2, rfl, h2, rfl⟩ := ht
  obtain ⟨x0, rfl, k0⟩ := dec29 (n := 5) h0
  obtain ⟨x1, rfl, k1⟩ := dec22 (n := 6) h1
  obtain ⟨x2, rfl, k2⟩ := dec3 (n := 7) h2
  have hbk2 := Nat.le_trans hbk hb
  simp only [D.bulks, bkE3, bkE22, bkE29, Nat.add_zero] at hbk2
  obtain ⟨n, hn⟩ := callX_iff.1 (law_SpaceFind x0 x1 x2 k0 k1 k2 (by omega))
  refine (calls_true follows hints_gl (show ¬ YB ≤ 4 by unfold YB; omega) hn (held hL) hv).mono fun e W' ⟨he, hbl⟩ => ?_
  subst he
  obtain ⟨d0, d1, d2, rfl⟩ : ∃ d0 d1 d2, ds = [d0, d1, d2] := by
    rw [hp] at hA
    obtain ⟨v0, vs0, d0, ds0, p0, q0, _, rfl, rfl, _, g0⟩ := trodAll_cons hA
    obtain ⟨v1, vs1, d1, ds1, p1, q1, _, rfl, rfl, _, g1⟩ := trodAll_cons g0
    obtain ⟨v2, vs2, d2, ds2, p2, q2, _, rfl, rfl, _, g2⟩ := trodAll_cons g1
    obtain ⟨_, rfl, _⟩ := trodAll_nil g2
    exact ⟨d0, d1, d2, rfl⟩
  exact ⟨_, rfl, law_post hW' rfl rfl hbl laid (by
    rw [hp]
    intro t ht
    simp only [List.mem_cons, List.not_mem_nil, or_false] at ht
    rcases ht with rfl | rfl | rfl
    · simpa using rdT29
    · simpa using rdT22
    · simpa using rdT3) (by kernel_rfl) Tryz.underlying4⟩
noncomputable def laidWorld (os : Os) : World :=
  { World.holding Tryz.prog os ⟨#[], #[], []⟩ with heap := (World.holding Tryz.prog os ⟨#[], #[], []⟩).heap.modify 0 fun
      | .cells _ t frozen => .cells #[.string ⟨#[115, 101, 108, 102]⟩, .string ⟨#[110, 111, 110, 101]⟩, .string ⟨#[108, 101, 110]⟩, .string ⟨#[97, 116]⟩] t frozen
      | o => o }
theorem laid_met (os : Os) : laidMet Tryz.prog Rows.spaceFindUptoRow.laid ((laidWorld os).forCall (fun _ _ => 0) ⟨#[], #[.slice none 0 0, .slice none 0 0, .int .i64 0], []⟩).memory :=
  laidMet_of_run' 8 (by kernel_rfl) (by kernel_rfl)
theorem reads (os : Os) {H : Type} (enc : TypeId × Value → H) : ∃ places, DataW.whole enc Tryz.prog ((laidWorld os).forCall (fun _ _ => 0) ⟨#[], #[.slice none 0 0, .slice none 0 0, .int .i64 0], []⟩).memory Tryz.f4.params.toList Rows.spaceFindSpec.vars false (#[.slice none 0 0, .slice none 0 0, .int .i64 0] : Array Value).toList 8 = some ([.nil, .nil, .lit (.int .i64 0)], [], places) :=
  ⟨[], by kernel_rfl⟩
set_option maxRecDepth 100000 in
theorem lifted (os : Os) (started : os.Started) (H : Type) (enc : TypeId × Value → H) (F : Stop.Interp) :
    ReturnsInHanded {} Tryz.checked os 4 .any ((Rows.OpenSpec.upto Rows.spaceFindSpec).preRow enc Tryz.prog Tryz.f4 Rows.spaceFindUptoRow.domain false Rows.spaceFindUptoRow.laid) (((Rows.OpenSpec.upto Rows.spaceFindSpec).at F).post enc Tryz.prog Tryz.f4 false true false false) := by
  obtain ⟨places, hx⟩ := reads os enc
  refine returnsInHanded_of_row (C := Tryz.checked) (s := Rows.OpenSpec.upto Rows.spaceFindSpec) own started (by kernel_rfl) Tryz.func4
    (witness_row_at (enc := enc) (C := Tryz.checked) false (laidWorld os) #[.slice none 0 0, .slice none 0 0, .int .i64 0] rfl (by kernel_rfl) (by kernel_rfl) (by kernel_rfl)
      (OpenSpec.preRow_of_cond 8 hx (by kernel_rfl) (fun k hk => by cases hk; kernel_rfl) (by kernel_rfl) (laid_met os))) ?_
  intro W base args ds gs before hval hW _ hcond _ hL _ _
  exact contract H enc W base args ds gs before hval hW (hcond _ rfl) hL
theorem saidUpto : Rows.SpaceFindUptoSaid :=
  OpenClaim.holds_of_cond 4 Tryz.f4 rfl rfl rfl rfl rfl rfl rfl ⟨rfl, rfl, rfl, rfl, rfl⟩ rfl rfl rfl rfl rfl (by kernel_rfl) Tryz.func4 (by kernel_rfl)
    (of_decide_eq_true (by kernel_rfl)) (by unfold Func.isWrapper; first | (rw [if_pos (by decide +kernel)]; kernel_rfl) | (rw [if_neg (by decide +kernel)]; exact ⟨rfl, rfl⟩))
    (fun os started H enc _ F => by rw [OpenClaim.pre_eq_preRow]; exact lifted os started H enc F)
theorem plain (f : FuncId) (fn : Func) (hf : Tryz.pinned.checked.prog.funcNamed "lariat/lariatlaw22.SpaceFind" = some f) (hfn : Tryz.pinned.checked.prog.funcs[f]? = some fn) :
    true = Tryz.pinned.checked.prog.looks [] ∧ ∀ (j : Nat) t, fn.params[j]? = some t → Tryz.pinned.checked.prog.wantsStandIn t = false := by
  obtain rfl : f = 4 := Option.some.inj ((show Tryz.prog.funcNamed "lariat/lariatlaw22.SpaceFind" = some 4 by kernel_rfl).symm.trans hf) |>.symm
  obtain rfl : fn = Tryz.f4 := (Option.some.inj (Tryz.func4.symm.trans hfn)).symm
  refine ⟨by kernel_rfl, fun j t ht => ?_⟩
  rw [Tryz.params4] at ht
  have hm : t ∈ [29, 22, 3] := by simpa using Array.mem_of_getElem? ht
  have hall : ([29, 22, 3].all fun u => !Tryz.prog.wantsStandIn u) = true := by kernel_rfl
  exact (show Tryz.prog.wantsStandIn t = false by simpa using List.all_eq_true.1 hall t hm)
end SpaceFindLaw
theorem spaceFind_uptoCard : Rows.SpaceFindUptoCardSaid :=
  Claim7.holds_tied_plain_at .later [] _ _ _ _ SpaceFindLaw.saidUpto (fun _ h => by cases h) (by kernel_rfl) (fun _ h => by cases h) spaceFindUpto_row_tie rfl ⟨rfl, rfl⟩ (by kernel_rfl) rfl SpaceFindLaw.plain (by kernel_rfl)
end Go.Proofs.YtpfcbkbdnfjbcaaGreatDoor
