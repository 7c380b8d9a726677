/- 'TraceTextsUptoCardSaid': the text of any trace, and that it comes back of it, if its numbers are within bounds. Condition: what is read is of bulk at most 1048576; the listed variables hold what the program's text lays them with (tied by the card). -/
import Derived.Test.YtofjikajegnpaaaGreatDoorTx9
import GoSem.ClaimJoined
import Derived.Lib.LaidTab
import Derived.LaidLaws
import Derived.Test.YtofjikajegnpaaaGreatDoorRows
import Derived.Test.YtofjikajegnpaaaGreatDoorCards
import Derived.Test.YtofjikajegnpaaaGreatDoorTie
import Derived.Deep.DeepHandedRow
import Derived.Deep.DeepLaidRun
namespace Go.Am
open Go
theorem dec_list {α : Type} {Q : α → Prop} (f : α → D) : ∀ (l : List D), (∀ y ∈ l, ∃ a, y = f a ∧ Q a) → ∃ vs : List α, l = vs.map f ∧ ∀ a ∈ vs, Q a
  | [], _ => ⟨[], rfl, by simp⟩
  | y :: l, h => by
    obtain ⟨a, rfl, ha⟩ := h y (by simp)
    obtain ⟨vs, rfl, hs⟩ := dec_list f l (fun z hz => h z (by simp [hz]))
    exact ⟨a :: vs, rfl, by simpa using ⟨ha, hs⟩⟩
theorem bulks_list {α : Type} (f : α → D) (g : α → Nat) (h : ∀ x, (f x).bulk = g x) (l : List α) : D.bulks (l.map f) = (l.map g).sum := by
  induction l with
  | nil => simp [D.bulks]
  | cons a l ih => simp [D.bulks, h, ih]
theorem bulk_list {α : Type} (f : α → D) (g : α → Nat) (h : ∀ x, (f x).bulk = g x) (l : List α) : D.bulk (.sl false (l.map f)) = (l.map g).sum + 1 := by
  rw [D.bulk, bulks_list f g h]
end Go.Am
namespace Go.Trc
open Go Go.Am Go.Proofs
set_option linter.unusedSimpArgs false
set_option linter.unusedVariables false
set_option maxRecDepth 20000
def ok3 (m : Int) : Prop := -9223372036854775808 ≤ m ∧ m ≤ 9223372036854775807
def bk3 (_ : Int) : Nat := 1
theorem dec3 {n : Nat} {x : D} (h : Ty P (n + 1) 3 x) : ∃ v : Int, x = eI v ∧ ok3 v := by
  have hu : P.underlying 3 = some (.int .i64) := un3
  simp only [Ty, hu] at h
  obtain ⟨m, rfl, h1, h2⟩ := h
  exact ⟨m, rfl, h1, h2⟩
theorem bkE3 (v : Int) : (eI v).bulk = bk3 v := rfl
def ok27 (x : Gapi_Step) : Prop := ok3 x.Cmd ∧ ok3 x.Way
def bk27 (x : Gapi_Step) : Nat := bk3 x.Cmd + bk3 x.Way
theorem dec27 {n : Nat} {x : D} (h : Ty P (n + 2) 27 x) : ∃ v : Gapi_Step, x = eapi_Step v ∧ ok27 v := by
  have hu : P.underlying 27 = _ := Tryz.underlying27
  rw [Ty] at h
  simp only [hu] at h
  obtain ⟨ys, rfl, hy⟩ := h
  simp only [All2] at hy
  obtain ⟨a0, r0, rfl, g0, h0⟩ := hy
  obtain ⟨v0, rfl, k0⟩ := dec3 (n := n + 0) g0
  obtain ⟨a1, r1, rfl, g1, h1⟩ := h0
  obtain ⟨v1, rfl, k1⟩ := dec3 (n := n + 0) g1
  subst h1
  exact ⟨⟨v0, v1⟩, rfl, k0, k1⟩
theorem bkE27 (v : Gapi_Step) : (eapi_Step v).bulk = bk27 v := by
  have h := fun (l : List D) => D.bulk.eq_3 l
  simp only [eapi_Step, bk27, D.bulk, D.bulks, ← bkE3] <;> omega
def ok22 (l : List Gapi_Step) : Prop := ∀ a ∈ l, ok27 a
def bk22 (l : List Gapi_Step) : Nat := (l.map bk27).sum + 1
theorem dec22 {n : Nat} {x : D} (h : Ty P (n + 3) 22 x) : ∃ v : List Gapi_Step, x = (esapi_Step false) v ∧ ok22 v := by
  have hu : P.underlying 22 = some (.slice 27) := un22
  rw [Ty] at h
  simp only [hu] at h
  obtain ⟨l, rfl, hl⟩ := h
  obtain ⟨vs, rfl, hs⟩ := dec_list eapi_Step l (fun y hy => dec27 (n := n + 0) (hl y hy))
  exact ⟨vs, rfl, hs⟩
theorem bkE22 (v : List Gapi_Step) : ((esapi_Step false) v).bulk = bk22 v := bulk_list eapi_Step bk27 bkE27 v
def ok24 (x : Gapi_Trace) : Prop := ok22 x.Stem ∧ ok22 x.Loop
def bk24 (x : Gapi_Trace) : Nat := bk22 x.Stem + bk22 x.Loop
theorem dec24 {n : Nat} {x : D} (h : Ty P (n + 4) 24 x) : ∃ v : Gapi_Trace, x = (eapi_Trace false) v ∧ ok24 v := by
  have hu : P.underlying 24 = _ := Tryz.underlying24
  rw [Ty] at h
  simp only [hu] at h
  obtain ⟨ys, rfl, hy⟩ := h
  simp only [All2] at hy
  obtain ⟨a0, r0, rfl, g0, h0⟩ := hy
  obtain ⟨v0, rfl, k0⟩ := dec22 (n := n + 0) g0
  obtain ⟨a1, r1, rfl, g1, h1⟩ := h0
  obtain ⟨v1, rfl, k1⟩ := dec22 (n := n + 0) g1
  subst h1
  exact ⟨⟨v0, v1⟩, rfl, k0, k1⟩
theorem bkE24 (v : Gapi_Trace) : ((eapi_Trace false) v).bulk = bk24 v := by
  have h := fun (l : List D) => D.bulk.eq_3 l
  simp only [eapi_Trace, bk24, D.bulk, D.bulks, ← bkE22] <;> omega
end Go.Trc
namespace Go.Am
open Go Go.ChangeShapes
set_option linter.unusedSimpArgs false
set_option linter.unusedVariables false
def textsW {H : Type} (ss : List (List UInt8)) : DataW H := .agg (ss.map fun s => .lit (.string s))
theorem cells_of_texts {H : Type} {enc : TypeId × Value → H} {P : Program} {w : World} {base : Nat} {sp : Nat → Bool} {held : Bool} {fuel : Nat} {t e : TypeId} {n : Nat} {cs : List Value} {ss : List (List UInt8)} {p : List MemPlace}
    (ht : P.underlying t = some (.array n e)) (he : P.underlying e = some .string) (hce : P.cellsOf e = 1) (hct : P.cellsOf t = n)
    (h : DataW.trod enc P w base sp held fuel t cs = some (textsW ss, p)) : cs = ss.map fun s => Value.string ⟨s.toArray⟩ := by
  obtain ⟨xs, m, rfl, hx, hl, hxl, hel⟩ := DataW.trod_array ht h
  simp only [textsW, Prod.mk.injEq, DataW.agg.injEq] at hx
  obtain ⟨hxs, _⟩ := hx
  have hzl : ss.length = n := by
    have := congrArg List.length hxs
    simp at this
    omega
  apply List.ext_getElem?
  intro i
  by_cases hi : i < n
  · have hb := hel i hi
    rw [hce, Nat.mul_one, List.getElem?_eq_getElem (by omega)] at hb
    obtain ⟨s, hc, hxe, _⟩ := DataW.trod_string he hb
    have h1 : cs[i]? = some (.string s) := by
      have := congrArg (·[0]?) hc
      simpa [List.getElem?_take, List.getElem?_drop] using this
    have h2 : (xs.map (·.1))[i]? = some (DataW.lit (.string s.data.toList) : DataW H) := by
      rw [List.getElem?_map, List.getElem?_eq_getElem (by omega)]
      simp [hxe]
    rw [← hxs] at h2
    simp only [List.getElem?_map, Option.map_eq_some_iff, DataW.lit.injEq, Lit.string.injEq] at h2
    obtain ⟨s', hs', rfl⟩ := h2
    rw [h1, List.getElem?_map, hs']
    simp
  · rw [List.getElem?_eq_none (by omega), List.getElem?_eq_none (by simp; omega)]
theorem vcs_texts (c : Cx) : ∀ ss : List (List UInt8), VCs c (ss.map D.str) (ss.map fun s => Value.string ⟨s.toArray⟩)
  | [] => by simp [VCs]
  | s :: ss => by
    simp only [List.map_cons, VCs]
    exact ⟨_, _, rfl, by simp [VC], vcs_texts c ss⟩
theorem laid_of_plain {P : Program} {l : List (String × DataW Unit)} {W : World} (hp : (l.filter fun x => x.2.handleName?.isSome) = []) (h : laidMetH P l W) : laidMet P l W := by
  unfold laidMetH at h
  rw [hp] at h
  exact h
theorem laid_tail {P : Program} {x : String × DataW Unit} {r : List (String × DataW Unit)} {W : World} (h : laidMet P (x :: r) W) : laidMet P r W := by
  obtain ⟨ps, ⟨g, t, cs, fuel, p, q, _, _, _, _, hr, rfl⟩, hn, hc⟩ := h
  exact ⟨q, hr, (List.nodup_append.1 hn).2.1, fun b off hm => hc b off (List.mem_append_right _ hm)⟩
theorem laid_head {P : Program} {name : String} {d : DataW Unit} {r : List (String × DataW Unit)} {W : World} {g : Nat} {t : TypeId} (hg : P.globalNamed name = some g) (hty : (P.globals[g]?).map (·.type) = some t) (h : laidMet P ((name, d) :: r) W) :
    ∃ (cs : Array Value) (fuel : Nat) (p : List MemPlace), W.var? P name = some cs ∧ GH W g cs.toList ∧ DataW.trod (fun _ => ()) P W 0 (fun _ => true) false fuel t cs.toList = some (d, p) := by
  obtain ⟨ps, ⟨g', t', cs, fuel, p, q, hg', ht', hvar, hd, _, _⟩, _⟩ := h
  obtain rfl := Option.some.inj (hg.symm.trans hg')
  obtain rfl := Option.some.inj (hty.symm.trans ht')
  refine ⟨cs, fuel, p, hvar, ?_, hd⟩
  unfold World.var? at hvar
  simp only [hg, Option.bind_some] at hvar
  split at hvar
  · rename_i c ty fr hh
    simp only [Option.some.injEq] at hvar
    subst hvar
    exact ⟨ty, fr, by simpa using hh⟩
  · cases hvar
theorem laid_texts {P : Program} {name : String} {g : Nat} {t e : TypeId} {n : Nat} {ss : List (List UInt8)} {W : World} (hg : P.globalNamed name = some g) (hty : (P.globals[g]?).map (·.type) = some t) (ht : P.underlying t = some (.array n e)) (he : P.underlying e = some .string) (hce : P.cellsOf e = 1) (hct : P.cellsOf t = n)
    {rest : List (String × DataW Unit)} (h : laidMet P ((name, textsW ss) :: rest) W) : ∃ vs, GH W g vs ∧ GV (.agg (ss.map D.str)) vs := by
  obtain ⟨cs, fuel, p, _, h1, h2⟩ := laid_head hg hty h
  have hcs := cells_of_texts ht he hce hct h2
  exact ⟨_, h1, fun _ c => by rw [hcs]; exact vcs_texts c ss, fun h => by cases h⟩
theorem vcs_ints (c : Cx) (k : IntKind) : ∀ zs : List Int, VCs c (zs.map (D.int k)) (zs.map fun z => Value.int k z)
  | [] => by simp [VCs]
  | z :: zs => by
    simp only [List.map_cons, VCs]
    exact ⟨_, _, rfl, by simp [VC], vcs_ints c k zs⟩
theorem laid_ints {P : Program} {name : String} {g : Nat} {t e : TypeId} {n : Nat} {k : IntKind} {zs : List Int} {W : World} (hg : P.globalNamed name = some g) (hty : (P.globals[g]?).map (·.type) = some t) (ht : P.underlying t = some (.array n e)) (he : P.underlying e = some (.int k)) (hce : P.cellsOf e = 1) (hct : P.cellsOf t = n)
    {rest : List (String × DataW Unit)} (h : laidMet P ((name, Lib.tabData k zs) :: rest) W) : ∃ vs, GH W g vs ∧ GV (.agg (zs.map (D.int k))) vs := by
  obtain ⟨cs, fuel, p, _, h1, h2⟩ := laid_head hg hty h
  have hcs := Lib.cells_of_tab ht he hce hct h2
  exact ⟨_, h1, fun _ c => by rw [hcs]; exact vcs_ints c k zs, fun h => by cases h⟩
theorem laid_iface {P : Program} {name nm : String} {g : Nat} {t : TypeId} {ms : Array (String × TypeId)} {d : DataW Unit} {W : World} (hg : P.globalNamed name = some g) (hty : (P.globals[g]?).map (·.type) = some t) (ht : P.underlying t = some (.interface ms))
    {rest : List (String × DataW Unit)} (h : laidMet P ((name, .iface nm d) :: rest) W) : ∃ vs, GH W g vs ∧ GV .nilf vs := by
  obtain ⟨cs, fuel, p, _, h1, h2⟩ := laid_head hg hty h
  obtain ⟨_, u, v, hc, _, _⟩ := iface_of_trod ht h2
  exact ⟨_, h1, ⟨(fun q => by cases q), fun _ => ⟨u, v, hc⟩⟩⟩
end Go.Am
namespace Go.Trc
open Go Go.Am Go.Proofs Go.Tr7
set_option linter.unusedSimpArgs false
set_option linter.unusedVariables false
set_option maxRecDepth 20000
theorem cbK_some {α : Type} (o : Option α) : cbK o some = o := by unfold cbK; cases o <;> rfl
theorem okS_of {l : List Gapi_Step} (h : ok22 l) : ∀ z ∈ l, okS z := by
  intro z hz
  obtain ⟨⟨h1, h2⟩, h3, h4⟩ := h z hz
  constructor <;> simp only [inR, Bool.and_eq_true, decide_eq_true_eq] <;> omega
theorem law_TraceTexts (t : Gapi_Trace) (h : ok24 t) (_hb : bk24 t ≤ 1048576) : call 3 [eapi_Trace false t] [] = some ([.d (.bool true)], []) := by
  have e : cbK (call 3 [eapi_Trace false t] []) (some : List T × List Ob → Option (List T × List Ob)) = f_law45_TraceTexts t (fun y => some ([T.d (.bool y)], [])) := by
    unfold f_law45_TraceTexts
    exact (F_law45_TraceTexts t).2 false _ _ (fun _ => rfl)
  rw [cbK_some] at e
  rw [e, TraceTexts_eq t (okS_of h.1) (okS_of h.2)]
def gl8 : Nat → Option D := fun g => Am.look [(1, .agg ([[115, 101, 108, 102], [110, 111, 110, 101], [108, 101, 110], [97, 116]].map D.str)), (2, .nilf), (3, .nilf), (4, .agg (Lib.pow10Tab.map (D.int .u64)))] g
theorem vars8 : Vars gl8 := ⟨rfl, rfl, rfl⟩
theorem hints_gl : ∀ f g d, (hints f).gl g = some d → gl8 g = some d := by
  intro f g d h
  have key : glob g = some d → gl8 g = some d := by
    intro h
    simp only [glob, gl8, Am.look] at h ⊢
    split at h
    · rename_i hg
      rw [if_pos hg]
      exact h
    · cases h
  unfold hints at h
  split at h <;> first | exact key h | cases h
theorem hints_ext : ∀ f F, (hints f).ext = some F → ExtOK Tryz.prog gl8 f F := by
  intro f F h
  unfold hints at h
  split at h <;> first | (cases h; done) | (cases h; exact given_line vars8) | (cases h; exact given_num vars8) | (cases h; exact given_dec vars8)
theorem g_own : Tryz.prog.globalNamed "lariat/lex.own" = some 1 := by kernel_rfl
theorem t_own : (Tryz.prog.globals[1]?).map (·.type) = some 195 := by kernel_rfl
theorem g_syn : Tryz.prog.globalNamed "strconv.ErrSyntax" = some 2 := by kernel_rfl
theorem t_syn : (Tryz.prog.globals[2]?).map (·.type) = some 87 := by kernel_rfl
theorem g_rng : Tryz.prog.globalNamed "strconv.ErrRange" = some 3 := by kernel_rfl
theorem t_rng : (Tryz.prog.globals[3]?).map (·.type) = some 87 := by kernel_rfl
theorem g_pow : Tryz.prog.globalNamed "internal/strconv.uint64pow10" = some 4 := by kernel_rfl
theorem t_pow : (Tryz.prog.globals[4]?).map (·.type) = some 287 := by kernel_rfl
open Go.Proofs.YtofjikajegnpaaaGreatDoor in
theorem held {W : World} (h : laidMet Tryz.prog Rows.traceTextsUptoRow.laid W) : GA gl8 (A0 W) := by
  have hp := laid_tail (laid_tail h)
  have hr := laid_tail (laid_tail hp)
  have hs := laid_tail hr
  have ho := laid_tail hs
  have key : ∀ g d, (∃ vs : List Value, GH W g vs ∧ GV d vs) → g < (A0 W).w0.heap.size ∧ ¬ (A0 W).O0 g ∧ (∀ t, ¬ (A0 W).F t g) ∧ ∃ vs : List Value, GH (A0 W).w0 g vs ∧ GV d vs := by
    rintro g d ⟨vs, h1, h2⟩
    refine ⟨?_, id, fun _ => id, vs, h1, h2⟩
    obtain ⟨t, fr, h3⟩ := h1
    exact (Array.getElem?_eq_some_iff.1 h3).1
  intro g d e
  refine key g d ?_
  simp only [gl8, Am.look] at e
  split at e
  · rename_i hg
    simp only [Option.some.injEq] at e
    subst e
    rw [← hg]
    exact laid_texts g_own t_own Tryz.underlying195 Tryz.underlying9 (by kernel_rfl) (by kernel_rfl) ho
  · split at e
    · rename_i hg
      simp only [Option.some.injEq] at e
      subst e
      rw [← hg]
      exact laid_iface g_syn t_syn Tryz.underlying87 hs
    · split at e
      · rename_i hg
        simp only [Option.some.injEq] at e
        subst e
        rw [← hg]
        exact laid_iface g_rng t_rng Tryz.underlying87 hr
      · split at e
        · rename_i hg
          simp only [Option.some.injEq] at e
          subst e
          rw [← hg]
          exact laid_ints g_pow t_pow Tryz.underlying287 Tryz.underlying53 (by kernel_rfl) (by kernel_rfl) hp
        · cases e
end Go.Trc
namespace Go.Proofs.YtofjikajegnpaaaGreatDoor
open Go Go.Am Go.Trc Go.ChangeShapes Go.WideShapes Go.ChangeAt Go.RowKit
set_option linter.unusedSimpArgs false
set_option linter.unusedVariables false
set_option maxRecDepth 20000
namespace TraceTextsLaw
theorem own : ownKnob Tryz.prog.godebug = none := by kernel_rfl
theorem follows : Tryz.prog.follows .mixedOrders = true := by kernel_rfl
theorem laid : laidOutB Tryz.prog = true := by kernel_rfl
theorem okT24 : tyOk Tryz.prog 8 24 = true := by kernel_rfl
theorem rdT24 : (Tryz.prog.readableRec 24 && decide (24 < Tryz.prog.types.size)) = true := by kernel_rfl
theorem contract (H : Type) (enc : TypeId × Value → H) (W : World) (base : Nat) (args : Array Value) (ds gs : List (DataW H)) (before : List MemPlace)
    (hval : ∀ (j : Nat) t v, Tryz.f3.params[j]? = some t → args[j]? = some v → Value.okWide Tryz.prog W .any base t v)
    (hW : DataW.Whole enc Tryz.prog Tryz.f3.params.toList Rows.traceTextsSpec.vars false W args.toList ds gs before) (hk : Rows.uptoSmall H (ds ++ gs) = true) (hL : laidMetH Tryz.prog Rows.traceTextsUptoRow.laid W) :
    Calls Tryz.prog 3 args W fun e W' => ∃ v, e = .returned v ∧ Rows.traceTextsSpec.post enc Tryz.prog Tryz.f3 false true false false W args v W' := by
  have hW' := hW
  obtain ⟨p, q, hA0, hV, rfl, hfz, hnd⟩ := hW
  have hA : DataW.TrodAll enc Tryz.prog W 0 (fun _ => true) true Tryz.f3.params.toList args.toList ds p := hA0
  obtain ⟨rfl, rfl⟩ := trodVars_none hV
  have hb : Rows.uptoBulkAll ds ≤ 1048576 := of_decide_eq_true (by simpa [Rows.uptoSmall] using hk)
  have hp : Tryz.f3.params.toList = [24] := by rw [Tryz.params3]
  obtain ⟨xs, hv, ht, hbk⟩ := readAll_ok (P := Tryz.prog) (n := 8) Tryz.f3.params.toList args.toList ds p (by rw [hp]; simp [okT24]) (fun j t v h1 h2 => ⟨base, hval j t v (by simpa using h1) (by simpa using h2)⟩) hA
  rw [hp] at ht
  obtain ⟨a0, r0, rfl, h0, rfl⟩ := ht
  obtain ⟨x0, rfl, k0⟩ := dec24 (n := 4) h0
  have hbk2 := Nat.le_trans hbk hb
  simp only [D.bulks, bkE24, Nat.add_zero] at hbk2
  obtain ⟨n, hn⟩ := callX_iff.1 (law_TraceTexts x0 k0 (by omega))
  refine (calls_true follows hints_gl hints_ext (show ¬ YB ≤ 3 by unfold YB; omega) hn (held (laid_of_plain (by kernel_rfl) hL)) hv).mono fun e W' ⟨he, hbl⟩ => ?_
  subst he
  obtain ⟨d0, rfl⟩ : ∃ d0, ds = [d0] := by
    rw [hp] at hA
    obtain ⟨v0, vs0, d0, ds0, p0, q0, _, rfl, rfl, _, g0⟩ := trodAll_cons hA
    obtain ⟨_, rfl, _⟩ := trodAll_nil g0
    exact ⟨d0, rfl⟩
  exact ⟨_, rfl, law_post hW' rfl rfl hbl laid (by
    rw [hp]
    intro t ht
    simp only [List.mem_cons, List.not_mem_nil, or_false] at ht
    rcases ht with rfl
    · simpa using rdT24) (by kernel_rfl) Tryz.underlying4⟩
noncomputable def low : Nat := (World.holding Tryz.prog default ⟨#[], #[], []⟩).heap.size
def cell1 : DataW Unit → List Value
  | .lit (.int k n) => [.int k n]
  | .lit (.string s) => [.string ⟨s.toArray⟩]
  | _ => []
def cell2 : DataW Unit → List Value
  | .agg l => l.flatMap cell1
  | x => cell1 x
def cells : DataW Unit → Array Value
  | .agg l => (l.flatMap cell2).toArray
  | _ => #[]
noncomputable def laidWorld (os : Os) : World :=
  let w0 := World.holding Tryz.prog os ⟨#[.cells #[.string ⟨#[118, 97, 108, 117, 101, 32, 111, 117, 116, 32, 111, 102, 32, 114, 97, 110, 103, 101]⟩] 297, .cells #[.string ⟨#[105, 110, 118, 97, 108, 105, 100, 32, 115, 121, 110, 116, 97, 120]⟩] 297], #[], []⟩
  let put (g : Nat) (vs : Array Value) (h : Array Obj) : Array Obj := h.modify g fun
    | .cells _ t frozen => .cells vs t frozen
    | o => o
  { w0 with heap := put 1 (cells Rows.laid_lariat_lex_own) (put 2 #[.iface 295 (.pointer (some ⟨low + 1, 0, none⟩))] (put 3 #[.iface 295 (.pointer (some ⟨low, 0, none⟩))] (put 4 (cells Rows.laid_internal_strconv_uint64pow10) (put 5 (cells Rows.laid_unicode_utf8_first) (put 6 (cells Rows.laid_unicode_utf8_acceptRanges) (put 7 (cells Rows.laid_math_bits_deBruijn32tab) (put 8 (cells Rows.laid_math_bits_deBruijn64tab) w0.heap))))))) }
theorem laid_met (os : Os) : laidMet Tryz.prog Rows.traceTextsUptoRow.laid ((laidWorld os).forCall (fun _ _ => 0) ⟨#[], #[.agg #[.slice none 0 0, .slice none 0 0]], []⟩).memory :=
  laidMet_of_run3 8 (by kernel_rfl) (by kernel_rfl) (by kernel_rfl)
theorem reads (os : Os) {H : Type} (enc : TypeId × Value → H) : ∃ places, DataW.whole enc Tryz.prog ((laidWorld os).forCall (fun _ _ => 0) ⟨#[], #[.agg #[.slice none 0 0, .slice none 0 0]], []⟩).memory Tryz.f3.params.toList Rows.traceTextsSpec.vars false (#[.agg #[.slice none 0 0, .slice none 0 0]] : Array Value).toList 8 = some ([.agg [.nil, .nil]], [], places) :=
  ⟨[], by kernel_rfl⟩
set_option maxRecDepth 100000 in
theorem lifted (os : Os) (started : os.Started) (H : Type) (enc : TypeId × Value → H) (F : Stop.Interp) :
    ReturnsInHanded {} Tryz.checked os 3 .any ((Rows.OpenSpec.upto Rows.traceTextsSpec).preRow enc Tryz.prog Tryz.f3 Rows.traceTextsUptoRow.domain false Rows.traceTextsUptoRow.laid) (((Rows.OpenSpec.upto Rows.traceTextsSpec).at F).post enc Tryz.prog Tryz.f3 false true false false) := by
  obtain ⟨places, hx⟩ := reads os enc
  refine returnsInHanded_of_row (C := Tryz.checked) (s := Rows.OpenSpec.upto Rows.traceTextsSpec) own started (by kernel_rfl) Tryz.func3
    (witness_row_at (enc := enc) (C := Tryz.checked) false (laidWorld os) #[.agg #[.slice none 0 0, .slice none 0 0]] rfl (by kernel_rfl) (by kernel_rfl) (by kernel_rfl)
      (OpenSpec.preRow_of_cond 8 hx (by kernel_rfl) (fun k hk => by cases hk; kernel_rfl) (by kernel_rfl) (laid_met os))) ?_
  intro W base args ds gs before hval hW _ hcond _ hL _ _
  exact contract H enc W base args ds gs before hval hW (hcond _ rfl) hL
theorem saidUpto : Rows.TraceTextsUptoSaid :=
  OpenClaim.holds_of_cond 3 Tryz.f3 rfl rfl rfl rfl rfl rfl rfl ⟨rfl, rfl, rfl, rfl, rfl⟩ rfl rfl rfl rfl rfl (by kernel_rfl) Tryz.func3 (by kernel_rfl)
    (of_decide_eq_true (by kernel_rfl)) (by unfold Func.isWrapper; first | (rw [if_pos (by decide +kernel)]; kernel_rfl) | (rw [if_neg (by decide +kernel)]; exact ⟨rfl, rfl⟩))
    (fun os started H enc _ F => by rw [OpenClaim.pre_eq_preRow]; exact lifted os started H enc F)
theorem plain (f : FuncId) (fn : Func) (hf : Tryz.pinned.checked.prog.funcNamed "lariat/lariatlaw45.TraceTexts" = some f) (hfn : Tryz.pinned.checked.prog.funcs[f]? = some fn) :
    true = Tryz.pinned.checked.prog.looks [] ∧ ∀ (j : Nat) t, fn.params[j]? = some t → Tryz.pinned.checked.prog.wantsStandIn t = false := by
  obtain rfl : f = 3 := Option.some.inj ((show Tryz.prog.funcNamed "lariat/lariatlaw45.TraceTexts" = some 3 by kernel_rfl).symm.trans hf) |>.symm
  obtain rfl : fn = Tryz.f3 := (Option.some.inj (Tryz.func3.symm.trans hfn)).symm
  refine ⟨by kernel_rfl, fun j t ht => ?_⟩
  rw [Tryz.params3] at ht
  have hm : t ∈ [24] := by simpa using Array.mem_of_getElem? ht
  have hall : ([24].all fun u => !Tryz.prog.wantsStandIn u) = true := by kernel_rfl
  exact (show Tryz.prog.wantsStandIn t = false by simpa using List.all_eq_true.1 hall t hm)
end TraceTextsLaw
theorem traceTexts_uptoCard : Rows.TraceTextsUptoCardSaid :=
  Claim7.holds_tied_plain_at .later [] _ _ _ _ TraceTextsLaw.saidUpto (fun _ h => by cases h) (by kernel_rfl) (fun _ h => by cases h) traceTextsUpto_row_tie rfl ⟨rfl, rfl⟩ (by kernel_rfl) rfl TraceTextsLaw.plain (by kernel_rfl)
end Go.Proofs.YtofjikajegnpaaaGreatDoor
