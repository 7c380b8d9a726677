/- 'TraceParsesUptoCardSaid': the trace that any text is, or what is wrong first, and in which line; what is read has just this text. Condition: what is read is of bulk at most 1048576; the listed variables hold what the program's text lays them with (tied by the card). -/
import Derived.Test.YtofjikajegnpaaaGreatDoorTy9
import GoSem.ClaimJoined
import Derived.Lib.LaidTab
import Derived.LaidLaws
import Derived.Test.YtofjikajegnpaaaGreatDoorRows
import Derived.Test.YtofjikajegnpaaaGreatDoorCards
import Derived.Test.YtofjikajegnpaaaGreatDoorTie
import Derived.Deep.DeepHandedRow
import Derived.Deep.DeepLaidRun
namespace Go.Am
open Go
end Go.Am
namespace Go.Trc
open Go Go.Am Go.Proofs
set_option linter.unusedSimpArgs false
set_option linter.unusedVariables false
set_option maxRecDepth 20000
def ok9 (_ : List UInt8) : Prop := True
def bk9 (s : List UInt8) : Nat := s.length + 1
theorem dec9 {n : Nat} {x : D} (h : Ty P (n + 1) 9 x) : ∃ v : List UInt8, x = eS v ∧ ok9 v := by
  have hu : P.underlying 9 = some .string := un9
  simp only [Ty, hu] at h
  obtain ⟨m, rfl⟩ := h
  exact ⟨m, rfl, trivial⟩
theorem bkE9 (v : List UInt8) : (eS v).bulk = bk9 v := rfl
end Go.Trc
namespace Go.Am
open Go Go.ChangeShapes
set_option linter.unusedSimpArgs false
set_option linter.unusedVariables false
def textsW {H : Type} (ss : List (List UInt8)) : DataW H := .agg (ss.map fun s => .lit (.string s))
theorem cells_of_texts {H : Type} {enc : TypeId × Value → H} {P : Program} {w : World} {base : Nat} {sp : Nat → Bool} {held : Bool} {fuel : Nat} {t e : TypeId} {n : Nat} {cs : List Value} {ss : List (List UInt8)} {p : List MemPlace}
    (ht : P.underlying t = some (.array n e)) (he : P.underlying e = some .string) (hce : P.cellsOf e = 1) (hct : P.cellsOf t = n)
    (h : DataW.trod enc P w base sp held fuel t cs = some (textsW ss, p)) : cs = ss.map fun s => Value.string ⟨s.toArray⟩ := by
  obtain ⟨xs, m, rfl, hx, hl, hxl, hel⟩ := DataW.trod_array ht h
  simp only [textsW, Prod.mk.injEq, DataW.agg.injEq] at hx
  obtain ⟨hxs, _⟩ := hx
  have hzl : ss.length = n := by
    have := congrArg List.length hxs
    simp at this
    omega
  apply List.ext_getElem?
  intro i
  by_cases hi : i < n
  · have hb := hel i hi
    rw [hce, Nat.mul_one, List.getElem?_eq_getElem (by omega)] at hb
    obtain ⟨s, hc, hxe, _⟩ := DataW.trod_string he hb
    have h1 : cs[i]? = some (.string s) := by
      have := congrArg (·[0]?) hc
      simpa [List.getElem?_take, List.getElem?_drop] using this
    have h2 : (xs.map (·.1))[i]? = some (DataW.lit (.string s.data.toList) : DataW H) := by
      rw [List.getElem?_map, List.getElem?_eq_getElem (by omega)]
      simp [hxe]
    rw [← hxs] at h2
    simp only [List.getElem?_map, Option.map_eq_some_iff, DataW.lit.injEq, Lit.string.injEq] at h2
    obtain ⟨s', hs', rfl⟩ := h2
    rw [h1, List.getElem?_map, hs']
    simp
  · rw [List.getElem?_eq_none (by omega), List.getElem?_eq_none (by simp; omega)]
theorem vcs_texts (c : Cx) : ∀ ss : List (List UInt8), VCs c (ss.map D.str) (ss.map fun s => Value.string ⟨s.toArray⟩)
  | [] => by simp [VCs]
  | s :: ss => by
    simp only [List.map_cons, VCs]
    exact ⟨_, _, rfl, by simp [VC], vcs_texts c ss⟩
theorem laid_of_plain {P : Program} {l : List (String × DataW Unit)} {W : World} (hp : (l.filter fun x => x.2.handleName?.isSome) = []) (h : laidMetH P l W) : laidMet P l W := by
  unfold laidMetH at h
  rw [hp] at h
  exact h
theorem laid_tail {P : Program} {x : String × DataW Unit} {r : List (String × DataW Unit)} {W : World} (h : laidMet P (x :: r) W) : laidMet P r W := by
  obtain ⟨ps, ⟨g, t, cs, fuel, p, q, _, _, _, _, hr, rfl⟩, hn, hc⟩ := h
  exact ⟨q, hr, (List.nodup_append.1 hn).2.1, fun b off hm => hc b off (List.mem_append_right _ hm)⟩
theorem laid_head {P : Program} {name : String} {d : DataW Unit} {r : List (String × DataW Unit)} {W : World} {g : Nat} {t : TypeId} (hg : P.globalNamed name = some g) (hty : (P.globals[g]?).map (·.type) = some t) (h : laidMet P ((name, d) :: r) W) :
    ∃ (cs : Array Value) (fuel : Nat) (p : List MemPlace), W.var? P name = some cs ∧ GH W g cs.toList ∧ DataW.trod (fun _ => ()) P W 0 (fun _ => true) false fuel t cs.toList = some (d, p) := by
  obtain ⟨ps, ⟨g', t', cs, fuel, p, q, hg', ht', hvar, hd, _, _⟩, _⟩ := h
  obtain rfl := Option.some.inj (hg.symm.trans hg')
  obtain rfl := Option.some.inj (hty.symm.trans ht')
  refine ⟨cs, fuel, p, hvar, ?_, hd⟩
  unfold World.var? at hvar
  simp only [hg, Option.bind_some] at hvar
  split at hvar
  · rename_i c ty fr hh
    simp only [Option.some.injEq] at hvar
    subst hvar
    exact ⟨ty, fr, by simpa using hh⟩
  · cases hvar
theorem laid_texts {P : Program} {name : String} {g : Nat} {t e : TypeId} {n : Nat} {ss : List (List UInt8)} {W : World} (hg : P.globalNamed name = some g) (hty : (P.globals[g]?).map (·.type) = some t) (ht : P.underlying t = some (.array n e)) (he : P.underlying e = some .string) (hce : P.cellsOf e = 1) (hct : P.cellsOf t = n)
    {rest : List (String × DataW Unit)} (h : laidMet P ((name, textsW ss) :: rest) W) : ∃ vs, GH W g vs ∧ GV (.agg (ss.map D.str)) vs := by
  obtain ⟨cs, fuel, p, _, h1, h2⟩ := laid_head hg hty h
  have hcs := cells_of_texts ht he hce hct h2
  exact ⟨_, h1, fun _ c => by rw [hcs]; exact vcs_texts c ss, fun h => by cases h⟩
theorem vcs_ints (c : Cx) (k : IntKind) : ∀ zs : List Int, VCs c (zs.map (D.int k)) (zs.map fun z => Value.int k z)
  | [] => by simp [VCs]
  | z :: zs => by
    simp only [List.map_cons, VCs]
    exact ⟨_, _, rfl, by simp [VC], vcs_ints c k zs⟩
theorem laid_ints {P : Program} {name : String} {g : Nat} {t e : TypeId} {n : Nat} {k : IntKind} {zs : List Int} {W : World} (hg : P.globalNamed name = some g) (hty : (P.globals[g]?).map (·.type) = some t) (ht : P.underlying t = some (.array n e)) (he : P.underlying e = some (.int k)) (hce : P.cellsOf e = 1) (hct : P.cellsOf t = n)
    {rest : List (String × DataW Unit)} (h : laidMet P ((name, Lib.tabData k zs) :: rest) W) : ∃ vs, GH W g vs ∧ GV (.agg (zs.map (D.int k))) vs := by
  obtain ⟨cs, fuel, p, _, h1, h2⟩ := laid_head hg hty h
  have hcs := Lib.cells_of_tab ht he hce hct h2
  exact ⟨_, h1, fun _ c => by rw [hcs]; exact vcs_ints c k zs, fun h => by cases h⟩
theorem laid_iface {P : Program} {name nm : String} {g : Nat} {t : TypeId} {ms : Array (String × TypeId)} {d : DataW Unit} {W : World} (hg : P.globalNamed name = some g) (hty : (P.globals[g]?).map (·.type) = some t) (ht : P.underlying t = some (.interface ms))
    {rest : List (String × DataW Unit)} (h : laidMet P ((name, .iface nm d) :: rest) W) : ∃ vs, GH W g vs ∧ GV .nilf vs := by
  obtain ⟨cs, fuel, p, _, h1, h2⟩ := laid_head hg hty h
  obtain ⟨_, u, v, hc, _, _⟩ := iface_of_trod ht h2
  exact ⟨_, h1, ⟨(fun q => by cases q), fun _ => ⟨u, v, hc⟩⟩⟩
end Go.Am
namespace Go.Trc
open Go Go.Am Go.Proofs Go.Tr7
set_option linter.unusedSimpArgs false
set_option linter.unusedVariables false
set_option maxRecDepth 20000
theorem cbK_some {α : Type} (o : Option α) : cbK o some = o := by unfold cbK; cases o <;> rfl
theorem law_TraceParses (s : List UInt8) (_h : ok9 s) (_hb : bk9 s ≤ 1048576) : call 4 [eS s] [] = some ([.d (.bool true)], []) := by
  have e : cbK (call 4 [eS s] []) (some : List T × List Ob → Option (List T × List Ob)) = f_law45_TraceParses s (fun y => some ([T.d (.bool y)], [])) := by
    unfold f_law45_TraceParses
    exact (F_law45_TraceParses s).2 false _ _ (fun _ => rfl)
  rw [cbK_some] at e
  rw [e, TraceParses_eq s]
def gl8 : Nat → Option D := fun g => Am.look [(1, .agg ([[115, 101, 108, 102], [110, 111, 110, 101], [108, 101, 110], [97, 116]].map D.str)), (2, .nilf), (3, .nilf), (4, .agg (Lib.pow10Tab.map (D.int .u64)))] g
theorem vars8 : Vars gl8 := ⟨rfl, rfl, rfl⟩
theorem hints_gl : ∀ f g d, (hints f).gl g = some d → gl8 g = some d := by
  intro f g d h
  have key : glob g = some d → gl8 g = some d := by
    intro h
    simp only [glob, gl8, Am.look] at h ⊢
    split at h
    · rename_i hg
      rw [if_pos hg]
      exact h
    · cases h
  unfold hints at h
  split at h <;> first | exact key h | cases h
theorem hints_ext : ∀ f F, (hints f).ext = some F → ExtOK Tryz.prog gl8 f F := by
  intro f F h
  unfold hints at h
  split at h <;> first | (cases h; done) | (cases h; exact given_line vars8) | (cases h; exact given_num vars8) | (cases h; exact given_dec vars8)
theorem g_own : Tryz.prog.globalNamed "lariat/lex.own" = some 1 := by kernel_rfl
theorem t_own : (Tryz.prog.globals[1]?).map (·.type) = some 195 := by kernel_rfl
theorem g_syn : Tryz.prog.globalNamed "strconv.ErrSyntax" = some 2 := by kernel_rfl
theorem t_syn : (Tryz.prog.globals[2]?).map (·.type) = some 87 := by kernel_rfl
theorem g_rng : Tryz.prog.globalNamed "strconv.ErrRange" = some 3 := by kernel_rfl
theorem t_rng : (Tryz.prog.globals[3]?).map (·.type) = some 87 := by kernel_rfl
theorem g_pow : Tryz.prog.globalNamed "internal/strconv.uint64pow10" = some 4 := by kernel_rfl
theorem t_pow : (Tryz.prog.globals[4]?).map (·.type) = some 287 := by kernel_rfl
open Go.Proofs.YtofjikajegnpaaaGreatDoor in
theorem held {W : World} (h : laidMet Tryz.prog Rows.traceTextsUptoRow.laid W) : GA gl8 (A0 W) := by
  have hp := laid_tail (laid_tail h)
  have hr := laid_tail (laid_tail hp)
  have hs := laid_tail hr
  have ho := laid_tail hs
  have key : ∀ g d, (∃ vs : List Value, GH W g vs ∧ GV d vs) → g < (A0 W).w0.heap.size ∧ ¬ (A0 W).O0 g ∧ (∀ t, ¬ (A0 W).F t g) ∧ ∃ vs : List Value, GH (A0 W).w0 g vs ∧ GV d vs := by
    rintro g d ⟨vs, h1, h2⟩
    refine ⟨?_, id, fun _ => id, vs, h1, h2⟩
    obtain ⟨t, fr, h3⟩ := h1
    exact (Array.getElem?_eq_some_iff.1 h3).1
  intro g d e
  refine key g d ?_
  simp only [gl8, Am.look] at e
  split at e
  · rename_i hg
    simp only [Option.some.injEq] at e
    subst e
    rw [← hg]
    exact laid_texts g_own t_own Tryz.underlying195 Tryz.underlying9 (by kernel_rfl) (by kernel_rfl) ho
  · split at e
    · rename_i hg
      simp only [Option.some.injEq] at e
      subst e
      rw [← hg]
      exact laid_iface g_syn t_syn Tryz.underlying87 hs
    · split at e
      · rename_i hg
        simp only [Option.some.injEq] at e
        subst e
        rw [← hg]
        exact laid_iface g_rng t_rng Tryz.underlying87 hr
      · split at e
        · rename_i hg
          simp only [Option.some.injEq] at e
          subst e
          rw [← hg]
          exact laid_ints g_pow t_pow Tryz.underlying287 Tryz.underlying53 (by kernel_rfl) (by kernel_rfl) hp
        · cases e
end Go.Trc
namespace Go.Proofs.YtofjikajegnpaaaGreatDoor
open Go Go.Am Go.Trc Go.ChangeShapes Go.WideShapes Go.ChangeAt Go.RowKit
set_option linter.unusedSimpArgs false
set_option linter.unusedVariables false
set_option maxRecDepth 20000
namespace TraceParsesLaw
theorem own : ownKnob Tryz.prog.godebug = none := by kernel_rfl
theorem follows : Tryz.prog.follows .mixedOrders = true := by kernel_rfl
theorem laid : laidOutB Tryz.prog = true := by kernel_rfl
theorem okT9 : tyOk Tryz.prog 8 9 = true := by kernel_rfl
theorem rdT9 : (Tryz.prog.readableRec 9 && decide (9 < Tryz.prog.types.size)) = true := by kernel_rfl
theorem contract (H : Type) (enc : TypeId × Value → H) (W : World) (base : Nat) (args : Array Value) (ds gs : List (DataW H)) (before : List MemPlace)
    (hval : ∀ (j : Nat) t v, Tryz.f4.params[j]? = some t → args[j]? = some v → Value.okWide Tryz.prog W .any base t v)
    (hW : DataW.Whole enc Tryz.prog Tryz.f4.params.toList Rows.traceParsesSpec.vars false W args.toList ds gs before) (hk : Rows.uptoSmall H (ds ++ gs) = true) (hL : laidMetH Tryz.prog Rows.traceParsesUptoRow.laid W) :
    Calls Tryz.prog 4 args W fun e W' => ∃ v, e = .returned v ∧ Rows.traceParsesSpec.post enc Tryz.prog Tryz.f4 false true false false W args v W' := by
  have hW' := hW
  obtain ⟨p, q, hA0, hV, rfl, hfz, hnd⟩ := hW
  have hA : DataW.TrodAll enc Tryz.prog W 0 (fun _ => true) true Tryz.f4.params.toList args.toList ds p := hA0
  obtain ⟨rfl, rfl⟩ := trodVars_none hV
  have hb : Rows.uptoBulkAll ds ≤ 1048576 := of_decide_eq_true (by simpa [Rows.uptoSmall] using hk)
  have hp : Tryz.f4.params.toList = [9] := by rw [Tryz.params4]
  obtain ⟨xs, hv, ht, hbk⟩ := readAll_ok (P := Tryz.prog) (n := 8) Tryz.f4.params.toList args.toList ds p (by rw [hp]; simp [okT9]) (fun j t v h1 h2 => ⟨base, hval j t v (by simpa using h1) (by simpa using h2)⟩) hA
  rw [hp] at ht
  obtain ⟨a0, r0, rfl, h0, rfl⟩ := ht
  obtain ⟨x0, rfl, k0⟩ := dec9 (n := 7) h0
  have hbk2 := Nat.le_trans hbk hb
  simp only [D.bulks, bkE9, Nat.add_zero] at hbk2
  obtain ⟨n, hn⟩ := callX_iff.1 (law_TraceParses x0 k0 (by omega))
  refine (calls_true follows hints_gl hints_ext (show ¬ YB ≤ 4 by unfold YB; omega) hn (held (laid_of_plain (by kernel_rfl) hL)) hv).mono fun e W' ⟨he, hbl⟩ => ?_
  subst he
  obtain ⟨d0, rfl⟩ : ∃ d0, ds = [d0] := by
    rw [hp] at hA
    obtain ⟨v0, vs0, d0, ds0, p0, q0, _, rfl, rfl, _, g0⟩ := trodAll_cons hA
    obtain ⟨_, rfl, _⟩ := trodAll_nil g0
    exact ⟨d0, rfl⟩
  exact ⟨_, rfl, law_post hW' rfl rfl hbl laid (by
    rw [hp]
    intro t ht
    simp only [List.mem_cons, List.not_mem_nil, or_false] at ht
    rcases ht with rfl
    · simpa using rdT9) (by kernel_rfl) Tryz.underlying4⟩
noncomputable def low : Nat := (World.holding Tryz.prog default ⟨#[], #[], []⟩).heap.size
def cell1 : DataW Unit → List Value
  | .lit (.int k n) => [.int k n]
  | .lit (.string s) => [.string ⟨s.toArray⟩]
  | _ => []
def cell2 : DataW Unit → List Value
  | .agg l => l.flatMap cell1
  | x => cell1 x
def cells : DataW Unit → Array Value
  | .agg l => (l.flatMap cell2).toArray
  | _ => #[]
noncomputable def laidWorld (os : Os) : World :=
  let w0 := World.holding Tryz.prog os ⟨#[.cells #[.string ⟨#[118, 97, 108, 117, 101, 32, 111, 117, 116, 32, 111, 102, 32, 114, 97, 110, 103, 101]⟩] 297, .cells #[.string ⟨#[105, 110, 118, 97, 108, 105, 100, 32, 115, 121, 110, 116, 97, 120]⟩] 297], #[], []⟩
  let put (g : Nat) (vs : Array Value) (h : Array Obj) : Array Obj := h.modify g fun
    | .cells _ t frozen => .cells vs t frozen
    | o => o
  { w0 with heap := put 1 (cells Rows.laid_lariat_lex_own) (put 2 #[.iface 295 (.pointer (some ⟨low + 1, 0, none⟩))] (put 3 #[.iface 295 (.pointer (some ⟨low, 0, none⟩))] (put 4 (cells Rows.laid_internal_strconv_uint64pow10) (put 5 (cells Rows.laid_unicode_utf8_first) (put 6 (cells Rows.laid_unicode_utf8_acceptRanges) (put 7 (cells Rows.laid_math_bits_deBruijn32tab) (put 8 (cells Rows.laid_math_bits_deBruijn64tab) w0.heap))))))) }
theorem laid_met (os : Os) : laidMet Tryz.prog Rows.traceParsesUptoRow.laid ((laidWorld os).forCall (fun _ _ => 0) ⟨#[], #[.string ⟨#[]⟩], []⟩).memory :=
  laidMet_of_run3 8 (by kernel_rfl) (by kernel_rfl) (by kernel_rfl)
theorem reads (os : Os) {H : Type} (enc : TypeId × Value → H) : ∃ places, DataW.whole enc Tryz.prog ((laidWorld os).forCall (fun _ _ => 0) ⟨#[], #[.string ⟨#[]⟩], []⟩).memory Tryz.f4.params.toList Rows.traceParsesSpec.vars false (#[.string ⟨#[]⟩] : Array Value).toList 8 = some ([.lit (.string [])], [], places) :=
  ⟨[], by kernel_rfl⟩
set_option maxRecDepth 100000 in
theorem lifted (os : Os) (started : os.Started) (H : Type) (enc : TypeId × Value → H) (F : Stop.Interp) :
    ReturnsInHanded {} Tryz.checked os 4 .any ((Rows.OpenSpec.upto Rows.traceParsesSpec).preRow enc Tryz.prog Tryz.f4 Rows.traceParsesUptoRow.domain false Rows.traceParsesUptoRow.laid) (((Rows.OpenSpec.upto Rows.traceParsesSpec).at F).post enc Tryz.prog Tryz.f4 false true false false) := by
  obtain ⟨places, hx⟩ := reads os enc
  refine returnsInHanded_of_row (C := Tryz.checked) (s := Rows.OpenSpec.upto Rows.traceParsesSpec) own started (by kernel_rfl) Tryz.func4
    (witness_row_at (enc := enc) (C := Tryz.checked) false (laidWorld os) #[.string ⟨#[]⟩] rfl (by kernel_rfl) (by kernel_rfl) (by kernel_rfl)
      (OpenSpec.preRow_of_cond 8 hx (by kernel_rfl) (fun k hk => by cases hk; kernel_rfl) (by kernel_rfl) (laid_met os))) ?_
  intro W base args ds gs before hval hW _ hcond _ hL _ _
  exact contract H enc W base args ds gs before hval hW (hcond _ rfl) hL
theorem saidUpto : Rows.TraceParsesUptoSaid :=
  OpenClaim.holds_of_cond 4 Tryz.f4 rfl rfl rfl rfl rfl rfl rfl ⟨rfl, rfl, rfl, rfl, rfl⟩ rfl rfl rfl rfl rfl (by kernel_rfl) Tryz.func4 (by kernel_rfl)
    (of_decide_eq_true (by kernel_rfl)) (by unfold Func.isWrapper; first | (rw [if_pos (by decide +kernel)]; kernel_rfl) | (rw [if_neg (by decide +kernel)]; exact ⟨rfl, rfl⟩))
    (fun os started H enc _ F => by rw [OpenClaim.pre_eq_preRow]; exact lifted os started H enc F)
theorem plain (f : FuncId) (fn : Func) (hf : Tryz.pinned.checked.prog.funcNamed "lariat/lariatlaw45.TraceParses" = some f) (hfn : Tryz.pinned.checked.prog.funcs[f]? = some fn) :
    true = Tryz.pinned.checked.prog.looks [] ∧ ∀ (j : Nat) t, fn.params[j]? = some t → Tryz.pinned.checked.prog.wantsStandIn t = false := by
  obtain rfl : f = 4 := Option.some.inj ((show Tryz.prog.funcNamed "lariat/lariatlaw45.TraceParses" = some 4 by kernel_rfl).symm.trans hf) |>.symm
  obtain rfl : fn = Tryz.f4 := (Option.some.inj (Tryz.func4.symm.trans hfn)).symm
  refine ⟨by kernel_rfl, fun j t ht => ?_⟩
  rw [Tryz.params4] at ht
  have hm : t ∈ [9] := by simpa using Array.mem_of_getElem? ht
  have hall : ([9].all fun u => !Tryz.prog.wantsStandIn u) = true := by kernel_rfl
  exact (show Tryz.prog.wantsStandIn t = false by simpa using List.all_eq_true.1 hall t hm)
end TraceParsesLaw
theorem traceParses_uptoCard : Rows.TraceParsesUptoCardSaid :=
  Claim7.holds_tied_plain_at .later [] _ _ _ _ TraceParsesLaw.saidUpto (fun _ h => by cases h) (by kernel_rfl) (fun _ h => by cases h) traceParsesUpto_row_tie rfl ⟨rfl, rfl⟩ (by kernel_rfl) rfl TraceParsesLaw.plain (by kernel_rfl)
end Go.Proofs.YtofjikajegnpaaaGreatDoor
