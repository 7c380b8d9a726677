/- 'FairNoneUptoSaid': where nothing is on, or nothing is asked, each pair is of each set. Condition: what is read is of bulk at most 1048576. -/
import Derived.Test.YtabkianhbgpfgaaWalks1
namespace Go.Proofs.Ytabkianhbgpfgaa
open Go Go.Am Go.Fair Go.ChangeShapes Go.WideShapes Go.ChangeAt Go.RowKit
namespace NoneLaw
theorem own : ownKnob Try.prog.godebug = none := by kernel_rfl
theorem follows : Try.prog.follows .mixedOrders = true := by kernel_rfl
theorem laid : laidOutB Try.prog = true := by kernel_rfl
theorem ok26 : tyOk Try.prog 8 26 = true := by kernel_rfl
theorem ok22 : tyOk Try.prog 8 22 = true := by kernel_rfl
theorem rd26 : (Try.prog.readableRec 26 && decide (26 < Try.prog.types.size)) = true := by kernel_rfl
theorem rd22 : (Try.prog.readableRec 22 && decide (22 < Try.prog.types.size)) = true := by kernel_rfl
theorem contract (H : Type) (enc : TypeId × Value → H) (W : World) (base : Nat) (args : Array Value) (ds gs : List (DataW H)) (before : List MemPlace)
    (hval : ∀ (j : Nat) t v, Try.f5.params[j]? = some t → args[j]? = some v → Value.okWide Try.prog W .any base t v)
    (hW : DataW.Whole enc Try.prog Try.f5.params.toList Rows.fairNoneSpec.vars false W args.toList ds gs before) (hk : Rows.uptoSmall H (ds ++ gs) = true) :
    Calls Try.prog 5 args W fun e W' => ∃ v, e = .returned v ∧ Rows.fairNoneSpec.post enc Try.prog Try.f5 false true false false W args v W' := by
  have hW' := hW
  obtain ⟨p, q, hA0, hV, rfl, hfz, hnd⟩ := hW
  have hA : DataW.TrodAll enc Try.prog W 0 (fun _ => true) true Try.f5.params.toList args.toList ds p := hA0
  obtain ⟨rfl, rfl⟩ := trodVars_none hV
  have hb : Rows.uptoBulkAll ds ≤ 1048576 := of_decide_eq_true (by simpa [Rows.uptoSmall] using hk)
  have hp : Try.f5.params.toList = [26, 22] := by rw [Try.params5]
  obtain ⟨xs, hv, ht, hbk⟩ := readAll_ok (P := Try.prog) (n := 8) Try.f5.params.toList args.toList ds p (by rw [hp]; simp [ok26, ok22]) (fun j t v h1 h2 => ⟨base, hval j t v (by simpa using h1) (by simpa using h2)⟩) hA
  rw [hp] at ht
  obtain ⟨a, r, rfl, h1, b, r2, rfl, h2, rfl⟩ := ht
  obtain ⟨g, rfl, hg⟩ := dec26 (n := 3) h1
  obtain ⟨refs, rfl, _⟩ := dec22 (n := 6) h2
  have hfit := fit_of (g := g) (r := [ints false refs]) (Nat.le_trans hbk hb)
  obtain ⟨n, hn⟩ := callX_iff.1 (w5 g refs hfit.1 hg hfit.2)
  refine (calls_true follows hn hv).mono fun e W' ⟨he, hbl⟩ => ?_
  subst he
  obtain ⟨d1, d2, rfl⟩ : ∃ d1 d2, ds = [d1, d2] := by
    rw [hp] at hA
    obtain ⟨v0, vs0, d0, ds0, p0, q0, _, rfl, rfl, _, r0⟩ := trodAll_cons hA
    obtain ⟨v1, vs1, d1, ds1, p1, q1, _, rfl, rfl, _, r1⟩ := trodAll_cons r0
    obtain ⟨_, rfl, _⟩ := trodAll_nil r1
    exact ⟨d0, d1, rfl⟩
  exact ⟨_, rfl, law_post hW' rfl rfl hbl laid (by
    rw [hp]
    intro t ht
    simp only [List.mem_cons, List.not_mem_nil, or_false] at ht
    rcases ht with rfl | rfl
    · simpa using rd26
    · simpa using rd22) (by kernel_rfl) Try.underlying4⟩
set_option maxRecDepth 100000 in
theorem lifted (os : Os) (started : os.Started) (H : Type) (enc : TypeId × Value → H) (F : Stop.Interp) :
    ReturnsInHanded {} Try.checked os 5 .any ((Rows.OpenSpec.upto Rows.fairNoneSpec).pre6 enc Try.prog Try.f5 Rows.fairNoneUptoRow.domain false) (((Rows.OpenSpec.upto Rows.fairNoneSpec).at F).post enc Try.prog Try.f5 false true false false) := by
  refine returnsInHanded_of_cond (C := Try.checked) (s := Rows.OpenSpec.upto Rows.fairNoneSpec) (k := Rows.uptoSmall) rfl own started (by kernel_rfl) Try.func5
    (OpenSpec.witness (enc := enc) (C := Try.checked) (s := Rows.OpenSpec.upto Rows.fairNoneSpec) (k := Rows.uptoSmall) rfl false ⟨#[], #[.agg #[.slice none 0 0, .slice none 0 0, .slice none 0 0], .slice none 0 0], []⟩ 8 (by kernel_rfl) (by kernel_rfl) (by kernel_rfl)
      (x := ([.agg [.nil, .nil, .nil], .nil], [], [])) (by kernel_rfl) rfl (by kernel_rfl)) ?_
  intro W base args ds gs before hval hW _ hk _
  exact contract H enc W base args ds gs before hval hW hk
end NoneLaw
theorem fairNone_upto : Rows.FairNoneUptoSaid :=
  OpenClaim.holds_of_cond 5 Try.f5 rfl rfl rfl rfl rfl rfl rfl ⟨rfl, rfl, rfl, rfl, rfl⟩ rfl rfl rfl rfl rfl (by kernel_rfl) Try.func5 (by kernel_rfl)
    (of_decide_eq_true (by kernel_rfl)) (by unfold Func.isWrapper; first | (rw [if_pos (by decide +kernel)]; kernel_rfl) | (rw [if_neg (by decide +kernel)]; exact ⟨rfl, rfl⟩))
    (fun os started H enc _ F => NoneLaw.lifted os started H enc F)
end Go.Proofs.Ytabkianhbgpfgaa
