/- A part of the proof: texts of mine, merged by a program (wip/dev/merge.py). -/
import Derived.Test.YtofjikajegnpaaaGreatDoorTy7
import Derived.KernelRfl
import Derived.Lib.ItoaMem
import Derived.Lib.ItoaLen
namespace Go.Trc
open Go Go.Am Go.Proofs
set_option linter.unusedSimpArgs false
set_option linter.unusedVariables false
structure Gapi_Step where
  Cmd : Int
  Way : Int
  deriving DecidableEq
def eapi_Step (x : Gapi_Step) : D := .agg [eI x.Cmd, eI x.Way]
attribute [go_sem] eapi_Step
@[go_sem] theorem imms_sstring (l : List (List UInt8)) : D.imms (List.map eS l) = true := imms_map fun x => by simp [go_sem]
@[go_sem] theorem frzs_sstring (b : Bool) (l : List (List UInt8)) : T.frzs b (tl eS l) = some (List.map eS l) := frzs_tl fun x => by simp [go_sem, D.norm, D.norm1]
def esapi_Step (b : Bool) (l : List (Gapi_Step)) : D := .sl b (List.map eapi_Step l)
attribute [go_sem] esapi_Step
@[go_sem] theorem imms_sapi_Step (l : List (Gapi_Step)) : D.imms (List.map eapi_Step l) = true := imms_map fun x => by simp [go_sem]
@[go_sem] theorem lends_sapi_Step (l : List (Gapi_Step)) : D.lends (List.map eapi_Step l) = List.map eapi_Step l := lends_same fun x => by simp [go_sem]
@[go_sem] theorem lows_sapi_Step (n : Nat) (l : List (Gapi_Step)) : D.lows n (List.map eapi_Step l) = true := lows_map fun x => by simp [go_sem, D.low, D.lows]
@[go_sem] theorem unif_sapi_Step (l : List (Gapi_Step)) : uniform 2 (tl eapi_Step l) = true := uniform_tl fun x => by simp [go_sem, D.nc]
@[go_sem] theorem frzs_sapi_Step (b : Bool) (l : List (Gapi_Step)) : T.frzs b (tl eapi_Step l) = some (List.map eapi_Step l) := frzs_tl fun x => by simp [go_sem, D.norm, D.norm1]
@[go_sem] theorem snoc_sapi_Step (l : List Gapi_Step) (x0 : Int) (x1 : Int) : tl eapi_Step l ++ [.d (.agg [eI x0, eI x1])] = tl eapi_Step (l ++ [(Gapi_Step.mk x0 x1)]) := tl_snoc (x := (Gapi_Step.mk x0 x1))
structure Gapi_Trace where
  Stem : List Gapi_Step
  Loop : List Gapi_Step
  deriving DecidableEq
def eapi_Trace (b : Bool) (x : Gapi_Trace) : D := .agg [(esapi_Step b) x.Stem, (esapi_Step b) x.Loop]
attribute [go_sem] eapi_Trace
end Go.Trc
set_option linter.unusedVariables false
namespace Go.Am
open Go
variable {P : Program} {hints : FuncId → Hint}
def callS (P : Program) (hint : FuncId → Hint) (c : CallF) (n : Nat) (f : FuncId) (ds : List D) (H : List Ob) : Option (List T × List Ob) :=
  if YB ≤ f then roundN P c hint n (f - YB) ds H else
  match (hint f).ext with
  | some F => (F ds).bind fun rs => if isPanT rs = true then none else some (rs, H)
  | none =>
  (P.funcs[f]?).bind fun fn => fn.body.bind fun cd =>
    if ds.length = fn.params.size + fn.nfree ∧ codeOk fn.ntmps cd = true ∧ (fn.name == "runtime.NumGoroutine") = false then
      if (hint f).rcv = true then (recN P c hint n f cd fn.ntmps (enter ds H)).bind (leave P (hint f).own fn H.length)
      else if (decide ((hint f).nilt ≠ 0) && emptyArg ds) = true then
        bothE H.length (flagE (hint f) ds) ((codeN P c (hint f) n cd (enterE true H)).bind (leave P (hint f).own fn H.length)) ((codeN P c (hint f) n cd (enterE false H)).bind (leave P (hint f).own fn H.length))
      else (codeN P c (hint f) n cd (enter ds H)).bind (leave P (hint f).own fn H.length)
    else none
theorem callS_mono {c c' : CallF} (ih : CallLe c c') {n m : Nat} (hn : n ≤ m) {f : FuncId} {ds : List D} {H : List Ob} {r : List T × List Ob} (e : callS P hints c n f ds H = some r) : callS P hints c' m f ds H = some r := by
  unfold callS at e ⊢
  by_cases hy : YB ≤ f
  · rw [if_pos hy] at e ⊢
    exact roundN_mono ih hn e
  rw [if_neg hy] at e ⊢
  split at e
  · exact e
  simp only [Option.bind_eq_some_iff] at e ⊢
  obtain ⟨fn, h1, cd, h2, e⟩ := e
  refine ⟨fn, h1, cd, h2, ?_⟩
  split at e
  · rename_i hh
    rw [if_pos hh]
    by_cases hr : (hints f).rcv = true
    · rw [if_pos hr] at e ⊢
      simp only [Option.bind_eq_some_iff] at e ⊢
      obtain ⟨x, e1, e2⟩ := e
      exact ⟨x, recN_mono ih hn e1, e2⟩
    rw [if_neg hr] at e ⊢
    by_cases hnil : (decide ((hints f).nilt ≠ 0) && emptyArg ds) = true
    · rw [if_pos hnil] at e ⊢
      obtain ⟨t1, t2, H1, H2, ht, q1, q2, l1, l2, m1, m2, rfl⟩ := bothE_some e
      simp only [Option.bind_eq_some_iff] at q1 q2
      obtain ⟨x, e1, e2⟩ := q1
      obtain ⟨y, e3, e4⟩ := q2
      show bothE H.length (flagE (hints f) ds) ((codeN P c' (hints f) m cd (enterE true H)).bind (leave P (hints f).own fn H.length)) ((codeN P c' (hints f) m cd (enterE false H)).bind (leave P (hints f).own fn H.length)) = _
      rw [codeN_mono ih hn cd _ _ e1, codeN_mono ih hn cd _ _ e3, Option.bind_some, Option.bind_some, e2, e4]
      exact bothE_of ht l1 l2 m1 m2
    rw [if_neg hnil] at e ⊢
    simp only [Option.bind_eq_some_iff] at e ⊢
    obtain ⟨x, e1, e2⟩ := e
    exact ⟨x, codeN_mono ih hn cd _ _ e1, e2⟩
  · cases e
abbrev Memo := List (FuncId × List D × List T)
def memo : Memo → FuncId → List D → Option (List T)
  | [], _, _ => none
  | e :: K, f, ds => if (Nat.beq e.1 f && D.beqs e.2.1 ds) = true then some e.2.2 else memo K f ds
def callM (P : Program) (hint : FuncId → Hint) (K : Memo) : Nat → CallF
  | 0, _, _, _ => none
  | n + 1, f, ds, H => match H with
    | [] => match memo K f ds with
      | some rs => some (rs, [])
      | none => callS P hint (callM P hint K n) n f ds []
    | o :: r => callS P hint (callM P hint K n) n f ds (o :: r)
def Memo.OK (P : Program) (hint : FuncId → Hint) : Memo → Prop
  | [] => True
  | e :: K => callX P hint e.1 e.2.1 [] = some (e.2.2, []) ∧ Memo.OK P hint K
theorem memo_ok : ∀ (K : Memo), K.OK P hints → ∃ n, ∀ f ds rs, memo K f ds = some rs → callN P hints n f ds [] = some (rs, [])
  | [], _ => ⟨0, fun _ _ _ h => by cases h⟩
  | e :: K, h => by
    obtain ⟨n, hn⟩ := memo_ok K h.2
    obtain ⟨m, hm⟩ := callX_iff.1 h.1
    refine ⟨max n m, fun f ds rs q => ?_⟩
    unfold memo at q
    split at q
    · rename_i hh
      simp only [Bool.and_eq_true, Option.some.injEq] at hh q
      obtain ⟨h1, h2⟩ := hh
      have h1 := Nat.eq_of_beq_eq_true h1
      have h2 := D.beqs_eq _ _ h2
      subst h1
      subst h2
      subst q
      exact callN_mono (Nat.le_max_right _ _) _ _ _ _ hm
    · exact callN_mono (Nat.le_max_left _ _) _ _ _ _ (hn f ds rs q)
theorem callM_ok {K : Memo} {N : Nat} (h : ∀ f ds rs, memo K f ds = some rs → callN P hints N f ds [] = some (rs, [])) : ∀ n, CallLe (callM P hints K n) (callN P hints (N + n))
  | 0 => fun f ds H r e => by cases e
  | n + 1 => fun f ds H r e => by
    have ih := callM_ok h n
    have key : ∀ H, callS P hints (callM P hints K n) n f ds H = some r → callN P hints (N + (n + 1)) f ds H = some r := fun H e =>
      callS_mono (c' := callN P hints (N + n)) ih (Nat.le_add_left n N) e
    cases H with
    | nil =>
      simp only [callM] at e
      split at e
      · rename_i rs hm
        simp only [Option.some.injEq] at e
        subst e
        exact callN_mono (Nat.le_add_right N (n + 1)) _ _ _ _ (h f ds rs hm)
      · exact key _ e
    | cons o H => exact key _ e
theorem callX_memo {f : FuncId} {ds : List D} {H : List Ob} {r : List T × List Ob} (K : Memo) (hK : K.OK P hints) (n : Nat) (e : callM P hints K n f ds H = some r) : callX P hints f ds H = some r := by
  obtain ⟨N, hN⟩ := memo_ok K hK
  exact callX_iff.2 ⟨N + n, callM_ok hN n f ds H r e⟩
end Go.Am
namespace Go.Trc
open Go Go.Am Go.Proofs
set_option maxRecDepth 20000
def m0 : FuncId × List D × List T := (62, [.agg [.str [80], .int .i64 (0), .int .i64 (2), .sl true [], .sl true [.agg [.str [103, 111], .int .i64 (0), .int .i64 (1), .sl true [], .sl true [], .bool false], .agg [.str [98, 97, 99, 107], .int .i64 (1), .int .i64 (0), .sl true [], .sl true [], .bool false]]], .agg [.sl true [], .sl true [], .sl true [], .sl true [.agg [.str [80], .int .i64 (0), .int .i64 (2), .sl true [], .sl true [.agg [.str [103, 111], .int .i64 (0), .int .i64 (1), .sl true [], .sl true [], .bool false], .agg [.str [98, 97, 99, 107], .int .i64 (1), .int .i64 (0), .sl true [], .sl true [], .bool false]]]], .sl true [], .int .i64 (0)]], [.d (.int .i64 (0)), .d (.int .i64 (0)), .d (.int .i64 (0))])
theorem M0 : call m0.1 m0.2.1 [] = some (m0.2.2, []) := callX_memo [] trivial 60 (by kernel_rfl)
def m1 : FuncId × List D × List T := (24, [.agg [.sl true [], .sl true [], .sl true [], .sl true [.agg [.str [80], .int .i64 (0), .int .i64 (2), .sl true [], .sl true [.agg [.str [103, 111], .int .i64 (0), .int .i64 (1), .sl true [], .sl true [], .bool false], .agg [.str [98, 97, 99, 107], .int .i64 (1), .int .i64 (0), .sl true [], .sl true [], .bool false]]]], .sl true [.agg [.str [112], .sl true [.agg [.int .i64 (7), .int .i64 (1)], .agg [.int .i64 (1), .int .i64 (1)], .agg [.int .i64 (14), .int .i64 (0)]]]]]], [.d (.agg [.int .i64 (0), .int .i64 (0), .int .i64 (0), .int .i64 (0)])])
theorem M1 : call m1.1 m1.2.1 [] = some (m1.2.2, []) := callX_memo [m0] ⟨M0, trivial⟩ 60 (by kernel_rfl)
def m2 : FuncId × List D × List T := (69, [.agg [.sl true [], .sl true [], .sl true [], .sl true [.agg [.str [80], .int .i64 (0), .int .i64 (2), .sl true [], .sl true [.agg [.str [103, 111], .int .i64 (0), .int .i64 (1), .sl true [], .sl true [], .bool false], .agg [.str [98, 97, 99, 107], .int .i64 (1), .int .i64 (0), .sl true [], .sl true [], .bool false]]]], .sl true [.agg [.str [112], .sl true [.agg [.int .i64 (7), .int .i64 (1)], .agg [.int .i64 (1), .int .i64 (1)], .agg [.int .i64 (14), .int .i64 (0)]]]]], .sl true [.int .i64 (0)]], [.d (.sl false [.agg [.int .i64 (0), .int .i64 (0), .sl false [.int .i64 (1)]]])])
theorem M2 : call m2.1 m2.2.1 [] = some (m2.2.2, []) := callX_memo [m1] ⟨M1, trivial⟩ 60 (by kernel_rfl)
def m3 : FuncId × List D × List T := (69, [.agg [.sl true [], .sl true [], .sl true [], .sl true [.agg [.str [80], .int .i64 (0), .int .i64 (2), .sl true [], .sl true [.agg [.str [103, 111], .int .i64 (0), .int .i64 (1), .sl true [], .sl true [], .bool false], .agg [.str [98, 97, 99, 107], .int .i64 (1), .int .i64 (0), .sl true [], .sl true [], .bool false]]]], .sl true [.agg [.str [112], .sl true [.agg [.int .i64 (7), .int .i64 (1)], .agg [.int .i64 (1), .int .i64 (1)], .agg [.int .i64 (14), .int .i64 (0)]]]]], .sl true [.int .i64 (1)]], [.d (.sl false [.agg [.int .i64 (1), .int .i64 (0), .sl false [.int .i64 (0)]]])])
theorem M3 : call m3.1 m3.2.1 [] = some (m3.2.2, []) := callX_memo [m1] ⟨M1, trivial⟩ 60 (by kernel_rfl)
def m4 : FuncId × List D × List T := (13, [.agg [.sl true [], .sl true [], .sl true [], .sl true [.agg [.str [80], .int .i64 (0), .int .i64 (2), .sl true [], .sl true [.agg [.str [103, 111], .int .i64 (0), .int .i64 (1), .sl true [], .sl true [], .bool false], .agg [.str [98, 97, 99, 107], .int .i64 (1), .int .i64 (0), .sl true [], .sl true [], .bool false]]]], .sl true [.agg [.str [112], .sl true [.agg [.int .i64 (7), .int .i64 (1)], .agg [.int .i64 (1), .int .i64 (1)], .agg [.int .i64 (14), .int .i64 (0)]]]]], .agg [.sl true [], .sl true [.agg [.int .i64 (0), .int .i64 (0)], .agg [.int .i64 (1), .int .i64 (0)]]]], [.d (.sl false []), .d (.sl false [.sl false [.int .i64 (0)], .sl false [.int .i64 (1)]]), .d (.int .i64 (0))])
theorem M4 : call m4.1 m4.2.1 [] = some (m4.2.2, []) := callX_memo [m1, m2, m3] ⟨M1, M2, M3, trivial⟩ 60 (by kernel_rfl)
def m5 : FuncId × List D × List T := (38, [.agg [.sl true [], .sl true [], .sl true [], .sl true [.agg [.str [80], .int .i64 (0), .int .i64 (2), .sl true [], .sl true [.agg [.str [103, 111], .int .i64 (0), .int .i64 (1), .sl true [], .sl true [], .bool false], .agg [.str [98, 97, 99, 107], .int .i64 (1), .int .i64 (0), .sl true [], .sl true [], .bool false]]]], .sl true [.agg [.str [112], .sl true [.agg [.int .i64 (7), .int .i64 (1)], .agg [.int .i64 (1), .int .i64 (1)], .agg [.int .i64 (14), .int .i64 (0)]]]]], .sl true [.int .i64 (0)]], [.d (.int .u64 (0)), .d (.int .i64 (0))])
theorem M5 : call m5.1 m5.2.1 [] = some (m5.2.2, []) := callX_memo [m1] ⟨M1, trivial⟩ 60 (by kernel_rfl)
def m6 : FuncId × List D × List T := (38, [.agg [.sl true [], .sl true [], .sl true [], .sl true [.agg [.str [80], .int .i64 (0), .int .i64 (2), .sl true [], .sl true [.agg [.str [103, 111], .int .i64 (0), .int .i64 (1), .sl true [], .sl true [], .bool false], .agg [.str [98, 97, 99, 107], .int .i64 (1), .int .i64 (0), .sl true [], .sl true [], .bool false]]]], .sl true [.agg [.str [112], .sl true [.agg [.int .i64 (7), .int .i64 (1)], .agg [.int .i64 (1), .int .i64 (1)], .agg [.int .i64 (14), .int .i64 (0)]]]]], .sl true [.int .i64 (1)]], [.d (.int .u64 (1)), .d (.int .i64 (0))])
theorem M6 : call m6.1 m6.2.1 [] = some (m6.2.2, []) := callX_memo [m1] ⟨M1, trivial⟩ 60 (by kernel_rfl)
def m7 : FuncId × List D × List T := (62, [.agg [.str [80], .int .i64 (0), .int .i64 (2), .sl false [], .sl false [.agg [.str [103, 111], .int .i64 (0), .int .i64 (1), .sl false [], .sl false [], .bool false], .agg [.str [98, 97, 99, 107], .int .i64 (1), .int .i64 (0), .sl false [], .sl false [], .bool false]]], .agg [.sl false [], .sl false [], .sl false [], .sl false [.agg [.str [80], .int .i64 (0), .int .i64 (2), .sl false [], .sl false [.agg [.str [103, 111], .int .i64 (0), .int .i64 (1), .sl false [], .sl false [], .bool false], .agg [.str [98, 97, 99, 107], .int .i64 (1), .int .i64 (0), .sl false [], .sl false [], .bool false]]]], .sl false [], .int .i64 (0)]], [.d (.int .i64 (0)), .d (.int .i64 (0)), .d (.int .i64 (0))])
theorem M7 : call m7.1 m7.2.1 [] = some (m7.2.2, []) := callX_memo [] trivial 60 (by kernel_rfl)
def m8 : FuncId × List D × List T := (24, [.agg [.sl false [], .sl false [], .sl false [], .sl false [.agg [.str [80], .int .i64 (0), .int .i64 (2), .sl false [], .sl false [.agg [.str [103, 111], .int .i64 (0), .int .i64 (1), .sl false [], .sl false [], .bool false], .agg [.str [98, 97, 99, 107], .int .i64 (1), .int .i64 (0), .sl false [], .sl false [], .bool false]]]], .sl false [.agg [.str [112], .sl false [.agg [.int .i64 (7), .int .i64 (1)], .agg [.int .i64 (1), .int .i64 (1)], .agg [.int .i64 (14), .int .i64 (0)]]]]]], [.d (.agg [.int .i64 (0), .int .i64 (0), .int .i64 (0), .int .i64 (0)])])
theorem M8 : call m8.1 m8.2.1 [] = some (m8.2.2, []) := callX_memo [m7] ⟨M7, trivial⟩ 60 (by kernel_rfl)
def m9 : FuncId × List D × List T := (69, [.agg [.sl false [], .sl false [], .sl false [], .sl false [.agg [.str [80], .int .i64 (0), .int .i64 (2), .sl false [], .sl false [.agg [.str [103, 111], .int .i64 (0), .int .i64 (1), .sl false [], .sl false [], .bool false], .agg [.str [98, 97, 99, 107], .int .i64 (1), .int .i64 (0), .sl false [], .sl false [], .bool false]]]], .sl false [.agg [.str [112], .sl false [.agg [.int .i64 (7), .int .i64 (1)], .agg [.int .i64 (1), .int .i64 (1)], .agg [.int .i64 (14), .int .i64 (0)]]]]], .sl false [.int .i64 (0)]], [.d (.sl false [.agg [.int .i64 (0), .int .i64 (0), .sl false [.int .i64 (1)]]])])
theorem M9 : call m9.1 m9.2.1 [] = some (m9.2.2, []) := callX_memo [m8] ⟨M8, trivial⟩ 60 (by kernel_rfl)
def m10 : FuncId × List D × List T := (13, [.agg [.sl true [], .sl true [], .sl true [], .sl true [.agg [.str [80], .int .i64 (0), .int .i64 (2), .sl true [], .sl true [.agg [.str [103, 111], .int .i64 (0), .int .i64 (1), .sl true [], .sl true [], .bool false], .agg [.str [98, 97, 99, 107], .int .i64 (1), .int .i64 (0), .sl true [], .sl true [], .bool false]]]], .sl true [.agg [.str [112], .sl true [.agg [.int .i64 (7), .int .i64 (1)], .agg [.int .i64 (1), .int .i64 (1)], .agg [.int .i64 (14), .int .i64 (0)]]]]], .agg [.sl true [], .sl true [.agg [.int .i64 (0), .int .i64 (0)]]]], [.d (.sl false []), .d (.sl false []), .d (.int .i64 (18))])
theorem M10 : call m10.1 m10.2.1 [] = some (m10.2.2, []) := callX_memo [m1, m2] ⟨M1, M2, trivial⟩ 60 (by kernel_rfl)
def m11 : FuncId × List D × List T := (5, [], [.d (.bool true)])
theorem M11 : call m11.1 m11.2.1 [] = some (m11.2.2, []) := callX_memo [m4, m5, m6, m8, m9, m10] ⟨M4, M5, M6, M8, M9, M10, trivial⟩ 60 (by kernel_rfl)
theorem U_law45_awake : call 5 [] [] = some ([.d (.bool true)], []) := M11
@[go_sem] theorem W_law45_awake {ρ : Type} (κ : List T × List Ob → Option ρ) : cbK (call 5 [] []) κ = κ ([.d (.bool true)], []) := by rw [U_law45_awake]; rfl
end Go.Trc
namespace Go.Am
open Go
section
variable {α β σ τ ρ : Type}
theorem wrap64 {x : Int} (h1 : -9223372036854775808 ≤ x) (h2 : x ≤ 9223372036854775807) : IntKind.i64.wrap x = x := wrap_i64 h1 h2
theorem wrapS {k : Nat} (h : k < 4611686018427387904) : IntKind.i64.wrap ((k : Int) + 1) = ((k + 1 : Nat) : Int) := by rw [wrap_i64 (by omega) (by omega)]; omega
theorem wrapP {k : Nat} (h0 : 0 < k) (h : k < 4611686018427387904) : IntKind.i64.wrap ((k : Int) - 1) = ((k - 1 : Nat) : Int) := by rw [wrap_i64 (by omega) (by omega)]; omega
theorem iterC_find {Φ : τ → (τ → Option ρ) → Option ρ} (N : Nat) (mk : Nat → τ) (p : Nat → Option (Option ρ)) (fin : Option ρ)
    (hs : ∀ i k, i < N → Φ (mk i) k = match p i with | some r => r | none => k (mk (i + 1))) (hf : ∀ k, Φ (mk N) k = fin) : iterC Φ (mk 0) = ((List.range N).findSome? p).getD fin := by
  have key : ∀ n j, j ≤ N → N - j < n → iterCN Φ n (mk j) = ((List.range' j (N - j)).findSome? p).getD fin := by
    intro n
    induction n with
    | zero => intro j _ h; omega
    | succ n ih =>
      intro j hj h
      show Φ (mk j) (iterCN Φ n) = _
      by_cases hjN : j = N
      · subst hjN; rw [hf, Nat.sub_self]; rfl
      · rw [hs j _ (by omega), show N - j = (N - (j + 1)) + 1 by omega, List.range'_succ, List.findSome?_cons]
        cases p j with
        | some r => rfl
        | none => exact ih (j + 1) (by omega) (by omega)
  refine limE_eq (N + 1) fun n hn => ?_
  rw [key n 0 (by omega) (by omega), List.range_eq_range']
  rfl
theorem iterC_run {Φ : τ → (τ → Option ρ) → Option ρ} (N : Nat) (mk : Nat → τ) (fin : Option ρ)
    (hs : ∀ i k, i < N → Φ (mk i) k = k (mk (i + 1))) (hf : ∀ k, Φ (mk N) k = fin) : iterC Φ (mk 0) = fin := by
  rw [iterC_find N mk (fun _ => none) fin (fun i k h => hs i k h) hf]
  have : ∀ l : List Nat, l.findSome? (fun _ => (none : Option (Option ρ))) = none := fun l => by induction l with | nil => rfl | cons a l ih => exact ih
  rw [this]; rfl
theorem iterC_runE {Φ : τ → (τ → Option ρ) → Option ρ} {v : τ} (N : Nat) (mk : Nat → τ) (h0 : v = mk 0) {fin : Option ρ}
    (hs : ∀ i k, i < N → Φ (mk i) k = k (mk (i + 1))) (hf : ∀ k, Φ (mk N) k = fin) : iterC Φ v = fin := by rw [h0]; exact iterC_run N mk fin hs hf
theorem take_step {l : List α} {i : Nat} (h : i < l.length) : l.take (i + 1) = l.take i ++ [l[i]] := by rw [List.take_succ_eq_append_getElem h]
theorem foldl_step {l : List α} {i : Nat} (h : i < l.length) (f : σ → α → σ) (s : σ) : (l.take (i + 1)).foldl f s = f ((l.take i).foldl f s) l[i] := by rw [take_step h, List.foldl_append]; rfl
theorem snoc_ind {P : List α → Prop} (h0 : P []) (h1 : ∀ l x, P l → P (l ++ [x])) (l : List α) : P l := by
  have : ∀ m : List α, P m.reverse := by
    intro m
    induction m with
    | nil => exact h0
    | cons a m ih => rw [List.reverse_cons]; exact h1 _ _ ih
  have h := this l.reverse
  rwa [List.reverse_reverse] at h
end
end Go.Am
namespace Go.Trc
open Go Go.Am Go.Tr7
theorem steps_map (l : List Gapi_Step) : stepsD (List.map eapi_Step l) = some (l.map fun z => (z.Cmd, z.Way)) := by
  induction l with
  | nil => rfl
  | cons z l ih =>
    show (stepsD (List.map eapi_Step l)).map _ = _
    rw [ih]
    rfl
@[go_sem] theorem ext_line {w : List UInt8} {b : Bool} {l : List Gapi_Step} : extLine [.str w, .sl b (List.map eapi_Step l)] = if okF w (l.map fun z => (z.Cmd, z.Way)) = true then some [.d (.str (headF w (l.map fun z => (z.Cmd, z.Way)) ++ [10]))] else none := by
  show (stepsD (List.map eapi_Step l)).bind _ = _
  rw [steps_map]
  rfl
@[go_sem] theorem ext_num {s : List UInt8} : extNum [.str s] = if decide (s.length ≤ 1000000) = true then some [.d (.int .i64 (numF s).1), .d (.bool (numF s).2)] else none := rfl
theorem wrap0 : IntKind.i64.wrap 0 = 0 := by decide
theorem wrap1 : IntKind.i64.wrap 1 = 1 := by decide
attribute [go_sem] wrap0 wrap1
@[go_sem] theorem pl57 : placesOf P 57 = some (.inl 1) := by kernel_rfl
theorem wrap2 : IntKind.i64.wrap 2 = 2 := by decide
attribute [go_sem] wrap2
@[go_sem] theorem index_agg {Q : Program} {t : TypeId} {k : IntKind} {n : Int} {l : List D} : indexE Q t (.d (.agg l)) (.d (.int k n)) = match Q.underlying t with
    | some (.array len e) => if 0 ≤ n ∧ n < len ∧ 0 < Q.cellsOf e then
        (aggO Q e).bind fun ag => (if ag then (if n.toNat * Q.cellsOf e + Q.cellsOf e ≤ l.length then some (.d (.agg (win l (n.toNat * Q.cellsOf e) (Q.cellsOf e)))) else none) else (l[n.toNat * Q.cellsOf e]?).bind D.sv1) else none
    | _ => none := by
  simp only [indexE]
  cases Q.underlying t with
  | none => rfl
  | some d => cases d <;> rfl
end Go.Trc
namespace Go.Trc
open Go Go.Am Go.Proofs
set_option linter.unusedSimpArgs false
set_option linter.unusedVariables false
set_option maxHeartbeats 400000
set_option maxRecDepth 20000
noncomputable section
def K_trace_Text (a0 : Gapi_Trace) (β : Bool) : List T × List Ob := ([.d (.str (Tr7.headF [115, 116, 101, 109] (List.map (fun z ↦ (z.Cmd, z.Way)) a0.Stem) ++ 10 :: (Tr7.headF [108, 111, 111, 112] (List.map (fun z ↦ (z.Cmd, z.Way)) a0.Loop) ++ [10])))], [])
attribute [go_sem] K_trace_Text
def F_trace_Text (a0 : Gapi_Trace) {ρ : Type} : {Φ : (Option ρ) → Option ρ // ∀ (β : Bool) (κ : List T × List Ob → Option ρ) (g : Option ρ), (κ (K_trace_Text a0 β) = g) → cbK (call 6 [(eapi_Trace β) a0] []) κ = Φ g} := mkF (p := fun (β : Bool) (κ : List T × List Ob → Option ρ) (g : Option ρ) => (κ (K_trace_Text a0 β) = g)) (ds := fun β => [(eapi_Trace β) a0]) ge6 (fun _ => rfl) _
def f_trace_Text (a0 : Gapi_Trace) {ρ : Type} (g0 : Option ρ) : Option ρ := (F_trace_Text a0).1 g0
theorem U_trace_Text {ρ : Type} (β : Bool) (a0_0 : List Gapi_Step) (a0_1 : List Gapi_Step) (κ : List T × List Ob → Option ρ) : cbK (call 6 [.agg [.sl β (List.map eapi_Step a0_0), .sl β (List.map eapi_Step a0_1)]] []) κ = f_trace_Text (Gapi_Trace.mk a0_0 a0_1) (κ (K_trace_Text (Gapi_Trace.mk a0_0 a0_1) β)) := (F_trace_Text (Gapi_Trace.mk a0_0 a0_1)).2 β κ _ rfl
@[go_sem] theorem W_trace_Text {ρ : Type} (β : Bool) (a0_0 : List Gapi_Step) (a0_1 : List Gapi_Step) (κ : List T × List Ob → Option ρ) : type_of% (by have h := @U_trace_Text ρ β a0_0 a0_1 κ; simp only [K_trace_Text] at h; exact h) := by have h := @U_trace_Text ρ β a0_0 a0_1 κ; simp only [K_trace_Text] at h; exact h
attribute [go_sem] ge77
attribute [go_sem] ge49
attribute [go_sem] ge33
def K_strings_Cut_10 (a0 : List UInt8) (β : Bool) (y0_0 : List UInt8) (y0_1 : List UInt8) (y0_2 : Bool) : List T × List Ob := ([.d (.str y0_0), .d (.str y0_1), .d (.bool y0_2)], [])
attribute [go_sem] K_strings_Cut_10
def F_strings_Cut_10 (a0 : List UInt8) {ρ : Type} : {Φ : ((List UInt8) → (List UInt8) → Bool → Option ρ) → Option ρ // ∀ (β : Bool) (κ : List T × List Ob → Option ρ) (g : (List UInt8) → (List UInt8) → Bool → Option ρ), (∀ (y0_0 : List UInt8) (y0_1 : List UInt8) (y0_2 : Bool), κ (K_strings_Cut_10 a0 β y0_0 y0_1 y0_2) = g y0_0 y0_1 y0_2) → cbK (call 18 [eS a0, eS ([10] : List UInt8)] []) κ = Φ g} := mkF (p := fun (β : Bool) (κ : List T × List Ob → Option ρ) (g : (List UInt8) → (List UInt8) → Bool → Option ρ) => (∀ (y0_0 : List UInt8) (y0_1 : List UInt8) (y0_2 : Bool), κ (K_strings_Cut_10 a0 β y0_0 y0_1 y0_2) = g y0_0 y0_1 y0_2)) (ds := fun β => [eS a0, eS ([10] : List UInt8)]) ge18 (fun _ => rfl) _
def f_strings_Cut_10 (a0 : List UInt8) {ρ : Type} (g0 : (List UInt8) → (List UInt8) → Bool → Option ρ) : Option ρ := (F_strings_Cut_10 a0).1 g0
theorem U_strings_Cut_10 {ρ : Type} (a0 : List UInt8) (κ : List T × List Ob → Option ρ) : cbK (call 18 [.str a0, .str [10]] []) κ = f_strings_Cut_10 a0 (fun y0_0 y0_1 y0_2 => κ (K_strings_Cut_10 a0 true y0_0 y0_1 y0_2)) := (F_strings_Cut_10 a0).2 true κ _ (fun _ _ _ => rfl)
@[go_sem] theorem W_strings_Cut_10 {ρ : Type} (a0 : List UInt8) (κ : List T × List Ob → Option ρ) : type_of% (by have h := @U_strings_Cut_10 ρ a0 κ; simp only [K_strings_Cut_10] at h; exact h) := by have h := @U_strings_Cut_10 ρ a0 κ; simp only [K_strings_Cut_10] at h; exact h
def K_strings_Cut_47 (a0 : List UInt8) (β : Bool) (y0_0 : List UInt8) (y0_1 : List UInt8) (y0_2 : Bool) : List T × List Ob := ([.d (.str y0_0), .d (.str y0_1), .d (.bool y0_2)], [])
attribute [go_sem] K_strings_Cut_47
def F_strings_Cut_47 (a0 : List UInt8) {ρ : Type} : {Φ : ((List UInt8) → (List UInt8) → Bool → Option ρ) → Option ρ // ∀ (β : Bool) (κ : List T × List Ob → Option ρ) (g : (List UInt8) → (List UInt8) → Bool → Option ρ), (∀ (y0_0 : List UInt8) (y0_1 : List UInt8) (y0_2 : Bool), κ (K_strings_Cut_47 a0 β y0_0 y0_1 y0_2) = g y0_0 y0_1 y0_2) → cbK (call 18 [eS a0, eS ([47] : List UInt8)] []) κ = Φ g} := mkF (p := fun (β : Bool) (κ : List T × List Ob → Option ρ) (g : (List UInt8) → (List UInt8) → Bool → Option ρ) => (∀ (y0_0 : List UInt8) (y0_1 : List UInt8) (y0_2 : Bool), κ (K_strings_Cut_47 a0 β y0_0 y0_1 y0_2) = g y0_0 y0_1 y0_2)) (ds := fun β => [eS a0, eS ([47] : List UInt8)]) ge18 (fun _ => rfl) _
def f_strings_Cut_47 (a0 : List UInt8) {ρ : Type} (g0 : (List UInt8) → (List UInt8) → Bool → Option ρ) : Option ρ := (F_strings_Cut_47 a0).1 g0
theorem U_strings_Cut_47 {ρ : Type} (a0 : List UInt8) (κ : List T × List Ob → Option ρ) : cbK (call 18 [.str a0, .str [47]] []) κ = f_strings_Cut_47 a0 (fun y0_0 y0_1 y0_2 => κ (K_strings_Cut_47 a0 true y0_0 y0_1 y0_2)) := (F_strings_Cut_47 a0).2 true κ _ (fun _ _ _ => rfl)
@[go_sem] theorem W_strings_Cut_47 {ρ : Type} (a0 : List UInt8) (κ : List T × List Ob → Option ρ) : type_of% (by have h := @U_strings_Cut_47 ρ a0 κ; simp only [K_strings_Cut_47] at h; exact h) := by have h := @U_strings_Cut_47 ρ a0 κ; simp only [K_strings_Cut_47] at h; exact h
attribute [go_sem] ge83
attribute [go_sem] ge82
attribute [go_sem] ge50
section
variable (p0 : Int) (p1 : Nat)
def S_strings_genSplit_in_strings_Split_32_0 (p0 : Int) (p1 : Nat) (β : Bool) (v0 : List UInt8) (v1 : Int) (v2 : List (List UInt8)) : St := ⟨[(0, .d (.str v0)), (1, .d (.str ([32]))), (2, .d (.int IntKind.i64 (0))), (3, .d (.int IntKind.i64 p0)), (9, .bor (.l 9 0) [] 0 p1), (10, .d (.int IntKind.i64 v1))], [((9, 0), .own (tl eS v2))], []⟩
attribute [go_sem] S_strings_genSplit_in_strings_Split_32_0
def X_strings_genSplit_in_strings_Split_32_0 (p0 : Int) (p1 : Nat) {ρ : Type} : LX (A := (List UInt8) → Int → (List (List UInt8)) → ((List UInt8) × (Int) × (List (List UInt8)) → Option ρ) → (Ex × St → Option ρ) → Option ρ) fun β Φ => ∀ (R : St → Option ρ) (g : (List UInt8) × (Int) × (List (List UInt8)) → Option ρ) (κ : Ex × St → Option ρ), (∀ (v0 : List UInt8) (v1 : Int) (v2 : List (List UInt8)), R (S_strings_genSplit_in_strings_Split_32_0 p0 p1 β v0 v1 v2) = g (v0, v1, v2)) → ∀ (v0 : List UInt8) (v1 : Int) (v2 : List (List UInt8)), go P hints hint50 b50 q50_0.1 (S_strings_genSplit_in_strings_Split_32_0 p0 p1 β v0 v1 v2) (kLp R κ) = Φ v0 v1 v2 g κ := mkL _ _
theorem V_strings_genSplit_in_strings_Split_32_0 (p0 : Int) (p1 : Nat) {ρ : Type} (β : Bool) (κ : Ex × St → Option ρ) (v0 : List UInt8) (v1 : Int) (v2 : List (List UInt8)) : goLp P hints hint50 b50 0 (S_strings_genSplit_in_strings_Split_32_0 p0 p1 β v0 v1 v2) κ = iterC (fun v k => (X_strings_genSplit_in_strings_Split_32_0 p0 p1 (ρ := ρ)).f β v.1 v.2.1 v.2.2 k κ) (v0, v1, v2) := by
  refine goLp_iter (Φ := fun v k => (X_strings_genSplit_in_strings_Split_32_0 p0 p1 (ρ := ρ)).f β v.1 v.2.1 v.2.2 k κ) q50_0.2 (S := fun v => S_strings_genSplit_in_strings_Split_32_0 p0 p1 β v.1 v.2.1 v.2.2) ?_ (v0, v1, v2)
  intro R g hR v
  have h := (X_strings_genSplit_in_strings_Split_32_0 p0 p1 (ρ := ρ)).ok β R g κ
  exact h (fun v0 v1 v2 => hR (v0, v1, v2)) v.1 v.2.1 v.2.2
end
@[go_sem] theorem W_strings_genSplit_in_strings_Split_32_0t {ρ : Type} (p0 : Int) (p1 : Nat) (κ : Ex × St → Option ρ) (v0 : List UInt8) (v1 : Int) (v2 : List (List UInt8)) : type_of% (by have h := V_strings_genSplit_in_strings_Split_32_0 p0 p1 true κ v0 v1 v2; simp only [S_strings_genSplit_in_strings_Split_32_0, X_strings_genSplit_in_strings_Split_32_0, mkL, LX.f] at h; exact h) := by have h := V_strings_genSplit_in_strings_Split_32_0 p0 p1 true κ v0 v1 v2; simp only [S_strings_genSplit_in_strings_Split_32_0, X_strings_genSplit_in_strings_Split_32_0, mkL, LX.f] at h; exact h
def K_strings_Split_32 (a0 : List UInt8) (β : Bool) (y0_0 : List (List UInt8)) : List T × List Ob := ([.d (.sl false (List.map eS y0_0))], [])
attribute [go_sem] K_strings_Split_32
def F_strings_Split_32 (a0 : List UInt8) {ρ : Type} : {Φ : ((List (List UInt8)) → Option ρ) → Option ρ // ∀ (β : Bool) (κ : List T × List Ob → Option ρ) (g : (List (List UInt8)) → Option ρ), (∀ (y0_0 : List (List UInt8)), κ (K_strings_Split_32 a0 β y0_0) = g y0_0) → cbK (call 34 [eS a0, eS ([32] : List UInt8)] []) κ = Φ g} := mkF (p := fun (β : Bool) (κ : List T × List Ob → Option ρ) (g : (List (List UInt8)) → Option ρ) => (∀ (y0_0 : List (List UInt8)), κ (K_strings_Split_32 a0 β y0_0) = g y0_0)) (ds := fun β => [eS a0, eS ([32] : List UInt8)]) ge34 (fun _ => rfl) _
def f_strings_Split_32 (a0 : List UInt8) {ρ : Type} (g0 : (List (List UInt8)) → Option ρ) : Option ρ := (F_strings_Split_32 a0).1 g0
theorem U_strings_Split_32 {ρ : Type} (a0 : List UInt8) (κ : List T × List Ob → Option ρ) : cbK (call 34 [.str a0, .str [32]] []) κ = f_strings_Split_32 a0 (fun y0_0 => κ (K_strings_Split_32 a0 true y0_0)) := (F_strings_Split_32 a0).2 true κ _ (fun _ => rfl)
@[go_sem] theorem W_strings_Split_32 {ρ : Type} (a0 : List UInt8) (κ : List T × List Ob → Option ρ) : type_of% (by have h := @U_strings_Split_32 ρ a0 κ; simp only [K_strings_Split_32] at h; exact h) := by have h := @U_strings_Split_32 ρ a0 κ; simp only [K_strings_Split_32] at h; exact h
section
variable (p0 : List (List UInt8)) (p1 : Int)
def S_trace_steps_0 (p0 : List (List UInt8)) (p1 : Int) (β : Bool) (n0 : Nat) (v0 : Int) (v1 : List (Gapi_Step)) : St := ⟨[(7, .bor (.l 7 0) [] 0 n0), (25, .d (.sl false (List.map eS p0))), (26, .d (.int IntKind.i64 p1)), (27, .d (.int IntKind.i64 v0))], [((7, 0), .own (tl eapi_Step v1))], []⟩
attribute [go_sem] S_trace_steps_0
def X_trace_steps_0 (p0 : List (List UInt8)) (p1 : Int) {ρ : Type} : LX (A := Int → (List (Gapi_Step)) → ((Int) × (List (Gapi_Step)) → Option ρ) → (Ex × St → Option ρ) → Option ρ) fun β Φ => ∀ (R : St → Option ρ) (g : (Int) × (List (Gapi_Step)) → Option ρ) (κ : Ex × St → Option ρ), (∀ (n0 : Nat) (v0 : Int) (v1 : List (Gapi_Step)), n0 = List.length v1 → R (S_trace_steps_0 p0 p1 β n0 v0 v1) = g (v0, v1)) → ∀ (v0 : Int) (v1 : List (Gapi_Step)), go P hints hint19 b19 q19_0.1 (S_trace_steps_0 p0 p1 β (List.length v1) v0 v1) (kLp R κ) = Φ v0 v1 g κ := mkL _ _
theorem V_trace_steps_0 (p0 : List (List UInt8)) (p1 : Int) {ρ : Type} (β : Bool) (κ : Ex × St → Option ρ) (n0 : Nat) (v0 : Int) (v1 : List (Gapi_Step)) (hn0 : n0 = List.length v1) : goLp P hints hint19 b19 0 (S_trace_steps_0 p0 p1 β n0 v0 v1) κ = iterC (fun v k => (X_trace_steps_0 p0 p1 (ρ := ρ)).f β v.1 v.2 k κ) (v0, v1) := by
  subst hn0; refine goLp_iter (Φ := fun v k => (X_trace_steps_0 p0 p1 (ρ := ρ)).f β v.1 v.2 k κ) q19_0.2 (S := fun v => S_trace_steps_0 p0 p1 β (List.length v.2) v.1 v.2) ?_ (v0, v1)
  intro R g hR v
  have h := (X_trace_steps_0 p0 p1 (ρ := ρ)).ok β R g κ
  exact h (fun n0 v0 v1 hn0 => by subst hn0; exact hR (v0, v1)) v.1 v.2
end
@[go_sem] theorem W_trace_steps_0_1t {ρ : Type} (p0 : List (List UInt8)) (p1 : Int) (κ : Ex × St → Option ρ) (v0 : Int) : type_of% (by have h := V_trace_steps_0 p0 p1 true κ 0 v0 [] rfl; simp only [S_trace_steps_0, X_trace_steps_0, mkL, LX.f, tl_nil, tlo_rep, ents_nil, entsB_nil] at h; exact h) := by have h := V_trace_steps_0 p0 p1 true κ 0 v0 [] rfl; simp only [S_trace_steps_0, X_trace_steps_0, mkL, LX.f, tl_nil, tlo_rep, ents_nil, entsB_nil] at h; exact h
def K_trace_steps (a0 : List UInt8) (a1 : List UInt8) (β : Bool) (y0_0 : List Gapi_Step) (y0_1 : Bool) : List T × List Ob := ([.d (.sl false (List.map eapi_Step y0_0)), .d (.bool y0_1)], [])
attribute [go_sem] K_trace_steps
def F_trace_steps (a0 : List UInt8) (a1 : List UInt8) {ρ : Type} : {Φ : ((List Gapi_Step) → Bool → Option ρ) → Option ρ // ∀ (β : Bool) (κ : List T × List Ob → Option ρ) (g : (List Gapi_Step) → Bool → Option ρ), (∀ (y0_0 : List Gapi_Step) (y0_1 : Bool), κ (K_trace_steps a0 a1 β y0_0 y0_1) = g y0_0 y0_1) ∧ (∀ (y0_1 : Bool), κ (K_trace_steps a0 a1 β ([] : List Gapi_Step) y0_1) = g ([] : List Gapi_Step) y0_1) → cbK (call 19 [eS a0, eS a1] []) κ = Φ g} := mkF (p := fun (β : Bool) (κ : List T × List Ob → Option ρ) (g : (List Gapi_Step) → Bool → Option ρ) => (∀ (y0_0 : List Gapi_Step) (y0_1 : Bool), κ (K_trace_steps a0 a1 β y0_0 y0_1) = g y0_0 y0_1) ∧ (∀ (y0_1 : Bool), κ (K_trace_steps a0 a1 β ([] : List Gapi_Step) y0_1) = g ([] : List Gapi_Step) y0_1)) (ds := fun β => [eS a0, eS a1]) ge19 (fun _ => rfl) _
def f_trace_steps (a0 : List UInt8) (a1 : List UInt8) {ρ : Type} (g0 : (List Gapi_Step) → Bool → Option ρ) : Option ρ := (F_trace_steps a0 a1).1 g0
theorem U_trace_steps {ρ : Type} (a0 : List UInt8) (a1 : List UInt8) (κ : List T × List Ob → Option ρ) : cbK (call 19 [.str a0, .str a1] []) κ = f_trace_steps a0 a1 (fun y0_0 y0_1 => κ (K_trace_steps a0 a1 true y0_0 y0_1)) := (F_trace_steps a0 a1).2 true κ _ ⟨(fun _ _ => rfl), (fun _ => rfl)⟩
@[go_sem] theorem W_trace_steps {ρ : Type} (a0 : List UInt8) (a1 : List UInt8) (κ : List T × List Ob → Option ρ) : type_of% (by have h := @U_trace_steps ρ a0 a1 κ; simp only [K_trace_steps] at h; exact h) := by have h := @U_trace_steps ρ a0 a1 κ; simp only [K_trace_steps] at h; exact h
@[go_sem] theorem T_7_0 {ρ : Type} {env : List (Nat × SV)} {ct : List ((Nat × Nat) × T)} {H : List Ob} {κ : Ex × St → Option ρ} : goLp P hints hint7 b7 0 ⟨env, ct, H⟩ κ = go P hints hint7 b7 q7_0.1 ⟨env, ct, H⟩ (kLp (fun s => goLp P hints hint7 b7 0 s κ) κ) := goLp_turn q7_0.2
def K_trace_Parse (a0 : List UInt8) (β : Bool) (y0_0 : List Gapi_Step) (y0_1 : List Gapi_Step) (y0_2 : Int) (y0_3 : Int) : List T × List Ob := ([.d (.agg [.sl false (List.map eapi_Step y0_0), .sl false (List.map eapi_Step y0_1)]), .d (.int IntKind.i64 y0_2), .d (.int IntKind.i64 y0_3)], [])
attribute [go_sem] K_trace_Parse
def F_trace_Parse (a0 : List UInt8) {ρ : Type} : {Φ : ((List Gapi_Step) → (List Gapi_Step) → Int → Int → Option ρ) → Option ρ // ∀ (β : Bool) (κ : List T × List Ob → Option ρ) (g : (List Gapi_Step) → (List Gapi_Step) → Int → Int → Option ρ), (∀ (y0_0 : List Gapi_Step) (y0_1 : List Gapi_Step) (y0_2 : Int) (y0_3 : Int), κ (K_trace_Parse a0 β y0_0 y0_1 y0_2 y0_3) = g y0_0 y0_1 y0_2 y0_3) ∧ (∀ (y0_2 : Int) (y0_3 : Int), κ (K_trace_Parse a0 β ([] : List Gapi_Step) ([] : List Gapi_Step) y0_2 y0_3) = g ([] : List Gapi_Step) ([] : List Gapi_Step) y0_2 y0_3) → cbK (call 7 [eS a0] []) κ = Φ g} := mkF (p := fun (β : Bool) (κ : List T × List Ob → Option ρ) (g : (List Gapi_Step) → (List Gapi_Step) → Int → Int → Option ρ) => (∀ (y0_0 : List Gapi_Step) (y0_1 : List Gapi_Step) (y0_2 : Int) (y0_3 : Int), κ (K_trace_Parse a0 β y0_0 y0_1 y0_2 y0_3) = g y0_0 y0_1 y0_2 y0_3) ∧ (∀ (y0_2 : Int) (y0_3 : Int), κ (K_trace_Parse a0 β ([] : List Gapi_Step) ([] : List Gapi_Step) y0_2 y0_3) = g ([] : List Gapi_Step) ([] : List Gapi_Step) y0_2 y0_3)) (ds := fun β => [eS a0]) ge7 (fun _ => rfl) _
def f_trace_Parse (a0 : List UInt8) {ρ : Type} (g0 : (List Gapi_Step) → (List Gapi_Step) → Int → Int → Option ρ) : Option ρ := (F_trace_Parse a0).1 g0
theorem U_trace_Parse {ρ : Type} (a0 : List UInt8) (κ : List T × List Ob → Option ρ) : cbK (call 7 [.str a0] []) κ = f_trace_Parse a0 (fun y0_0 y0_1 y0_2 y0_3 => κ (K_trace_Parse a0 true y0_0 y0_1 y0_2 y0_3)) := (F_trace_Parse a0).2 true κ _ ⟨(fun _ _ _ _ => rfl), (fun _ _ => rfl)⟩
@[go_sem] theorem W_trace_Parse {ρ : Type} (a0 : List UInt8) (κ : List T × List Ob → Option ρ) : type_of% (by have h := @U_trace_Parse ρ a0 κ; simp only [K_trace_Parse] at h; exact h) := by have h := @U_trace_Parse ρ a0 κ; simp only [K_trace_Parse] at h; exact h
section
variable (p0 : Int)
def S_r01_Decimal_0 (p0 : Int) (β : Bool) (v0 : List UInt8) (v1 : Int) : St := ⟨[(0, .d (.int IntKind.i64 p0)), (3, .d (.str v0)), (4, .d (.int IntKind.i64 v1))], [], []⟩
attribute [go_sem] S_r01_Decimal_0
def X_r01_Decimal_0 (p0 : Int) {ρ : Type} : LX (A := (List UInt8) → Int → ((List UInt8) × (Int) → Option ρ) → (Ex × St → Option ρ) → Option ρ) fun β Φ => ∀ (R : St → Option ρ) (g : (List UInt8) × (Int) → Option ρ) (κ : Ex × St → Option ρ), (∀ (v0 : List UInt8) (v1 : Int), R (S_r01_Decimal_0 p0 β v0 v1) = g (v0, v1)) → ∀ (v0 : List UInt8) (v1 : Int), go P hints hint36 b36 q36_0.1 (S_r01_Decimal_0 p0 β v0 v1) (kLp R κ) = Φ v0 v1 g κ := mkL _ _
theorem V_r01_Decimal_0 (p0 : Int) {ρ : Type} (β : Bool) (κ : Ex × St → Option ρ) (v0 : List UInt8) (v1 : Int) : goLp P hints hint36 b36 0 (S_r01_Decimal_0 p0 β v0 v1) κ = iterC (fun v k => (X_r01_Decimal_0 p0 (ρ := ρ)).f β v.1 v.2 k κ) (v0, v1) := by
  refine goLp_iter (Φ := fun v k => (X_r01_Decimal_0 p0 (ρ := ρ)).f β v.1 v.2 k κ) q36_0.2 (S := fun v => S_r01_Decimal_0 p0 β v.1 v.2) ?_ (v0, v1)
  intro R g hR v
  have h := (X_r01_Decimal_0 p0 (ρ := ρ)).ok β R g κ
  exact h (fun v0 v1 => hR (v0, v1)) v.1 v.2
end
@[go_sem] theorem W_r01_Decimal_0t {ρ : Type} (p0 : Int) (κ : Ex × St → Option ρ) (v0 : List UInt8) (v1 : Int) : type_of% (by have h := V_r01_Decimal_0 p0 true κ v0 v1; simp only [S_r01_Decimal_0, X_r01_Decimal_0, mkL, LX.f] at h; exact h) := by have h := V_r01_Decimal_0 p0 true κ v0 v1; simp only [S_r01_Decimal_0, X_r01_Decimal_0, mkL, LX.f] at h; exact h
def K_r01_Decimal (a0 : Int) (β : Bool) (y0_0 : List UInt8) : List T × List Ob := ([.d (.str y0_0)], [])
attribute [go_sem] K_r01_Decimal
def F_r01_Decimal (a0 : Int) {ρ : Type} : {Φ : ((List UInt8) → Option ρ) → Option ρ // ∀ (β : Bool) (κ : List T × List Ob → Option ρ) (g : (List UInt8) → Option ρ), (∀ (y0_0 : List UInt8), κ (K_r01_Decimal a0 β y0_0) = g y0_0) → cbK (call 36 [eI a0] []) κ = Φ g} := mkF (p := fun (β : Bool) (κ : List T × List Ob → Option ρ) (g : (List UInt8) → Option ρ) => (∀ (y0_0 : List UInt8), κ (K_r01_Decimal a0 β y0_0) = g y0_0)) (ds := fun β => [eI a0]) ge36 (fun _ => rfl) _
def f_r01_Decimal (a0 : Int) {ρ : Type} (g0 : (List UInt8) → Option ρ) : Option ρ := (F_r01_Decimal a0).1 g0
theorem U_r01_Decimal {ρ : Type} (a0 : Int) (κ : List T × List Ob → Option ρ) : cbK (call 36 [.int .i64 a0] []) κ = f_r01_Decimal a0 (fun y0_0 => κ (K_r01_Decimal a0 true y0_0)) := (F_r01_Decimal a0).2 true κ _ (fun _ => rfl)
@[go_sem] theorem W_r01_Decimal {ρ : Type} (a0 : Int) (κ : List T × List Ob → Option ρ) : type_of% (by have h := @U_r01_Decimal ρ a0 κ; simp only [K_r01_Decimal] at h; exact h) := by have h := @U_r01_Decimal ρ a0 κ; simp only [K_r01_Decimal] at h; exact h
section
variable (p0 : List Gapi_Step)
end
section
variable (p0 : List Gapi_Step) (p1 : List Gapi_Step)
def S_law45_steps_0 (p0 : List Gapi_Step) (p1 : List Gapi_Step) (β : Bool) (v0 : Int) : St := ⟨[(0, .d (.sl β (List.map eapi_Step p0))), (1, .d (.sl β (List.map eapi_Step p1))), (5, .d (.int IntKind.i64 v0))], [], []⟩
attribute [go_sem] S_law45_steps_0
def X_law45_steps_0 (p0 : List Gapi_Step) (p1 : List Gapi_Step) {ρ : Type} : LX (A := Int → (Int → Option ρ) → (Ex × St → Option ρ) → Option ρ) fun β Φ => ∀ (R : St → Option ρ) (g : Int → Option ρ) (κ : Ex × St → Option ρ), (∀ (v0 : Int), R (S_law45_steps_0 p0 p1 β v0) = g v0) → ∀ (v0 : Int), go P hints hint9 b9 q9_0.1 (S_law45_steps_0 p0 p1 β v0) (kLp R κ) = Φ v0 g κ := mkL _ _
theorem V_law45_steps_0 (p0 : List Gapi_Step) (p1 : List Gapi_Step) {ρ : Type} (β : Bool) (κ : Ex × St → Option ρ) (v0 : Int) : goLp P hints hint9 b9 0 (S_law45_steps_0 p0 p1 β v0) κ = iterC (fun v k => (X_law45_steps_0 p0 p1 (ρ := ρ)).f β v k κ) v0 := by
  refine goLp_iter (Φ := fun v k => (X_law45_steps_0 p0 p1 (ρ := ρ)).f β v k κ) q9_0.2 (S := fun v => S_law45_steps_0 p0 p1 β v) ?_ v0
  intro R g hR v
  have h := (X_law45_steps_0 p0 p1 (ρ := ρ)).ok β R g κ
  exact h (fun v0 => hR v0) v
end
@[go_sem] theorem W_law45_steps_0f {ρ : Type} (p0 : List Gapi_Step) (p1 : List Gapi_Step) (κ : Ex × St → Option ρ) (v0 : Int) : type_of% (by have h := V_law45_steps_0 p0 p1 false κ v0; simp only [S_law45_steps_0, X_law45_steps_0, mkL, LX.f] at h; exact h) := by have h := V_law45_steps_0 p0 p1 false κ v0; simp only [S_law45_steps_0, X_law45_steps_0, mkL, LX.f] at h; exact h
@[go_sem] theorem W_law45_steps_0t {ρ : Type} (p0 : List Gapi_Step) (p1 : List Gapi_Step) (κ : Ex × St → Option ρ) (v0 : Int) : type_of% (by have h := V_law45_steps_0 p0 p1 true κ v0; simp only [S_law45_steps_0, X_law45_steps_0, mkL, LX.f] at h; exact h) := by have h := V_law45_steps_0 p0 p1 true κ v0; simp only [S_law45_steps_0, X_law45_steps_0, mkL, LX.f] at h; exact h
def K_law45_steps (a0 : List Gapi_Step) (a1 : List Gapi_Step) (β : Bool) (y0_0 : Bool) : List T × List Ob := ([.d (.bool y0_0)], [])
attribute [go_sem] K_law45_steps
def F_law45_steps (a0 : List Gapi_Step) (a1 : List Gapi_Step) {ρ : Type} : {Φ : (Bool → Option ρ) → Option ρ // ∀ (β : Bool) (κ : List T × List Ob → Option ρ) (g : Bool → Option ρ), (∀ (y0_0 : Bool), κ (K_law45_steps a0 a1 β y0_0) = g y0_0) → cbK (call 9 [(esapi_Step β) a0, (esapi_Step β) a1] []) κ = Φ g} := mkF (p := fun (β : Bool) (κ : List T × List Ob → Option ρ) (g : Bool → Option ρ) => (∀ (y0_0 : Bool), κ (K_law45_steps a0 a1 β y0_0) = g y0_0)) (ds := fun β => [(esapi_Step β) a0, (esapi_Step β) a1]) ge9 (fun _ => rfl) _
def f_law45_steps (a0 : List Gapi_Step) (a1 : List Gapi_Step) {ρ : Type} (g0 : Bool → Option ρ) : Option ρ := (F_law45_steps a0 a1).1 g0
theorem U_law45_steps {ρ : Type} (β : Bool) (a0 : List Gapi_Step) (a1 : List Gapi_Step) (κ : List T × List Ob → Option ρ) : cbK (call 9 [.sl β (List.map eapi_Step a0), .sl β (List.map eapi_Step a1)] []) κ = f_law45_steps a0 a1 (fun y0_0 => κ (K_law45_steps a0 a1 β y0_0)) := (F_law45_steps a0 a1).2 β κ _ (fun _ => rfl)
@[go_sem] theorem W_law45_steps {ρ : Type} (β : Bool) (a0 : List Gapi_Step) (a1 : List Gapi_Step) (κ : List T × List Ob → Option ρ) : type_of% (by have h := @U_law45_steps ρ β a0 a1 κ; simp only [K_law45_steps] at h; exact h) := by have h := @U_law45_steps ρ β a0 a1 κ; simp only [K_law45_steps] at h; exact h
section
variable (p0 : Nat) (p1 : List Gapi_Step) (p2 : List Gapi_Step) (p3 : List Gapi_Step)
end
section
variable (p0 : List UInt8) (p1 : Int)
def S_r45_cut_0 (p0 : List UInt8) (p1 : Int) (β : Bool) (v0 : Int) : St := ⟨[(0, .d (.str p0)), (1, .d (.int IntKind.u8 p1)), (7, .d (.int IntKind.i64 v0))], [], []⟩
attribute [go_sem] S_r45_cut_0
def X_r45_cut_0 (p0 : List UInt8) (p1 : Int) {ρ : Type} : LX (A := Int → (Int → Option ρ) → (Ex × St → Option ρ) → Option ρ) fun β Φ => ∀ (R : St → Option ρ) (g : Int → Option ρ) (κ : Ex × St → Option ρ), (∀ (v0 : Int), R (S_r45_cut_0 p0 p1 β v0) = g v0) → ∀ (v0 : Int), go P hints hint21 b21 q21_0.1 (S_r45_cut_0 p0 p1 β v0) (kLp R κ) = Φ v0 g κ := mkL _ _
theorem V_r45_cut_0 (p0 : List UInt8) (p1 : Int) {ρ : Type} (β : Bool) (κ : Ex × St → Option ρ) (v0 : Int) : goLp P hints hint21 b21 0 (S_r45_cut_0 p0 p1 β v0) κ = iterC (fun v k => (X_r45_cut_0 p0 p1 (ρ := ρ)).f β v k κ) v0 := by
  refine goLp_iter (Φ := fun v k => (X_r45_cut_0 p0 p1 (ρ := ρ)).f β v k κ) q21_0.2 (S := fun v => S_r45_cut_0 p0 p1 β v) ?_ v0
  intro R g hR v
  have h := (X_r45_cut_0 p0 p1 (ρ := ρ)).ok β R g κ
  exact h (fun v0 => hR v0) v
end
@[go_sem] theorem W_r45_cut_0t {ρ : Type} (p0 : List UInt8) (p1 : Int) (κ : Ex × St → Option ρ) (v0 : Int) : type_of% (by have h := V_r45_cut_0 p0 p1 true κ v0; simp only [S_r45_cut_0, X_r45_cut_0, mkL, LX.f] at h; exact h) := by have h := V_r45_cut_0 p0 p1 true κ v0; simp only [S_r45_cut_0, X_r45_cut_0, mkL, LX.f] at h; exact h
def K_r45_cut (a0 : List UInt8) (a1 : Int) (β : Bool) (y0_0 : List UInt8) (y0_1 : List UInt8) (y0_2 : Bool) : List T × List Ob := ([.d (.str y0_0), .d (.str y0_1), .d (.bool y0_2)], [])
attribute [go_sem] K_r45_cut
def F_r45_cut (a0 : List UInt8) (a1 : Int) {ρ : Type} : {Φ : ((List UInt8) → (List UInt8) → Bool → Option ρ) → Option ρ // ∀ (β : Bool) (κ : List T × List Ob → Option ρ) (g : (List UInt8) → (List UInt8) → Bool → Option ρ), (∀ (y0_0 : List UInt8) (y0_1 : List UInt8) (y0_2 : Bool), κ (K_r45_cut a0 a1 β y0_0 y0_1 y0_2) = g y0_0 y0_1 y0_2) → cbK (call 21 [eS a0, (eK .u8) a1] []) κ = Φ g} := mkF (p := fun (β : Bool) (κ : List T × List Ob → Option ρ) (g : (List UInt8) → (List UInt8) → Bool → Option ρ) => (∀ (y0_0 : List UInt8) (y0_1 : List UInt8) (y0_2 : Bool), κ (K_r45_cut a0 a1 β y0_0 y0_1 y0_2) = g y0_0 y0_1 y0_2)) (ds := fun β => [eS a0, (eK .u8) a1]) ge21 (fun _ => rfl) _
def f_r45_cut (a0 : List UInt8) (a1 : Int) {ρ : Type} (g0 : (List UInt8) → (List UInt8) → Bool → Option ρ) : Option ρ := (F_r45_cut a0 a1).1 g0
theorem U_r45_cut {ρ : Type} (a0 : List UInt8) (a1 : Int) (κ : List T × List Ob → Option ρ) : cbK (call 21 [.str a0, .int .u8 a1] []) κ = f_r45_cut a0 a1 (fun y0_0 y0_1 y0_2 => κ (K_r45_cut a0 a1 true y0_0 y0_1 y0_2)) := (F_r45_cut a0 a1).2 true κ _ (fun _ _ _ => rfl)
@[go_sem] theorem W_r45_cut {ρ : Type} (a0 : List UInt8) (a1 : Int) (κ : List T × List Ob → Option ρ) : type_of% (by have h := @U_r45_cut ρ a0 a1 κ; simp only [K_r45_cut] at h; exact h) := by have h := @U_r45_cut ρ a0 a1 κ; simp only [K_r45_cut] at h; exact h
def K_r01_within (a0 : Int) (β : Bool) (y0_0 : Bool) : List T × List Ob := ([.d (.bool y0_0)], [])
attribute [go_sem] K_r01_within
def F_r01_within (a0 : Int) {ρ : Type} : {Φ : (Bool → Option ρ) → Option ρ // ∀ (β : Bool) (κ : List T × List Ob → Option ρ) (g : Bool → Option ρ), (∀ (y0_0 : Bool), κ (K_r01_within a0 β y0_0) = g y0_0) → cbK (call 53 [eI a0] []) κ = Φ g} := mkF (p := fun (β : Bool) (κ : List T × List Ob → Option ρ) (g : Bool → Option ρ) => (∀ (y0_0 : Bool), κ (K_r01_within a0 β y0_0) = g y0_0)) (ds := fun β => [eI a0]) ge53 (fun _ => rfl) _
def f_r01_within (a0 : Int) {ρ : Type} (g0 : Bool → Option ρ) : Option ρ := (F_r01_within a0).1 g0
theorem U_r01_within {ρ : Type} (a0 : Int) (κ : List T × List Ob → Option ρ) : cbK (call 53 [.int .i64 a0] []) κ = f_r01_within a0 (fun y0_0 => κ (K_r01_within a0 true y0_0)) := (F_r01_within a0).2 true κ _ (fun _ => rfl)
@[go_sem] theorem W_r01_within {ρ : Type} (a0 : Int) (κ : List T × List Ob → Option ρ) : type_of% (by have h := @U_r01_within ρ a0 κ; simp only [K_r01_within] at h; exact h) := by have h := @U_r01_within ρ a0 κ; simp only [K_r01_within] at h; exact h
section
variable (p0 : List UInt8)
def S_r01_Number_0 (p0 : List UInt8) (β : Bool) (v0 : Int) (v1 : Int) (v2 : Int) : St := ⟨[(0, .d (.str p0)), (4, .d (.int IntKind.i64 v0)), (5, .d (.int IntKind.i64 v1)), (6, .d (.int IntKind.i64 v2))], [], []⟩
attribute [go_sem] S_r01_Number_0
def X_r01_Number_0 (p0 : List UInt8) {ρ : Type} : LX (A := Int → Int → Int → ((Int) × (Int) × (Int) → Option ρ) → (Ex × St → Option ρ) → Option ρ) fun β Φ => ∀ (R : St → Option ρ) (g : (Int) × (Int) × (Int) → Option ρ) (κ : Ex × St → Option ρ), (∀ (v0 : Int) (v1 : Int) (v2 : Int), R (S_r01_Number_0 p0 β v0 v1 v2) = g (v0, v1, v2)) → ∀ (v0 : Int) (v1 : Int) (v2 : Int), go P hints hint37 b37 q37_0.1 (S_r01_Number_0 p0 β v0 v1 v2) (kLp R κ) = Φ v0 v1 v2 g κ := mkL _ _
theorem V_r01_Number_0 (p0 : List UInt8) {ρ : Type} (β : Bool) (κ : Ex × St → Option ρ) (v0 : Int) (v1 : Int) (v2 : Int) : goLp P hints hint37 b37 0 (S_r01_Number_0 p0 β v0 v1 v2) κ = iterC (fun v k => (X_r01_Number_0 p0 (ρ := ρ)).f β v.1 v.2.1 v.2.2 k κ) (v0, v1, v2) := by
  refine goLp_iter (Φ := fun v k => (X_r01_Number_0 p0 (ρ := ρ)).f β v.1 v.2.1 v.2.2 k κ) q37_0.2 (S := fun v => S_r01_Number_0 p0 β v.1 v.2.1 v.2.2) ?_ (v0, v1, v2)
  intro R g hR v
  have h := (X_r01_Number_0 p0 (ρ := ρ)).ok β R g κ
  exact h (fun v0 v1 v2 => hR (v0, v1, v2)) v.1 v.2.1 v.2.2
end
@[go_sem] theorem W_r01_Number_0t {ρ : Type} (p0 : List UInt8) (κ : Ex × St → Option ρ) (v0 : Int) (v1 : Int) (v2 : Int) : type_of% (by have h := V_r01_Number_0 p0 true κ v0 v1 v2; simp only [S_r01_Number_0, X_r01_Number_0, mkL, LX.f] at h; exact h) := by have h := V_r01_Number_0 p0 true κ v0 v1 v2; simp only [S_r01_Number_0, X_r01_Number_0, mkL, LX.f] at h; exact h
def K_r01_Number (a0 : List UInt8) (β : Bool) (y0_0 : Int) (y0_1 : Bool) : List T × List Ob := ([.d (.int IntKind.i64 y0_0), .d (.bool y0_1)], [])
attribute [go_sem] K_r01_Number
def F_r01_Number (a0 : List UInt8) {ρ : Type} : {Φ : (Int → Bool → Option ρ) → Option ρ // ∀ (β : Bool) (κ : List T × List Ob → Option ρ) (g : Int → Bool → Option ρ), (∀ (y0_0 : Int) (y0_1 : Bool), κ (K_r01_Number a0 β y0_0 y0_1) = g y0_0 y0_1) → cbK (call 37 [eS a0] []) κ = Φ g} := mkF (p := fun (β : Bool) (κ : List T × List Ob → Option ρ) (g : Int → Bool → Option ρ) => (∀ (y0_0 : Int) (y0_1 : Bool), κ (K_r01_Number a0 β y0_0 y0_1) = g y0_0 y0_1)) (ds := fun β => [eS a0]) ge37 (fun _ => rfl) _
def f_r01_Number (a0 : List UInt8) {ρ : Type} (g0 : Int → Bool → Option ρ) : Option ρ := (F_r01_Number a0).1 g0
theorem U_r01_Number {ρ : Type} (a0 : List UInt8) (κ : List T × List Ob → Option ρ) : cbK (call 37 [.str a0] []) κ = f_r01_Number a0 (fun y0_0 y0_1 => κ (K_r01_Number a0 true y0_0 y0_1)) := (F_r01_Number a0).2 true κ _ (fun _ _ => rfl)
@[go_sem] theorem W_r01_Number {ρ : Type} (a0 : List UInt8) (κ : List T × List Ob → Option ρ) : type_of% (by have h := @U_r01_Number ρ a0 κ; simp only [K_r01_Number] at h; exact h) := by have h := @U_r01_Number ρ a0 κ; simp only [K_r01_Number] at h; exact h
section
def S_r45_steps_0 (β : Bool) (n0 : Nat) (v0 : List UInt8) (v1 : Bool) (v2 : List (Gapi_Step)) : St := ⟨[(7, .d (.str v0)), (8, .d (.bool v1)), (9, .bor (.l 9 0) [] 0 n0)], [((9, 0), .own (tl eapi_Step v2))], []⟩
attribute [go_sem] S_r45_steps_0
def X_r45_steps_0 {ρ : Type} : LX (A := (List UInt8) → Bool → (List (Gapi_Step)) → ((List UInt8) × (Bool) × (List (Gapi_Step)) → Option ρ) → (Ex × St → Option ρ) → Option ρ) fun β Φ => ∀ (R : St → Option ρ) (g : (List UInt8) × (Bool) × (List (Gapi_Step)) → Option ρ) (κ : Ex × St → Option ρ), (∀ (n0 : Nat) (v0 : List UInt8) (v1 : Bool) (v2 : List (Gapi_Step)), n0 = List.length v2 → R (S_r45_steps_0 β n0 v0 v1 v2) = g (v0, v1, v2)) → ∀ (v0 : List UInt8) (v1 : Bool) (v2 : List (Gapi_Step)), go P hints hint22 b22 q22_0.1 (S_r45_steps_0 β (List.length v2) v0 v1 v2) (kLp R κ) = Φ v0 v1 v2 g κ := mkL _ _
theorem V_r45_steps_0 {ρ : Type} (β : Bool) (κ : Ex × St → Option ρ) (n0 : Nat) (v0 : List UInt8) (v1 : Bool) (v2 : List (Gapi_Step)) (hn0 : n0 = List.length v2) : goLp P hints hint22 b22 0 (S_r45_steps_0 β n0 v0 v1 v2) κ = iterC (fun v k => (X_r45_steps_0 (ρ := ρ)).f β v.1 v.2.1 v.2.2 k κ) (v0, v1, v2) := by
  subst hn0; refine goLp_iter (Φ := fun v k => (X_r45_steps_0 (ρ := ρ)).f β v.1 v.2.1 v.2.2 k κ) q22_0.2 (S := fun v => S_r45_steps_0 β (List.length v.2.2) v.1 v.2.1 v.2.2) ?_ (v0, v1, v2)
  intro R g hR v
  have h := (X_r45_steps_0 (ρ := ρ)).ok β R g κ
  exact h (fun n0 v0 v1 v2 hn0 => by subst hn0; exact hR (v0, v1, v2)) v.1 v.2.1 v.2.2
end
@[go_sem] theorem W_r45_steps_0_1t {ρ : Type} (κ : Ex × St → Option ρ) (v0 : List UInt8) (v1 : Bool) : type_of% (by have h := V_r45_steps_0 true κ 0 v0 v1 [] rfl; simp only [S_r45_steps_0, X_r45_steps_0, mkL, LX.f, tl_nil, tlo_rep, ents_nil, entsB_nil] at h; exact h) := by have h := V_r45_steps_0 true κ 0 v0 v1 [] rfl; simp only [S_r45_steps_0, X_r45_steps_0, mkL, LX.f, tl_nil, tlo_rep, ents_nil, entsB_nil] at h; exact h
def K_r45_steps (a0 : List UInt8) (a1 : List UInt8) (β : Bool) (y0_0 : List Gapi_Step) (y0_1 : Bool) : List T × List Ob := ([.d (.sl false (List.map eapi_Step y0_0)), .d (.bool y0_1)], [])
attribute [go_sem] K_r45_steps
def F_r45_steps (a0 : List UInt8) (a1 : List UInt8) {ρ : Type} : {Φ : ((List Gapi_Step) → Bool → Option ρ) → Option ρ // ∀ (β : Bool) (κ : List T × List Ob → Option ρ) (g : (List Gapi_Step) → Bool → Option ρ), (∀ (y0_0 : List Gapi_Step) (y0_1 : Bool), κ (K_r45_steps a0 a1 β y0_0 y0_1) = g y0_0 y0_1) ∧ (∀ (y0_1 : Bool), κ (K_r45_steps a0 a1 β ([] : List Gapi_Step) y0_1) = g ([] : List Gapi_Step) y0_1) → cbK (call 22 [eS a0, eS a1] []) κ = Φ g} := mkF (p := fun (β : Bool) (κ : List T × List Ob → Option ρ) (g : (List Gapi_Step) → Bool → Option ρ) => (∀ (y0_0 : List Gapi_Step) (y0_1 : Bool), κ (K_r45_steps a0 a1 β y0_0 y0_1) = g y0_0 y0_1) ∧ (∀ (y0_1 : Bool), κ (K_r45_steps a0 a1 β ([] : List Gapi_Step) y0_1) = g ([] : List Gapi_Step) y0_1)) (ds := fun β => [eS a0, eS a1]) ge22 (fun _ => rfl) _
def f_r45_steps (a0 : List UInt8) (a1 : List UInt8) {ρ : Type} (g0 : (List Gapi_Step) → Bool → Option ρ) : Option ρ := (F_r45_steps a0 a1).1 g0
theorem U_r45_steps {ρ : Type} (a0 : List UInt8) (a1 : List UInt8) (κ : List T × List Ob → Option ρ) : cbK (call 22 [.str a0, .str a1] []) κ = f_r45_steps a0 a1 (fun y0_0 y0_1 => κ (K_r45_steps a0 a1 true y0_0 y0_1)) := (F_r45_steps a0 a1).2 true κ _ ⟨(fun _ _ => rfl), (fun _ => rfl)⟩
@[go_sem] theorem W_r45_steps {ρ : Type} (a0 : List UInt8) (a1 : List UInt8) (κ : List T × List Ob → Option ρ) : type_of% (by have h := @U_r45_steps ρ a0 a1 κ; simp only [K_r45_steps] at h; exact h) := by have h := @U_r45_steps ρ a0 a1 κ; simp only [K_r45_steps] at h; exact h
def K_r45_Parse (a0 : List UInt8) (β : Bool) (y0_0 : List Gapi_Step) (y0_1 : List Gapi_Step) (y0_2 : Int) (y0_3 : Int) : List T × List Ob := ([.d (.agg [.sl false (List.map eapi_Step y0_0), .sl false (List.map eapi_Step y0_1)]), .d (.int IntKind.i64 y0_2), .d (.int IntKind.i64 y0_3)], [])
attribute [go_sem] K_r45_Parse
def F_r45_Parse (a0 : List UInt8) {ρ : Type} : {Φ : ((List Gapi_Step) → (List Gapi_Step) → Int → Int → Option ρ) → Option ρ // ∀ (β : Bool) (κ : List T × List Ob → Option ρ) (g : (List Gapi_Step) → (List Gapi_Step) → Int → Int → Option ρ), (∀ (y0_0 : List Gapi_Step) (y0_1 : List Gapi_Step) (y0_2 : Int) (y0_3 : Int), κ (K_r45_Parse a0 β y0_0 y0_1 y0_2 y0_3) = g y0_0 y0_1 y0_2 y0_3) ∧ (∀ (y0_2 : Int) (y0_3 : Int), κ (K_r45_Parse a0 β ([] : List Gapi_Step) ([] : List Gapi_Step) y0_2 y0_3) = g ([] : List Gapi_Step) ([] : List Gapi_Step) y0_2 y0_3) → cbK (call 10 [eS a0] []) κ = Φ g} := mkF (p := fun (β : Bool) (κ : List T × List Ob → Option ρ) (g : (List Gapi_Step) → (List Gapi_Step) → Int → Int → Option ρ) => (∀ (y0_0 : List Gapi_Step) (y0_1 : List Gapi_Step) (y0_2 : Int) (y0_3 : Int), κ (K_r45_Parse a0 β y0_0 y0_1 y0_2 y0_3) = g y0_0 y0_1 y0_2 y0_3) ∧ (∀ (y0_2 : Int) (y0_3 : Int), κ (K_r45_Parse a0 β ([] : List Gapi_Step) ([] : List Gapi_Step) y0_2 y0_3) = g ([] : List Gapi_Step) ([] : List Gapi_Step) y0_2 y0_3)) (ds := fun β => [eS a0]) ge10 (fun _ => rfl) _
def f_r45_Parse (a0 : List UInt8) {ρ : Type} (g0 : (List Gapi_Step) → (List Gapi_Step) → Int → Int → Option ρ) : Option ρ := (F_r45_Parse a0).1 g0
theorem U_r45_Parse {ρ : Type} (a0 : List UInt8) (κ : List T × List Ob → Option ρ) : cbK (call 10 [.str a0] []) κ = f_r45_Parse a0 (fun y0_0 y0_1 y0_2 y0_3 => κ (K_r45_Parse a0 true y0_0 y0_1 y0_2 y0_3)) := (F_r45_Parse a0).2 true κ _ ⟨(fun _ _ _ _ => rfl), (fun _ _ => rfl)⟩
@[go_sem] theorem W_r45_Parse {ρ : Type} (a0 : List UInt8) (κ : List T × List Ob → Option ρ) : type_of% (by have h := @U_r45_Parse ρ a0 κ; simp only [K_r45_Parse] at h; exact h) := by have h := @U_r45_Parse ρ a0 κ; simp only [K_r45_Parse] at h; exact h
def K_law45_TraceParses (a0 : List UInt8) (β : Bool) (y0_0 : Bool) : List T × List Ob := ([.d (.bool y0_0)], [])
attribute [go_sem] K_law45_TraceParses
def F_law45_TraceParses (a0 : List UInt8) {ρ : Type} : {Φ : (Bool → Option ρ) → Option ρ // ∀ (β : Bool) (κ : List T × List Ob → Option ρ) (g : Bool → Option ρ), (∀ (y0_0 : Bool), κ (K_law45_TraceParses a0 β y0_0) = g y0_0) → cbK (call 4 [eS a0] []) κ = Φ g} := mkF (p := fun (β : Bool) (κ : List T × List Ob → Option ρ) (g : Bool → Option ρ) => (∀ (y0_0 : Bool), κ (K_law45_TraceParses a0 β y0_0) = g y0_0)) (ds := fun β => [eS a0]) ge4 (fun _ => rfl) _
def f_law45_TraceParses (a0 : List UInt8) {ρ : Type} (g0 : Bool → Option ρ) : Option ρ := (F_law45_TraceParses a0).1 g0
end
end Go.Trc
namespace Go.Trc
open Go Go.Am Go.Tr7
open Go.Lib (decDigits itoa parseUint10 parseMag atoiAll)
set_option linter.unusedSimpArgs false
set_option linter.unusedVariables false
variable {ρ : Type}
theorem dd_small {u : Nat} (h : u < 10) : decDigits u = [UInt8.ofNat (48 + u)] := by rw [decDigits, dif_pos h]
theorem dd_big {u : Nat} (h : ¬ u < 10) : decDigits u = decDigits (u / 10) ++ [UInt8.ofNat (48 + u % 10)] := by rw [decDigits, dif_neg h]
theorem dig {k : Nat} (h : k < 10) : (UInt8.ofNat (48 + k)).toNat = 48 + k := by rw [UInt8.toNat_ofNat']; omega
theorem dd_ne (u : Nat) : decDigits u ≠ [] := by
  by_cases h : u < 10
  · rw [dd_small h]; simp
  · rw [dd_big h]; simp
theorem dd_mem (u : Nat) : ∀ x ∈ decDigits u, 48 ≤ x.toNat ∧ x.toNat ≤ 57 := by
  induction u using Nat.strongRecOn with
  | ind u ih =>
    by_cases h : u < 10
    · rw [dd_small h]
      intro x hx
      rw [List.mem_singleton] at hx
      subst hx
      rw [dig h]; omega
    · rw [dd_big h]
      intro x hx
      rw [List.mem_append, List.mem_singleton] at hx
      rcases hx with hx | rfl
      · exact ih _ (by omega) x hx
      · rw [dig (by omega)]; omega
theorem parse_app {m : List UInt8} : ∀ (l : List UInt8) (acc a : Nat), parseUint10 acc l = .ok a → parseUint10 acc (l ++ m) = parseUint10 a m
  | [], acc, a, h => by
    simp only [parseUint10] at h
    injection h with h
    subst h; rfl
  | c :: r, acc, a, h => by
    simp only [parseUint10, List.cons_append] at h ⊢
    split at h
    · rename_i h1
      split at h
      · cases h
      · rename_i h2
        split at h
        · cases h
        · rename_i h3
          rw [if_pos h1, if_neg h2, if_neg h3]
          exact parse_app r _ a h
    · cases h
theorem parse_dd (u : Nat) (hu : u ≤ 9223372036854775808) : parseUint10 0 (decDigits u) = .ok u := by
  induction u using Nat.strongRecOn with
  | ind u ih =>
    by_cases h : u < 10
    · rw [dd_small h]
      simp only [parseUint10]
      rw [dig h, if_pos (by omega), if_neg (by omega), if_neg (by omega)]
      congr 1; omega
    · rw [dd_big h, parse_app _ 0 (u / 10) (ih _ (by omega) (by omega))]
      simp only [parseUint10]
      rw [dig (by omega), if_pos (by omega), if_neg (by omega), if_neg (by omega)]
      congr 1; omega
theorem mag_dd (u : Nat) (hu : u ≤ 9223372036854775808) : parseMag (decDigits u) = .ok u := by
  unfold parseMag
  rw [if_neg (dd_ne u), parse_dd u hu]
theorem atoi_itoa (n : Int) (h0 : -9223372036854775808 ≤ n) (h1 : n ≤ 9223372036854775807) : atoiAll (itoa n) = .ok n := by
  unfold itoa
  by_cases hn : n < 0
  · rw [if_pos hn]
    simp only [atoiAll]
    simp only [show (45 : UInt8).toNat = 45 from rfl]
    rw [if_pos (.inr trivial), mag_dd _ (by omega)]
    simp only [not_true_eq_false, false_and, if_false, true_and, if_true]
    rw [if_neg (by omega)]
    congr 1; omega
  · rw [if_neg hn]
    have hm := dd_mem n.toNat
    have hp := mag_dd n.toNat (by omega)
    revert hm hp
    generalize hl : decDigits n.toNat = l
    intro hm hp
    cases l with
    | nil => exact absurd hl (dd_ne _)
    | cons c r =>
      have hc := hm c (by simp)
      simp only [atoiAll]
      rw [if_neg (by omega), hp]
      simp only
      rw [if_neg (by omega), if_neg (by omega), if_neg (by omega)]
      congr 1; omega
theorem inB_inR {n : Int} (h : Go.Proofs.Tryz.inB n = true) : inR n = true := by
  have := of_decide_eq_true h
  simp only [inR, Bool.and_eq_true, decide_eq_true_eq]; omega
theorem numF_dec {n : Int} (h : inR n = true) : numF (decI n) = if Go.Proofs.Tryz.inB n = true then (n, true) else (0, false) := by
  have h' := h
  simp only [inR, Bool.and_eq_true, decide_eq_true_eq] at h'
  unfold numF
  rw [decI_eq h, atoi_itoa n h'.1 h'.2]
  simp only [decI_eq h, decide_true, Bool.and_true]
theorem numF_cases (s : List UInt8) : (∃ v, numF s = (v, true) ∧ decI v = s ∧ Go.Proofs.Tryz.inB v = true) ∨ numF s = (0, false) := by
  unfold numF
  cases atoiAll s with
  | ok v =>
    simp only
    by_cases h : (Go.Proofs.Tryz.inB v && decide (decI v = s)) = true
    · rw [if_pos h]
      simp only [Bool.and_eq_true, decide_eq_true_eq] at h
      exact .inl ⟨v, rfl, h.2, h.1⟩
    · rw [if_neg h]; exact .inr rfl
  | _ => exact .inr rfl
def dd (u : Nat) : List UInt8 := if u = 0 then [] else decDigits u
theorem dd_step {u : Nat} (h : u ≠ 0) : dd u = dd (u / 10) ++ [UInt8.ofNat (48 + u % 10)] := by
  unfold dd
  rw [if_neg h]
  by_cases hu : u < 10
  · rw [dd_small hu, if_pos (by omega), show u % 10 = u by omega]; rfl
  · rw [dd_big hu, if_neg (by omega)]
theorem decI_of {n : Int} (h : inR n = true) : decI n = if n = 0 then [48] else if n < 0 then 45 :: dd n.natAbs else dd n.natAbs := by
  rw [decI_eq h]
  unfold itoa dd
  by_cases h0 : n = 0
  · subst h0; simp [dd_small]
  · rw [if_neg h0, if_neg (show n.natAbs ≠ 0 by omega)]
    by_cases hn : n < 0
    · rw [if_pos hn, if_pos hn]
    · rw [if_neg hn, if_neg hn, show n.toNat = n.natAbs by omega]
theorem u8_mod (n : Int) : IntKind.u8.wrap n = n % 256 := by
  rw [IntKind.wrap]; simp [IntKind.signed, IntKind.bits]
theorem u8_ch {k : Int} {m : Nat} (hk : k = (m : Int)) (hm : m < 10) : UInt8.ofNat (IntKind.u8.wrap (IntKind.i64.wrap (48 + k))).toNat = UInt8.ofNat (48 + m) := by
  subst hk
  rw [wrap64 (by omega) (by omega), u8_mod]
  congr 1; omega
theorem td_abs (k : Int) : (k.tdiv 10).natAbs = k.natAbs / 10 := by rw [Int.natAbs_tdiv]; rfl
theorem tm_abs (k : Int) : (k.tmod 10).natAbs = k.natAbs % 10 := by rw [Int.natAbs_tmod]; rfl
theorem ch_neg {k : Int} (h : k.tmod 10 < 0) : UInt8.ofNat (IntKind.u8.wrap (IntKind.i64.wrap (48 + IntKind.i64.wrap (-k.tmod 10)))).toNat = UInt8.ofNat (48 + k.natAbs % 10) := by
  have := tm_abs k
  revert h this
  generalize k.tmod 10 = r
  intro h this
  rw [wrap64 (x := -r) (by omega) (by omega)]
  exact u8_ch (by omega) (by omega)
theorem ch_pos {k : Int} (h : ¬ k.tmod 10 < 0) : UInt8.ofNat (IntKind.u8.wrap (IntKind.i64.wrap (48 + k.tmod 10))).toNat = UInt8.ofNat (48 + k.natAbs % 10) := by
  have := tm_abs k
  revert h this
  generalize k.tmod 10 = r
  intro h this
  exact u8_ch (by omega) (by omega)
theorem td_wrap {k : Int} (h0 : -9223372036854775808 ≤ k) (h1 : k ≤ 9223372036854775807) : IntKind.i64.wrap (k.tdiv 10) = k.tdiv 10 := by
  have := td_abs k
  revert this
  generalize k.tdiv 10 = r
  intro this
  exact wrap64 (by omega) (by omega)
theorem pow_step {a l : Nat} (hl : l ≤ 20) (ha : a ≠ 0) (h : a < 10 ^ (20 - l)) : l ≤ 19 ∧ a / 10 < 10 ^ (20 - (l + 1)) := by
  have hl' : l ≠ 20 := by rintro rfl; simp at h; exact ha h
  have hp : (10 : Nat) ^ (20 - l) = 10 ^ (20 - (l + 1)) * 10 := by rw [← Nat.pow_succ]; congr 1; omega
  rw [hp] at h
  exact ⟨by omega, by omega⟩
theorem Decimal_eq (n : Int) (hn : inR n = true) (κ : List UInt8 → Option ρ) : f_r01_Decimal n κ = κ (decI n) := by
  have hn' := hn
  simp only [inR, Bool.and_eq_true, decide_eq_true_eq] at hn'
  rw [decI_of hn]
  have hm : n.natAbs < 10 ^ (20 - 0) := Nat.lt_of_le_of_lt (m := 9223372036854775808) (by omega) (by decide)
  simp only [f_r01_Decimal, F_r01_Decimal, mkF]
  refine (iterC_is (fun v : List UInt8 × Int => v.1.length ≤ 20 ∧ v.2.natAbs < 10 ^ (20 - v.1.length) ∧ -9223372036854775808 ≤ v.2 ∧ v.2 ≤ 9223372036854775807) (fun v => κ (if n = 0 then [48] else if n < 0 then 45 :: (dd v.2.natAbs ++ v.1) else dd v.2.natAbs ++ v.1)) (fun v => v.2.natAbs) (fun v k hI hk => ?_) (v := ([], n)) ⟨by simp, hm, hn'.1, hn'.2⟩).trans (by simp only [List.append_nil])
  clear hm
  obtain ⟨s, k0⟩ := v
  obtain ⟨h1, h2, h3, h4⟩ := hI
  simp only at h1 h2 h3 h4 hk ⊢
  by_cases hz : k0 = 0
  · subst hz
    rw [if_pos rfl]
    simp only [Int.natAbs_zero, dd, if_true, List.nil_append]
    by_cases h0 : n = 0
    · rw [if_pos h0, if_pos h0]
    · rw [if_neg h0, if_neg h0]
      by_cases hl : n < 0
      · rw [if_pos hl, if_pos hl, if_pos (by clear h2; omega)]
      · rw [if_neg hl, if_neg hl]
  · rw [if_neg hz]
    obtain ⟨g1, g2⟩ := pow_step h1 (by omega) h2
    rw [← td_abs] at g2
    have hdd := dd_step (u := k0.natAbs) (by omega)
    have hb : -9223372036854775808 ≤ k0.tdiv 10 ∧ k0.tdiv 10 ≤ 9223372036854775807 ∧ (k0.tdiv 10).natAbs < k0.natAbs := by
      have := td_abs k0
      clear g2 h2
      revert this
      generalize k0.tdiv 10 = r
      intro this
      omega
    have go : ∀ c : UInt8, c = UInt8.ofNat (48 + k0.natAbs % 10) → k (c :: s, IntKind.i64.wrap (k0.tdiv 10)) = κ (if n = 0 then [48] else if n < 0 then 45 :: (dd k0.natAbs ++ s) else dd k0.natAbs ++ s) := by
      rintro c rfl
      rw [td_wrap h3 h4, hk _ ⟨by simpa using g1, g2, hb.1, hb.2.1⟩ hb.2.2]
      simp only
      rw [td_abs, hdd]
      simp only [List.append_assoc, List.singleton_append]
    have hl : 1 + s.length ≤ 9223372036854775807 := by clear h2 g2 hb; omega
    by_cases hneg : k0.tmod 10 < 0
    · rw [if_pos hneg, if_pos hl]
      exact go _ (ch_neg hneg)
    · rw [if_neg hneg, if_pos hl]
      exact go _ (ch_pos hneg)
theorem within_eq (n : Int) (κ : Bool → Option ρ) : f_r01_within n κ = κ (Go.Proofs.Tryz.inB n) := by
  simp only [f_r01_within, F_r01_within, mkF, Go.Proofs.Tryz.inB]
  by_cases h : -1048576 ≤ n
  · rw [if_pos h]; simp [h]
  · rw [if_neg h]; simp [h]
end Go.Trc
namespace Go.Trc
open Go Go.Am Go.Tr7
open Go.Lib (decDigits itoa indexByte countByte)
set_option linter.unusedSimpArgs false
set_option linter.unusedVariables false
variable {ρ : Type}
def nst (p : Nat × Nat) (x : UInt8) : Nat × Nat := if 48 ≤ x.toNat ∧ x.toNat ≤ 57 ∧ p.2 < 8 then (p.1 * 10 + (x.toNat - 48), p.2 + 1) else p
theorem nst_bound (l : List UInt8) : (l.foldl nst (0, 0)).1 < 10 ^ (l.foldl nst (0, 0)).2 ∧ (l.foldl nst (0, 0)).2 ≤ 8 := by
  refine snoc_ind (P := fun l => (l.foldl nst (0, 0)).1 < 10 ^ (l.foldl nst (0, 0)).2 ∧ (l.foldl nst (0, 0)).2 ≤ 8) (by simp) (fun l x ih => ?_) l
  rw [List.foldl_append, List.foldl_cons, List.foldl_nil]
  revert ih
  generalize l.foldl nst (0, 0) = p
  rintro ⟨h1, h2⟩
  unfold nst
  split
  · rename_i h
    simp only
    rw [Nat.pow_succ]
    omega
  · exact ⟨h1, h2⟩
theorem nst_dd : ∀ (k u : Nat), k ≤ 7 → u < 10 ^ (k + 1) → ∃ d, d ≤ k + 1 ∧ (decDigits u).foldl nst (0, 0) = (u, d)
  | 0, u, _, h => by
    rw [dd_small (by simpa using h)]
    refine ⟨1, by omega, ?_⟩
    have h' : u < 10 := by simpa using h
    rw [List.foldl_cons, List.foldl_nil, nst, dig h', if_pos (by omega)]
    simp
  | k + 1, u, hk, h => by
    by_cases hu : u < 10
    · obtain ⟨d, h1, h2⟩ := nst_dd 0 u (by omega) (by simpa using hu)
      exact ⟨d, by omega, h2⟩
    · rw [Nat.pow_succ] at h
      obtain ⟨d, h1, h2⟩ := nst_dd k (u / 10) (by omega) (by omega)
      refine ⟨d + 1, by omega, ?_⟩
      rw [dd_big hu, List.foldl_append, h2, List.foldl_cons, List.foldl_nil, nst, dig (by omega), if_pos (by simp only; omega)]
      simp only [Prod.mk.injEq, and_true]
      omega
def refN (s : List UInt8) : Int := if s[0]? = some 45 then -((s.foldl nst (0, 0)).1 : Int) else ((s.foldl nst (0, 0)).1 : Int)
theorem refN_dec {v : Int} (h : Go.Proofs.Tryz.inB v = true) : refN (decI v) = v ∧ ((decI v).foldl nst (0, 0)).2 ≤ 7 := by
  have h' := of_decide_eq_true h
  unfold refN
  rw [decI_eq (inB_inR h)]
  unfold itoa
  have hp : (10 : Nat) ^ (6 + 1) = 10000000 := by decide
  obtain ⟨d, h1, h2⟩ := nst_dd 6 v.natAbs (by omega) (by rw [hp]; omega)
  by_cases hn : v < 0
  · rw [if_pos hn]
    have e : (45 :: decDigits v.natAbs).foldl nst (0, 0) = (v.natAbs, d) := by
      rw [List.foldl_cons, show nst (0, 0) 45 = (0, 0) from rfl, h2]
    rw [e]
    simp only [List.getElem?_cons_zero, if_true]
    omega
  · rw [if_neg hn, show v.toNat = v.natAbs by omega, h2]
    have hx : (decDigits v.natAbs)[0]? ≠ some 45 := by
      intro hx
      have := dd_mem v.natAbs 45 (List.mem_of_getElem? hx)
      simp at this
    rw [if_neg hx]
    simp only
    omega
theorem Number_eq (s : List UInt8) (hs : s.length ≤ 1073741824) (κ : Int → Bool → Option ρ) : f_r01_Number s κ = κ (numF s).1 (numF s).2 := by
  have fin : (if 7 < (((s.foldl nst (0, 0)).2 : Nat) : Int) then κ 0 false else f_r01_within (refN s) fun y0 => if y0 = false then κ 0 false else f_r01_Decimal (refN s) fun y1 => if y1 = s then κ (refN s) true else κ 0 false) = κ (numF s).1 (numF s).2 := by
    rw [within_eq]
    rcases numF_cases s with ⟨v, h1, h2, h3⟩ | h1
    · have h4 := refN_dec h3
      rw [h2] at h4
      rw [h1, if_neg (by omega), h4.1, h3, if_neg (by simp), Decimal_eq _ (inB_inR h3), if_pos h2]
    · rw [h1]
      split
      · rfl
      · split
        · rfl
        · rename_i hb
          have hb : Go.Proofs.Tryz.inB (refN s) = true := by simpa using hb
          rw [Decimal_eq _ (inB_inR hb)]
          split
          · rename_i hd
            have := numF_dec (inB_inR hb)
            rw [hd, h1, if_pos hb] at this
            simp at this
          · rfl
  rw [← fin]
  clear fin
  simp only [f_r01_Number, F_r01_Number, mkF]
  refine iterC_runE s.length (fun i => ((((s.take i).foldl nst (0, 0)).1 : Int), (((s.take i).foldl nst (0, 0)).2 : Int), (i : Int))) (by simp) (fun i k hi => ?_) (fun k => ?_)
  · simp only
    have hb := nst_bound (s.take i)
    rw [foldl_step hi]
    revert hb
    generalize (s.take i).foldl nst (0, 0) = p
    rintro ⟨hb1, hb2⟩
    have hb3 : p.1 < 10 ^ 8 := Nat.lt_of_lt_of_le hb1 (Nat.pow_le_pow_right (by omega) hb2)
    have e8 : (10 : Nat) ^ 8 = 100000000 := by decide
    rw [e8] at hb3
    clear hb1 e8
    rw [if_pos (by omega), if_pos (by omega), Int.toNat_natCast, List.getElem?_eq_getElem hi, Option.bind_some, wrapS (k := i) (by omega)]
    generalize s[i] = x
    have hx := x.toNat_lt
    unfold nst
    by_cases h1 : 48 ≤ x.toNat
    · rw [if_pos (by omega), if_pos (by omega), Option.bind_some]
      by_cases h2 : x.toNat ≤ 57
      · rw [if_pos (by omega)]
        by_cases h3 : p.2 < 8
        · rw [if_pos (by omega), if_pos (by omega), if_pos ⟨h1, h2, h3⟩, Option.bind_some, wrapS (by omega), u8_mod, show ((x.toNat : Int) - 48) % 256 = ((x.toNat - 48 : Nat) : Int) by omega, wrap64 (x := (p.1 : Int) * 10) (by omega) (by omega), wrap64 (x := ((x.toNat - 48 : Nat) : Int)) (by omega) (by omega), wrap64 (by omega) (by omega)]
          simp only
          congr 1
        · rw [if_neg (by omega), if_neg (by omega)]
      · rw [if_neg (by omega), if_neg (by omega)]
    · rw [if_neg (by omega), if_neg (by omega)]
  · simp only
    rw [if_neg (by omega), List.take_length]
    have hb := nst_bound s
    unfold refN
    revert hb
    generalize s.foldl nst (0, 0) = p
    rintro ⟨hb1, hb2⟩
    have hb3 : p.1 < 10 ^ 8 := Nat.lt_of_lt_of_le hb1 (Nat.pow_le_pow_right (by omega) hb2)
    have e8 : (10 : Nat) ^ 8 = 100000000 := by decide
    rw [e8] at hb3
    clear hb1 e8
    cases s with
    | nil => simp
    | cons x r =>
      simp only [List.getElem?_cons_zero, Option.bind_some, Option.some.injEq, List.length_cons, Nat.zero_lt_succ, if_true]
      by_cases hx : x = 45
      · subst hx
        rw [if_pos (by decide), if_pos rfl, wrap64 (by omega) (by omega)]
      · rw [if_neg (by intro h; apply hx; apply UInt8.toNat_inj.1; show x.toNat = 45; omega), if_neg hx]
def cutB (c : UInt8) : List UInt8 → List UInt8 × List UInt8 × Bool
  | [] => ([], [], false)
  | x :: r => if x = c then ([], r, true) else (x :: (cutB c r).1, (cutB c r).2.1, (cutB c r).2.2)
theorem cutB_no {c : UInt8} : ∀ {s : List UInt8}, c ∉ s → cutB c s = (s, [], false)
  | [], _ => rfl
  | x :: r, h => by
    simp only [List.mem_cons, not_or] at h
    rw [cutB, if_neg (fun e => h.1 e.symm), cutB_no h.2]
theorem cutB_at {c : UInt8} {b : List UInt8} : ∀ {a : List UInt8}, c ∉ a → cutB c (a ++ c :: b) = (a, b, true)
  | [], _ => by rw [List.nil_append, cutB, if_pos rfl]
  | x :: r, h => by
    simp only [List.mem_cons, not_or] at h
    rw [List.cons_append, cutB, if_neg (fun e => h.1 e.symm), cutB_at h.2]
theorem index_no {c : UInt8} : ∀ {s : List UInt8}, c ∉ s → indexByte s c = -1
  | [], _ => rfl
  | x :: r, h => by
    simp only [List.mem_cons, not_or] at h
    rw [indexByte, index_no h.2, if_neg (by simpa using fun e => h.1 e.symm)]
    rfl
theorem index_at {c : UInt8} {b : List UInt8} : ∀ {a : List UInt8}, c ∉ a → indexByte (a ++ c :: b) c = a.length
  | [], _ => by rw [List.nil_append, indexByte, if_pos (by simp)]; rfl
  | x :: r, h => by
    simp only [List.mem_cons, not_or] at h
    rw [List.cons_append, indexByte, index_at h.2, if_neg (by simpa using fun e => h.1 e.symm), if_neg (by simp), List.length_cons]
    omega
theorem cut_cases (c : UInt8) (s : List UInt8) : c ∉ s ∨ ∃ a b, s = a ++ c :: b ∧ c ∉ a := by
  by_cases h : c ∈ s
  · obtain ⟨a, b, h1, h2⟩ := List.append_of_mem h |>.imp fun a h => h.imp fun b h => (⟨h, trivial⟩ : _ ∧ True)
    exact .inr (by
      clear h1
      induction s with
      | nil => cases h
      | cons x r ih =>
        by_cases hx : x = c
        · exact ⟨[], r, by rw [hx]; rfl, by simp⟩
        · have : c ∈ r := by
            rcases List.mem_cons.1 h with h | h
            · exact absurd h.symm hx
            · exact h
          obtain ⟨a, b, e, hn⟩ := ih this
          exact ⟨x :: a, b, by rw [e]; rfl, by simp [hn]; exact fun e => hx e.symm⟩)
  · exact .inl h
theorem cutB_len (c : UInt8) (s : List UInt8) : (cutB c s).1.length + (cutB c s).2.1.length ≤ s.length := by
  induction s with
  | nil => simp [cutB]
  | cons x r ih =>
    rw [cutB]
    split
    · simp
    · simp only [List.length_cons]; omega
theorem take_at {a b : List UInt8} {c : UInt8} : (a ++ c :: b).take a.length = a := by simp
theorem drop_at {a b : List UInt8} {c : UInt8} : (a ++ c :: b).drop (a.length + 1) = b := by
  rw [show a.length + 1 = a.length + 1 from rfl, ← List.drop_drop, List.drop_left]; rfl
theorem Cut10_eq (s : List UInt8) (hs : s.length ≤ 1073741824) (κ : List UInt8 → List UInt8 → Bool → Option ρ) : f_strings_Cut_10 s κ = κ (cutB 10 s).1 (cutB 10 s).2.1 (cutB 10 s).2.2 := by
  simp only [f_strings_Cut_10, F_strings_Cut_10, mkF]
  by_cases h1 : [10] = s
  · subst h1
    rw [if_pos rfl, if_pos (by simp)]
    simp [cutB]
  · rw [if_neg h1]
    rcases cut_cases 10 s with h | ⟨a, b, rfl, h⟩
    · rw [index_no h, if_neg (by omega), cutB_no h]
    · simp only [List.length_append, List.length_cons] at hs
      have hl : (a ++ 10 :: b).length = a.length + (b.length + 1) := by simp
      rw [index_at h, cutB_at h, hl, if_pos (by omega), if_pos (by omega), if_pos (by omega), wrapS (by omega), if_pos (by omega), if_pos (by omega), Int.toNat_natCast, Int.toNat_natCast, take_at, drop_at, show a.length + (b.length + 1) - (a.length + 1) = b.length by omega, List.take_length]
theorem Cut47_eq (s : List UInt8) (hs : s.length ≤ 1073741824) (κ : List UInt8 → List UInt8 → Bool → Option ρ) : f_strings_Cut_47 s κ = κ (cutB 47 s).1 (cutB 47 s).2.1 (cutB 47 s).2.2 := by
  simp only [f_strings_Cut_47, F_strings_Cut_47, mkF]
  by_cases h1 : [47] = s
  · subst h1
    rw [if_pos rfl, if_pos (by simp)]
    simp [cutB]
  · rw [if_neg h1]
    rcases cut_cases 47 s with h | ⟨a, b, rfl, h⟩
    · rw [index_no h, if_neg (by omega), cutB_no h]
    · simp only [List.length_append, List.length_cons] at hs
      have hl : (a ++ 47 :: b).length = a.length + (b.length + 1) := by simp
      rw [index_at h, cutB_at h, hl, if_pos (by omega), if_pos (by omega), if_pos (by omega), wrapS (by omega), if_pos (by omega), if_pos (by omega), Int.toNat_natCast, Int.toNat_natCast, take_at, drop_at, show a.length + (b.length + 1) - (a.length + 1) = b.length by omega, List.take_length]
theorem cut_eq (s : List UInt8) (c : UInt8) (n : Int) (hn : n = (c.toNat : Int)) (hs : s.length ≤ 1073741824) (κ : List UInt8 → List UInt8 → Bool → Option ρ) : f_r45_cut s n κ = κ (cutB c s).1 (cutB c s).2.1 (cutB c s).2.2 := by
  subst hn
  simp only [f_r45_cut, F_r45_cut, mkF]
  refine (iterC_is (fun v : Int => ∃ i : Nat, v = i ∧ i ≤ s.length ∧ c ∉ s.take i) (fun _ => κ (cutB c s).1 (cutB c s).2.1 (cutB c s).2.2) (fun v => (s.length - v).toNat) (fun v k hI hk => ?_) (v := 0) ⟨0, rfl, by omega, by simp⟩)
  obtain ⟨i, rfl, h1, h2⟩ := hI
  by_cases hi : i < s.length
  · rw [if_pos (by omega), if_pos (by omega), Int.toNat_natCast, List.getElem?_eq_getElem hi, Option.bind_some, wrapS (by omega)]
    by_cases hx : s[i] = c
    · rw [if_pos (by rw [hx]), if_pos (by omega), if_pos (by omega), if_pos (by omega), if_pos (by omega), Int.toNat_natCast]
      have e : s = s.take i ++ c :: s.drop (i + 1) := by rw [← hx, List.getElem_cons_drop hi, List.take_append_drop]
      have e2 := cutB_at (b := s.drop (i + 1)) h2
      rw [← e] at e2
      rw [e2, List.take_of_length_le (l := s.drop (i + 1)) (by rw [List.length_drop]; omega)]
    · rw [if_neg (by intro h; apply hx; apply UInt8.toNat_inj.1; omega)]
      refine hk _ ⟨i + 1, rfl, by omega, ?_⟩ (by omega)
      rw [take_step hi]
      simp only [List.mem_append, List.mem_singleton, not_or]
      exact ⟨h2, fun e => hx e.symm⟩
  · rw [if_neg (by omega)]
    have : i = s.length := by omega
    subst this
    rw [List.take_length] at h2
    rw [cutB_no h2]
end Go.Trc
namespace Go.Trc
open Go Go.Am Go.Tr7
open Go.Lib (indexByte countByte)
set_option linter.unusedSimpArgs false
set_option linter.unusedVariables false
variable {ρ : Type}
def splitB (c : UInt8) : List UInt8 → List (List UInt8)
  | [] => [[]]
  | x :: r => if x = c then [] :: splitB c r else match splitB c r with
    | p :: q => (x :: p) :: q
    | [] => [[x]]
theorem split_no {c : UInt8} : ∀ {s : List UInt8}, c ∉ s → splitB c s = [s]
  | [], _ => rfl
  | x :: r, h => by
    simp only [List.mem_cons, not_or] at h
    rw [splitB, if_neg (fun e => h.1 e.symm), split_no h.2]
theorem split_at {c : UInt8} {b : List UInt8} : ∀ {a : List UInt8}, c ∉ a → splitB c (a ++ c :: b) = a :: splitB c b
  | [], _ => by rw [List.nil_append, splitB, if_pos rfl]
  | x :: r, h => by
    simp only [List.mem_cons, not_or] at h
    rw [List.cons_append, splitB, if_neg (fun e => h.1 e.symm), split_at h.2]
theorem split_ind {c : UInt8} {Q : List UInt8 → Prop} (h0 : ∀ s, c ∉ s → Q s) (h1 : ∀ a b, c ∉ a → Q b → Q (a ++ c :: b)) (s : List UInt8) : Q s := by
  have : ∀ n (s : List UInt8), s.length < n → Q s := by
    intro n
    induction n with
    | zero => intro s h; omega
    | succ n ih =>
      intro s hs
      rcases cut_cases c s with h | ⟨a, b, rfl, h⟩
      · exact h0 s h
      · exact h1 a b h (ih b (by simp only [List.length_append, List.length_cons] at hs; omega))
  exact this (s.length + 1) s (by omega)
theorem split_len (c : UInt8) (s : List UInt8) : (splitB c s).length = s.count c + 1 := by
  refine split_ind (c := c) (Q := fun s => (splitB c s).length = s.count c + 1) (fun s h => ?_) (fun a b h ih => ?_) s
  · rw [split_no h, List.count_eq_zero_of_not_mem h]; rfl
  · rw [split_at h, List.length_cons, ih, List.count_append, List.count_eq_zero_of_not_mem h, List.count_cons_self]; omega
theorem split_mem (c : UInt8) (s : List UInt8) : ∀ y ∈ splitB c s, y.length ≤ s.length := by
  refine split_ind (c := c) (Q := fun s => ∀ y ∈ splitB c s, y.length ≤ s.length) (fun s h => ?_) (fun a b h ih => ?_) s
  · rw [split_no h]; intro y hy; rw [List.mem_singleton.1 hy]; exact Nat.le_refl _
  · rw [split_at h]
    intro y hy
    simp only [List.length_append, List.length_cons]
    rcases List.mem_cons.1 hy with rfl | hy
    · omega
    · have := ih y hy; omega
theorem split_cons (c : UInt8) (s : List UInt8) : ∃ f r, splitB c s = f :: r := by
  have := split_len c s
  cases h : splitB c s with
  | nil => rw [h] at this; simp at this
  | cons f r => exact ⟨f, r, rfl⟩
theorem set_rep {α : Type} {d : List α} {m : Nat} {z y : α} : (d ++ List.replicate (m + 1) z).set d.length y = (d ++ [y]) ++ List.replicate m z := by
  rw [List.set_append_right _ _ (Nat.le_refl _), Nat.sub_self, List.replicate_succ, List.set_cons_zero, List.append_assoc]; rfl
theorem get_rep {α : Type} {d : List α} {m : Nat} {z : α} : (d ++ List.replicate (m + 1) z)[d.length]? = some z := by
  rw [List.getElem?_append_right (Nat.le_refl _), Nat.sub_self, List.replicate_succ]; rfl
theorem Split_eq (s : List UInt8) (hs : s.length ≤ 1073741824) (g : List (List UInt8) → Option ρ) : f_strings_Split_32 s g = g (splitB 32 s) := by
  simp only [f_strings_Split_32, F_strings_Split_32, mkF]
  have hc : s.count 32 ≤ s.length := List.count_le_length
  have hn : ∃ n : Nat, n = s.count 32 := ⟨_, rfl⟩
  obtain ⟨n, hn⟩ := hn
  have hw : (if IntKind.i64.wrap ((s.length : Int) + 1) < IntKind.i64.wrap ((countByte s 32 : Int) + 1) then IntKind.i64.wrap ((s.length : Int) + 1) else IntKind.i64.wrap ((countByte s 32 : Int) + 1)) = ((n + 1 : Nat) : Int) := by
    unfold countByte
    rw [← hn] at hc ⊢
    rw [wrapS (by omega), wrapS (by omega), if_neg (by omega)]
  simp only [hw]
  have hmax : max ((n + 1 : Nat) : Int) 0 = ((n + 1 : Nat) : Int) := by omega
  have hp : IntKind.i64.wrap (((n + 1 : Nat) : Int) - 1) = (n : Int) := by rw [wrapP (by omega) (by omega)]; rfl
  simp only [hmax, hp]
  rw [if_pos (by omega), Int.toNat_natCast]
  refine (iterC_is (fun v : List UInt8 × Int × List (List UInt8) => ∃ (d : List (List UInt8)) (m : Nat), v.2.1 = (d.length : Int) ∧ v.2.2 = d ++ List.replicate (m + 1) [] ∧ d.length + m = n ∧ v.1.count 32 = m ∧ d ++ splitB 32 v.1 = splitB 32 s ∧ v.1.length ≤ s.length) (fun _ => g (splitB 32 s)) (fun v => v.1.length) (fun v k hI hk => ?_) (v := (s, 0, List.replicate (n + 1) [])) ⟨[], n, rfl, rfl, by simp, hn.symm, rfl, Nat.le_refl _⟩)
  obtain ⟨s', i, a⟩ := v
  obtain ⟨d, m, h1, h2, h3, h4, h5, h6⟩ := hI
  simp only at h1 h2 h4 h5 h6 hk ⊢
  subst h1
  subst h2
  by_cases hm : m = 0
  · subst hm
    have hno : (32 : UInt8) ∉ s' := by
      intro hx
      have := List.count_pos_iff.2 hx
      omega
    have hl : (d ++ List.replicate (0 + 1) ([] : List UInt8)).length = d.length + 1 := by simp
    rw [if_neg (by omega), if_pos (by omega), Int.toNat_natCast, get_rep, Option.bind_some, wrapS (by omega), if_pos (by omega), if_pos (by omega), Int.toNat_natCast, hl, if_pos rfl, set_rep, List.replicate_zero, List.append_nil, ← h5, split_no hno]
  · obtain ⟨m', rfl⟩ : ∃ m', m = m' + 1 := ⟨m - 1, by omega⟩
    rw [if_pos (by omega)]
    rcases cut_cases 32 s' with hx | ⟨a, b, rfl, hx⟩
    · rw [List.count_eq_zero_of_not_mem hx] at h4; omega
    · rw [List.count_append, List.count_eq_zero_of_not_mem hx, List.count_cons_self] at h4
      rw [split_at hx] at h5
      simp only [List.length_append, List.length_cons] at h6
      have go : k (b, ((d.length + 1 : Nat) : Int), (d ++ [a]) ++ List.replicate (m' + 1) []) = g (splitB 32 s) :=
        hk _ ⟨d ++ [a], m', by simp, rfl, by simp; omega, by simp only; omega, by rw [← h5]; simp, by simp only; omega⟩ (by simp only [List.length_append, List.length_cons]; omega)
      by_cases h7 : [32] = a ++ 32 :: b
      · have ha : a = [] ∧ b = [] := by
          cases a with
          | nil => exact ⟨rfl, by simpa using h7.symm⟩
          | cons x r => simp at h7
        obtain ⟨rfl, rfl⟩ := ha
        rw [if_pos h7, if_pos (by omega), Int.toNat_natCast, get_rep, Option.bind_some, if_pos (by simp), wrapS (by omega), set_rep]
        exact go
      · have hl : (a ++ 32 :: b).length = a.length + (b.length + 1) := by simp
        rw [if_neg h7, index_at hx, if_neg (by omega), wrap64 (x := (a.length : Int)) (by omega) (by omega), hl, if_pos (by omega), if_pos (by omega), if_pos (by omega), Int.toNat_natCast, get_rep, Option.bind_some, wrapS (k := a.length) (by omega), if_pos (by omega), if_pos (by omega), Int.toNat_natCast, Int.toNat_natCast, drop_at, take_at, wrapS (by omega), set_rep, show a.length + (b.length + 1) - (a.length + 1) = b.length by omega, List.take_length]
        exact go
def fieldP (y : List UInt8) : Option Gapi_Step := if (cutB 47 y).2.2 = true ∧ (numF (cutB 47 y).1).2 = true ∧ (numF (cutB 47 y).2.1).2 = true then some ⟨(numF (cutB 47 y).1).1, (numF (cutB 47 y).2.1).1⟩ else none
def pf : List (List UInt8) → Option (List Gapi_Step)
  | [] => some []
  | y :: r => (fieldP y).bind fun z => (pf r).map (z :: ·)
def stepsP (w s : List UInt8) : Option (List Gapi_Step) := match splitB 32 s with
  | f :: r => if f = w then pf r else none
  | [] => none
def ans (o : Option (List Gapi_Step)) (g : List Gapi_Step → Bool → Option ρ) : Option ρ := match o with
  | some l => g l true
  | none => g [] false
theorem ans_cons {y : List UInt8} {r : List (List UInt8)} {out : List Gapi_Step} {g : List Gapi_Step → Bool → Option ρ} : ans ((pf (y :: r)).map (out ++ ·)) g = match fieldP y with
    | some z => ans ((pf r).map ((out ++ [z]) ++ ·)) g
    | none => g [] false := by
  rw [pf]
  cases fieldP y with
  | none => rfl
  | some z =>
    simp only [Option.bind_some]
    cases pf r with
    | none => rfl
    | some l => simp [ans]
theorem field_if {y : List UInt8} {x : Option ρ} {h : Gapi_Step → Option ρ} : (if (cutB 47 y).2.2 = false then x else if (numF (cutB 47 y).1).2 = false then x else if (numF (cutB 47 y).2.1).2 = false then x else h ⟨(numF (cutB 47 y).1).1, (numF (cutB 47 y).2.1).1⟩) = match fieldP y with
    | some z => h z
    | none => x := by
  unfold fieldP
  cases (cutB 47 y).2.2 <;> cases (numF (cutB 47 y).1).2 <;> cases (numF (cutB 47 y).2.1).2 <;> simp
theorem steps_eq (w s : List UInt8) (hs : s.length ≤ 1000000) (g : List Gapi_Step → Bool → Option ρ) : f_trace_steps w s g = ans (stepsP w s) g := by
  simp only [f_trace_steps, F_trace_steps, mkF]
  rw [Split_eq s (by omega)]
  have hl := split_len 32 s
  have hc : s.count 32 ≤ s.length := List.count_le_length
  have hm := split_mem 32 s
  unfold stepsP
  obtain ⟨f, r, e⟩ := split_cons 32 s
  rw [e] at hl hm ⊢
  simp only [List.getElem?_cons_zero, Option.bind_some, List.length_cons, List.tail_cons, Nat.add_sub_cancel, List.take_length] at hl ⊢
  by_cases hf : f = w
  · rw [if_pos hf, if_pos hf, if_pos (by omega)]
    refine (iterC_is (fun v : Int × List Gapi_Step => ∃ j : Nat, v.1 = j ∧ j ≤ r.length ∧ v.2.length ≤ j) (fun v => ans ((pf (r.drop v.1.toNat)).map (v.2 ++ ·)) g) (fun v => (r.length - v.1).toNat) (fun v k hI hk => ?_) (v := (0, [])) ⟨0, rfl, by omega, by simp⟩).trans ?_
    · obtain ⟨i, out⟩ := v
      obtain ⟨j, h1, h2, h3⟩ := hI
      simp only at h1 h2 h3 hk ⊢
      subst h1
      by_cases hj : j < r.length
      · rw [if_pos (by omega), if_pos (by omega), Int.toNat_natCast, List.getElem?_eq_getElem hj, Option.bind_some]
        have hy := hm r[j] (by simp)
        rw [Cut47_eq _ (by omega)]
        have hcl := cutB_len 47 r[j]
        have ho : (out.length + 1) * 16 ≤ 140737488355328 ∧ out.length ≤ 9223372036854775806 := by omega
        rw [if_pos (by omega), if_pos (by omega), if_pos ho, ← List.getElem_cons_drop hj, ans_cons]
        rw [field_if (h := fun z => k (IntKind.i64.wrap ((j : Int) + 1), out ++ [z]))]
        cases fieldP r[j] with
        | none => rfl
        | some z =>
          simp only
          rw [wrapS (by omega), hk _ ⟨j + 1, rfl, by omega, by simp; omega⟩ (by simp only; omega)]
          simp only [Int.toNat_natCast]
      · rw [if_neg (by omega), Int.toNat_natCast, List.drop_of_length_le (by omega)]
        simp [pf, ans]
    · show ans ((pf r).map ([] ++ ·)) g = ans (pf r) g
      cases pf r <;> rfl
  · rw [if_neg hf, if_neg hf]; rfl
theorem rsteps_eq (s w : List UInt8) (hs : s.length ≤ 1000000) (g : List Gapi_Step → Bool → Option ρ) : f_r45_steps s w g = ans (stepsP w s) g := by
  simp only [f_r45_steps, F_r45_steps, mkF]
  rw [cut_eq s 32 32 rfl (by omega)]
  unfold stepsP
  have key : ∀ (rest : List UInt8) (more : Bool), rest.length ≤ s.length → _ = ans (if more = true then pf (splitB 32 rest) else some []) g := fun rest more hr =>
    ((iterC_is (Φ := fun (v : List UInt8 × Bool × List Gapi_Step) k => if v.2.1 = true then
          f_r45_cut v.1 32 fun y0_0 y0_1 y0_2 =>
            f_r45_cut y0_0 47 fun y0_0 y0_1_1 y0_2_1 =>
              f_r01_Number y0_0 fun y0_0 y0_1_2 =>
                f_r01_Number y0_1_1 fun y0_0_1 y0_1_3 =>
                  if y0_2_1 = false then g [] false
                  else
                    if y0_1_2 = false then g [] false
                    else
                      if y0_1_3 = false then g [] false
                      else
                        if (v.2.2.length + 1) * 16 ≤ 140737488355328 ∧ v.2.2.length ≤ 9223372036854775806 then
                          k (y0_1, y0_2, v.2.2 ++ [{ Cmd := y0_0, Way := y0_0_1 }])
                        else none
        else g v.2.2 true)
      (fun v : List UInt8 × Bool × List Gapi_Step => v.1.length + v.2.2.length ≤ s.length + (if v.2.1 = true then 0 else 1)) (fun v => ans (if v.2.1 = true then (pf (splitB 32 v.1)).map (v.2.2 ++ ·) else some v.2.2) g) (fun v => v.1.length + (if v.2.1 = true then 1 else 0)) (fun v k hI hk => by
        obtain ⟨t, m, out⟩ := v
        simp only at hI hk ⊢
        cases m with
        | false => rw [if_neg (by simp), if_neg (by simp)]; rfl
        | true =>
          simp only [if_true] at hI hk ⊢
          rw [cut_eq t 32 32 rfl (by omega)]
          have hc1 := cutB_len 32 t
          rw [cut_eq _ 47 47 rfl (by omega)]
          have hc2 := cutB_len 47 (cutB 32 t).1
          have ho : (out.length + 1) * 16 ≤ 140737488355328 ∧ out.length ≤ 9223372036854775806 := by omega
          rw [Number_eq _ (by omega), Number_eq _ (by omega), if_pos ho]
          rw [field_if (h := fun z => k ((cutB 32 t).2.1, (cutB 32 t).2.2, out ++ [z]))]
          rcases cut_cases 32 t with hx | ⟨a, b, rfl, hx⟩
          · rw [cutB_no hx, split_no hx, ans_cons]
            cases fieldP t with
            | none => rfl
            | some z =>
              simp only
              rw [hk _ (by simp; omega) (by simp)]
              simp [pf]
          · rw [cutB_at hx, split_at hx, ans_cons]
            simp only [List.length_append, List.length_cons] at hI
            cases fieldP a with
            | none => rfl
            | some z =>
              simp only
              rw [hk _ (by simp; omega) (by simp only [List.length_append, List.length_cons, if_true]; omega)]
              simp) (v := (rest, more, [])) (by simp; omega))).trans (by
        cases more with
        | false => rfl
        | true =>
          show ans ((pf (splitB 32 rest)).map ([] ++ ·)) g = ans (pf (splitB 32 rest)) g
          cases pf (splitB 32 rest) <;> rfl)
  have hc := cutB_len 32 s
  rcases cut_cases 32 s with hx | ⟨a, b, rfl, hx⟩
  · rw [cutB_no hx, split_no hx]
    simp only
    by_cases hf : s = w
    · rw [if_pos hf, if_pos hf]
      exact key [] false (by simp)
    · rw [if_neg hf, if_neg hf]; rfl
  · rw [cutB_at hx, split_at hx]
    simp only
    by_cases hf : a = w
    · rw [if_pos hf, if_pos hf]
      exact key b true (by simp; omega)
    · rw [if_neg hf, if_neg hf]; rfl
end Go.Trc
namespace Go.Trc
open Go Go.Am Go.Tr7
set_option linter.unusedSimpArgs false
set_option linter.unusedVariables false
variable {ρ : Type}
def wS : List UInt8 := [115, 116, 101, 109]
def wL : List UInt8 := [108, 111, 111, 112]
def parseP (s : List UInt8) : List Gapi_Step × List Gapi_Step × Int × Int :=
  if (20000 : Int) < s.length then ([], [], 0, 5) else
  if (cutB 10 s).2.2 = false then ([], [], 0, 4) else
  match stepsP wS (cutB 10 s).1 with
  | none => ([], [], 0, 3)
  | some a =>
    if (cutB 10 (cutB 10 s).2.1).2.2 = false then ([], [], 1, 4) else
    match stepsP wL (cutB 10 (cutB 10 s).2.1).1 with
    | none => ([], [], 1, 3)
    | some b => if (cutB 10 (cutB 10 s).2.1).2.1 = [] then (a, b, 0, 0) else ([], [], 2, 5)
def at4 (g : List Gapi_Step → List Gapi_Step → Int → Int → Option ρ) (x : List Gapi_Step × List Gapi_Step × Int × Int) : Option ρ := g x.1 x.2.1 x.2.2.1 x.2.2.2
theorem Parse_eq (s : List UInt8) (g : List Gapi_Step → List Gapi_Step → Int → Int → Option ρ) : f_trace_Parse s g = at4 g (parseP s) := by
  simp only [f_trace_Parse, F_trace_Parse, mkF]
  unfold parseP
  by_cases hs : (20000 : Int) < s.length
  · rw [if_pos hs, if_pos hs]; rfl
  · rw [if_neg hs, if_neg hs, Cut10_eq s (by omega)]
    have h1 := cutB_len 10 s
    by_cases h2 : (cutB 10 s).2.2 = false
    · rw [if_pos h2, if_pos h2]; rfl
    · rw [if_neg h2, if_neg h2, steps_eq _ _ (by omega)]
      show ans (stepsP wS (cutB 10 s).1) _ = _
      cases stepsP wS (cutB 10 s).1 with
      | none => rfl
      | some a =>
        simp only [ans]
        rw [if_neg (by simp), Cut10_eq _ (by omega)]
        have h3 := cutB_len 10 (cutB 10 s).2.1
        by_cases h4 : (cutB 10 (cutB 10 s).2.1).2.2 = false
        · rw [if_pos h4, if_pos h4]; rfl
        · rw [if_neg h4, if_neg h4, steps_eq _ _ (by omega)]
          show ans (stepsP wL (cutB 10 (cutB 10 s).2.1).1) _ = _
          cases stepsP wL (cutB 10 (cutB 10 s).2.1).1 with
          | none => rfl
          | some b =>
            simp only [ans]
            rw [if_neg (by simp)]
            by_cases h5 : (cutB 10 (cutB 10 s).2.1).2.1 = []
            · rw [if_pos h5, if_pos h5]; rfl
            · rw [if_neg h5, if_neg h5]; rfl
theorem rParse_eq (s : List UInt8) (g : List Gapi_Step → List Gapi_Step → Int → Int → Option ρ) : f_r45_Parse s g = at4 g (parseP s) := by
  simp only [f_r45_Parse, F_r45_Parse, mkF]
  unfold parseP
  by_cases hs : (20000 : Int) < s.length
  · rw [if_pos hs, if_pos hs]; rfl
  · rw [if_neg hs, if_neg hs, cut_eq s 10 10 rfl (by omega)]
    have h1 := cutB_len 10 s
    by_cases h2 : (cutB 10 s).2.2 = false
    · rw [if_pos h2, if_pos h2]; rfl
    · rw [if_neg h2, if_neg h2, rsteps_eq _ _ (by omega)]
      show ans (stepsP wS (cutB 10 s).1) _ = _
      cases stepsP wS (cutB 10 s).1 with
      | none => rfl
      | some a =>
        simp only [ans]
        rw [if_neg (by simp), cut_eq _ 10 10 rfl (by omega)]
        have h3 := cutB_len 10 (cutB 10 s).2.1
        by_cases h4 : (cutB 10 (cutB 10 s).2.1).2.2 = false
        · rw [if_pos h4, if_pos h4]; rfl
        · rw [if_neg h4, if_neg h4, rsteps_eq _ _ (by omega)]
          show ans (stepsP wL (cutB 10 (cutB 10 s).2.1).1) _ = _
          cases stepsP wL (cutB 10 (cutB 10 s).2.1).1 with
          | none => rfl
          | some b =>
            simp only [ans]
            rw [if_neg (by simp)]
            by_cases h5 : (cutB 10 (cutB 10 s).2.1).2.1 = []
            · rw [if_pos h5, if_pos h5]; rfl
            · rw [if_neg h5, if_neg h5]; rfl
theorem same_eq (a b : List Gapi_Step) (ha : a.length ≤ 1073741824) (g : Bool → Option ρ) : f_law45_steps a b g = g (decide (a = b)) := by
  simp only [f_law45_steps, F_law45_steps, mkF]
  by_cases hl : a.length = b.length
  · rw [if_pos (by omega)]
    refine (iterC_is (fun v : Int => ∃ i : Nat, v = i ∧ i ≤ a.length ∧ a.take i = b.take i) (fun _ => g (decide (a = b))) (fun v => (a.length - v).toNat) (fun v k hI hk => ?_) (v := 0) ⟨0, rfl, by omega, by simp⟩)
    obtain ⟨i, rfl, h1, h2⟩ := hI
    by_cases hi : i < a.length
    · have hi' : i < b.length := by omega
      rw [if_pos (by omega), if_pos (by omega), Int.toNat_natCast, List.getElem?_eq_getElem hi, Option.bind_some, if_pos (by omega), List.getElem?_eq_getElem hi', Option.bind_some]
      by_cases hx : a[i] = b[i]
      · rw [if_neg (by rw [hx]; simp), wrapS (by omega)]
        exact hk _ ⟨i + 1, rfl, by omega, by rw [take_step hi, take_step hi', h2, hx]⟩ (by omega)
      · have hne : a ≠ b := by intro e; subst e; exact hx rfl
        rw [if_pos, decide_eq_false hne]
        by_cases hc : a[i].Cmd = b[i].Cmd
        · refine .inr fun hw => hx ?_
          cases ha : a[i]; cases hb : b[i]
          rw [ha, hb] at hc hw
          simp only at hc hw
          rw [hc, hw]
        · exact .inl hc
    · rw [if_neg (by omega)]
      have : i = a.length := by omega
      subst this
      rw [List.take_length, List.take_of_length_le (by omega)] at h2
      rw [decide_eq_true h2]
  · rw [if_neg (by omega), decide_eq_false (by intro e; subst e; exact hl rfl)]
def pr (z : Gapi_Step) : Int × Int := (z.Cmd, z.Way)
def inS (z : Gapi_Step) : Bool := Go.Proofs.Tryz.inB z.Cmd && Go.Proofs.Tryz.inB z.Way
theorem cut_join {c : UInt8} {s : List UInt8} (h : (cutB c s).2.2 = true) : s = (cutB c s).1 ++ c :: (cutB c s).2.1 := by
  rcases cut_cases c s with hx | ⟨a, b, rfl, hx⟩
  · rw [cutB_no hx] at h; cases h
  · rw [cutB_at hx]
theorem field_some {y : List UInt8} {z : Gapi_Step} (h : fieldP y = some z) : y = decI z.Cmd ++ 47 :: decI z.Way ∧ inS z = true := by
  unfold fieldP at h
  split at h
  · rename_i hh
    obtain ⟨h1, h2, h3⟩ := hh
    simp only [Option.some.injEq] at h
    subst h
    rcases numF_cases (cutB 47 y).1 with ⟨v, e1, e2, e3⟩ | e
    · rcases numF_cases (cutB 47 y).2.1 with ⟨u, d1, d2, d3⟩ | d
      · rw [e1, d1]
        simp only [inS, e3, d3, e2, d2, Bool.and_true, and_true]
        exact cut_join h1
      · rw [d] at h3; cases h3
    · rw [e] at h2; cases h2
  · cases h
theorem pf_some : ∀ {r : List (List UInt8)} {l : List Gapi_Step}, pf r = some l → r = l.map (fun z => decI z.Cmd ++ 47 :: decI z.Way) ∧ ∀ z ∈ l, inS z = true
  | [], l, h => by simp only [pf, Option.some.injEq] at h; subst h; exact ⟨rfl, by simp⟩
  | y :: r, l, h => by
    simp only [pf, Option.bind_eq_some_iff, Option.map_eq_some_iff] at h
    obtain ⟨z, h1, l', h2, rfl⟩ := h
    obtain ⟨e1, e2⟩ := field_some h1
    obtain ⟨e3, e4⟩ := pf_some h2
    refine ⟨by rw [List.map_cons, ← e3, ← e1], fun q hq => ?_⟩
    rcases List.mem_cons.1 hq with rfl | hq
    · exact e2
    · exact e4 q hq
def joinB : List (List UInt8) → List UInt8
  | [] => []
  | f :: r => f ++ r.flatMap (fun y => 32 :: y)
theorem split_join (s : List UInt8) : joinB (splitB 32 s) = s := by
  refine split_ind (c := 32) (Q := fun s => joinB (splitB 32 s) = s) (fun s h => ?_) (fun a b h ih => ?_) s
  · rw [split_no h]; simp [joinB]
  · rw [split_at h]
    obtain ⟨f, r, e⟩ := split_cons 32 b
    rw [e] at ih ⊢
    simp only [joinB, List.flatMap_cons] at ih ⊢
    rw [← ih]; simp
theorem head_eq (w : List UInt8) (l : List Gapi_Step) : headF w (l.map pr) = joinB (w :: l.map (fun z => decI z.Cmd ++ 47 :: decI z.Way)) := by
  unfold headF joinB
  congr 1
  rw [List.flatMap_map, List.flatMap_map]
  rfl
theorem steps_some {w s : List UInt8} {l : List Gapi_Step} (h : stepsP w s = some l) : s = headF w (l.map pr) ∧ (∀ z ∈ l, inS z = true) ∧ l.length ≤ s.length := by
  unfold stepsP at h
  obtain ⟨f, r, e⟩ := split_cons 32 s
  have hj := split_join s
  have hn := split_len 32 s
  have hc : s.count 32 ≤ s.length := List.count_le_length
  rw [e] at h hj hn
  simp only at h
  split at h
  · rename_i hf
    obtain ⟨e1, e2⟩ := pf_some h
    refine ⟨by rw [head_eq, ← e1, ← hf, hj], e2, ?_⟩
    rw [e1] at hn
    simp only [List.length_cons, List.length_map] at hn
    omega
  · cases h
theorem inS_inR {l : List Gapi_Step} (h : ∀ z ∈ l, inS z = true) : (l.map pr).all (fun p => inR p.1 && inR p.2) = true := by
  rw [List.all_eq_true]
  intro p hp
  obtain ⟨z, hz, rfl⟩ := List.mem_map.1 hp
  have := h z hz
  simp only [inS, Bool.and_eq_true] at this
  simp only [pr, inB_inR this.1, inB_inR this.2, Bool.and_true]
theorem TraceParses_eq (s : List UInt8) (κ : Bool → Option ρ) : f_law45_TraceParses s κ = κ true := by
  simp only [f_law45_TraceParses, F_law45_TraceParses, mkF]
  by_cases hs : (2000 : Int) < s.length
  · rw [if_pos hs]
  · rw [if_neg hs, Parse_eq]
    simp only [at4]
    rw [rParse_eq]
    simp only [at4]
    have hb : (parseP s).1.length ≤ 2000 ∧ (parseP s).2.1.length ≤ 2000 ∧ ((parseP s).2.2.2 = 0 → ∃ a b, parseP s = (a, b, 0, 0) ∧ s = headF wS (a.map pr) ++ 10 :: (headF wL (b.map pr) ++ [10]) ∧ (∀ z ∈ a, inS z = true) ∧ (∀ z ∈ b, inS z = true)) := by
      unfold parseP
      rw [if_neg (by omega)]
      have h1 := cutB_len 10 s
      by_cases h2 : (cutB 10 s).2.2 = false
      · rw [if_pos h2]; simp
      · rw [if_neg h2]
        have j1 := cut_join (by simpa using h2 : (cutB 10 s).2.2 = true)
        cases e1 : stepsP wS (cutB 10 s).1 with
        | none => simp
        | some a =>
          simp only
          obtain ⟨p1, p2, p3⟩ := steps_some e1
          have h3 := cutB_len 10 (cutB 10 s).2.1
          by_cases h4 : (cutB 10 (cutB 10 s).2.1).2.2 = false
          · rw [if_pos h4]; simp
          · rw [if_neg h4]
            have j2 := cut_join (by simpa using h4 : (cutB 10 (cutB 10 s).2.1).2.2 = true)
            cases e2 : stepsP wL (cutB 10 (cutB 10 s).2.1).1 with
            | none => simp
            | some b =>
              simp only
              obtain ⟨q1, q2, q3⟩ := steps_some e2
              by_cases h5 : (cutB 10 (cutB 10 s).2.1).2.1 = []
              · rw [if_pos h5]
                refine ⟨by simp only; omega, by simp only; omega, fun _ => ⟨a, b, rfl, ?_, p2, q2⟩⟩
                rw [← p1, ← q1, ← h5, ← j2, ← j1]
              · rw [if_neg h5]; simp
    obtain ⟨b1, b2, b3⟩ := hb
    rw [same_eq _ _ (by omega)]
    simp only [decide_true, Bool.true_eq_false, if_false, if_true]
    rw [same_eq _ _ (by omega)]
    simp only [decide_true, Bool.true_eq_false, if_false, if_true]
    by_cases h0 : (parseP s).2.2.2 = 0
    · rw [if_pos h0]
      obtain ⟨a, b, e, e1, e2, e3⟩ := b3 h0
      rw [e] at b1 b2 ⊢
      simp only at b1 b2 ⊢
      have hl : s.length = (headF wS (a.map pr)).length + ((headF wL (b.map pr)).length + 1 + 1) := by
        conv => lhs; rw [e1]
        simp
      have hok : ∀ (w : List UInt8) (l : List Gapi_Step), (∀ z ∈ l, inS z = true) → l.length ≤ 2000 → (headF w (l.map pr)).length ≤ 1000000 → okF w (l.map pr) = true := by
        intro w l h1 h2 h3
        unfold okF
        simp only [inS_inR h1, List.length_map, Bool.and_eq_true, decide_eq_true_eq, true_and]
        exact ⟨by omega, h3⟩
      simp only [f_trace_Text, F_trace_Text, mkF]
      have k1 := hok wS a e2 b1 (by omega)
      have k2 := hok wL b e3 b2 (by omega)
      show (if okF wS (a.map pr) = true then if okF wL (b.map pr) = true then if (headF wS (a.map pr)).length + 1 + ((headF wL (b.map pr)).length + 1) ≤ 9223372036854775807 then (if headF wS (a.map pr) ++ 10 :: (headF wL (b.map pr) ++ [10]) = s then κ true else κ false) else none else none else none) = κ true
      rw [if_pos k1, if_pos k2, if_pos (by omega), if_pos e1.symm]
    · rw [if_neg h0]
end Go.Trc
namespace Go.Trc
open Go Go.Am Go.Tr7
open Go.Lib (decDigits itoa)
set_option linter.unusedSimpArgs false
set_option linter.unusedVariables false
variable {ρ : Type}
end Go.Trc
