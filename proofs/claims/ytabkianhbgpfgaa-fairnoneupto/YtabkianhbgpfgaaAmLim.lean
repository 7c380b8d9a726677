/- The abstract machine with fuel enough: calls and code by equations. -/
import Derived.Test.YtabkianhbgpfgaaAmCode
namespace Go.Am
open Go
set_option linter.unusedSimpArgs false
set_option linter.unusedVariables false

/-! ### more fuel, the same answer -/
def CallLe (c c' : CallF) : Prop := ∀ f ds H r, c f ds H = some r → c' f ds H = some r
section
variable {P : Program} {c c' : CallF} {h : Hint}
theorem callE_mono (hc : CallLe c c') {dst : Nat} {f : FuncId} {ds : List D} {b : Lend} {k : Wk} {r : SV × Wk} (e : callE c h dst f ds b k = some r) : callE c' h dst f ds b k = some r := by
  unfold callE at e ⊢
  split at e
  · rename_i hk
    rw [if_pos hk]
    simp only [Option.bind_eq_some_iff] at e ⊢
    obtain ⟨x, e1, e2⟩ := e
    exact ⟨x, hc _ _ _ _ e1, e2⟩
  · rename_i hk
    rw [if_neg hk]
    simp only [Option.bind_eq_some_iff] at e ⊢
    obtain ⟨x, e1, e2⟩ := e
    exact ⟨x, hc _ _ _ _ e1, e2⟩
theorem stepE_mono (hc : CallLe c c') {dst : Nat} {ty : TypeId} {op : Op} {σ : Operand → SV} {k : Wk} {r : SV × Wk} (e : stepE P c h dst ty op σ k = some r) : stepE P c' h dst ty op σ k = some r := by
  unfold stepE at e ⊢
  split at e
  · simp only
    split at e
    · simp only [Option.bind_eq_some_iff] at e ⊢
      obtain ⟨x, e1, e2⟩ := e
      exact ⟨x, e1, callE_mono hc e2⟩
    · cases e
  · exact e
theorem evalO_mono (hc : CallLe c c') {ops : List Oper} {o : Oper} {s : St} {r : Bool × SV × Wk} (e : evalO P c h ops o s = some r) : evalO P c' h ops o s = some r := by
  simp only [evalO, Option.bind_eq_some_iff] at e ⊢
  obtain ⟨w, e1, e2⟩ := e
  refine ⟨w, e1, ?_⟩
  split at e2
  · rename_i hw
    rw [if_pos hw]
    simp only [Option.map_eq_some_iff] at e2 ⊢
    obtain ⟨x, e3, e4⟩ := e2
    exact ⟨x, stepE_mono hc e3, e4⟩
  · rename_i hw
    rw [if_neg hw]; exact e2
theorem runOp_mono (hc : CallLe c c') {ops : List Oper} {o : Oper} {s s' : St} (e : runOp P c h ops o s = some s') : runOp P c' h ops o s = some s' := by
  rw [runOp_evalO] at e ⊢
  simp only [Option.map_eq_some_iff] at e ⊢
  obtain ⟨x, e1, e2⟩ := e
  exact ⟨x, evalO_mono hc e1, e2⟩
theorem runOps_mono (hc : CallLe c c') {ops : List Oper} : ∀ (l : List Oper) {s s' : St}, runOps P c h ops l s = some s' → runOps P c' h ops l s = some s'
  | [], s, s', e => e
  | o :: l, s, s', e => by
    simp only [runOps, Option.bind_eq_some_iff] at e ⊢
    obtain ⟨x, e1, e2⟩ := e
    exact ⟨x, runOp_mono hc e1, runOps_mono hc l e2⟩
theorem runOpF_mono (hc : CallLe c c') {ops : List Oper} {o : Oper} {s : Cf} {r : Cf × Fp} (e : runOpF P c h ops o s = some r) : runOpF P c' h ops o s = some r := by
  simp only [runOpF, Option.map_eq_some_iff] at e ⊢
  obtain ⟨x, e1, e2⟩ := e
  exact ⟨x, evalO_mono hc e1, e2⟩
theorem runOpsF_mono (hc : CallLe c c') {ops : List Oper} : ∀ (l : List Oper) {s : Cf} {r : Cf × List Fp}, runOpsF P c h ops l s = some r → runOpsF P c' h ops l s = some r
  | [], s, r, e => e
  | o :: l, s, r, e => by
    simp only [runOpsF, Option.bind_eq_some_iff, Option.map_eq_some_iff] at e ⊢
    obtain ⟨x, e1, y, e2, e3⟩ := e
    exact ⟨x, runOpF_mono hc e1, y, runOpsF_mono hc l e2, e3⟩
theorem loopN_mono {f f' : St → Option (Ex × St)} (hf : ∀ s r, f s = some r → f' s = some r) : ∀ (n m : Nat), n ≤ m → ∀ s r, loopN f n s = some r → loopN f' m s = some r
  | 0, _, _, _, _, e => by cases e
  | n + 1, 0, h, _, _, _ => by omega
  | n + 1, m + 1, h, s, r, e => by
    simp only [loopN, Option.bind_eq_some_iff] at e ⊢
    obtain ⟨⟨ex, s1⟩, e1, e2⟩ := e
    refine ⟨⟨ex, s1⟩, hf _ _ e1, ?_⟩
    simp only at e2 ⊢
    split at e2
    · exact loopN_mono hf n m (by omega) _ _ e2
    · exact e2
theorem codeN_mono (hc : CallLe c c') {n m : Nat} (hn : n ≤ m) : ∀ (cd : Code) (s : St) (r : Ex × St), codeN P c h n cd s = some r → codeN P c' h m cd s = some r
  | .skip, s, r, e => e
  | .label _, s, r, e => e
  | .ret, s, r, e => e
  | .exit _, s, r, e => e
  | .goto _, s, r, e => by cases e
  | .refuse _, s, r, e => by cases e
  | .rangeFunc _ _ _ _, s, r, e => by cases e
  | .region id ops dr, s, r, e => by
    simp only [codeN] at e ⊢
    cases dr with
    | true =>
      simp only [if_true, Option.bind_eq_some_iff] at e ⊢
      obtain ⟨x, e1, e2⟩ := e
      exact ⟨x, runOpsF_mono hc _ e1, e2⟩
    | false =>
      simp only [Bool.false_eq_true, if_false, Option.map_eq_some_iff] at e ⊢
      obtain ⟨x, e1, e2⟩ := e
      exact ⟨x, runOps_mono hc _ e1, e2⟩
  | .seq a b, s, r, e => by
    simp only [codeN, Option.bind_eq_some_iff] at e ⊢
    obtain ⟨⟨ex, s1⟩, e1, e2⟩ := e
    refine ⟨⟨ex, s1⟩, codeN_mono hc hn a _ _ e1, ?_⟩
    simp only at e2 ⊢
    split at e2
    · exact codeN_mono hc hn b _ _ e2
    · exact e2
  | .cond o a b, s, r, e => by
    simp only [codeN] at e ⊢
    split at e
    · split at e
      · rename_i ht; rw [if_pos ht]; exact codeN_mono hc hn a _ _ e
      · rename_i ht; rw [if_neg ht]; exact codeN_mono hc hn b _ _ e
    · cases e
  | .block id a, s, r, e => by
    simp only [codeN, Option.map_eq_some_iff] at e ⊢
    obtain ⟨x, e1, e2⟩ := e
    exact ⟨x, codeN_mono hc hn a _ _ e1, e2⟩
  | .loop a, s, r, e => by
    simp only [codeN] at e ⊢
    exact loopN_mono (fun s r => codeN_mono hc hn a s r) n m hn s r e
  | .scope a, s, r, e => by
    simp only [codeN] at e ⊢
    exact codeN_mono hc hn a _ _ e
theorem callN_le {hints : FuncId → Hint} : ∀ n, CallLe (callN P hints n) (callN P hints (n + 1))
  | 0 => fun f ds H r e => by cases e
  | n + 1 => fun f ds H r e => by
    have ih := callN_le (hints := hints) n
    simp only [callN, Option.bind_eq_some_iff] at e ⊢
    obtain ⟨fn, h1, cd, h2, e⟩ := e
    refine ⟨fn, h1, cd, h2, ?_⟩
    split at e
    · rename_i hh
      rw [if_pos hh]
      simp only [Option.bind_eq_some_iff] at e ⊢
      obtain ⟨x, e1, e2⟩ := e
      exact ⟨x, codeN_mono ih (Nat.le_succ n) cd _ _ e1, e2⟩
    · cases e
theorem callN_mono {hints : FuncId → Hint} {n m : Nat} (h : n ≤ m) : CallLe (callN P hints n) (callN P hints m) := by
  induction h with
  | refl => exact fun _ _ _ _ e => e
  | step _ ih => exact fun f ds H r e => callN_le _ f ds H r (ih f ds H r e)
end

/-! ### the limit -/
open Classical in
noncomputable def lim {α : Type} (g : Nat → Option α) : Option α := if h : ∃ r, ∃ n, g n = some r then some (Classical.choose h) else none
theorem lim_iff {α : Type} {g : Nat → Option α} (hg : ∀ n m r, n ≤ m → g n = some r → g m = some r) {r : α} : lim g = some r ↔ ∃ n, g n = some r := by
  unfold lim
  constructor
  · intro h
    split at h
    · rename_i hx
      simp only [Option.some.injEq] at h
      rw [← h]
      exact Classical.choose_spec hx
    · cases h
  · rintro ⟨n, hn⟩
    have hx : ∃ r, ∃ n, g n = some r := ⟨r, n, hn⟩
    rw [dif_pos hx]
    obtain ⟨m, hm⟩ := Classical.choose_spec hx
    have h1 := hg n (max n m) r (Nat.le_max_left _ _) hn
    have h2 := hg m (max n m) _ (Nat.le_max_right _ _) hm
    rw [h1] at h2
    simp only [Option.some.injEq] at h2
    rw [← h2]

section
variable (P : Program) (hints : FuncId → Hint)
noncomputable def callX : CallF := fun f ds H => lim fun n => callN P hints n f ds H
noncomputable def codeX (h : Hint) (c : Code) (s : St) : Option (Ex × St) := lim fun n => codeN P (callN P hints n) h n c s
variable {P hints}
theorem callX_iff {f : FuncId} {ds : List D} {H : List Ob} {r : List T × List Ob} : callX P hints f ds H = some r ↔ ∃ n, callN P hints n f ds H = some r :=
  lim_iff fun n m r h e => callN_mono h f ds H r e
theorem codeX_iff {h : Hint} {c : Code} {s : St} {r : Ex × St} : codeX P hints h c s = some r ↔ ∃ n, codeN P (callN P hints n) h n c s = some r :=
  lim_iff fun n m r hn e => codeN_mono (callN_mono hn) hn c s r e
theorem callN_X (n : Nat) : CallLe (callN P hints n) (callX P hints) := fun f ds H r e => callX_iff.2 ⟨n, e⟩

/-! ### what the limit does, fuel enough does -/
section
variable {h : Hint}
theorem callE_cont {dst : Nat} {f : FuncId} {ds : List D} {b : Lend} {k : Wk} {r : SV × Wk} (e : callE (callX P hints) h dst f ds b k = some r) : ∃ n, callE (callN P hints n) h dst f ds b k = some r := by
  unfold callE at e
  split at e
  · rename_i hk
    simp only [Option.bind_eq_some_iff] at e
    obtain ⟨x, e1, e2⟩ := e
    obtain ⟨n, hn⟩ := callX_iff.1 e1
    exact ⟨n, by unfold callE; rw [if_pos hk, hn]; exact e2⟩
  · rename_i hk
    simp only [Option.bind_eq_some_iff] at e
    obtain ⟨x, e1, e2⟩ := e
    obtain ⟨n, hn⟩ := callX_iff.1 e1
    exact ⟨n, by unfold callE; rw [if_neg hk, hn]; exact e2⟩
theorem stepE_cont {dst : Nat} {ty : TypeId} {op : Op} {σ : Operand → SV} {k : Wk} {r : SV × Wk} (e : stepE P (callX P hints) h dst ty op σ k = some r) : ∃ n, stepE P (callN P hints n) h dst ty op σ k = some r := by
  by_cases hc : ∃ f args ats, op = .call { callee := .value f, args := args, argTypes := ats }
  · obtain ⟨f, args, ats, rfl⟩ := hc
    unfold stepE at e ⊢
    simp only at e ⊢
    split at e
    · simp only [Option.bind_eq_some_iff] at e
      obtain ⟨x, e1, e2⟩ := e
      obtain ⟨n, hn⟩ := callE_cont e2
      exact ⟨n, by rw [e1]; exact hn⟩
    · cases e
  · have : ∀ call : CallF, stepE P call h dst ty op σ k = opE P h dst ty op σ k := fun call => by
      unfold stepE
      split
      · exact absurd ⟨_, _, _, rfl⟩ hc
      · rfl
    rw [this] at e
    exact ⟨0, by rw [this]; exact e⟩
theorem evalO_cont {ops : List Oper} {o : Oper} {s : St} {r : Bool × SV × Wk} (e : evalO P (callX P hints) h ops o s = some r) : ∃ n, evalO P (callN P hints n) h ops o s = some r := by
  simp only [evalO, Option.bind_eq_some_iff] at e
  obtain ⟨w, e1, e2⟩ := e
  split at e2
  · rename_i hw
    simp only [Option.map_eq_some_iff] at e2
    obtain ⟨x, e3, e4⟩ := e2
    obtain ⟨n, hn⟩ := stepE_cont e3
    exact ⟨n, by simp only [evalO, e1, Option.bind_some, hw, if_true, hn, Option.map_some]; rw [← e4]⟩
  · rename_i hw
    exact ⟨0, by simp only [evalO, e1, Option.bind_some]; rw [if_neg hw]; exact e2⟩
theorem runOps_cont {ops : List Oper} : ∀ (l : List Oper) {s s' : St}, runOps P (callX P hints) h ops l s = some s' → ∃ n, runOps P (callN P hints n) h ops l s = some s'
  | [], s, s', e => ⟨0, e⟩
  | o :: l, s, s', e => by
    simp only [runOps, Option.bind_eq_some_iff] at e
    obtain ⟨x, e1, e2⟩ := e
    rw [runOp_evalO] at e1
    simp only [Option.map_eq_some_iff] at e1
    obtain ⟨y, e3, e4⟩ := e1
    obtain ⟨n, hn⟩ := evalO_cont e3
    obtain ⟨m, hm⟩ := runOps_cont l e2
    refine ⟨max n m, ?_⟩
    simp only [runOps, Option.bind_eq_some_iff]
    refine ⟨x, ?_, runOps_mono (callN_mono (Nat.le_max_right n m)) l hm⟩
    rw [runOp_evalO, evalO_mono (callN_mono (Nat.le_max_left n m)) hn]
    simp only [Option.map_some, e4]
theorem runOpsF_cont {ops : List Oper} : ∀ (l : List Oper) {s : Cf} {r : Cf × List Fp}, runOpsF P (callX P hints) h ops l s = some r → ∃ n, runOpsF P (callN P hints n) h ops l s = some r
  | [], s, r, e => ⟨0, e⟩
  | o :: l, s, r, e => by
    simp only [runOpsF, Option.bind_eq_some_iff, Option.map_eq_some_iff] at e
    obtain ⟨x, e1, y, e2, e3⟩ := e
    simp only [runOpF, Option.map_eq_some_iff] at e1
    obtain ⟨z, e4, e5⟩ := e1
    obtain ⟨n, hn⟩ := evalO_cont e4
    obtain ⟨m, hm⟩ := runOpsF_cont l e2
    refine ⟨max n m, ?_⟩
    simp only [runOpsF, Option.bind_eq_some_iff, Option.map_eq_some_iff]
    refine ⟨x, ?_, y, runOpsF_mono (callN_mono (Nat.le_max_right n m)) l hm, e3⟩
    simp only [runOpF, evalO_mono (callN_mono (Nat.le_max_left n m)) hn, Option.map_some, e5]

/-! ### equations -/
theorem ext_some {α : Type} {x y : Option α} (h : ∀ r, x = some r ↔ y = some r) : x = y := Option.ext h
theorem codeX_plain {c : Code} {s : St} {x : Option (Ex × St)} (hx : ∀ n, codeN P (callN P hints n) h n c s = x) : codeX P hints h c s = x :=
  ext_some fun r => by rw [codeX_iff]; simp [hx]
theorem codeX_skip {s : St} : codeX P hints h .skip s = some (.normal, s) := codeX_plain fun _ => rfl
theorem codeX_label {l : Nat} {s : St} : codeX P hints h (.label l) s = some (.normal, s) := codeX_plain fun _ => rfl
theorem codeX_ret {s : St} : codeX P hints h .ret s = some (.ret, s) := codeX_plain fun _ => rfl
theorem codeX_exit {id : Nat} {s : St} : codeX P hints h (.exit id) s = some (.exit id, s) := codeX_plain fun _ => rfl
theorem codeX_region {id : Nat} {ops : Array Oper} {s : St} : codeX P hints h (.region id ops false) s = (runOps P (callX P hints) h ops.toList ops.toList s).map fun s' => (.normal, prune (h.live id) s') :=
  ext_some fun r => by
    rw [codeX_iff]
    simp only [codeN, Bool.false_eq_true, if_false, Option.map_eq_some_iff]
    constructor
    · rintro ⟨n, x, e1, e2⟩; exact ⟨x, runOps_mono (callN_X n) _ e1, e2⟩
    · rintro ⟨x, e1, e2⟩; obtain ⟨n, hn⟩ := runOps_cont _ e1; exact ⟨n, x, hn, e2⟩
theorem codeX_draw {id : Nat} {ops : Array Oper} {s : St} : codeX P hints h (.region id ops true) s = (runOpsF P (callX P hints) h ops.toList ops.toList (s, hist0 s)).bind fun (c, fs) => if checkR ops.toList fs then some (.normal, prune (h.live id) c.1) else none :=
  ext_some fun r => by
    rw [codeX_iff]
    simp only [codeN, if_true, Option.bind_eq_some_iff]
    constructor
    · rintro ⟨n, x, e1, e2⟩; exact ⟨x, runOpsF_mono (callN_X n) _ e1, e2⟩
    · rintro ⟨x, e1, e2⟩; obtain ⟨n, hn⟩ := runOpsF_cont _ e1; exact ⟨n, x, hn, e2⟩
/-- what comes behind a piece of code -/
noncomputable def thenX (P : Program) (hints : FuncId → Hint) (h : Hint) (b : Code) (r : Ex × St) : Option (Ex × St) := match r.1 with | .normal => codeX P hints h b r.2 | e => some (e, r.2)
theorem codeX_seq {a b : Code} {s : St} : codeX P hints h (.seq a b) s = (codeX P hints h a s).bind (thenX P hints h b) :=
  ext_some fun r => by
    rw [codeX_iff]
    simp only [codeN, Option.bind_eq_some_iff, thenX]
    constructor
    · rintro ⟨n, ⟨ex, s1⟩, e1, e2⟩
      refine ⟨⟨ex, s1⟩, codeX_iff.2 ⟨n, e1⟩, ?_⟩
      simp only at e2 ⊢
      cases ex with
      | normal => exact codeX_iff.2 ⟨n, e2⟩
      | _ => exact e2
    · rintro ⟨⟨ex, s1⟩, e1, e2⟩
      obtain ⟨n, hn⟩ := codeX_iff.1 e1
      simp only at e2
      split at e2
      · obtain ⟨m, hm⟩ := codeX_iff.1 e2
        exact ⟨max n m, ⟨.normal, s1⟩, codeN_mono (callN_mono (Nat.le_max_left n m)) (Nat.le_max_left n m) a _ _ hn, codeN_mono (callN_mono (Nat.le_max_right n m)) (Nat.le_max_right n m) b _ _ hm⟩
      · rename_i hne
        refine ⟨n, ⟨ex, s1⟩, hn, ?_⟩
        cases ex with
        | normal => exact absurd rfl hne
        | _ => exact e2
theorem codeX_cond {o : Operand} {a b : Code} {s : St} : codeX P hints h (.cond o a b) s = match s.val o with | .d (.bool t) => if t then codeX P hints h a s else codeX P hints h b s | _ => none :=
  ext_some fun r => by
    rw [codeX_iff]
    simp only [codeN]
    generalize s.val o = v
    cases v with
    | d x =>
      cases x with
      | bool t => cases t <;> simp [codeX_iff]
      | _ => simp
    | _ => simp
theorem codeX_block {id : Nat} {a : Code} {s : St} : codeX P hints h (.block id a) s = (codeX P hints h a s).map fun r => (if r.1 = .exit id then .normal else r.1, r.2) :=
  ext_some fun r => by
    rw [codeX_iff]
    simp only [codeN, Option.map_eq_some_iff]
    constructor
    · rintro ⟨n, x, e1, e2⟩; exact ⟨x, codeX_iff.2 ⟨n, e1⟩, e2⟩
    · rintro ⟨x, e1, e2⟩; obtain ⟨n, hn⟩ := codeX_iff.1 e1; exact ⟨n, x, hn, e2⟩
theorem codeX_scope {a : Code} {s : St} : codeX P hints h (.scope a) s = codeX P hints h a s :=
  ext_some fun r => by rw [codeX_iff, codeX_iff]; simp only [codeN]
theorem codeX_loop {a : Code} {s : St} : codeX P hints h (.loop a) s = (codeX P hints h a s).bind (thenX P hints h (.loop a)) :=
  ext_some fun r => by
    rw [codeX_iff]
    simp only [Option.bind_eq_some_iff, thenX]
    constructor
    · rintro ⟨n, e⟩
      simp only [codeN] at e
      cases n with
      | zero => cases e
      | succ n =>
        have e0 := e
        simp only [loopN, Option.bind_eq_some_iff] at e
        obtain ⟨⟨ex, s1⟩, e1, e2⟩ := e
        refine ⟨⟨ex, s1⟩, codeX_iff.2 ⟨n + 1, e1⟩, ?_⟩
        simp only at e2 ⊢
        cases ex with
        | normal =>
          refine codeX_iff.2 ⟨n + 1, ?_⟩
          simp only [codeN]
          exact loopN_mono (fun _ _ e => e) n (n + 1) (Nat.le_succ n) _ _ e2
        | _ => exact e2
    · rintro ⟨⟨ex, s1⟩, e1, e2⟩
      obtain ⟨n, hn⟩ := codeX_iff.1 e1
      simp only at e2
      split at e2
      · obtain ⟨m, hm⟩ := codeX_iff.1 e2
        simp only [codeN] at hm
        refine ⟨max n m + 1, ?_⟩
        simp only [codeN, loopN, Option.bind_eq_some_iff]
        exact ⟨⟨.normal, s1⟩, codeN_mono (callN_mono (by omega)) (by omega) a _ _ hn, loopN_mono (fun s r e => codeN_mono (callN_mono (by omega)) (by omega) a s r e) m (max n m) (Nat.le_max_right n m) _ _ hm⟩
      · rename_i hne
        refine ⟨n + 1, ?_⟩
        simp only [codeN, loopN, Option.bind_eq_some_iff]
        refine ⟨⟨ex, s1⟩, codeN_mono (callN_mono (Nat.le_succ n)) (Nat.le_succ n) a _ _ hn, ?_⟩
        cases ex with
        | normal => exact absurd rfl hne
        | _ => exact e2
end
theorem callX_eq {f : FuncId} {ds : List D} {H : List Ob} {fn : Func} {c : Code} (hf : P.funcs[f]? = some fn) (hb : fn.body = some c) (hl : ds.length = fn.params.size + fn.nfree) (hk : codeOk fn.ntmps c = true) (hn : (fn.name == "runtime.NumGoroutine") = false) :
    callX P hints f ds H = (codeX P hints (hints f) c (enter ds H)).bind (leave P (hints f).own fn H.length) :=
  ext_some fun r => by
    rw [callX_iff]
    simp only [Option.bind_eq_some_iff]
    constructor
    · rintro ⟨n, e⟩
      cases n with
      | zero => cases e
      | succ n =>
        simp only [callN, hf, hb, Option.bind_some] at e
        rw [if_pos ⟨hl, hk, hn⟩] at e
        simp only [Option.bind_eq_some_iff] at e
        obtain ⟨x, e1, e2⟩ := e
        exact ⟨x, codeX_iff.2 ⟨n, e1⟩, e2⟩
    · rintro ⟨x, e1, e2⟩
      obtain ⟨n, hn'⟩ := codeX_iff.1 e1
      refine ⟨n + 1, ?_⟩
      simp only [callN, hf, hb, Option.bind_some]
      rw [if_pos ⟨hl, hk, hn⟩]
      simp only [Option.bind_eq_some_iff]
      exact ⟨x, hn', e2⟩
end
end Go.Am
