/- The abstract machine: a region by its operations alone; a region that draws its order, where nothing is changed, goes in the text's order. -/
import Derived.Test.YtabkianhbgpfgaaAmNorm
namespace Go.Am
open Go
set_option linter.unusedSimpArgs false
set_option linter.unusedVariables false

/-- an operation: where it goes, its type, what it does, the slot of its guard -/
structure Lite where
  d : Option Nat
  ty : TypeId
  op : Op
  g : Option (Nat × Bool)
def liteOf (ops : List Oper) (o : Oper) : Lite := ⟨o.dst, o.type, o.op, o.guard.map fun p => (gslot ops p.1, p.2)⟩
def stepL (P : Program) (call : CallF) (h : Hint) (o : Lite) (s : St) : Option St :=
  match o.g with
  | none => stepS P call h o.d o.ty o.op s
  | some (t, want) => stepG P call h o.d o.ty o.op want (s.get t) s
def runL (P : Program) (call : CallF) (h : Hint) : List Lite → St → Option St
  | [], s => some s
  | o :: r, s => (stepL P call h o s).bind (runL P call h r)
def guardOk (ops : List Oper) (o : Oper) : Bool := match o.guard with | none => true | some (j, _) => ((ops[j]?).bind (·.dst)).isSome
section
variable {P : Program} {hints : FuncId → Hint} {call : CallF} {h : Hint}
theorem runOp_lite {ops : List Oper} {o : Oper} {s : St} (hg : guardOk ops o = true) : runOp P call h ops o s = stepL P call h (liteOf ops o) s := by
  obtain ⟨d, op, ty, pos, after, guard⟩ := o
  cases guard with
  | none => exact runOp_plain
  | some p => obtain ⟨j, want⟩ := p; exact runOp_guard hg
theorem runOps_lite {ops : List Oper} : ∀ (l : List Oper) (s : St), l.all (guardOk ops) = true → runOps P call h ops l s = runL P call h (l.map (liteOf ops)) s
  | [], s, _ => rfl
  | o :: l, s, hg => by
    simp only [List.all_cons, Bool.and_eq_true] at hg
    simp only [runOps, List.map_cons, runL, runOp_lite hg.1]
    congr 1
    funext s'
    exact runOps_lite l s' hg.2

/-! ### nothing is changed -/
def slotsApart (ops : List Oper) (x y : Oper) : Bool :=
  (match x.dst with | some d => !(looks ops y).contains d && y.dst != some d | none => true) &&
  (match y.dst with | some d => !(looks ops x).contains d | none => true)
def stRow (ops : List Oper) (b : Nat) (y : Oper) : Nat → List Oper → Bool
  | _, [] => true
  | j, x :: r => (b.testBit j || slotsApart ops x y) && stRow ops b y (j + 1) r
def stAll (ops : List Oper) : Nat → List Nat → List Oper → Bool
  | i, b :: bs, y :: r => stRow ops b y 0 (ops.take i) && stAll ops (i + 1) bs r
  | _, _, _ => true
/-- no operation changes anything, and those that are not ordered do not share slots -/
def pureR (h : Hint) (ops : List Oper) : Bool := ops.all (fun o => !effOf h (o.dst.getD 0) o.op) && (match befs ops [] with | some bs => stAll ops 0 bs ops | none => false)
/-- what stands in a footprint of an operation that changes nothing -/
def PureFp (ops : List Oper) (o : Oper) (f : Fp) : Prop := f.sl = looks ops o ∧ f.dst = o.dst ∧ f.wr = [] ∧ f.hw = false ∧ f.ren = false
theorem runOpF_pure {ops : List Oper} {o : Oper} {c : Cf} (he : effOf h (o.dst.getD 0) o.op = false) {s' : St} (e : runOp P call h ops o c.1 = some s') : ∃ c' f, runOpF P call h ops o c = some (c', f) ∧ c'.1 = s' ∧ PureFp ops o f := by
  rw [runOp_evalO] at e
  simp only [Option.map_eq_some_iff] at e
  obtain ⟨⟨w, v, k⟩, e1, rfl⟩ := e
  refine ⟨_, _, runOpF_mk e1, rfl, rfl, rfl, ?_, ?_, ?_⟩
  · have := (evalO_grown e1).2 (by simp [he])
    subst this
    simp [fpOf, newKeys, St.wk]
  · simp [fpOf, he]
  · have := (evalO_grown e1).2 (by simp [he])
    subst this
    rfl
theorem runOpsF_pure {ops : List Oper} : ∀ (l : List Oper) {c : Cf} {s' : St}, (∀ o ∈ l, effOf h (o.dst.getD 0) o.op = false) → runOps P call h ops l c.1 = some s' → ∃ c' fs, runOpsF P call h ops l c = some (c', fs) ∧ c'.1 = s' ∧ All2 (PureFp ops) l fs
  | [], c, s', _, e => by simp only [runOps, Option.some.injEq] at e; exact ⟨c, [], rfl, e, rfl⟩
  | o :: l, c, s', he, e => by
    simp only [runOps, Option.bind_eq_some_iff] at e
    obtain ⟨s1, e1, e2⟩ := e
    obtain ⟨c1, f, g1, rfl, g3⟩ := runOpF_pure (he o (by simp)) e1
    obtain ⟨c2, fs, q1, q2, q3⟩ := runOpsF_pure l (fun o ho => he o (by simp [ho])) e2
    exact ⟨c2, f :: fs, by simp only [runOpsF, g1, Option.bind_some, q1, Option.map_some], q2, f, fs, rfl, g3, q3⟩
theorem apart_pure {ops : List Oper} {x y : Oper} {f g : Fp} (hf : PureFp ops x f) (hg : PureFp ops y g) (h : slotsApart ops x y = true) : apartFp f g = true := by
  obtain ⟨f1, f2, f3, f4, f5⟩ := hf
  obtain ⟨g1, g2, g3, g4, g5⟩ := hg
  simp only [apartFp, f1, f2, f3, f4, f5, g1, g2, g3, g4, g5]
  simp only [slotsApart, Bool.and_eq_true] at h
  cases hx : x.dst <;> cases hy : y.dst <;> simp only [hx, hy] at h ⊢ <;> simp [meet] <;> simpa using h
theorem checkRow_pure {ops : List Oper} {y : Oper} {b : Nat} {g : Fp} (hg : PureFp ops y g) : ∀ (l : List Oper) (fs : List Fp) (j : Nat), All2 (PureFp ops) l fs → stRow ops b y j l = true → checkRow b g j fs = true
  | [], fs, j, ha, _ => by rw [show fs = [] from ha]; rfl
  | x :: l, fs, j, ha, hs => by
    obtain ⟨f, r, rfl, h1, h2⟩ := ha
    simp only [stRow, Bool.and_eq_true, Bool.or_eq_true] at hs
    simp only [checkRow, Bool.and_eq_true, Bool.or_eq_true]
    exact ⟨hs.1.imp id (apart_pure h1 hg), checkRow_pure hg l r (j + 1) h2 hs.2⟩
theorem checkF_pure {ops : List Oper} {all : List Fp} (hall : All2 (PureFp ops) ops all) : ∀ (l : List Oper) (fs : List Fp) (i : Nat) (bs : List Nat), All2 (PureFp ops) l fs → stAll ops i bs l = true → checkF all i bs fs = true
  | [], fs, i, bs, ha, _ => by rw [show fs = [] from ha]; cases bs <;> rfl
  | y :: l, fs, i, [], ha, _ => by obtain ⟨f, r, rfl, _, _⟩ := ha; rfl
  | y :: l, fs, i, b :: bs, ha, hs => by
    obtain ⟨f, r, rfl, h1, h2⟩ := ha
    simp only [stAll, Bool.and_eq_true] at hs
    simp only [checkF, Bool.and_eq_true]
    exact ⟨checkRow_pure h1 _ _ 0 (All2.take i hall) hs.1, checkF_pure hall l r (i + 1) bs h2 hs.2⟩

/-- the region of a number -/
def findR (id : Nat) : Code → Option Code
  | .region i ops dr => if i = id then some (.region i ops dr) else none
  | .seq a b => (findR id a).or (findR id b)
  | .cond _ a b => (findR id a).or (findR id b)
  | .block _ c => findR id c
  | .loop c => findR id c
  | .scope c => findR id c
  | _ => none
def rg (c : Code) (id : Nat) : Code := (findR id c).getD .skip
def regOk (h : Hint) (id : Nat) (ls : List Nat) (c : Code) : Bool :=
  match c with
  | .region i ops dr => decide (i = id) && ops.toList.all (guardOk ops.toList) && (!dr || pureR h ops.toList) && decide (h.live id = ls)
  | _ => false
def opsL (c : Code) : List Lite := match c with | .region _ ops _ => ops.toList.map (liteOf ops.toList) | _ => []
/-- a region, whose order does not matter -/
theorem rg_eq {c : Code} {id : Nat} {ls : List Nat} {L : List Lite} (hk : regOk h id ls c = true) (hL : opsL c = L) (s : St) : codeX P hints h c s = (runL P (callX P hints) h L s).bind fun s' => some (.normal, prune ls s') := by
  unfold regOk at hk
  split at hk
  · rename_i i ops dr
    simp only [Bool.and_eq_true, decide_eq_true_eq, Bool.or_eq_true, Bool.not_eq_true'] at hk
    obtain ⟨⟨⟨rfl, hg⟩, hd⟩, hl⟩ := hk
    subst hL
    have text : (codeX P hints h (.region i ops false) s) = (runL P (callX P hints) h (ops.toList.map (liteOf ops.toList)) s).bind fun s' => some (.normal, prune ls s') := by
      rw [codeX_region', runOps_lite _ _ hg, hl]
    cases dr with
    | false => exact text
    | true =>
      rcases hd with hd | hd
      · cases hd
      · refine Eq.trans ?_ text
        rw [codeX_draw, codeX_region, hl]
        simp only [pureR, Bool.and_eq_true, List.all_eq_true, Bool.not_eq_true'] at hd
        obtain ⟨he, hb⟩ := hd
        split at hb
        · rename_i bs hbs
          refine ext_some fun r => ?_
          simp only [Option.bind_eq_some_iff, Option.map_eq_some_iff]
          constructor
          · rintro ⟨⟨c', fs⟩, e1, e2⟩
            simp only at e2
            split at e2
            · refine ⟨c'.1, ?_, by simpa using e2⟩
              have : ∀ (l : List Oper) (c c' : Cf) (fs : List Fp), runOpsF P (callX P hints) h ops.toList l c = some (c', fs) → runOps P (callX P hints) h ops.toList l c.1 = some c'.1 := by
                intro l
                induction l with
                | nil => intro c c' fs e; simp only [runOpsF, Option.some.injEq, Prod.mk.injEq] at e; rw [← e.1]; rfl
                | cons o l ih =>
                  intro c c' fs e
                  simp only [runOpsF, Option.bind_eq_some_iff, Option.map_eq_some_iff, Prod.mk.injEq] at e
                  obtain ⟨⟨c1, f⟩, e1, ⟨c2, fs'⟩, e2, rfl, _⟩ := e
                  simp only [runOps, runOpF_op e1, Option.bind_some]
                  exact ih _ _ _ e2
              exact this _ _ _ _ e1
            · cases e2
          · rintro ⟨s', e1, rfl⟩
            obtain ⟨c', fs, q1, q2, q3⟩ := runOpsF_pure ops.toList (c := (s, hist0 s)) he e1
            refine ⟨(c', fs), q1, ?_⟩
            have hck : checkR ops.toList fs = true := by
              unfold checkR
              rw [hbs]
              exact checkF_pure q3 _ _ 0 bs q3 hb
            simp only [hck, if_true, q2]
        · cases hb
  · cases hk

@[go_sem] theorem runL_nil {s : St} : runL P call h [] s = some s := rfl
/-- go on behind an operation -/
def nextL (P : Program) (call : CallF) (h : Hint) (d : Option Nat) (r : List Lite) (s : St) (v : SV) (k : Wk) : Option St := runL P call h r (s.fin d v k)
section
variable {d : Option Nat} {ty : TypeId} {op : Op} {r : List Lite} {env : List (Nat × SV)} {ct ct' : List ((Nat × Nat) × T)} {H H' : List Ob} {tr : List Tr} {v : SV} {s : St} {t : Nat} {want b : Bool}
@[go_sem] theorem runL_plain : runL P call h (⟨d, ty, op, none⟩ :: r) ⟨env, ct, H⟩ = (stepE P call h (d.getD 0) ty op (St.val ⟨env, ct, H⟩) ⟨ct, H, []⟩).bind fun p => nextL P call h d r ⟨env, ct, H⟩ p.1 p.2 := by
  simp only [runL, stepL, stepS, Option.bind_assoc, Option.bind_some]; rfl
@[go_sem] theorem nextL_mk : nextL P call h d r s v ⟨ct', H', tr⟩ = runL P call h r (s.fin d v ⟨ct', H', tr⟩) := rfl
def guardL (P : Program) (call : CallF) (h : Hint) (d : Option Nat) (ty : TypeId) (op : Op) (want : Bool) (r : List Lite) (s : St) (g : SV) : Option St := (stepG P call h d ty op want g s).bind fun s' => runL P call h r s'
@[go_sem] theorem runL_guard : runL P call h (⟨d, ty, op, some (t, want)⟩ :: r) ⟨env, ct, H⟩ = guardL P call h d ty op want r ⟨env, ct, H⟩ (St.get ⟨env, ct, H⟩ t) := rfl
@[go_sem] theorem guardL_bool : guardL P call h d ty op want r ⟨env, ct, H⟩ (.d (.bool b)) = if b = want then (stepE P call h (d.getD 0) ty op (St.val ⟨env, ct, H⟩) ⟨ct, H, []⟩).bind fun p => nextL P call h d r ⟨env, ct, H⟩ p.1 p.2 else runL P call h r (St.fin ⟨env, ct, H⟩ d (.tup []) ⟨ct, H, []⟩) := by
  by_cases e : b = want
  · simp only [guardL, stepG_bool, e, if_true, stepS, Option.bind_assoc, Option.bind_some]; rfl
  · simp only [guardL, stepG_bool, e, if_false, Option.bind_some]; rfl
@[go_sem] theorem guardL_skip : guardL P call h d ty op want r ⟨env, ct, H⟩ (.tup []) = runL P call h r (St.fin ⟨env, ct, H⟩ d (.tup []) ⟨ct, H, []⟩) := rfl
end
end
end Go.Am
