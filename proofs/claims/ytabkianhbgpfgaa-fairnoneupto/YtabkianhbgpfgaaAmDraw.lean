/- The abstract machine: a region that draws its order, with what each operation leans on and changes written out. -/
import Derived.Test.YtabkianhbgpfgaaAmLite
namespace Go.Am
open Go
set_option linter.unusedSimpArgs false
set_option linter.unusedVariables false

/-- an operation: where it goes, the slot of its guard, its type, what it does, what it looks at, those ahead of it that it must be apart from, what it may do to contents -/
structure LF where
  d : Option Nat
  g : Option (Nat × Bool)
  ty : TypeId
  op : Op
  lk : List Nat
  u : List Nat
  nd : Bool
  eff : Bool
  rds : Bool
  hr : Bool
  ho : Bool
def lfOf (h : Hint) (ops : List Oper) (nd : Bool) (u : List Nat) (o : Oper) : LF :=
  ⟨o.dst, o.guard.map fun p => (gslot ops p.1, p.2), o.type, o.op, looks ops o, u, nd, effOf h (o.dst.getD 0) o.op, reads o.op, hrOf h (o.dst.getD 0) o.op, hOf h (o.dst.getD 0) o.op⟩
def fpW (o : LF) (hi : Hist) (s : St) (w : Bool) (v : SV) (k : Wk) : Fp :=
  { sl := o.lk, dst := o.d, rd := o.lk.flatMap (histOf hi) ++ v.srts ++ (if o.rds = true then o.lk.flatMap fun t => (s.get t).rts else []), wr := newKeys s.wk k ++ k.tr.flatMap Tr.rts,
    hr := (w && o.hr) || (o.lk.flatMap (histOf hi) ++ v.srts ++ (if o.rds = true then o.lk.flatMap fun t => (s.get t).rts else [])).any Root.isO || (newKeys s.wk k ++ k.tr.flatMap Tr.rts).any Root.isO || k.tr.any Tr.isKillO,
    hw := (w && o.eff) && (o.ho || (o.lk.flatMap fun t => (s.get t).rts).any Root.isO || k.tr.any Tr.isKillO), ren := k.tr.any Tr.isRen }
def wantF (o : LF) (s : St) : Option Bool :=
  match o.g with
  | none => some true
  | some (t, want) => match s.get t with
    | .d (.bool b) => some (b == want)
    | .tup [] => some false
    | _ => none
def evalF (P : Program) (call : CallF) (h : Hint) (o : LF) (s : St) : Option (Bool × SV × Wk) :=
  (wantF o s).bind fun w => if w = true then (stepE P call h (o.d.getD 0) o.ty o.op s.val s.wk).bind fun p => some (true, p.1, p.2) else some (false, .tup [], s.wk)
def apartAt (acc : List Fp) (f : Fp) (j : Nat) : Bool := match acc[j]? with | some g => apartFp g f | none => false
/-- what is kept of an operation that none must be apart from -/
def fp0 : Fp := ⟨[], none, [], [], false, false, false⟩
/-- is this one to be looked at at all? -/
def apU (o : LF) (acc : List Fp) (f : Fp) : Bool := o.u.all (apartAt acc f)
def runC (P : Program) (call : CallF) (h : Hint) : List LF → Cf → List Fp → Option St
  | [], c, _ => some c.1
  | o :: r, c, acc => (evalF P call h o c.1).bind fun q =>
    if o.u.all (apartAt acc (fpW o c.2 c.1 q.1 q.2.1 q.2.2)) = true then runC P call h r (c.1.fin o.d q.2.1 q.2.2, histAdd c.2 q.2.2.tr o.d q.2.1) (acc ++ [if o.nd = true then fpW o c.2 c.1 q.1 q.2.1 q.2.2 else fp0]) else none
section
variable {P : Program} {hints : FuncId → Hint} {call : CallF} {h : Hint}
theorem evalF_lf {ops : List Oper} {nd : Bool} {u : List Nat} {o : Oper} {s : St} (hg : guardOk ops o = true) : evalO P call h ops o s = evalF P call h (lfOf h ops nd u o) s := by
  have : wantE ops s o = wantF (lfOf h ops nd u o) s := by
    obtain ⟨d, op, ty, pos, after, guard⟩ := o
    cases guard with
    | none => rfl
    | some p =>
      obtain ⟨j, want⟩ := p
      simp only [guardOk, Option.isSome_iff_exists] at hg
      obtain ⟨t, ht⟩ := hg
      simp only [wantE, wantF, lfOf, Option.map_some, gslot, ht, Option.getD_some]
      rfl
  simp only [evalO, evalF, this, Option.map_eq_bind]
  rfl
theorem fpW_lf {ops : List Oper} {nd : Bool} {u : List Nat} {o : Oper} {hi : Hist} {s : St} {w : Bool} {v : SV} {k : Wk} : fpOf h ops o hi s w v k = fpW (lfOf h ops nd u o) hi s w v k := rfl
def checkUs : List Fp → List (List Nat) → List Fp → Bool
  | acc, u :: us, f :: fs => u.all (apartAt acc f) && checkUs (acc ++ [f]) us fs
  | _, _, _ => true
def lfs (h : Hint) (ops : List Oper) : List Bool → List (List Nat) → List Oper → List LF
  | n :: ns, u :: us, o :: r => lfOf h ops n u o :: lfs h ops ns us r
  | _, _, _ => []
/-- where it counts, the two are the same -/
def AccOk (all : List Bool) (a b : List Fp) : Prop := a.length = b.length ∧ ∀ j : Nat, all[j]? = some true → a[j]? = b[j]?
theorem apart_acc {all : List Bool} {a b : List Fp} {f : Fp} {u : List Nat} (ha : AccOk all a b) (hu : u.all (fun j => decide (all[j]? = some true)) = true) : u.all (apartAt a f) = u.all (apartAt b f) := by
  rw [Bool.eq_iff_iff, List.all_eq_true, List.all_eq_true]
  simp only [List.all_eq_true, decide_eq_true_eq] at hu
  have e : ∀ j ∈ u, apartAt a f j = apartAt b f j := fun j hj => by unfold apartAt; rw [ha.2 j (hu j hj)]
  exact ⟨fun h j hj => (e j hj) ▸ h j hj, fun h j hj => (e j hj).symm ▸ h j hj⟩
theorem accOk_snoc {all pre r : List Bool} {n : Bool} {a b : List Fp} {f : Fp} (ha : AccOk all a b) (hall : all = pre ++ n :: r) (hl : a.length = pre.length) : AccOk all (a ++ [if n = true then f else fp0]) (b ++ [f]) := by
  refine ⟨by simp [ha.1], fun j hj => ?_⟩
  by_cases e : j < a.length
  · rw [List.getElem?_append_left e, List.getElem?_append_left (ha.1 ▸ e)]; exact ha.2 j hj
  · by_cases e2 : j = a.length
    · subst e2
      have : all[a.length]? = some n := by rw [hall, hl]; simp
      rw [this] at hj
      cases hj
      rw [List.getElem?_append_right (Nat.le_refl _), ha.1, List.getElem?_append_right (Nat.le_refl _)]
      simp
    · rw [List.getElem?_eq_none (by simp; omega), List.getElem?_eq_none (by simp [← ha.1]; omega)]
theorem runC_eq {ops : List Oper} {all : List Bool} : ∀ (l : List Oper) (pre ns : List Bool) (us : List (List Nat)) (c : Cf) (acc acc' : List Fp), l.all (guardOk ops) = true → us.length = l.length → ns.length = l.length → all = pre ++ ns → us.all (fun u => u.all fun j => decide (all[j]? = some true)) = true → AccOk all acc' acc → acc'.length = pre.length →
    runC P call h (lfs h ops ns us l) c acc' = (runOpsF P call h ops l c).bind fun p => if checkUs acc us p.2 = true then some p.1.1 else none
  | [], pre, [], [], c, acc, acc', _, _, _, _, _, _, _ => rfl
  | o :: l, pre, n :: ns, u :: us, c, acc, acc', hg, hl, hn, hall, hu, ha, hp => by
    simp only [List.all_cons, Bool.and_eq_true] at hg hu
    simp only [lfs, runC, runOpsF, runOpF, ← evalF_lf (u := u) (nd := n) hg.1]
    cases evalO P call h ops o c.1 with
    | none => rfl
    | some q =>
      obtain ⟨w, v, k⟩ := q
      simp only [Option.bind_some, Option.map_some, ← fpW_lf, show (lfOf h ops n u o).u = u from rfl, show (lfOf h ops n u o).d = o.dst from rfl, show (lfOf h ops n u o).nd = n from rfl, apart_acc ha hu.1]
      rw [runC_eq l (pre ++ [n]) ns us _ (acc ++ [fpOf h ops o c.2 c.1 w v k]) _ hg.2 (by simpa using hl) (by simpa using hn) (by simp [hall]) hu.2 (accOk_snoc ha hall hp) (by simp [hp])]
      cases runOpsF P call h ops l (c.1.fin o.dst v k, histAdd c.2 k.tr o.dst v) with
      | none => simp
      | some p =>
        simp only [Option.bind_some, Option.map_some, checkUs, Bool.and_eq_true]
        by_cases e : u.all (apartAt acc (fpOf h ops o c.2 c.1 w v k)) = true
        · simp only [e, if_true, true_and]
        · simp only [e, if_false, false_and, Bool.false_eq_true, ↓reduceIte]

/-! ### the order's own check -/
theorem checkRow_iff {b : Nat} {f : Fp} : ∀ (l : List Fp) (j : Nat), checkRow b f j l = true ↔ ∀ i g, l[i]? = some g → b.testBit (j + i) = true ∨ apartFp g f = true
  | [], j => by simp [checkRow]
  | x :: l, j => by
    simp only [checkRow, Bool.and_eq_true, Bool.or_eq_true, checkRow_iff l (j + 1)]
    constructor
    · rintro ⟨h1, h2⟩ i g hi
      cases i with
      | zero => simp only [List.getElem?_cons_zero, Option.some.injEq] at hi; subst hi; exact h1
      | succ i => rw [show j + (i + 1) = j + 1 + i by omega]; exact h2 i g (by simpa using hi)
    · intro hh
      exact ⟨hh 0 x rfl, fun i g hi => by rw [show j + 1 + i = j + (i + 1) by omega]; exact hh (i + 1) g (by simpa using hi)⟩
def FpOk (h : Hint) (ops : List Oper) (o : Oper) (f : Fp) : Prop := effOf h (o.dst.getD 0) o.op = false → PureFp ops o f
def rowU (h : Hint) (ops : List Oper) (b : Nat) (u : List Nat) (y : Oper) : Nat → List Oper → Bool
  | _, [] => true
  | j, x :: r => ((b.testBit j && !u.contains j) || (!b.testBit j && (u.contains j || (slotsApart ops x y && !effOf h (x.dst.getD 0) x.op && !effOf h (y.dst.getD 0) y.op)))) && rowU h ops b u y (j + 1) r
def allU (h : Hint) (ops : List Oper) : Nat → List Nat → List (List Nat) → List Oper → Bool
  | i, b :: bs, u :: us, y :: r => u.all (fun j => decide (j < i)) && rowU h ops b u y 0 (ops.take i) && allU h ops (i + 1) bs us r
  | _, [], [], [] => true
  | _, _, _, _ => false
theorem All2.at' {α β : Type} {R : α → β → Prop} : ∀ {as : List α} {l : List β}, All2 R as l → ∀ (i : Nat) b, l[i]? = some b → ∃ a, as[i]? = some a ∧ R a b
  | [], l, ha, i, b, hb => by rw [show l = [] from ha] at hb; simp at hb
  | a :: as, l, ha, i, b, hb => by
    obtain ⟨b', r, rfl, h1, h2⟩ := ha
    cases i with
    | zero => simp only [List.getElem?_cons_zero, Option.some.injEq] at hb; subst hb; exact ⟨a, rfl, h1⟩
    | succ i => obtain ⟨a', q1, q2⟩ := All2.at' h2 i b (by simpa using hb); exact ⟨a', by simpa using q1, q2⟩
theorem rowU_at {ops : List Oper} {b : Nat} {u : List Nat} {y : Oper} : ∀ (l : List Oper) (j : Nat), rowU h ops b u y j l = true → ∀ i x, l[i]? = some x → (b.testBit (j + i) = true ∧ (j + i) ∉ u) ∨ (b.testBit (j + i) = false ∧ ((j + i) ∈ u ∨ (slotsApart ops x y = true ∧ effOf h (x.dst.getD 0) x.op = false ∧ effOf h (y.dst.getD 0) y.op = false)))
  | [], j, _, i, x, hx => by simp at hx
  | z :: l, j, hr, i, x, hx => by
    simp only [rowU, Bool.and_eq_true, Bool.or_eq_true, Bool.not_eq_true', List.contains_eq_mem, decide_eq_false_iff_not, decide_eq_true_eq] at hr
    cases i with
    | zero => simp only [List.getElem?_cons_zero, Option.some.injEq] at hx; subst hx; simpa [and_assoc] using hr.1
    | succ i => rw [show j + (i + 1) = j + 1 + i by omega]; exact rowU_at l (j + 1) hr.2 i x (by simpa using hx)
theorem row_iff {ops l : List Oper} {b : Nat} {u : List Nat} {y : Oper} {f : Fp} {acc : List Fp} (hu : u.all (fun j => decide (j < acc.length)) = true) (hr : rowU h ops b u y 0 l = true) (ha : All2 (FpOk h ops) l acc) (hy : FpOk h ops y f) : checkRow b f 0 acc = u.all (apartAt acc f) := by
  rw [Bool.eq_iff_iff, checkRow_iff, List.all_eq_true]
  simp only [List.all_eq_true, decide_eq_true_eq] at hu
  constructor
  · intro hh j hj
    have hlt := hu j hj
    obtain ⟨x, hx, _⟩ := All2.at' ha j acc[j] (by simp [hlt])
    have := rowU_at l 0 hr j x hx
    simp only [Nat.zero_add] at this
    rcases this with ⟨_, h2⟩ | ⟨h1, _⟩
    · exact absurd hj h2
    · simp only [apartAt, List.getElem?_eq_getElem hlt]
      rcases hh j acc[j] (by simp [hlt]) with h3 | h3
      · rw [Nat.zero_add, h1] at h3; cases h3
      · exact h3
  · intro hh i g hi
    obtain ⟨x, hx, hx2⟩ := All2.at' ha i g hi
    have := rowU_at l 0 hr i x hx
    simp only [Nat.zero_add] at this ⊢
    rcases this with ⟨h1, _⟩ | ⟨_, h2 | ⟨h2, h3, h4⟩⟩
    · exact .inl h1
    · right; have := hh i h2; simpa [apartAt, hi] using this
    · exact .inr (apart_pure (hx2 h3) (hy h4) h2)
theorem All2.snoc {α β : Type} {R : α → β → Prop} {a : α} {b : β} : ∀ {as : List α} {l : List β}, All2 R as l → R a b → All2 R (as ++ [a]) (l ++ [b])
  | [], l, ha, hr => by rw [show l = [] from ha]; exact ⟨b, [], rfl, hr, rfl⟩
  | x :: as, l, ha, hr => by
    obtain ⟨b', r, rfl, h1, h2⟩ := ha
    exact ⟨b', r ++ [b], rfl, h1, All2.snoc h2 hr⟩
theorem All2.leng {α β : Type} {R : α → β → Prop} : ∀ {as : List α} {l : List β}, All2 R as l → l.length = as.length
  | [], l, ha => by rw [show l = [] from ha]; rfl
  | x :: as, l, ha => by obtain ⟨b', r, rfl, h1, h2⟩ := ha; simp [All2.leng h2]
theorem checkF_us {ops : List Oper} {all : List Fp} : ∀ (l : List Oper) (pre : List Oper) (fs acc : List Fp) (bs : List Nat) (us : List (List Nat)), ops = pre ++ l → all = acc ++ fs → All2 (FpOk h ops) pre acc → All2 (FpOk h ops) l fs → allU h ops pre.length bs us l = true → checkF all pre.length bs fs = checkUs acc us fs
  | [], pre, fs, acc, bs, us, _, _, _, ha, hu => by
    rw [show fs = [] from ha]
    cases bs <;> cases us <;> simp [checkF, checkUs]
  | y :: l, pre, fs, acc, bs, us, ho, hall, hp, ha, hu => by
    obtain ⟨f, r, rfl, h1, h2⟩ := ha
    cases bs with
    | nil => cases us <;> simp [allU] at hu
    | cons b bs =>
      cases us with
      | nil => simp [allU] at hu
      | cons u us =>
        simp only [allU, Bool.and_eq_true] at hu
        simp only [checkF, checkUs]
        have hlen := All2.leng hp
        have t1 : ops.take pre.length = pre := by rw [ho]; simp
        have t2 : all.take pre.length = acc := by rw [hall, ← hlen]; simp
        rw [t1] at hu
        rw [t2, row_iff (hlen ▸ hu.1.1) hu.1.2 hp h1]
        have := checkF_us (ops := ops) (all := all) l (pre ++ [y]) r (acc ++ [f]) bs us (by simp [ho]) (by simp [hall]) (All2.snoc hp h1) h2 (by simpa using hu.2)
        rw [← this]; simp
theorem runOpsF_ok {ops : List Oper} : ∀ (l : List Oper) {c c' : Cf} {fs : List Fp}, runOpsF P call h ops l c = some (c', fs) → All2 (FpOk h ops) l fs
  | [], c, c', fs, e => by simp only [runOpsF, Option.some.injEq, Prod.mk.injEq] at e; exact e.2 ▸ rfl
  | o :: l, c, c', fs, e => by
    simp only [runOpsF, Option.bind_eq_some_iff, Option.map_eq_some_iff, Prod.mk.injEq] at e
    obtain ⟨⟨c1, f⟩, e1, ⟨c2, fs'⟩, e2, rfl, rfl⟩ := e
    refine ⟨f, fs', rfl, fun he => ?_, runOpsF_ok l e2⟩
    obtain ⟨c1', f', q1, _, q3⟩ := runOpF_pure (ops := ops) he (runOpF_op e1)
    rw [e1] at q1
    simp only [Option.some.injEq, Prod.mk.injEq] at q1
    rw [q1.2]; exact q3
def regOkD (h : Hint) (id : Nat) (ls : List Nat) (ns : List Bool) (us : List (List Nat)) (c : Code) : Bool :=
  match c with
  | .region i ops dr => decide (i = id) && ops.toList.all (guardOk ops.toList) && dr && (match befs ops.toList [] with | some bs => allU h ops.toList 0 bs us ops.toList | none => false) && decide (us.length = ops.toList.length) && decide (ns.length = ops.toList.length) && us.all (fun u => u.all fun j => decide (ns[j]? = some true)) && decide (h.live id = ls)
  | _ => false
def lfsOf (h : Hint) (ns : List Bool) (us : List (List Nat)) (c : Code) : List LF := match c with | .region _ ops _ => lfs h ops.toList ns us ops.toList | _ => []
/-- a region that draws -/
theorem rgD_eq {c : Code} {id : Nat} {ls : List Nat} {ns : List Bool} {us : List (List Nat)} {L : List LF} (hk : regOkD h id ls ns us (rg c id) = true) (hL : lfsOf h ns us (rg c id) = L) (s : St) : codeX P hints h (rg c id) s = (runC P (callX P hints) h L (s, hist0 s) []).bind fun s' => some (.normal, prune ls s') := by
  generalize rg c id = c at hk hL
  unfold regOkD at hk
  split at hk
  · rename_i i ops dr
    simp only [Bool.and_eq_true, decide_eq_true_eq] at hk
    obtain ⟨⟨⟨⟨⟨⟨⟨rfl, hg⟩, rfl⟩, hb⟩, hn⟩, hns⟩, hu⟩, hl⟩ := hk
    subst hL
    simp only [lfsOf]
    rw [codeX_draw, runC_eq (all := ns) ops.toList [] ns us _ [] [] hg hn hns rfl hu ⟨rfl, fun _ _ => rfl⟩ rfl, hl]
    split at hb
    · rename_i bs hbs
      cases e : runOpsF P (callX P hints) h ops.toList ops.toList (s, hist0 s) with
      | none => rfl
      | some p =>
        obtain ⟨c', fs⟩ := p
        have ha := runOpsF_ok _ e
        have : checkR ops.toList fs = checkUs [] us fs := by
          unfold checkR
          rw [hbs]
          exact checkF_us ops.toList [] fs [] bs us rfl rfl rfl ha hb
        simp only [Option.bind_some, this]
        by_cases hc : checkUs [] us fs = true <;> simp [hc]
    · cases hb
  · cases hk

/-! ### as equations -/
variable {r : List LF} {d : Option Nat} {ty : TypeId} {op : Op} {lk u : List Nat} {nd eff rds hr ho : Bool} {env : List (Nat × SV)} {ct : List ((Nat × Nat) × T)} {H : List Ob} {hi : Hist} {acc : List Fp}
@[go_sem] theorem runC_nil {c : Cf} : runC P call h [] c acc = some c.1 := rfl
/-- go on behind an operation -/
def nextC (P : Program) (call : CallF) (h : Hint) (o : LF) (r : List LF) (c : Cf) (acc : List Fp) (w : Bool) (v : SV) (k : Wk) : Option St :=
  if o.u.all (apartAt acc (fpW o c.2 c.1 w v k)) = true then runC P call h r (c.1.fin o.d v k, histAdd c.2 k.tr o.d v) (acc ++ [if o.nd = true then fpW o c.2 c.1 w v k else fp0]) else none
@[go_sem] theorem runC_plain : runC P call h (⟨d, none, ty, op, lk, u, nd, eff, rds, hr, ho⟩ :: r) (⟨env, ct, H⟩, hi) acc = (stepE P call h (d.getD 0) ty op (St.val ⟨env, ct, H⟩) ⟨ct, H, []⟩).bind fun p => nextC P call h ⟨d, none, ty, op, lk, u, nd, eff, rds, hr, ho⟩ r (⟨env, ct, H⟩, hi) acc true p.1 p.2 := by
  simp only [runC, evalF, wantF, Option.bind_some, if_true, Option.bind_assoc]
  rfl
def guardC (P : Program) (call : CallF) (h : Hint) (o : LF) (want : Bool) (r : List LF) (c : Cf) (acc : List Fp) (v : SV) : Option St :=
  match v with
  | .d (.bool b) => if b = want then (stepE P call h (o.d.getD 0) o.ty o.op c.1.val c.1.wk).bind fun p => nextC P call h o r c acc true p.1 p.2 else nextC P call h o r c acc false (.tup []) c.1.wk
  | .tup [] => nextC P call h o r c acc false (.tup []) c.1.wk
  | _ => none
@[go_sem] theorem runC_guard {t : Nat} {want : Bool} {c : Cf} : runC P call h (⟨d, some (t, want), ty, op, lk, u, nd, eff, rds, hr, ho⟩ :: r) c acc = guardC P call h ⟨d, some (t, want), ty, op, lk, u, nd, eff, rds, hr, ho⟩ want r c acc (c.1.get t) := by
  simp only [runC, evalF, wantF, guardC]
  have hb : ∀ b : Bool, (((some (b == want)).bind fun w => if w = true then (stepE P call h (d.getD 0) ty op c.1.val c.1.wk).bind fun p => some (true, p.1, p.2) else some (false, .tup [], c.1.wk)).bind fun q => nextC P call h ⟨d, some (t, want), ty, op, lk, u, nd, eff, rds, hr, ho⟩ r c acc q.1 q.2.1 q.2.2) = if b = want then (stepE P call h (d.getD 0) ty op c.1.val c.1.wk).bind fun p => nextC P call h ⟨d, some (t, want), ty, op, lk, u, nd, eff, rds, hr, ho⟩ r c acc true p.1 p.2 else nextC P call h ⟨d, some (t, want), ty, op, lk, u, nd, eff, rds, hr, ho⟩ r c acc false (.tup []) c.1.wk := by
    intro b
    by_cases e : b = want
    · subst e; simp only [Option.bind_some, beq_self_eq_true, if_true, Option.bind_assoc]
    · have : (b == want) = false := by simpa using e
      simp only [this, Option.bind_some, e, if_false, Bool.false_eq_true]
  generalize c.1.get t = v
  cases v with
  | d x =>
    cases x with
    | bool b => exact hb b
    | _ => rfl
  | tup l =>
    cases l with
    | nil => rfl
    | cons _ _ => rfl
  | _ => rfl
@[go_sem] theorem guardC_bool {o : LF} {want b : Bool} {c : Cf} : guardC P call h o want r c acc (.d (.bool b)) = if b = want then (stepE P call h (o.d.getD 0) o.ty o.op c.1.val c.1.wk).bind fun p => nextC P call h o r c acc true p.1 p.2 else nextC P call h o r c acc false (.tup []) c.1.wk := rfl
@[go_sem] theorem guardC_skip {o : LF} {want : Bool} {c : Cf} : guardC P call h o want r c acc (.tup []) = nextC P call h o r c acc false (.tup []) c.1.wk := rfl
variable {g : Option (Nat × Bool)} {c : Cf} {w : Bool} {v : SV} {ct' : List ((Nat × Nat) × T)} {H' : List Ob} {tr : List Tr}
@[go_sem] theorem nextC_quiet : nextC P call h ⟨d, g, ty, op, lk, [], false, eff, rds, hr, ho⟩ r c acc w v ⟨ct', H', tr⟩ = runC P call h r (c.1.fin d v ⟨ct', H', tr⟩, histAdd c.2 tr d v) (acc ++ [fp0]) := by
  simp [nextC]
@[go_sem] theorem nextC_last {u : List Nat} {n : Nat} : nextC P call h ⟨d, g, ty, op, lk, n :: u, false, eff, rds, hr, ho⟩ r c acc w v ⟨ct', H', tr⟩ =
    if (n :: u).all (apartAt acc (fpW ⟨d, g, ty, op, lk, n :: u, false, eff, rds, hr, ho⟩ c.2 c.1 w v ⟨ct', H', tr⟩)) = true then runC P call h r (c.1.fin d v ⟨ct', H', tr⟩, histAdd c.2 tr d v) (acc ++ [fp0]) else none := by
  simp [nextC]
@[go_sem] theorem nextC_mk : nextC P call h ⟨d, g, ty, op, lk, u, true, eff, rds, hr, ho⟩ r c acc w v ⟨ct', H', tr⟩ =
    if u.all (apartAt acc (fpW ⟨d, g, ty, op, lk, u, true, eff, rds, hr, ho⟩ c.2 c.1 w v ⟨ct', H', tr⟩)) = true then runC P call h r (c.1.fin d v ⟨ct', H', tr⟩, histAdd c.2 tr d v) (acc ++ [fpW ⟨d, g, ty, op, lk, u, true, eff, rds, hr, ho⟩ c.2 c.1 w v ⟨ct', H', tr⟩]) else none := by
  simp [nextC]
@[go_sem] theorem histAdd_nil {n : Nat} : histAdd hi [] (some n) v = (n, v.srts) :: hi := by
  have : ∀ l : Hist, (l.map fun p => (p.1, histTr [] p.2)) = l := fun l => by induction l with | nil => rfl | cons a r ih => simp only [List.map_cons, ih]; rfl
  simp only [histAdd, this]
@[go_sem] theorem histAdd_none : histAdd hi [] none v = hi := by
  have : ∀ l : Hist, (l.map fun p => (p.1, histTr [] p.2)) = l := fun l => by induction l with | nil => rfl | cons a r ih => simp only [List.map_cons, ih]; rfl
  simp only [histAdd, this]
def histMap (tr : List Tr) : Hist → Hist
  | [] => []
  | p :: r => (p.1, histTr tr p.2) :: histMap tr r
theorem histMap_eq (tr : List Tr) : ∀ l : Hist, (l.map fun p => (p.1, histTr tr p.2)) = histMap tr l
  | [] => rfl
  | p :: r => by simp only [List.map_cons, histMap, histMap_eq tr r]
@[go_sem] theorem histMap_nil : histMap tr [] = [] := rfl
@[go_sem] theorem histMap_cons {n : Nat} {l : List Root} {r : Hist} : histMap tr ((n, l) :: r) = (n, histTr tr l) :: histMap tr r := rfl
@[go_sem] theorem histAdd_cons {x : Tr} {n : Nat} : histAdd hi (x :: tr) (some n) v = (n, v.srts) :: histMap (x :: tr) hi := by simp only [histAdd, histMap_eq]
@[go_sem] theorem histAdd_consN {x : Tr} : histAdd hi (x :: tr) none v = histMap (x :: tr) hi := by simp only [histAdd, histMap_eq]
@[go_sem] theorem hist_kill {r : Root} {p : Path} {l : List Root} : Tr.hist (.kill r p) l = l := rfl
@[go_sem] theorem hist_killN {r : Root} {n : Nat} {l : List Root} : Tr.hist (.killN r n) l = l := rfl
@[go_sem] theorem hist_frz {r : Root} {p : Path} {x : List D} {l : List Root} : Tr.hist (.frz r p x) l = l := rfl
@[go_sem] theorem hist_killO {l : List Root} : Tr.hist .killO l = l := rfl
@[go_sem] theorem hist_ren {a b : Nat × Nat} {l : List Root} : Tr.hist (.ren a b) l = if l.any (fun r => decide (r = .l a.1 a.2)) = true then .l b.1 b.2 :: l else l := rfl
@[go_sem] theorem looks_nilR {t : Nat} : look ([] : List (Nat × List Root)) t = none := rfl
@[go_sem] theorem looks_consR {k t : Nat} {v : List Root} {r : List (Nat × List Root)} : look ((k, v) :: r) t = if k = t then some v else look r t := rfl
attribute [go_sem] fpW histTr histOf newKeys hist0 SV.srts SV.srtss SV.rts SV.rtss Root.isO Tr.isKillO Tr.isRen Tr.rts apartAt apartFp meet
end
end Go.Am
