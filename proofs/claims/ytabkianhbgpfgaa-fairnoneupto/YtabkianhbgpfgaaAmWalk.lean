/- The abstract machine: how code is gone through, by equations on states that are written out. -/
import Derived.Test.YtabkianhbgpfgaaAmLim
namespace Go.Am
open Go
set_option linter.unusedSimpArgs false
set_option linter.unusedVariables false

section
variable {P : Program} {hints : FuncId → Hint} {call : CallF} {h : Hint}

/-! ### code -/
def exOut (id : Nat) (e : Ex) : Ex := if e = .exit id then .normal else e
theorem exOut_normal (id : Nat) : exOut id .normal = .normal := rfl
theorem exOut_ret (id : Nat) : exOut id .ret = .ret := rfl
theorem exOut_exit (id j : Nat) : exOut id (.exit j) = if j = id then .normal else .exit j := by
  unfold exOut; by_cases h : j = id <;> simp [h]
theorem codeX_block' {id : Nat} {a : Code} {s : St} : codeX P hints h (.block id a) s = (codeX P hints h a s).bind fun r => some (exOut id r.1, r.2) := by
  rw [codeX_block, Option.map_eq_bind]; rfl
theorem thenX_normal {b : Code} {s : St} : thenX P hints h b (.normal, s) = codeX P hints h b s := rfl
theorem thenX_ret {b : Code} {s : St} : thenX P hints h b (.ret, s) = some (.ret, s) := rfl
theorem thenX_exit {b : Code} {s : St} {i : Nat} : thenX P hints h b (.exit i, s) = some (.exit i, s) := rfl
noncomputable def condX (P : Program) (hints : FuncId → Hint) (h : Hint) (v : SV) (a b : Code) (s : St) : Option (Ex × St) := match v with | .d (.bool t) => if t then codeX P hints h a s else codeX P hints h b s | _ => none
theorem codeX_cond' {o : Operand} {a b : Code} {s : St} : codeX P hints h (.cond o a b) s = condX P hints h (s.val o) a b s := codeX_cond
theorem condX_bool {t : Bool} {a b : Code} {s : St} : condX P hints h (.d (.bool t)) a b s = if t = true then codeX P hints h a s else codeX P hints h b s := rfl

/-! ### regions -/
theorem codeX_region' {id : Nat} {ops : Array Oper} {s : St} : codeX P hints h (.region id ops false) s = (runOps P (callX P hints) h ops.toList ops.toList s).bind fun s' => some (.normal, prune (h.live id) s') := by
  rw [codeX_region, Option.map_eq_bind]; rfl
theorem runOps_nil {ops : List Oper} {s : St} : runOps P call h ops [] s = some s := rfl
theorem runOps_cons {ops r : List Oper} {o : Oper} {s : St} : runOps P call h ops (o :: r) s = (runOp P call h ops o s).bind fun s' => runOps P call h ops r s' := rfl
def stepS (P : Program) (call : CallF) (h : Hint) (d : Option Nat) (ty : TypeId) (op : Op) (s : St) : Option St := (stepE P call h (d.getD 0) ty op s.val s.wk).bind fun p => some (s.fin d p.1 p.2)
theorem runOp_plain {ops : List Oper} {d : Option Nat} {op : Op} {ty : TypeId} {pos : String} {after : Array Edge} {s : St} : runOp P call h ops { dst := d, op := op, type := ty, pos := pos, after := after, guard := none } s = stepS P call h d ty op s := by
  show (stepE P call h (d.getD 0) ty op s.val s.wk).map _ = _
  rw [Option.map_eq_bind]; rfl
def stepG (P : Program) (call : CallF) (h : Hint) (d : Option Nat) (ty : TypeId) (op : Op) (want : Bool) (g : SV) (s : St) : Option St :=
  match g with
  | .d (.bool b) => if b = want then stepS P call h d ty op s else some (s.fin d (.tup []) s.wk)
  | .tup [] => some (s.fin d (.tup []) s.wk)
  | _ => none
theorem stepG_bool {d : Option Nat} {ty : TypeId} {op : Op} {want b : Bool} {s : St} : stepG P call h d ty op want (.d (.bool b)) s = if b = want then stepS P call h d ty op s else some (s.fin d (.tup []) s.wk) := rfl
theorem stepG_skip {d : Option Nat} {ty : TypeId} {op : Op} {want : Bool} {s : St} : stepG P call h d ty op want (.tup []) s = some (s.fin d (.tup []) s.wk) := rfl
/-- the slot of a guard -/
def gslot (ops : List Oper) (j : Nat) : Nat := ((ops[j]?).bind (·.dst)).getD 0
theorem runOp_guard {ops : List Oper} {d : Option Nat} {op : Op} {ty : TypeId} {pos : String} {after : Array Edge} {j : Nat} {want : Bool} {s : St} (hj : ((ops[j]?).bind (·.dst)).isSome = true) :
    runOp P call h ops { dst := d, op := op, type := ty, pos := pos, after := after, guard := some (j, want) } s = stepG P call h d ty op want (s.get (gslot ops j)) s := by
  obtain ⟨t, ht⟩ := Option.isSome_iff_exists.1 hj
  have hg : gslot ops j = t := by simp [gslot, ht]
  rw [hg]
  simp only [runOp, wantE, ht]
  generalize s.get t = g
  have hp : ∀ b : Bool, ((some b).bind fun w => if w = true then (stepE P call h (d.getD 0) ty op s.val s.wk).map fun p => s.fin d p.1 p.2 else some (s.fin d (.tup []) s.wk)) = if b = true then stepS P call h d ty op s else some (s.fin d (.tup []) s.wk) := fun b => by
    cases b
    · rfl
    · simp only [Option.bind_some, if_true, stepS]; rw [Option.map_eq_bind]; rfl
  cases g with
  | d x =>
    cases x with
    | bool b =>
      refine (hp (b == want)).trans ?_
      cases b <;> cases want <;> rfl
    | _ => rfl
  | tup l =>
    cases l with
    | nil => exact hp false
    | cons _ _ => rfl
  | _ => rfl

/-! ### states -/
theorem val_tmp {s : St} {t : Nat} : s.val (.tmp t) = s.get t := rfl
theorem val_int {s : St} {k : IntKind} {n : Int} : s.val (.const (.int k n)) = .d (.int k n) := rfl
theorem val_bool {s : St} {b : Bool} : s.val (.const (.bool b)) = .d (.bool b) := rfl
theorem val_str {s : St} {b : ByteArray} : s.val (.const (.string b)) = .d (.str b.data.toList) := rfl
theorem val_nils {s : St} : s.val (.const (.slice none 0 0)) = .d .nils := rfl
theorem val_nilp {s : St} : s.val (.const (.pointer none)) = .d .nilp := rfl
theorem val_nilm {s : St} : s.val (.const (.map none)) = .d .nilm := rfl
theorem val_nilf {s : St} : s.val (.const .nilFunc) = .d .nilf := rfl
theorem val_nili {s : St} : s.val (.const .nilIface) = .d .nili := rfl
theorem val_func {s : St} {f : FuncId} : s.val (.func f) = .d (.fn (.func f) [] []) := rfl
theorem val_agg {s : St} {cs : Array Value} : s.val (.const (.agg cs)) = match (cs.toList.mapM D.ofCell).map D.agg with | some x => .d x | none => .dead := rfl
theorem get_mk {env : List (Nat × SV)} {ct : List ((Nat × Nat) × T)} {H : List Ob} {t : Nat} : St.get ⟨env, ct, H⟩ t = (look env t).getD .dead := rfl
theorem look_nil {t : Nat} : look ([] : List (Nat × SV)) t = none := rfl
theorem look_cons {k t : Nat} {v : SV} {r : List (Nat × SV)} : look ((k, v) :: r) t = if k = t then some v else look r t := rfl
theorem lookL_nil {t : Nat} : look ([] : List (Nat × List Nat)) t = none := rfl
theorem lookL_cons {k t : Nat} {v : List Nat} {r : List (Nat × List Nat)} : look ((k, v) :: r) t = if k = t then some v else look r t := rfl
theorem lookR_nil {t : Nat × Nat} : lookR ([] : List ((Nat × Nat) × T)) t = none := rfl
theorem lookR_cons {a b c d : Nat} {v : T} {r : List ((Nat × Nat) × T)} : lookR (((a, b), v) :: r) (c, d) = if a = c ∧ b = d then some v else lookR r (c, d) := by
  simp only [lookR, Prod.mk.injEq]
theorem wk_mk {env : List (Nat × SV)} {ct : List ((Nat × Nat) × T)} {H : List Ob} : St.wk ⟨env, ct, H⟩ = ⟨ct, H, []⟩ := rfl
theorem fin_some {env : List (Nat × SV)} {ct ct' : List ((Nat × Nat) × T)} {H H' : List Ob} {d : Nat} {v : SV} {tr : List Tr} : St.fin ⟨env, ct, H⟩ (some d) v ⟨ct', H', tr⟩ = ⟨(d, v) :: trs tr env, ct', H'⟩ := rfl
theorem fin_none {env : List (Nat × SV)} {ct ct' : List ((Nat × Nat) × T)} {H H' : List Ob} {v : SV} {tr : List Tr} : St.fin ⟨env, ct, H⟩ none v ⟨ct', H', tr⟩ = ⟨trs tr env, ct', H'⟩ := rfl
theorem trs_nil {env : List (Nat × SV)} : trs [] env = env := rfl
theorem trs_cons {x : Tr} {r : List Tr} {env : List (Nat × SV)} : trs (x :: r) env = trs r (x.env env) := rfl
theorem trenv_nil {x : Tr} : x.env [] = [] := rfl
theorem trenv_cons {x : Tr} {t : Nat} {v : SV} {r : List (Nat × SV)} : x.env ((t, v) :: r) = (t, x.sv v) :: x.env r := rfl
theorem sv_d {x : Tr} {y : D} : x.sv (.d y) = .d y := by cases x <;> rfl
theorem sv_rp {x : Tr} {b : Bool} {y : List D} : x.sv (.rp b y) = .rp b y := by cases x <;> rfl
theorem sv_clip {x : Tr} {b : Bool} {y : List D} : x.sv (.clip b y) = .clip b y := by cases x <;> rfl
theorem sv_dead {x : Tr} : x.sv .dead = .dead := by cases x <;> rfl
theorem sv_agg {x : Tr} {l : List SV} : x.sv (.agg l) = .agg (l.map x.sv) := by
  have : ∀ l, Tr.svs x l = l.map x.sv := fun l => by induction l with | nil => rfl | cons a r ih => simp [Tr.svs, ih]
  rw [← this]; cases x <;> rfl
theorem sv_tup {x : Tr} {l : List SV} : x.sv (.tup l) = .tup (l.map x.sv) := by
  have : ∀ l, Tr.svs x l = l.map x.sv := fun l => by induction l with | nil => rfl | cons a r ih => simp [Tr.svs, ih]
  rw [← this]; cases x <;> rfl
theorem trv_nil {v : SV} : trv [] v = v := rfl
theorem trv_cons {x : Tr} {r : List Tr} {v : SV} : trv (x :: r) v = trv r (x.sv v) := rfl
def envOf (s : St) : List Nat → List (Nat × SV)
  | [] => []
  | t :: r => (t, s.get t) :: envOf s r
theorem prune_eq {live : List Nat} {s : St} : prune live s = ⟨envOf s live, pick s.ct (dedup (SV.rootss ((envOf s live).map (·.2)))), s.H⟩ := by
  have : ∀ l : List Nat, (l.map fun t => (t, s.get t)) = envOf s l := fun l => by induction l with | nil => rfl | cons a r ih => simp [envOf, ih]
  simp only [prune, this]
theorem prune_mk {live : List Nat} {env : List (Nat × SV)} {ct : List ((Nat × Nat) × T)} {H : List Ob} : prune live ⟨env, ct, H⟩ = ⟨envOf ⟨env, ct, H⟩ live, pick ct (dedup (SV.rootss ((envOf ⟨env, ct, H⟩ live).map (·.2)))), H⟩ := prune_eq
theorem envOf_nil {s : St} : envOf s [] = [] := rfl
theorem envOf_cons {s : St} {t : Nat} {r : List Nat} : envOf s (t :: r) = (t, s.get t) :: envOf s r := rfl
theorem enter_eq {ds : List D} {H : List Ob} : enter ds H = ⟨(ds.zipIdx).map fun p => (p.2, .d p.1), [], H⟩ := rfl

/-! ### operations -/
section
variable {dst : Nat} {ty : TypeId} {ρ : Operand → SV} {k : Wk}
theorem st_move {x : Operand} : stepE P call h dst ty (.move x) ρ k = some (ρ x, k) := rfl
theorem st_assign {x : Operand} : stepE P call h dst ty (.assign x) ρ k = assignE dst (elemOf P ty).isSome (ρ x) k := rfl
theorem st_pick {c a b : Operand} : stepE P call h dst ty (.pick c a b) ρ k = match ρ c with | .d (.bool t) => some (if t = true then ρ a else ρ b, k) | _ => none := rfl
theorem st_alloc {e : TypeId} : stepE P call h dst ty (.alloc e) ρ k = (zeroOf P e).bind fun z => boxE h dst (T.ofZero z) k := rfl
theorem st_box {e : TypeId} {x : Operand} : stepE P call h dst ty (.box e x) ρ k = (absorb h.nv (ρ x) k).bind fun p => if p.1.nc = P.cellsOf e then boxE h dst p.1 p.2 else none := rfl
theorem st_build {t : TypeId} {ps : Array (Nat × Operand)} : stepE P call h dst ty (.build t ps) ρ k = (buildE P t (ps.toList.map fun p => (p.1, ρ p.2))).bind fun v => some (v, k) := by
  show Option.map _ _ = _; rw [Option.map_eq_bind]; rfl
theorem st_buildSlice {t : TypeId} {n : Nat} {ps : Array (Nat × Operand)} : stepE P call h dst ty (.buildSlice t n ps) ρ k = buildSliceE P h.nv dst (h.lits.contains dst) t n (ps.toList.map fun p => (p.1, ρ p.2)) k := rfl
theorem st_load {t : TypeId} {a : Operand} : stepE P call h dst ty (.load t a) ρ k = (loadE P t (ρ a) k).bind fun v => some (v, k) := by
  show Option.map _ _ = _; rw [Option.map_eq_bind]; rfl
theorem st_store {t : TypeId} {a x : Operand} : stepE P call h dst ty (.store t a x) ρ k = (storeE P h.nv t (ρ a) (ρ x) k).bind fun k => some (.dead, k) := by
  show Option.map _ _ = _; rw [Option.map_eq_bind]; rfl
theorem st_binOp {op : BinOp} {t t' : TypeId} {x y : Operand} : stepE P call h dst ty (.binOp op t x y t') ρ k = (binE P (isConst x || isConst y) op t (ρ x) (ρ y)).bind fun y => some (.d y, k) := by
  show Option.map _ _ = _; rw [Option.map_eq_bind]; rfl
theorem st_unOp {op : UnOp} {t : TypeId} {x : Operand} : stepE P call h dst ty (.unOp op t x) ρ k = (unE op (ρ x)).bind fun y => some (.d y, k) := by
  show Option.map _ _ = _; rw [Option.map_eq_bind]; rfl
theorem st_convert {s t : TypeId} {x : Operand} : stepE P call h dst ty (.convert s t x) ρ k = (convE P s t (ρ x)).bind fun y => some (.d y, k) := by
  show Option.map _ _ = _; rw [Option.map_eq_bind]; rfl
theorem st_makeFunc {f : Fn} {a c : Array Operand} : stepE P call h dst ty (.makeFunc f a c) ρ k = (SV.pures (a.toList.map ρ)).bind fun a => (SV.pures (c.toList.map ρ)).bind fun c => some (.d (.fn f a c), k) := by
  show Option.bind _ _ = _; simp only [Option.map_eq_bind]; rfl
theorem st_makeMap {t : TypeId} : stepE P call h dst ty (.makeMap t none) ρ k = some (.d (.map k.H.length), { k with H := k.H ++ [.map []] }) := rfl
theorem st_makeSlice {t : TypeId} {l c : Operand} : stepE P call h dst ty (.makeSlice t l c) ρ k = makeE P dst t (ρ l) (ρ c) k := rfl
theorem st_slice {t : TypeId} {x : Operand} {lo hi mx : Option Operand} : stepE P call h dst ty (.slice t x lo hi mx) ρ k = (sliceE P t (ρ x) (lo.map ρ) (hi.map ρ) (mx.map ρ) k).bind fun v => some (v, k) := by
  show Option.map _ _ = _; rw [Option.map_eq_bind]; rfl
theorem st_fieldAddr {t : TypeId} {x : Operand} {f : Nat} : stepE P call h dst ty (.fieldAddr t x f) ρ k = (fieldAddrE P t (ρ x) f k).bind fun v => some (v, k) := by
  show Option.map _ _ = _; rw [Option.map_eq_bind]; rfl
theorem st_field {t : TypeId} {x : Operand} {f : Nat} : stepE P call h dst ty (.field t x f) ρ k = (fieldE P t (ρ x) f).bind fun v => some (v, k) := by
  show Option.map _ _ = _; rw [Option.map_eq_bind]; rfl
theorem st_indexAddr {t : TypeId} {x i : Operand} : stepE P call h dst ty (.indexAddr t x i) ρ k = (indexAddrE P t (ρ x) (ρ i) k).bind fun v => some (v, k) := by
  show Option.map _ _ = _; rw [Option.map_eq_bind]; rfl
theorem st_index {t : TypeId} {x i : Operand} : stepE P call h dst ty (.index t x i) ρ k = (indexE P t (ρ x) (ρ i)).bind fun v => some (v, k) := by
  show Option.map _ _ = _; rw [Option.map_eq_bind]; rfl
theorem st_lookup {t : TypeId} {m key : Operand} {ok : Bool} : stepE P call h dst ty (.lookup t m key ok) ρ k = (lookupE P t (ρ m) (ρ key) ok k.H).bind fun v => some (v, k) := by
  show Option.map _ _ = _; rw [Option.map_eq_bind]; rfl
theorem st_mapUpdate {t : TypeId} {m key x : Operand} : stepE P call h dst ty (.mapUpdate t m key x) ρ k = (mapPutE P h.nv t (ρ m) (ρ key) (ρ x) k).bind fun k => some (.dead, k) := by
  show Option.map _ _ = _; rw [Option.map_eq_bind]; rfl
theorem st_nilCheck {x : Operand} : stepE P call h dst ty (.nilCheck x) ρ k = match ρ x with | .loc r p i o => some (.loc r p i o, k) | .rp b cs => some (.rp b cs, k) | .d (.ptr o) => some (.d (.ptr o), k) | .d (.fn (.func f) a c) => some (.d (.fn (.func f) a c), k) | _ => none := rfl
theorem st_extract {x : Operand} {n : Nat} : stepE P call h dst ty (.extract x n) ρ k = match ρ x with | .tup l => (l[n]?).bind fun v => some (v, k) | _ => none := by
  show (match ρ x with | .tup l => (l[n]?).map (·, k) | _ => none) = _
  cases ρ x <;> simp only [Option.map_eq_bind] <;> rfl
def callV (P : Program) (call : CallF) (h : Hint) (dst : Nat) (f : SV) (xs : List SV) (k : Wk) : Option (SV × Wk) :=
  match f with
  | .d (.fn (.func g) first cap) => (snapA h.nv xs k {}).bind fun (ds, k, b) => callE call h dst g (canon b.sn (first ++ ds ++ cap)) b k
  | _ => none
theorem st_call {f : Operand} {args : Array Operand} {ats : Array TypeId} : stepE P call h dst ty (.call { callee := .value f, args := args, argTypes := ats }) ρ k = callV P call h dst (ρ f) (args.toList.map ρ) k := by
  show (match ρ f with | .d (.fn (.func g) first cap) => _ | _ => none) = _
  rfl
theorem callV_fn {g : FuncId} {first cap : List D} {xs : List SV} : callV P call h dst (.d (.fn (.func g) first cap)) xs k = (snapA h.nv xs k {}).bind fun p => callE call h dst g (canon p.2.2.sn (first ++ p.1 ++ cap)) p.2.2 p.2.1 := rfl
theorem st_len {args : Array Operand} {ats : Array TypeId} : stepE P call h dst ty (.call { callee := .builtin .len, args := args, argTypes := ats }) ρ k = match args.toList, ats.toList with | [x], [t] => (lenE P t k.H (ρ x)).bind fun n => some (.d (.int .i64 n), k) | _, _ => none := by
  show (match args.toList, ats.toList with | [x], [t] => (lenE P t k.H (ρ x)).map fun n => (SV.d (.int .i64 n), k) | _, _ => none) = _
  simp only [Option.map_eq_bind]; rfl
theorem st_append {args : Array Operand} {ats : Array TypeId} : stepE P call h dst ty (.call { callee := .builtin .append, args := args, argTypes := ats }) ρ k = match args.toList, ats.toList with | [x, y], [t, u] => if t = u then appendE P h.nv dst t (ρ x) (ρ y) k else none | _, _ => none := rfl
end
end

/-! ### what a function leaves -/
def leaveR (P : Program) (own : Bool) (rs : List ResultVar) (n0 : Nat) (r : Ex × St) : Option (List T × List Ob) :=
  match r.1 with
  | .exit _ => none
  | _ => (retVals P r.2 rs).bind fun vs => (absorbA vs r.2.wk).bind fun p => (settle own p.1).bind fun ts => some (ts, trunc n0 ts p.2.H)
theorem leaveR_eq {P : Program} {own : Bool} {fn : Func} {n0 : Nat} : leave P own fn n0 = leaveR P own fn.results.toList n0 := by
  funext ⟨ex, s⟩
  unfold leave leaveR
  cases ex <;> simp only [Option.map_eq_bind] <;> rfl
theorem leaveR_ret {P : Program} {own : Bool} {rs : List ResultVar} {n0 : Nat} {s : St} : leaveR P own rs n0 (.ret, s) = (retVals P s rs).bind fun vs => (absorbA vs s.wk).bind fun p => (settle own p.1).bind fun ts => some (ts, trunc n0 ts p.2.H) := rfl
theorem leaveR_normal {P : Program} {own : Bool} {rs : List ResultVar} {n0 : Nat} {s : St} : leaveR P own rs n0 (.normal, s) = (retVals P s rs).bind fun vs => (absorbA vs s.wk).bind fun p => (settle own p.1).bind fun ts => some (ts, trunc n0 ts p.2.H) := rfl
theorem retVals_nil {P : Program} {s : St} : retVals P s [] = some [] := rfl
theorem retVals_cons {P : Program} {s : St} {r : ResultVar} {rs : List ResultVar} : retVals P s (r :: rs) = (retVal P s r).bind fun v => (retVals P s rs).bind fun vs => some (v :: vs) := by
  simp only [retVals, Option.map_eq_bind]; rfl
theorem retVal_tmp {P : Program} {s : St} {t : Nat} : retVal P s (.tmp t) = some (s.get t) := rfl
theorem retVal_cell {P : Program} {s : St} {t ty : Nat} : retVal P s (.cell t ty) = loadE P ty (s.get t) s.wk := rfl
theorem absorbA_nil {k : Wk} : absorbA [] k = some ([], k) := rfl
theorem absorbA_cons {v : SV} {r : List SV} {k : Wk} : absorbA (v :: r) k = (absorb 0 v k).bind fun p => (absorbA r p.2).bind fun q => some (p.1 :: q.1, q.2) := by
  simp only [absorbA, Option.map_eq_bind]; rfl
theorem settle_own {ts : List T} : settle true ts = some ts := rfl
theorem settle_frz {ts : List T} : settle false ts = (T.frzs false ts).bind fun xs => some ((canon false xs).map T.d) := by
  simp only [settle, Option.map_eq_bind]; rfl
theorem frzs_nil {b : Bool} : T.frzs b [] = some [] := rfl
theorem frzs_cons {b : Bool} {t : T} {r : List T} : T.frzs b (t :: r) = (T.frz b t).bind fun x => (T.frzs b r).bind fun xs => some (x :: xs) := by
  simp only [T.frzs, Option.map_eq_bind]; rfl
theorem frz_d {b : Bool} {x : D} : T.frz b (.d x) = some x.norm := by simp only [T.frz]
theorem frz_own {b : Bool} {es : List T} : T.frz b (.own es) = (T.frzs b es).bind fun xs => some (.sl b xs) := by simp only [T.frz, Option.map_eq_bind]; rfl
theorem frz_agg {b : Bool} {es : List T} : T.frz b (.agg es) = (T.frzs b es).bind fun xs => some (.agg xs) := by simp only [T.frz, Option.map_eq_bind]; rfl
theorem trunc_same {ts : List T} {H : List Ob} : trunc H.length ts H = H := by simp [trunc]
theorem callX_leave {P : Program} {hints : FuncId → Hint} {f : FuncId} {ds : List D} {H : List Ob} {fn : Func} {c : Code} {rs : List ResultVar} (hf : P.funcs[f]? = some fn) (hb : fn.body = some c) (hl : ds.length = fn.params.size + fn.nfree) (hk : codeOk fn.ntmps c = true) (hn : (fn.name == "runtime.NumGoroutine") = false) (hr : fn.results.toList = rs) :
    callX P hints f ds H = (codeX P hints (hints f) c (enter ds H)).bind (leaveR P (hints f).own rs H.length) := by
  rw [callX_eq hf hb hl hk hn, leaveR_eq, hr]

attribute [go_sem] codeX_seq codeX_region' codeX_block' codeX_cond' codeX_skip codeX_ret codeX_exit codeX_label codeX_scope exOut_normal exOut_ret exOut_exit thenX_normal thenX_ret thenX_exit condX_bool runOps_nil runOps_cons runOp_plain val_tmp val_int val_bool val_nils val_nilp val_nilm val_nilf val_nili val_func get_mk look_nil look_cons lookL_nil lookL_cons lookR_nil lookR_cons wk_mk fin_some fin_none trs_nil trs_cons trenv_nil trenv_cons sv_d sv_rp sv_clip sv_dead sv_agg sv_tup trv_nil trv_cons prune_mk envOf_nil envOf_cons st_move st_assign st_pick st_alloc st_box st_build st_buildSlice st_load st_store st_binOp st_unOp st_convert st_makeFunc st_makeMap st_makeSlice st_slice st_fieldAddr st_field st_indexAddr st_index st_lookup st_mapUpdate st_nilCheck st_extract st_call st_len st_append callV_fn
attribute [go_sem] leaveR_ret leaveR_normal retVals_nil retVals_cons retVal_tmp retVal_cell absorbA_nil absorbA_cons settle_own settle_frz frzs_nil frzs_cons frz_d frz_own frz_agg trunc_same stepS
attribute [go_sem] Option.bind_some Option.bind_none Option.getD_some Option.getD_none List.map_cons List.map_nil Option.map_some Option.map_none List.cons_append List.nil_append List.append_nil Prod.mk.injEq List.zipIdx_cons List.zipIdx_nil enter_eq
end Go.Am
