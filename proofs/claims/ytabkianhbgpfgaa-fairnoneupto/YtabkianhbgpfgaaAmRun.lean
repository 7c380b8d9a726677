/- The abstract machine: regions, code, loops, calls; with fuel, and without ('Call', 'RunC': what it comes to with fuel enough). -/
import Derived.Test.YtabkianhbgpfgaaAmCore
namespace Go.Am
open Go

/-! ### calls -/
/-- an argument as pure data. 'sn': something was lent; 'lk': objects that lend -/
structure Lend where
  sn : Bool := false
  lk : List Nat := []
def snap1 (nv : Nat) (v : SV) (k : Wk) (b : Lend) : Option (D × Wk × Lend) :=
  match v with
  | .d x => some (x.norm, k, b)
  | .clip t l => some (.sl t l, k, b)
  | .bor r p off len =>
    (k.get r).bind fun c => (c.at p).bind fun nd => match nd with
      | .own es =>
        match r, p with
        | .l n j, [] =>
          if nv ≤ n ∧ off = 0 ∧ len = es.length then (T.frzs false es).bind fun l => (k.set (.l n j) .dead).map fun (k : Wk) => (.sl false l, k.tell (.frz (.l n j) [] l), b)
          else (T.frzs true es).map fun l => (.sl true (win l off len), k, { b with sn := true })
        | .l _ _, _ => (T.frzs true es).map fun l => (.sl true (win l off len), k, { b with sn := true })
        | .o n, _ => (T.frzs true es).map fun l => (.sl true (win l off len), k, { sn := true, lk := n :: b.lk })
      | _ => none
  | _ => none
def snaps (nv : Nat) : List SV → Wk → Lend → Option (List D × Wk × Lend)
  | [], k, b => some ([], k, b)
  | v :: r, k, b => (snap1 nv (trv k.tr v) k b).bind fun (x, k, b) => (snaps nv r k b).map fun (xs, k, b) => (x :: xs, k, b)
def snap (nv : Nat) (v : SV) (k : Wk) (b : Lend) : Option (D × Wk × Lend) :=
  match v with
  | .agg l => (snaps nv l k b).map fun (xs, k, b) => (.agg xs, k, b)
  | v => snap1 nv (trv k.tr v) k b
def snapA (nv : Nat) : List SV → Wk → Lend → Option (List D × Wk × Lend)
  | [], k, b => some ([], k, b)
  | v :: r, k, b => (snap nv v k b).bind fun (x, k, b) => (snapA nv r k b).map fun (xs, k, b) => (x :: xs, k, b)

/-- what a call answers, laid under a slot's roots, from number j on -/
def resCell (dst j : Nat) (t : T) (k : Wk) : Option (SV × Nat × Wk) :=
  match t with
  | .d x => some (.d x, j, k)
  | .own es => some (.bor (.l dst j) [] 0 es.length, j + 1, k.new dst j (.own es))
  | _ => none
def resCells (dst : Nat) : Nat → List T → Wk → Option (List SV × Nat × Wk)
  | j, [], k => some ([], j, k)
  | j, t :: r, k => (resCell dst j t k).bind fun (v, j, k) => (resCells dst j r k).map fun (vs, j, k) => (v :: vs, j, k)
def res1 (dst j : Nat) (t : T) (k : Wk) : Option (SV × Nat × Wk) :=
  match t with
  | .agg ts => (resCells dst j ts k).map fun (vs, j, k) => (.agg vs, j, k)
  | t => resCell dst j t k
def resAll (dst : Nat) : Nat → List T → Wk → Option (List SV × Wk)
  | _, [], k => some ([], k)
  | j, t :: r, k => (res1 dst j t k).bind fun (v, j, k) => (resAll dst j r k).map fun (vs, k) => (v :: vs, k)
def resE (dst : Nat) (rs : List T) (k : Wk) : Option (SV × Wk) :=
  (resAll dst 0 rs k).map fun (vs, k) => (match vs with | [v] => v | vs => .tup vs, k)

abbrev CallF := FuncId → List D → List Ob → Option (List T × List Ob)

def lockAll (H : List Ob) : List Ob := H.map fun _ => .lock
def lockSome (lk : List Nat) (H : List Ob) : List Ob := lk.foldl (fun H n => H.set n .lock) H
def unlock (H0 : List Ob) (lk : List Nat) (H : List Ob) : List Ob := lk.foldl (fun H n => match H0[n]? with | some x => H.set n x | none => H) H

/-- the shared objects are of the kinds and sizes that they were -/
def sameObs : List Ob → List Ob → Bool
  | [], _ => true
  | .box c :: r, .box c' :: r' => c.nc == c'.nc && sameObs r r'
  | .map _ :: r, .map _ :: r' => sameObs r r'
  | .lock :: r, .lock :: r' => sameObs r r'
  | _, _ => false
/-- the shared objects hold nothing lent -/
def obsImm : List Ob → Bool
  | [] => true
  | .box c :: r => c.imm && obsImm r
  | .map es :: r => es.all (fun e => e.1.imm && e.2.imm) && obsImm r
  | .lock :: r => obsImm r
def callE (call : CallF) (h : Hint) (dst : Nat) (f : FuncId) (ds : List D) (b : Lend) (k : Wk) : Option (SV × Wk) :=
  if h.keep.contains dst then
    (call f ds (lockAll k.H)).bind fun (rs, H2) =>
      if H2.length = k.H.length ∧ (b.sn = true → T.imms rs = true) then resE dst rs k else none
  else
    (call f ds (lockSome b.lk k.H)).bind fun (rs, H2) =>
      if (b.sn = true → T.imms rs = true ∧ obsImm H2 = true) ∧ sameObs (lockSome b.lk k.H) H2 = true then resE dst rs { k with H := unlock k.H b.lk H2, tr := k.tr ++ [.killO] } else none

/-- an operation -/
def stepE (P : Program) (call : CallF) (h : Hint) (dst : Nat) (ty : TypeId) (op : Op) (ρ : Operand → SV) (k : Wk) : Option (SV × Wk) :=
  match op with
  | .call { callee := .value f, args, .. } =>
    match ρ f with
    | .d (.fn (.func g) first cap) => (snapA h.nv (args.toList.map ρ) k {}).bind fun (ds, k, b) => callE call h dst g (canon b.sn (first ++ ds ++ cap)) b k
    | _ => none
  | op => opE P h dst ty op ρ k

/-! ### regions -/
/-- is the operation wanted? -/
def wantE (ops : List Oper) (s : St) (o : Oper) : Option Bool :=
  match o.guard with
  | none => some true
  | some (j, want) => match (ops[j]?).bind (·.dst) with
    | some t => match s.get t with
      | .d (.bool b) => some (b == want)
      | .tup [] => some false
      | _ => none
    | none => none
def St.fin (s : St) (dst : Option Nat) (v : SV) (k : Wk) : St :=
  { env := match dst with | some d => (d, v) :: trs k.tr s.env | none => trs k.tr s.env, ct := k.ct, H := k.H }
def St.wk (s : St) : Wk := { ct := s.ct, H := s.H }
def runOp (P : Program) (call : CallF) (h : Hint) (ops : List Oper) (o : Oper) (s : St) : Option St :=
  (wantE ops s o).bind fun w =>
    if w then (stepE P call h (o.dst.getD 0) o.type o.op s.val s.wk).map fun (v, k) => s.fin o.dst v k
    else some (s.fin o.dst (.tup []) s.wk)
def runOps (P : Program) (call : CallF) (h : Hint) (ops : List Oper) : List Oper → St → Option St
  | [], s => some s
  | o :: r, s => (runOp P call h ops o s).bind (runOps P call h ops r)

/-! ### forgetting -/
mutual
def SV.roots : SV → List (Nat × Nat)
  | .bor (.l n k) _ _ _ => [(n, k)]
  | .loc (.l n k) _ _ _ => [(n, k)]
  | .agg l => SV.rootss l
  | .tup l => SV.rootss l
  | _ => []
def SV.rootss : List SV → List (Nat × Nat)
  | [] => []
  | v :: r => v.roots ++ SV.rootss r
end
def dedup : List (Nat × Nat) → List (Nat × Nat)
  | [] => []
  | x :: r => if (dedup r).contains x then dedup r else x :: dedup r
def pick (ct : List ((Nat × Nat) × T)) : List (Nat × Nat) → List ((Nat × Nat) × T)
  | [] => []
  | x :: r => match lookR ct x with | some t => (x, t) :: pick ct r | none => pick ct r
def prune (live : List Nat) (s : St) : St :=
  let env := live.map fun t => (t, s.get t)
  { env, ct := pick s.ct (dedup (SV.rootss (env.map (·.2)))), H := s.H }

/-! ### an order that may be any -/
mutual
/-- the roots that a slot's value leans on -/
def SV.rts : SV → List Root
  | .bor r _ _ _ => [r]
  | .loc r _ _ _ => [r]
  | .d (.ptr o) => [.o o]
  | .d (.map o) => [.o o]
  | .agg l => SV.rtss l
  | .tup l => SV.rtss l
  | _ => []
def SV.rtss : List SV → List Root
  | [] => []
  | v :: r => v.rts ++ SV.rtss r
end
mutual
/-- those of them that what is told may change -/
def SV.srts : SV → List Root
  | .bor r _ _ _ => [r]
  | .loc r _ _ _ => [r]
  | .agg l => SV.srtss l
  | .tup l => SV.srtss l
  | _ => []
def SV.srtss : List SV → List Root
  | [] => []
  | v :: r => v.srts ++ SV.srtss r
end
def Tr.rts : Tr → List Root
  | .kill r _ => [r]
  | .killN r _ => [r]
  | .frz r _ _ => [r]
  | .ren a b => [.l a.1 a.2, .l b.1 b.2]
  | .killO => []
def Tr.isRen : Tr → Bool
  | .ren _ _ => true
  | _ => false
def Tr.isKillO : Tr → Bool
  | .killO => true
  | _ => false
def Tr.hist (x : Tr) (l : List Root) : List Root :=
  match x with
  | .ren a b => if l.any (fun r => decide (r = .l a.1 a.2)) then .l b.1 b.2 :: l else l
  | _ => l
def Root.isO : Root → Bool
  | .o _ => true
  | _ => false
def opndTmp : Operand → Option Nat
  | .tmp t => some t
  | _ => none
def tmpsOf (o : Op) : List Nat := o.operands.toList.filterMap opndTmp
/-- may it change contents? -/
def effOf (h : Hint) (dst : Nat) : Op → Bool
  | .move _ | .pick .. | .build .. | .load .. | .nilCheck _ | .binOp .. | .unOp .. | .convert .. | .makeFunc .. | .slice .. | .fieldAddr .. | .field .. | .indexAddr .. | .index .. | .lookup .. | .extract .. => false
  | .call { callee := .builtin .len, .. } => false
  | .buildSlice .. => !h.lits.contains dst
  | _ => true
/-- may it change shared objects though its operands lean on none? -/
def hOf (h : Hint) (dst : Nat) : Op → Bool
  | .alloc _ => h.objs.contains dst
  | .box .. => h.objs.contains dst
  | .assign _ | .buildSlice .. | .makeSlice .. | .store .. => false
  | .call { callee := .builtin .append, .. } => false
  | .call { callee := .value _, .. } => !h.keep.contains dst
  | _ => true
/-- does it look at contents? -/
def reads : Op → Bool
  | .move _ | .pick .. | .build .. | .nilCheck _ | .binOp .. | .unOp .. | .convert .. | .makeFunc .. | .field .. | .index .. | .extract .. => false
  | _ => true
def looks (ops : List Oper) (o : Oper) : List Nat := tmpsOf o.op ++ (match o.guard with | some (j, _) => ((ops[j]?).bind (·.dst)).toList | none => [])
/-- may it look at the shared objects though its operands lean on none? -/
def hrOf (h : Hint) (dst : Nat) : Op → Bool
  | .alloc _ => h.objs.contains dst
  | .box .. => h.objs.contains dst
  | .makeMap .. => true
  | .call { callee := .value _, .. } => true
  | _ => false
/-- what an operation looks at and changes: slots; roots leant on; roots changed or told of; does it look at shared objects, may it change them? -/
structure Fp where
  sl : List Nat
  dst : Option Nat
  rd : List Root
  wr : List Root
  hr : Bool
  hw : Bool
  ren : Bool
/-- of each slot the roots that its value leant on when it was written -/
abbrev Hist := List (Nat × List Root)
def histOf (hi : Hist) (t : Nat) : List Root := (look hi t).getD []
def hist0 (s : St) : Hist := s.env.map fun p => (p.1, p.2.srts)
def evalO (P : Program) (call : CallF) (h : Hint) (ops : List Oper) (o : Oper) (s : St) : Option (Bool × SV × Wk) :=
  (wantE ops s o).bind fun w => if w then (stepE P call h (o.dst.getD 0) o.type o.op s.val s.wk).map fun (v, k) => (true, v, k) else some (false, .tup [], s.wk)
def newKeys (k k' : Wk) : List Root := (k'.ct.take (k'.ct.length - k.ct.length)).map fun p => Root.l p.1.1 p.1.2
def fpOf (h : Hint) (ops : List Oper) (o : Oper) (hi : Hist) (s : St) (w : Bool) (v : SV) (k : Wk) : Fp :=
  let cur := (looks ops o).flatMap fun t => (s.get t).rts
  let rd := (looks ops o).flatMap (histOf hi) ++ v.srts ++ (if reads o.op then cur else [])
  let e := w && effOf h (o.dst.getD 0) o.op
  let wr := newKeys s.wk k ++ k.tr.flatMap Tr.rts
  { sl := looks ops o, dst := o.dst, rd, wr, hr := (w && hrOf h (o.dst.getD 0) o.op) || rd.any Root.isO || wr.any Root.isO || k.tr.any Tr.isKillO, hw := e && (hOf h (o.dst.getD 0) o.op || cur.any Root.isO || k.tr.any Tr.isKillO), ren := k.tr.any Tr.isRen }
def histTr : List Tr → List Root → List Root
  | [], l => l
  | x :: r, l => histTr r (x.hist l)
def histAdd (hi : Hist) (tr : List Tr) (d : Option Nat) (v : SV) : Hist :=
  let hi := hi.map fun p => (p.1, histTr tr p.2)
  match d with | some d => (d, v.srts) :: hi | none => hi
/-- do the two not meet? -/
def meet (a b : List Root) : Bool := a.any fun r => b.any fun q => decide (q = r)
def apartFp (x y : Fp) : Bool :=
  (match x.dst with | some d => !y.sl.contains d && y.dst != some d | none => true) &&
  (match y.dst with | some d => !x.sl.contains d | none => true) &&
  !meet x.wr y.rd && !meet x.wr y.wr && !meet y.wr x.rd && !(x.hw && (y.hr || y.hw)) && !(y.hw && x.hr) && !(x.ren && y.ren)
abbrev Cf := St × Hist
def runOpF (P : Program) (call : CallF) (h : Hint) (ops : List Oper) (o : Oper) (c : Cf) : Option (Cf × Fp) :=
  (evalO P call h ops o c.1).map fun (w, v, k) => ((c.1.fin o.dst v k, histAdd c.2 k.tr o.dst v), fpOf h ops o c.2 c.1 w v k)
def runOpsF (P : Program) (call : CallF) (h : Hint) (ops : List Oper) : List Oper → Cf → Option (Cf × List Fp)
  | [], c => some (c, [])
  | o :: r, c => (runOpF P call h ops o c).bind fun (c', f) => (runOpsF P call h ops r c').map fun (c'', fs) => (c'', f :: fs)
/-- for each operation those that go before it, as a number's bits; none: an edge leads to a later one -/
def befOf (acc : List Nat) (o : Oper) : Nat := o.after.toList.foldl (fun m e => if Region.binds .any e then m ||| 2 ^ e.on ||| (acc[e.on]?).getD 0 else m) 0
def befs : List Oper → List Nat → Option (List Nat)
  | [], acc => some acc
  | o :: r, acc => if o.after.toList.all fun e => !Region.binds .any e || decide (e.on < acc.length) then befs r (acc ++ [befOf acc o]) else none
/-- each operation is apart from those ahead of it that need not go before it -/
def checkRow (b : Nat) (f : Fp) : Nat → List Fp → Bool
  | _, [] => true
  | j, g :: gs => (b.testBit j || apartFp g f) && checkRow b f (j + 1) gs
def checkF (all : List Fp) : Nat → List Nat → List Fp → Bool
  | i, b :: bs, f :: fs => checkRow b f 0 (all.take i) && checkF all (i + 1) bs fs
  | _, _, _ => true
def checkR (ops : List Oper) (fs : List Fp) : Bool := match befs ops [] with | some bs => checkF fs 0 bs fs | none => false

/-! ### code -/
inductive Ex where
  | normal
  | exit (id : Nat)
  | ret
  deriving DecidableEq, Inhabited
def loopN (f : St → Option (Ex × St)) : Nat → St → Option (Ex × St)
  | 0, _ => none
  | n + 1, s => (f s).bind fun (e, s') => match e with | .normal => loopN f n s' | e => some (e, s')

/-- every slot written lies below n -/
def opsOk (n : Nat) (ops : Array Oper) : Bool := ops.toList.all fun o => match o.dst with | some d => decide (d < n) | none => true
def codeOk (n : Nat) : Code → Bool
  | .region _ ops _ => opsOk n ops
  | .seq a b => codeOk n a && codeOk n b
  | .cond _ a b => codeOk n a && codeOk n b
  | .block _ c => codeOk n c
  | .loop c => codeOk n c
  | .scope c => codeOk n c
  | _ => true
def codeN (P : Program) (call : CallF) (h : Hint) (fuel : Nat) : Code → St → Option (Ex × St)
  | .skip, s => some (.normal, s)
  | .region id ops dr, s =>
    if dr then (runOpsF P call h ops.toList ops.toList (s, hist0 s)).bind fun (c, fs) => if checkR ops.toList fs then some (.normal, prune (h.live id) c.1) else none
    else (runOps P call h ops.toList ops.toList s).map fun s' => (.normal, prune (h.live id) s')
  | .seq a b, s => (codeN P call h fuel a s).bind fun (e, s') => match e with | .normal => codeN P call h fuel b s' | e => some (e, s')
  | .cond c a b, s => match s.val c with | .d (.bool t) => if t then codeN P call h fuel a s else codeN P call h fuel b s | _ => none
  | .block id c, s => (codeN P call h fuel c s).map fun (e, s') => (if e = .exit id then .normal else e, s')
  | .loop c, s => loopN (codeN P call h fuel c) fuel s
  | .exit id, s => some (.exit id, s)
  | .scope c, s => codeN P call h fuel c s
  | .label _, s => some (.normal, s)
  | .ret, s => some (.ret, s)
  | _, _ => none

/-! ### a function -/
/-- the results' values; what they hold, taken out of the frame -/
def retVal (P : Program) (s : St) : ResultVar → Option SV
  | .tmp t => some (s.get t)
  | .cell a t => loadE P t (s.get a) s.wk
def retVals (P : Program) (s : St) : List ResultVar → Option (List SV)
  | [] => some []
  | r :: rs => (retVal P s r).bind fun v => (retVals P s rs).map (v :: ·)
def absorbA : List SV → Wk → Option (List T × Wk)
  | [], k => some ([], k)
  | v :: r, k => (absorb 0 v k).bind fun (t, k) => (absorbA r k).map fun (ts, k) => (t :: ts, k)
def trunc (n0 : Nat) (rs : List T) (H : List Ob) : List Ob :=
  if H.length = n0 then H
  else if T.lows n0 rs ∧ (H.take n0).all (·.low n0) then H.take n0 else H
def enter (ds : List D) (H : List Ob) : St := { env := ds.zipIdx.map fun (d, i) => (i, .d d), ct := [], H }
/-- the results as pure data, unless the hint says that they are to be written by the caller -/
def settle (own : Bool) (ts : List T) : Option (List T) := if own then some ts else (T.frzs false ts).map fun xs => (canon false xs).map T.d
def leave (P : Program) (own : Bool) (fn : Func) (n0 : Nat) (r : Ex × St) : Option (List T × List Ob) :=
  match r.1 with
  | .exit _ => none
  | _ => (retVals P r.2 fn.results.toList).bind fun vs => (absorbA vs r.2.wk).bind fun (ts, k) => (settle own ts).map fun ts => (ts, trunc n0 ts k.H)

def callN (P : Program) (hint : FuncId → Hint) : Nat → CallF
  | 0, _, _, _ => none
  | n + 1, f, ds, H =>
    (P.funcs[f]?).bind fun fn => fn.body.bind fun c =>
      if ds.length = fn.params.size + fn.nfree ∧ codeOk fn.ntmps c = true ∧ (fn.name == "runtime.NumGoroutine") = false then
        (codeN P (callN P hint n) (hint f) n c (enter ds H)).bind (leave P (hint f).own fn H.length)
      else none
end Go.Am
