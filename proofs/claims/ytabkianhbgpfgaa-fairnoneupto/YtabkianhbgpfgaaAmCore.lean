/- An abstract machine over the elaborated code: pure data, owned trees, and how each operation acts on them. Definitions only. -/
import Derived.Calls
import Derived.Orders
import Derived.WalkKit
namespace Go.Am
open Go

/-- pure data. 'sl b l': a slice; b: it may lie in memory that a caller owns. 'agg': a struct or an array, by its cells. 'ptr', 'map': shared objects by their number. -/
inductive D where
  | int (k : IntKind) (n : Int)
  | bool (b : Bool)
  | str (s : List UInt8)
  | nils
  | sl (b : Bool) (l : List D)
  | agg (l : List D)
  | nilp
  | ptr (o : Nat)
  | nilm
  | map (o : Nat)
  | nilf
  | fn (f : Fn) (first cap : List D)
  | nili
  | iface (t : TypeId) (x : D)
  deriving Inhabited

/-- owned trees -/
inductive T where
  | d (x : D)
  | own (es : List T)
  | agg (cs : List T)
  | dead
  deriving Inhabited

abbrev Path := List (Nat × Nat)

inductive Root where
  | l (n k : Nat)
  | o (n : Nat)
  deriving DecidableEq, Inhabited

/-- what a slot holds -/
inductive SV where
  | d (x : D)
  | bor (r : Root) (p : Path) (off len : Nat)
  | loc (r : Root) (p : Path) (i off : Nat)
  | rp (b : Bool) (cs : List D)
  | clip (b : Bool) (l : List D)
  | agg (l : List SV)
  | tup (l : List SV)
  | dead
  deriving Inhabited

inductive Ob where
  | box (c : T)
  | map (es : List (D × T))
  | lock
  deriving Inhabited

structure St where
  env : List (Nat × SV)
  ct : List ((Nat × Nat) × T)
  H : List Ob

structure Hint where
  nv : Nat
  objs : List Nat
  keep : List Nat
  lits : List Nat
  own : Bool
  live : Nat → List Nat

abbrev D.i (n : Int) : D := .int .i64 n

/-! ### cells -/
def D.nc : D → Nat
  | .agg l => l.length
  | _ => 1
def D.cells : D → List D
  | .agg l => l
  | x => [x]
def T.cells : T → List T
  | .d (.agg l) => l.map .d
  | .agg cs => cs
  | x => [x]
def T.nc : T → Nat
  | .d x => x.nc
  | .agg cs => cs.length
  | _ => 1
def T.cell (t : T) (off : Nat) : Option T :=
  match t with
  | .agg cs => cs[off]?
  | .d (.agg l) => (l[off]?).map .d
  | x => if off = 0 then some x else none

def T.pures : List T → Option (List D)
  | [] => some []
  | .d x :: r => (T.pures r).map (x :: ·)
  | _ :: _ => none
def T.mkAgg (l : List T) : T := match T.pures l with | some ds => .d (.agg ds) | none => .agg l
def T.setCells (t : T) (off : Nat) (vs : List T) : T := T.mkAgg (t.cells.take off ++ vs ++ t.cells.drop (off + vs.length))

def T.putCell (e : T) (off : Nat) (c : T) : T :=
  match e with
  | .d (.agg _) => e.setCells off [c]
  | .agg _ => e.setCells off [c]
  | _ => c

/-! ### places in a tree -/
def T.at : T → Path → Option T
  | t, [] => some t
  | .own es, (i, off) :: p => (es[i]?).bind fun e => (e.cell off).bind fun c => c.at p
  | _, _ :: _ => none
def T.put : T → Path → T → Option T
  | _, [], x => some x
  | .own es, (i, off) :: p, x => (es[i]?).bind fun e => (e.cell off).bind fun c => (c.put p x).map fun c' =>
      .own (es.set i (e.putCell off c'))
  | _, _ :: _, _ => none

/-! ### frozen: a tree as pure data -/
/-- a nil slice is told as an empty one -/
def D.norm1 : D → D
  | .nils => .sl false []
  | x => x
def D.norm : D → D
  | .agg l => .agg (l.map D.norm1)
  | x => x.norm1
mutual
def T.frz (b : Bool) : T → Option D
  | .d x => some x.norm
  | .own es => (T.frzs b es).map (.sl b)
  | .agg cs => (T.frzs b cs).map .agg
  | .dead => none
def T.frzs (b : Bool) : List T → Option (List D)
  | [] => some []
  | t :: r => (T.frz b t).bind fun x => (T.frzs b r).map (x :: ·)
end

/-! ### no borrowed part; no object from number n on -/
mutual
def D.imm : D → Bool
  | .sl b l => !b && D.imms l
  | .agg l => D.imms l
  | .fn _ a c => D.imms a && D.imms c
  | .iface _ x => x.imm
  | _ => true
def D.imms : List D → Bool
  | [] => true
  | x :: r => x.imm && D.imms r
end
mutual
def T.imm : T → Bool
  | .d x => x.imm
  | .own es => T.imms es
  | .agg cs => T.imms cs
  | .dead => true
def T.imms : List T → Bool
  | [] => true
  | x :: r => x.imm && T.imms r
end
mutual
/-- all of it may be lent -/
def D.lend : D → D
  | .sl _ l => .sl true (D.lends l)
  | .agg l => .agg (D.lends l)
  | .fn f a c => .fn f (D.lends a) (D.lends c)
  | .iface t x => .iface t x.lend
  | x => x
def D.lends : List D → List D
  | [] => []
  | x :: r => x.lend :: D.lends r
end
/-- all of one kind: pure for good, or lent -/
def canon (sn : Bool) (l : List D) : List D := if sn = false ∧ D.imms l = true then l else D.lends l
mutual
def D.low (n : Nat) : D → Bool
  | .ptr o => o < n
  | .map o => o < n
  | .sl _ l => D.lows n l
  | .agg l => D.lows n l
  | .fn _ a c => D.lows n a && D.lows n c
  | .iface _ x => x.low n
  | _ => true
def D.lows (n : Nat) : List D → Bool
  | [] => true
  | x :: r => x.low n && D.lows n r
end
mutual
def T.low (n : Nat) : T → Bool
  | .d x => x.low n
  | .own es => T.lows n es
  | .agg cs => T.lows n cs
  | .dead => true
def T.lows (n : Nat) : List T → Bool
  | [] => true
  | x :: r => x.low n && T.lows n r
end
def Ob.low (n : Nat) : Ob → Bool
  | .box c => c.low n
  | .map es => es.all fun e => e.1.low n && e.2.low n
  | .lock => true

/-! ### values as data -/
def D.ofCell : Value → Option D
  | .bool b => some (.bool b)
  | .int k n => some (.int k n)
  | .string s => some (.str s.data.toList)
  | .pointer none => some .nilp
  | .slice none 0 0 => some .nils
  | .map none => some .nilm
  | .nilFunc => some .nilf
  | .nilIface => some .nili
  | _ => none
def D.ofVal : Value → Option D
  | .agg cs => (cs.toList.mapM D.ofCell).map .agg
  | v => D.ofCell v
/-- a variable's first content: nil slices may be appended to -/
def T.ofD1 : D → T
  | .nils => .own []
  | x => .d x
def T.ofZero : D → T
  | .agg l => if l.any (fun x => match x with | .nils => true | _ => false) then .agg (l.map T.ofD1) else .d (.agg l)
  | x => T.ofD1 x

def SV.cells : SV → List SV
  | .d (.agg l) => l.map .d
  | .agg l => l
  | .tup _ => [.dead]
  | x => [x]
def SV.nc : SV → Nat
  | .d x => x.nc
  | .agg l => l.length
  | _ => 1
/-- all cells pure? -/
def SV.pures : List SV → Option (List D)
  | [] => some []
  | .d x :: r => (SV.pures r).map (x :: ·)
  | _ :: _ => none
def SV.mkAgg (l : List SV) : SV := match SV.pures l with | some ds => .d (.agg ds) | none => .agg l

/-! ### the types -/
/-- is it a struct or an array? -/
def aggO (P : Program) (t : TypeId) : Option Bool := match P.underlying t with | some (.struct _) | some (.array _ _) => some true | some _ => some false | none => none
def elemOf (P : Program) (t : TypeId) : Option TypeId := match P.underlying t with | some (.slice e) => some e | _ => none
/-- a field: where it begins, how many cells it has, whether it is a struct or an array -/
def fieldOf (P : Program) (t : TypeId) (f : Nat) : Option (Nat × Nat × Bool) :=
  match P.underlying t with
  | some (.struct fs) => (fs[f]?).bind fun x => (aggO P x.type).map fun ag => (x.offset, P.cellsOf x.type, ag)
  | _ => none
def zeroOf (P : Program) (t : TypeId) : Option D := ((P.info? t).bind (·.zero)).bind D.ofVal

/-! ### what an operation does -/
inductive Tr where
  | kill (r : Root) (p : Path)
  | killN (r : Root) (n : Nat)
  | frz (r : Root) (p : Path) (l : List D)
  | ren (a b : Nat × Nat)
  | killO

mutual
def Tr.sv (x : Tr) : SV → SV
  | .bor r p off len =>
    match x with
    | .kill r' p' => if r = r' then (if p = p' then .dead else if p'.length < p.length then .dead else .bor r p off len) else .bor r p off len
    | .killN r' n => if r = r' ∧ n ≤ p.length then .dead else .bor r p off len
    | .frz r' p' l => if r = r' then (if p = p' then .d (.sl false ((l.drop off).take len)) else if p'.length < p.length then .dead else .bor r p off len) else .bor r p off len
    | .ren a b => if r = .l a.1 a.2 then .bor (.l b.1 b.2) p off len else .bor r p off len
    | .killO => match r with | .o _ => .dead | _ => .bor r p off len
  | .loc r p i off =>
    match x with
    | .kill r' p' => if r = r' then (if p = p' then .dead else if p'.length < p.length then .dead else .loc r p i off) else .loc r p i off
    | .killN r' n => if r = r' ∧ n ≤ p.length then .dead else .loc r p i off
    | .frz r' p' _ => if r = r' then (if p = p' then .dead else if p'.length < p.length then .dead else .loc r p i off) else .loc r p i off
    | .ren a b => if r = .l a.1 a.2 then .loc (.l b.1 b.2) p i off else .loc r p i off
    | .killO => match r, p with | .o _, _ :: _ => .dead | _, _ => .loc r p i off
  | .agg l => .agg (Tr.svs x l)
  | .tup l => .tup (Tr.svs x l)
  | v => v
def Tr.svs (x : Tr) : List SV → List SV
  | [] => []
  | v :: r => x.sv v :: Tr.svs x r
end
def Tr.env (x : Tr) (e : List (Nat × SV)) : List (Nat × SV) := e.map fun p => (p.1, x.sv p.2)
def trs : List Tr → List (Nat × SV) → List (Nat × SV)
  | [], e => e
  | x :: r, e => trs r (x.env e)

def look {α : Type} (l : List (Nat × α)) (t : Nat) : Option α :=
  match l with
  | [] => none
  | (k, v) :: r => if k = t then some v else look r t
def lookR {α : Type} (l : List ((Nat × Nat) × α)) (t : Nat × Nat) : Option α :=
  match l with
  | [] => none
  | (k, v) :: r => if k = t then some v else lookR r t

def St.get (s : St) (t : Nat) : SV := (look s.env t).getD .dead
def evalC : Operand → SV
  | .const v => match D.ofVal v with | some x => .d x | none => .dead
  | .func f => .d (.fn (.func f) [] [])
  | _ => .dead
def St.val (s : St) : Operand → SV
  | .tmp t => s.get t
  | x => evalC x

/-- what a root holds -/
def cont (ct : List ((Nat × Nat) × T)) (H : List Ob) : Root → Option T
  | .l n k => lookR ct (n, k)
  | .o n => match H[n]? with | some (.box c) => some (.own [c]) | _ => none

/-- the contents while one operation works on them -/
structure Wk where
  ct : List ((Nat × Nat) × T)
  H : List Ob
  tr : List Tr := []
def Wk.get (k : Wk) (r : Root) : Option T := cont k.ct k.H r
def Wk.set (k : Wk) (r : Root) (t : T) : Option Wk :=
  match r with
  | .l n j => some { k with ct := ((n, j), t) :: k.ct }
  | .o n => match t with
    | .own [c] => some { k with H := k.H.set n (.box c) }
    | _ => none
def Wk.tell (k : Wk) (x : Tr) : Wk := { k with tr := k.tr ++ [x] }
/-- a new root of a slot: what the slot's root held is forgotten -/
def Wk.new (k : Wk) (n j : Nat) (t : T) : Wk := { k with ct := ((n, j), t) :: k.ct, tr := k.tr ++ [.kill (.l n j) []] }

/-- the elements of a window -/
def win {α : Type} (l : List α) (off len : Nat) : List α := (l.drop off).take len

/-- a slot's value taken into a tree: own temporaries are moved, a variable's slice is frozen -/
def absorb1 (nv : Nat) (v : SV) (k : Wk) : Option (T × Wk) :=
  match v with
  | .d x => some (.d x, k)
  | .clip b l => some (.d (.sl b l), k)
  | .bor r p off len =>
    (k.get r).bind fun c => (c.at p).bind fun nd =>
      match nd with
      | .own es =>
        match r, p with
        | .l n j, [] =>
          if nv ≤ n ∧ off = 0 ∧ len = es.length then (k.set (.l n j) .dead).map fun (k : Wk) => (.own es, k.tell (.kill (.l n j) []))
          else (T.frzs false es).bind fun l => (k.set r .dead).map fun (k : Wk) => (.d (.sl false (win l off len)), k.tell (.frz r [] l))
        | r, p => (T.frzs false es).bind fun l => (c.put p (.d (.sl false l))).bind fun c' => (k.set r c').map fun (k : Wk) => (.d (.sl false (win l off len)), k.tell (.frz r p l))
      | _ => none
  | _ => none
/-- a slot's value behind all that was told -/
def trv : List Tr → SV → SV
  | [], v => v
  | x :: r, v => trv r (x.sv v)
def absorbs (nv : Nat) : List SV → Wk → Option (List T × Wk)
  | [], k => some ([], k)
  | v :: r, k => (absorb1 nv (trv k.tr v) k).bind fun (t, k) => (absorbs nv r k).map fun (ts, k) => (t :: ts, k)
def absorb (nv : Nat) (v : SV) (k : Wk) : Option (T × Wk) :=
  match v with
  | .agg l => (absorbs nv l k).map fun (ts, k) => (T.mkAgg ts, k)
  | v => absorb1 nv (trv k.tr v) k

/-- one cell's data as a slot's value -/
def D.sv1 : D → Option SV
  | .agg _ => none
  | x => some (.d x)
/-- a cell of a tree as a slot's value -/
def cellSV (r : Root) (p : Path) (i off : Nat) : T → Option SV
  | .d x => x.sv1
  | .own es => some (.bor r (p ++ [(i, off)]) 0 es.length)
  | _ => none
def cellsSV (r : Root) (p : Path) (i : Nat) : Nat → List T → Option (List SV)
  | _, [] => some []
  | off, c :: cs => (cellSV r p i off c).bind fun v => (cellsSV r p i (off + 1) cs).map (v :: ·)

def asLoc : SV → SV
  | .d (.ptr o) => .loc (.o o) [] 0 0
  | v => v

def loadE (P : Program) (t : TypeId) (v : SV) (k : Wk) : Option SV :=
  match asLoc v with
  | .loc r p i off =>
    (k.get r).bind fun c => (c.at p).bind fun nd =>
      match nd with
      | .own es => (es[i]?).bind fun e => (aggO P t).bind fun ag =>
        if ag then
          match e with
          | .d (.agg l) => if off + P.cellsOf t ≤ l.length then some (.d (.agg (win l off (P.cellsOf t)))) else none
          | .agg cs => if off + P.cellsOf t ≤ cs.length then (cellsSV r p i off (win cs off (P.cellsOf t))).map SV.mkAgg else none
          | _ => none
        else (e.cell off).bind (cellSV r p i off)
      | _ => none
  | .rp _ cs => (aggO P t).bind fun ag =>
    if ag then (if P.cellsOf t ≤ cs.length then some (.d (.agg (cs.take (P.cellsOf t)))) else none)
    else (cs[0]?).bind D.sv1
  | _ => none

def isOwn : T → Bool
  | .own _ => true
  | .agg cs => cs.any fun c => match c with | .own _ => true | _ => false
  | _ => false

def storeE (P : Program) (nv : Nat) (t : TypeId) (a v : SV) (k : Wk) : Option Wk :=
  (absorb nv v k).bind fun (x, k) =>
  match asLoc (trv k.tr a) with
  | .loc r p i off =>
    if x.nc = P.cellsOf t ∧ 0 < x.nc then
      (k.get r).bind fun c => (c.at p).bind fun nd =>
        match nd with
        | .own es => (es[i]?).bind fun e =>
          if off + x.nc ≤ e.nc then
            (c.put p (.own (es.set i (if off = 0 ∧ x.nc = e.nc then x else e.setCells off x.cells)))).bind fun c' =>
              (k.set r c').map fun (k : Wk) => if isOwn e then k.tell (.killN r (p.length + 1)) else k
          else none
        | _ => none
    else none
  | _ => none

/-! ### numbers, texts -/
def intOp (op : BinOp) (k : IntKind) (x y : Int) : Option D :=
  match op with
  | .add => some (.int k (k.wrap (x + y)))
  | .sub => some (.int k (k.wrap (x - y)))
  | .mul => some (.int k (k.wrap (x * y)))
  | .quo => if y = 0 then none else some (.int k (k.wrap (x.tdiv y)))
  | .rem => if y = 0 then none else some (.int k (x.tmod y))
  | .and => some (.int k (k.wrap (BitVec.ofInt k.bits x &&& BitVec.ofInt k.bits y).toNat))
  | .or => some (.int k (k.wrap (BitVec.ofInt k.bits x ||| BitVec.ofInt k.bits y).toNat))
  | .xor => some (.int k (k.wrap (BitVec.ofInt k.bits x ^^^ BitVec.ofInt k.bits y).toNat))
  | .andNot => some (.int k (k.wrap (BitVec.ofInt k.bits x &&& ~~~ BitVec.ofInt k.bits y).toNat))
  | .eql => some (.bool (x == y))
  | .neq => some (.bool (x != y))
  | .lss => some (.bool (decide (x < y)))
  | .leq => some (.bool (decide (x ≤ y)))
  | .gtr => some (.bool (decide (x > y)))
  | .geq => some (.bool (decide (x ≥ y)))
  | _ => none
def shiftOp (op : BinOp) (k : IntKind) (x y : Int) : Option D :=
  if y < 0 then none else
  match op with
  | .shl => some (.int k (k.wrap (x * 2 ^ (min y.toNat k.bits))))
  | .shr => some (.int k (x.fdiv (2 ^ (min y.toNat k.bits))))
  | _ => none
def strOp (op : BinOp) (x y : List UInt8) : Option D :=
  match op with
  | .add => if x.length + y.length ≤ 9223372036854775807 then some (.str (x ++ y)) else none
  | .eql => some (.bool (x == y))
  | .neq => some (.bool (!(x == y)))
  | .lss => some (.bool (Op.bytesLess x y))
  | .leq => some (.bool (Op.bytesLess x y || x == y))
  | .gtr => some (.bool (!(Op.bytesLess x y || x == y)))
  | .geq => some (.bool (!Op.bytesLess x y))
  | _ => none
/-- 0: a number, 1: a text, 2: a truth -/
def kindOf (P : Program) (t : TypeId) : Option Nat := match P.underlying t with | some (.int _) => some 0 | some .string => some 1 | some .bool => some 2 | _ => none
/-- equal, of two scalars of one kind -/
def eqK : Nat → D → D → Option Bool
  | 0, .int k a, .int k' b => if k = k' then some (a == b) else none
  | 1, .str a, .str b => some (a == b)
  | 2, .bool a, .bool b => some (a == b)
  | _, _, _ => none
def eqKs : List Nat → List D → List D → Option Bool
  | [], [], [] => some true
  | n :: ns, a :: r, b :: q => (eqK n a b).bind fun x => (eqKs ns r q).map (x && ·)
  | _, _, _ => none
def kindsF (P : Program) : Nat → List Field → Option (List Nat)
  | _, [] => some []
  | i, f :: r => if f.offset = i ∧ f.name ≠ "_" then (kindOf P f.type).bind fun n => (kindsF P (i + 1) r).map (n :: ·) else none
/-- a struct of which each field is a number, a text or a truth: their kinds -/
def plainS (P : Program) (t : TypeId) : Option (List Nat) :=
  match P.underlying t with
  | some (.struct fs) => if P.stoodInHeld t = false ∧ P.eqGuardType P.depth t = false then kindsF P 0 fs.toList else none
  | _ => none
/-- is a slot's value the nil that is given? 'cst': one of the two is written out -/
def isNilV (P : Program) (cst : Bool) (t : TypeId) : D → SV → Option Bool
  | .nils, v => match P.underlying t with
    | some (.slice _) => (match v with | .d .nils => some true | .d (.sl _ (_ :: _)) => some false | .clip _ (_ :: _) => some false | .bor _ _ _ (_ + 1) => some false | _ => none)
    | _ => none
  | .nilp, v => match P.underlying t with
    | some (.pointer _) => (match v with | .d .nilp => some true | .d (.ptr _) => some false | .loc .. => some false | .rp .. => some false | _ => none)
    | _ => none
  | .nilm, v => match P.underlying t with
    | some (.map _ _) => (match v with | .d .nilm => some true | .d (.map _) => some false | _ => none)
    | _ => none
  | .nilf, v => match P.underlying t with
    | some (.func _ _ _) => (match v with | .d .nilf => some true | .d (.fn ..) => some false | _ => none)
    | _ => none
  | .nili, v => match P.underlying t with
    | some (.interface _) => (match v with | .d .nili => if cst then some true else none | .d (.iface ..) => some false | _ => none)
    | _ => none
  | _, _ => none
def eqV (P : Program) (cst : Bool) (t : TypeId) (x y : SV) : Option Bool :=
  match x, y with
  | .d (.bool a), .d (.bool b) => match P.underlying t with | some .bool => some (a == b) | _ => none
  | .d (.agg a), .d (.agg b) => (plainS P t).bind fun ks => eqKs ks a b
  | x, .d y => match isNilV P cst t y x with
    | some b => some b
    | none => match x with | .d x => isNilV P cst t x (.d y) | _ => none
  | .d x, y => isNilV P cst t x y
  | _, _ => none
def binE (P : Program) (cst : Bool) (op : BinOp) (t : TypeId) (x y : SV) : Option D :=
  match x, y with
  | .d (.int k a), .d (.int k' b) =>
    match op with
    | .shl | .shr => shiftOp op k a b
    | op => if k = k' then intOp op k a b else none
  | .d (.str a), .d (.str b) => strOp op a b
  | x, y =>
    match op with
    | .eql => (eqV P cst t x y).map .bool
    | .neq => (eqV P cst t x y).map fun b => .bool (!b)
    | _ => none
def unE (op : UnOp) : SV → Option D
  | .d (.bool b) => match op with | .not => some (.bool (!b)) | _ => none
  | .d (.int k n) => match op with | .neg => intOp .sub k 0 n | .xor => intOp .xor k (if k.signed then -1 else k.max) n | _ => none
  | _ => none
def convE (P : Program) (src dst : TypeId) : SV → Option D
  | .d (.int _ n) => match P.underlying src, P.underlying dst with
    | some _, some (.int k) => some (.int k (k.wrap n))
    | some _, some .string => some (.str (Utf8.encode n).data.toList)
    | _, _ => none
  | .d (.str s) => match P.underlying src, P.underlying dst with | some .string, some .string => some (.str s) | _, _ => none
  | _ => none

/-! ### parts -/
/-- does the cell lie in the element? -/
def locOk (k : Wk) (r : Root) (p : Path) (i off : Nat) : Bool :=
  match (k.get r).bind (·.at p) with
  | some (.own es) => (match es[i]? with | some e => decide (off < e.nc) | none => false)
  | _ => false
def indexAddrE (P : Program) (t : TypeId) (x i : SV) (k : Wk) : Option SV :=
  match i with
  | .d (.int _ n) =>
    match P.underlying t with
    | some (.slice e) =>
      match x with
      | .d (.sl b l) => if 0 ≤ n then (l[n.toNat]?).bind fun y => if y.nc = P.cellsOf e then some (.rp b y.cells) else none else none
      | .clip b l => if 0 ≤ n then (l[n.toNat]?).bind fun y => if y.nc = P.cellsOf e then some (.rp b y.cells) else none else none
      | .bor r p off len =>
        if 0 ≤ n ∧ n < len then
          (k.get r).bind fun c => (c.at p).bind fun nd => match nd with
            | .own es => (es[off + n.toNat]?).bind fun y => if y.nc = P.cellsOf e then some (.loc r p (off + n.toNat) 0) else none
            | _ => none
        else none
      | _ => none
    | some (.array len e) =>
      match asLoc x with
      | .loc r p j off => if 0 ≤ n ∧ n < len ∧ (P.info? e).isSome ∧ locOk k r p j (off + n.toNat * P.cellsOf e) then some (.loc r p j (off + n.toNat * P.cellsOf e)) else none
      | .rp b cs => if 0 ≤ n ∧ n < len ∧ (P.info? e).isSome then some (.rp b (cs.drop (n.toNat * P.cellsOf e))) else none
      | _ => none
    | _ => none
  | _ => none
def fieldAddrE (P : Program) (t : TypeId) (x : SV) (f : Nat) (k : Wk) : Option SV :=
  (fieldOf P t f).bind fun (o, n, _) =>
    if 0 < n then
      match asLoc x with
      | .loc r p i off => if locOk k r p i (off + o) then some (.loc r p i (off + o)) else none
      | .rp b cs => some (.rp b (cs.drop o))
      | _ => none
    else none
def cell1 : SV → Option SV
  | .d (.agg _) => none
  | x => some x
def partE (cs : List SV) (off n : Nat) (ag : Bool) : Option SV :=
  if ag then (if off + n ≤ cs.length then some (SV.mkAgg (win cs off n)) else none) else (cs[off]?).bind cell1
def fieldE (P : Program) (t : TypeId) (x : SV) (f : Nat) : Option SV :=
  (fieldOf P t f).bind fun (o, n, ag) =>
    match x with
    | .d (.agg l) => if ag then (if o + n ≤ l.length then some (.d (.agg (win l o n))) else none) else (l[o]?).bind D.sv1
    | .agg l => partE l o n ag
    | _ => none
def indexE (P : Program) (t : TypeId) (x i : SV) : Option SV :=
  match i with
  | .d (.int _ n) =>
    match x with
    | .d (.str s) => match P.underlying t with
      | some .string => if 0 ≤ n then (s[n.toNat]?).map fun b => .d (.int .u8 b.toNat) else none
      | _ => none
    | .d (.agg l) => match P.underlying t with
      | some (.array len e) => if 0 ≤ n ∧ n < len ∧ 0 < P.cellsOf e then
          (aggO P e).bind fun ag => (if ag then (if n.toNat * P.cellsOf e + P.cellsOf e ≤ l.length then some (.d (.agg (win l (n.toNat * P.cellsOf e) (P.cellsOf e)))) else none) else (l[n.toNat * P.cellsOf e]?).bind D.sv1) else none
      | _ => none
    | _ => none
  | _ => none
def boundE : Option SV → Nat → Option Nat
  | none, d => some d
  | some (.d (.int _ n)), _ => if 0 ≤ n then some n.toNat else none
  | _, _ => none
/-- x[lo:hi:mx]; hi and mx stay within the length -/
def headD (n : Nat) : List D → Bool
  | [] => true
  | x :: _ => x.nc == n
def headT (n : Nat) : List T → Bool
  | [] => true
  | x :: _ => x.nc == n
/-- the first element of a window has so many cells? -/
def winOk (n : Nat) (r : Root) (p : Path) (o m : Nat) (k : Wk) : Bool :=
  match (k.get r).bind fun c => c.at p with
  | some (.own es) => headT n (win es o m)
  | _ => false
def sliceE (P : Program) (t : TypeId) (x : SV) (lo hi mx : Option SV) (k : Wk) : Option SV :=
  match x with
  | .d (.str s) => match P.underlying t, mx with
    | some .string, none => (boundE lo 0).bind fun l => (boundE hi s.length).bind fun h => if l ≤ h ∧ h ≤ s.length then some (.d (.str (win s l (h - l)))) else none
    | _, _ => none
  | .d (.sl b xs) => match P.underlying t, mx with
    | some (.slice e), none => (boundE lo 0).bind fun l => (boundE hi xs.length).bind fun h => if l ≤ h ∧ h ≤ xs.length ∧ (P.info? e).isSome ∧ headD (P.cellsOf e) (win xs l (h - l)) then some (.d (.sl b (win xs l (h - l)))) else none
    | some (.slice e), some m => (boundE lo 0).bind fun l => (boundE hi xs.length).bind fun h => (boundE (some m) 0).bind fun m =>
        if l ≤ h ∧ h = m ∧ h ≤ xs.length ∧ hi.isSome ∧ (P.info? e).isSome ∧ headD (P.cellsOf e) (win xs l (h - l)) then some (.clip b (win xs l (h - l))) else none
    | _, _ => none
  | .d .nils => match P.underlying t, mx with
    | some (.slice e), none => (boundE lo 0).bind fun l => (boundE hi 0).bind fun h => if l = 0 ∧ h = 0 ∧ (P.info? e).isSome then some (.d .nils) else none
    | some (.slice e), some m => (boundE lo 0).bind fun l => (boundE hi 0).bind fun h => (boundE (some m) 0).bind fun m => if l = 0 ∧ h = 0 ∧ m = 0 ∧ hi.isSome ∧ (P.info? e).isSome then some (.d .nils) else none
    | _, _ => none
  | .bor r p off len => match P.underlying t, mx with
    | some (.slice e), none => (boundE lo 0).bind fun l => (boundE hi len).bind fun h => if l ≤ h ∧ h ≤ len ∧ (P.info? e).isSome ∧ winOk (P.cellsOf e) r p (off + l) (h - l) k then some (.bor r p (off + l) (h - l)) else none
    | some (.slice e), some m => (boundE lo 0).bind fun l => (boundE hi len).bind fun h => (boundE (some m) 0).bind fun m =>
        if l ≤ h ∧ h ≤ m ∧ m ≤ len ∧ hi.isSome ∧ (P.info? e).isSome ∧ winOk (P.cellsOf e) r p (off + l) (h - l) k then some (.bor r p (off + l) (h - l)) else none
    | _, _ => none
  | _ => none

/-! ### slices -/
def lenE (P : Program) (t : TypeId) (H : List Ob) : SV → Option Int
  | .d (.str s) => match P.underlying t with | some .string => some s.length | _ => none
  | .d .nils => match P.underlying t with | some (.slice _) => some 0 | _ => none
  | .d (.sl _ l) => match P.underlying t with | some (.slice _) => some l.length | _ => none
  | .clip _ l => match P.underlying t with | some (.slice _) => some l.length | _ => none
  | .bor _ _ _ len => match P.underlying t with | some (.slice _) => some len | _ => none
  | .d .nilm => match P.underlying t with | some (.map _ _) => some 0 | _ => none
  | .d (.map o) => match P.underlying t, H[o]? with | some (.map _ _), some (.map es) => some es.length | _, _ => none
  | _ => none
def plainT : List T → Bool
  | [] => true
  | .d _ :: r => plainT r
  | _ :: _ => false
/-- the elements of what is appended: a temporary's are moved, others copied -/
def newsE (nv : Nat) (v : SV) (k : Wk) : Option (List T × Wk) :=
  match v with
  | .d .nils => some ([], k)
  | .d (.sl _ l) => some (l.map .d, k)
  | .clip _ l => some (l.map .d, k)
  | .bor r p off len =>
    (k.get r).bind fun c => (c.at p).bind fun nd => match nd with
      | .own es =>
        match r, p with
        | .l n j, [] => if nv ≤ n ∧ off = 0 ∧ len = es.length then (k.set (.l n j) .dead).map fun (k : Wk) => (es, k.tell (.kill (.l n j) []))
          else if plainT (win es off len) then some (win es off len, k) else none
        | _, _ => if plainT (win es off len) then some (win es off len, k) else none
      | _ => none
  | _ => none
def uniform (n : Nat) (l : List T) : Bool := l.all fun t => t.nc == n
/-- not: nothing, put behind nothing of a row that has something -/
def okLen (len : Nat) (es news : List T) : Bool := decide (len ≠ 0) || es.isEmpty || !news.isEmpty
/-- the elements that are appended to -/
def oldsE (n : Nat) (news : List T) (v : SV) (k : Wk) : Option (List T × Wk) :=
  match v with
  | .d .nils => some ([], k)
  | .clip _ [] => some ([], k)
  | .bor r p off len =>
    if off = 0 then
      (k.get r).bind fun c => (c.at p).bind fun nd => match nd with
        | .own es => if len ≤ es.length ∧ uniform n es ∧ okLen len es news then (c.put p .dead).bind fun c' => (k.set r c').map fun (k : Wk) => (es.take len, k.tell (.kill r p)) else none
        | _ => none
    else none
  | _ => none
def appendE (P : Program) (nv dst : Nat) (t : TypeId) (s x : SV) (k : Wk) : Option (SV × Wk) :=
  (elemOf P t).bind fun e => (zeroOf P e).bind fun z => (newsE nv x k).bind fun (news, k) =>
    if 0 < P.cellsOf e ∧ uniform (P.cellsOf e) news ∧ z.nc = P.cellsOf e then
      (oldsE (P.cellsOf e) news (trv k.tr s) k).bind fun (olds, k) =>
        if (olds.length + news.length) * P.bytesOf e ≤ 140737488355328 ∧ olds.length + news.length ≤ 9223372036854775807 then
          some (.bor (.l dst 0) [] 0 (olds ++ news).length, k.new dst 0 (.own (olds ++ news)))
        else none
    else none
def makeE (P : Program) (dst : Nat) (t : TypeId) (l c : SV) (k : Wk) : Option (SV × Wk) :=
  match l, c with
  | .d (.int _ n), .d (.int _ m) =>
    (elemOf P t).bind fun e => (zeroOf P e).bind fun z =>
      if 0 ≤ n ∧ n ≤ m ∧ (n = 0 → m = 0) ∧ (P.bytesOf e : Int) * m ≤ 281474976710656 ∧ m ≤ 9223372036854775807 ∧ 0 < P.cellsOf e ∧ z.nc = P.cellsOf e then
        some (.bor (.l dst 0) [] 0 n.toNat, k.new dst 0 (.own (List.replicate n.toNat (T.ofZero z))))
      else none
  | _, _ => none
def setAt (l : List T) : List (Nat × T) → Option (List T)
  | [] => some l
  | (i, t) :: r => if i < l.length then setAt (l.set i t) r else none
def absorbP (nv : Nat) : List (Nat × SV) → Wk → Option (List (Nat × T) × Wk)
  | [], k => some ([], k)
  | (i, v) :: r, k => (absorb nv v k).bind fun (t, k) => (absorbP nv r k).map fun (ts, k) => ((i, t) :: ts, k)
def isD : SV → Bool
  | .d _ => true
  | _ => false
/-- lit: the row is never written: it is pure data from the beginning -/
def buildSliceE (P : Program) (nv dst : Nat) (lit : Bool) (t : TypeId) (len : Nat) (parts : List (Nat × SV)) (k : Wk) : Option (SV × Wk) :=
  (elemOf P t).bind fun e => (zeroOf P e).bind fun z => (absorbP nv parts k).bind fun (ps, k) =>
    if 0 < P.cellsOf e ∧ ps.all (fun p => p.2.nc == P.cellsOf e) ∧ len * P.cellsOf e ≤ 16777216 ∧ z.nc = P.cellsOf e then
      (setAt (List.replicate len (T.ofZero z)) ps).bind fun es =>
        if lit then (if parts.all (fun p => isD p.2) then (T.frzs false es).map fun ds => (.d (.sl false ds), k) else none)
        else some (.bor (.l dst 0) [] 0 len, k.new dst 0 (.own es))
    else none
def SV.solid : SV → Bool
  | .dead => false
  | .tup _ => false
  | _ => true
/-- where the parts of a struct, or an array, begin, and their sizes -/
def placesOf (P : Program) (t : TypeId) : Option (Nat ⊕ List (Nat × Nat)) :=
  match P.underlying t with
  | some (.struct fs) => (fs.toList.mapM fun f => (P.info? f.type).map fun i => (f.offset, i.size)).map .inr
  | some (.array _ e) => (P.info? e).map fun i => .inl i.size
  | _ => none
def placeAt : Nat ⊕ List (Nat × Nat) → Nat → Option (Nat × Nat)
  | .inl n, i => some (i * n, n)
  | .inr l, i => l[i]?
def fillE (pl : Nat ⊕ List (Nat × Nat)) : List SV → List (Nat × SV) → Option (List SV)
  | cs, [] => some cs
  | cs, (i, v) :: r => (placeAt pl i).bind fun (o, n) => if v.solid ∧ v.nc = n ∧ o + n ≤ cs.length then fillE pl (cs.take o ++ v.cells ++ cs.drop (o + n)) r else none
/-- a struct by its parts: nothing is taken in: it holds what the parts hold -/
def buildE (P : Program) (t : TypeId) (parts : List (Nat × SV)) : Option SV :=
  match zeroOf P t with
  | some (.agg z) => (placesOf P t).bind fun pl => (fillE pl (z.map .d) parts).map SV.mkAgg
  | _ => none

/-! ### maps -/
def keyEq (P : Program) (kt : TypeId) (x y : D) : Option Bool :=
  match x, y with
  | .agg a, .agg b => (plainS P kt).bind fun ks => eqKs ks a b
  | x, y => (kindOf P kt).bind fun n => eqK n x y
def findK (eq : D → D → Option Bool) (key : D) : List (D × T) → Option (Option T)
  | [] => some none
  | e :: r => (eq key e.1).bind fun b => if b then some (some e.2) else findK eq key r
def putK (eq : D → D → Option Bool) (key : D) (v : T) : List (D × T) → Option (List (D × T))
  | [] => some [(key, v)]
  | e :: r => (eq key e.1).bind fun b => if b then some ((key, v) :: r) else (putK eq key v r).map (e :: ·)
def mapOf (P : Program) (t : TypeId) : Option (TypeId × TypeId) := match P.underlying t with | some (.map a e) => some (a, e) | _ => none
def lookupE (P : Program) (t : TypeId) (m key : SV) (ok : Bool) (H : List Ob) : Option SV :=
  (mapOf P t).bind fun (kt, e) =>
    match key with
    | .d kd =>
      if (keyEq P kt kd kd).isSome then
      (match m with
      | .d .nilm => some none
      | .d (.map o) => match H[o]? with | some (.map es) => findK (keyEq P kt) kd es | _ => none
      | _ => none).bind fun r => (zeroOf P e).bind fun z =>
        (match r with | some (.d x) => some (x, true) | some _ => none | none => some (z, false)).map fun (x, b) => if ok then .tup [.d x, .d (.bool b)] else .d x
      else none
    | _ => none
def mapPutE (P : Program) (nv : Nat) (t : TypeId) (m key v : SV) (k : Wk) : Option Wk :=
  (mapOf P t).bind fun (kt, _) =>
    match m, key with
    | .d (.map o), .d kd => if (keyEq P kt kd kd).isSome then (absorb nv v k).bind fun (x, k) => match x, k.H[o]? with
      | .d y, some (.map es) => (putK (keyEq P kt) kd (.d y) es).map fun es => { k with H := k.H.set o (.map es) }
      | _, _ => none
      else none
    | _, _ => none

def boxE (h : Hint) (dst : Nat) (x : T) (k : Wk) : Option (SV × Wk) :=
  if x.nc = 0 then none
  else if h.objs.contains dst then some (.d (.ptr k.H.length), { k with H := k.H ++ [.box x] })
  else some (.loc (.l dst 0) [] 0 0, k.new dst 0 (.own [x]))
def assignE (dst : Nat) (slice : Bool) (v : SV) (k : Wk) : Option (SV × Wk) :=
  match v with
  | .d .nils => if slice then some (.bor (.l dst 0) [] 0 0, k.new dst 0 (.own [])) else some (.d .nils, k)
  | .bor (.l n j) [] 0 len =>
    if (n, j) = (dst, 0) then some (.bor (.l n j) [] 0 len, k) else
    (k.get (.l n j)).bind fun c => match c with
      | .own es =>
        if len = es.length then some (.bor (.l dst 0) [] 0 len, ({ k with ct := ((n, j), .dead) :: k.ct }.new dst 0 c).tell (.ren (n, j) (dst, 0)))
        else some (.bor (.l n j) [] 0 len, k)
      | _ => none
  | v => some (v, k)

def isConst : Operand → Bool
  | .const _ => true
  | _ => false
/-- every operation but calls of functions. What it makes, and the contents behind it. -/
def opE (P : Program) (h : Hint) (dst : Nat) (ty : TypeId) (op : Op) (ρ : Operand → SV) (k : Wk) : Option (SV × Wk) :=
  match op with
  | .move x => some (ρ x, k)
  | .assign x => assignE dst (elemOf P ty).isSome (ρ x) k
  | .pick c a b => match ρ c with | .d (.bool t) => some (if t then ρ a else ρ b, k) | _ => none
  | .alloc e => (zeroOf P e).bind fun z => boxE h dst (T.ofZero z) k
  | .box e x => (absorb h.nv (ρ x) k).bind fun (t, k) => if t.nc = P.cellsOf e then boxE h dst t k else none
  | .build t parts => (buildE P t (parts.toList.map fun p => (p.1, ρ p.2))).map (·, k)
  | .buildSlice t len parts => buildSliceE P h.nv dst (h.lits.contains dst) t len (parts.toList.map fun p => (p.1, ρ p.2)) k
  | .load t a => (loadE P t (ρ a) k).map (·, k)
  | .store t a v => (storeE P h.nv t (ρ a) (ρ v) k).map (.dead, ·)
  | .nilCheck x => match ρ x with | .loc r p i o => some (.loc r p i o, k) | .rp b cs => some (.rp b cs, k) | .d (.ptr o) => some (.d (.ptr o), k) | .d (.fn (.func f) a c) => some (.d (.fn (.func f) a c), k) | _ => none
  | .binOp op t x y _ => (binE P (isConst x || isConst y) op t (ρ x) (ρ y)).map fun y => (.d y, k)
  | .unOp op _ x => (unE op (ρ x)).map fun y => (.d y, k)
  | .convert s t x => (convE P s t (ρ x)).map fun y => (.d y, k)
  | .makeFunc f a c => (SV.pures (a.toList.map ρ)).bind fun a => (SV.pures (c.toList.map ρ)).map fun c => (.d (.fn f a c), k)
  | .makeMap _ none => some (.d (.map k.H.length), { k with H := k.H ++ [.map []] })
  | .makeMap t (some n) => match mapOf P t, ρ n with | some _, .d (.int _ _) => some (.d (.map k.H.length), { k with H := k.H ++ [.map []] }) | _, _ => none
  | .makeSlice t l c => makeE P dst t (ρ l) (ρ c) k
  | .slice t x lo hi mx => (sliceE P t (ρ x) (lo.map ρ) (hi.map ρ) (mx.map ρ) k).map (·, k)
  | .fieldAddr t x f => (fieldAddrE P t (ρ x) f k).map (·, k)
  | .field t x f => (fieldE P t (ρ x) f).map (·, k)
  | .indexAddr t x i => (indexAddrE P t (ρ x) (ρ i) k).map (·, k)
  | .index t x i => (indexE P t (ρ x) (ρ i)).map (·, k)
  | .lookup t m key ok => (lookupE P t (ρ m) (ρ key) ok k.H).map (·, k)
  | .mapUpdate t m key v => (mapPutE P h.nv t (ρ m) (ρ key) (ρ v) k).map (.dead, ·)
  | .extract x n => match ρ x with | .tup l => (l[n]?).map (·, k) | _ => none
  | .call { callee := .builtin .len, args, argTypes } => match args.toList, argTypes.toList with
    | [x], [t] => (lenE P t k.H (ρ x)).map fun n => (.d (.int .i64 n), k)
    | _, _ => none
  | .call { callee := .builtin .append, args, argTypes } => match args.toList, argTypes.toList with
    | [x, y], [t, u] => if t = u then appendE P h.nv dst t (ρ x) (ρ y) k else none
    | _, _ => none
  | _ => none
end Go.Am
