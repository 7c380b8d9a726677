/- A part of the proof. -/
import Derived.Calls
import Derived.Orders
import Derived.WalkKit
import Derived.Lib.Bytealg
set_option linter.unusedSimpArgs false
set_option linter.unusedVariables false
theorem xB:type_of% @Option.bind_eq_some_iff:= @Option.bind_eq_some_iff
theorem xM:type_of% @Option.map_eq_some_iff:= @Option.map_eq_some_iff
theorem xJ:type_of% @Option.some.injEq:= @Option.some.injEq
theorem pJ:type_of% @Prod.mk.injEq:= @Prod.mk.injEq
theorem xG:type_of% @List.getElem?_eq_getElem:= @List.getElem?_eq_getElem
theorem xS:type_of% @Option.bind_some:= @Option.bind_some
theorem xA:type_of% @Bool.and_eq_true:= @Bool.and_eq_true
theorem xC:type_of% @List.cons.injEq:= @List.cons.injEq
theorem xD:type_of% @List.mem_append:= @List.mem_append
theorem xF:type_of% @Option.map_eq_bind:= @Option.map_eq_bind
theorem xH:type_of% @Bool.false_eq_true:= @Bool.false_eq_true
theorem xK:type_of% @List.append_assoc:= @List.append_assoc
theorem xL:type_of% @List.mem_append_left:= @List.mem_append_left
theorem xR:type_of% @List.mem_append_right:= @List.mem_append_right
theorem xN:type_of% @List.getElem?_append_right:= @List.getElem?_append_right
theorem xO:type_of% @List.getElem?_append_left:= @List.getElem?_append_left
theorem xP:type_of% @List.length_append:= @List.length_append
theorem xQ:type_of% @Option.map_some:= @Option.map_some
theorem xT:type_of% @List.nodup_append:= @List.nodup_append
theorem xU:type_of% @List.getElem?_take:= @List.getElem?_take
theorem xV:type_of% @Int.toNat_natCast:= @Int.toNat_natCast
theorem xW:type_of% @List.drop_eq_getElem_cons:= @List.drop_eq_getElem_cons
theorem xX:type_of% @Option.bind_assoc:= @Option.bind_assoc
theorem xY:type_of% @List.mem_cons:= @List.mem_cons
theorem xZ:type_of% @List.length_cons:= @List.length_cons
theorem yA:type_of% @Nat.lt_of_lt_of_le:= @Nat.lt_of_lt_of_le
theorem yB:type_of% @Array.getD_eq_getD_getElem? := @Array.getD_eq_getD_getElem?
theorem yC:type_of% @Nat.le_of_not_lt:= @Nat.le_of_not_lt
theorem yD:type_of% @decide_eq_true_eq:= @decide_eq_true_eq
theorem yE:type_of% @List.getElem?_cons_zero:= @List.getElem?_cons_zero
theorem yF:type_of% @Array.length_toList:= @Array.length_toList
theorem yG:type_of% @List.any_eq_false:= @List.any_eq_false
theorem yJ:type_of% @Option.isNone_iff_eq_none:= @Option.isNone_iff_eq_none
theorem yK:type_of% @List.getElem?_set_self:= @List.getElem?_set_self
theorem yL:type_of% @List.eq_nil_of_length_eq_zero:= @List.eq_nil_of_length_eq_zero
theorem yM:type_of% @Array.getElem?_toList:= @Array.getElem?_toList
theorem yN:type_of% @List.length_nil:= @List.length_nil
theorem yP:type_of% @List.take_append_drop:= @List.take_append_drop
theorem yQ:type_of% @List.mem_singleton:= @List.mem_singleton
theorem yR:type_of% @List.length_take:= @List.length_take
theorem yS:type_of% @List.mem_of_getElem? := @List.mem_of_getElem?
namespace Go.Am
open Go
inductive D where
 |int (k:IntKind) (n:Int)
 |bool (b:Bool)
 |str (s:List UInt8)
 |nils
 |sl (b:Bool) (l:List D)
 |agg (l:List D)
 |nilp
 |ptr (o:Nat)
 |nilm
 |map (o:Nat)
 |nilf
 |fn (f:Fn) (first cap:List D)
 |nili
 |iface (t:TypeId) (x:D)
 |rptr (cs:List D)
 |yld (o:Nat)
 deriving Inhabited
inductive T where
 |d (x:D)
 |own (es:List T)
 |agg (cs:List T)
 |dead
 deriving Inhabited
abbrev aE:=List (Nat×Nat)
inductive Root where
 |l (n k:Nat)
 |o (n:Nat)
 deriving DecidableEq,Inhabited
inductive SV where
 |d (x:D)
 |bor (r:Root) (p:aE) (off len:Nat)
 |loc (r:Root) (p:aE) (i off:Nat)
 |rp (b:Bool) (cs:List D)
 |clip (b:Bool) (l:List D)
 |ns (b:Bool)
 |agg (l:List SV)
 |tup (l:List SV)
 |dead
 deriving Inhabited
inductive Ob where
 |box (c:T)
 |map (es:List (D×T))
 |iter (s:List UInt8) (p:Nat)
 |miter (m:Option Nat)
 |frame (g:FuncId) (ps:List Nat) (a b:Code) (env:List (Nat×SV)) (ct:List ((Nat×Nat)×T))
 |lock
 |row (es:List T)
 |sset (ks:List (List UInt8))
 deriving Inhabited
structure St where
 env:List (Nat×SV)
 ct:List ((Nat×Nat)×T)
 H:List Ob
inductive OT where
 |leaf
 |node (i j:Nat) (a b:OT)
structure Hint where
 nv:Nat
 objs:List Nat:=[]
 keep:List Nat:=[]
 lits:List Nat:=[]
 own:Bool:=false
 live:Nat→List Nat
 nilt:Nat:=0
 ro:List Nat:=[]
 gl:Nat→Option D:=fun _=>none
 pan:List Nat:=[]
 rcv:Bool:=false
 nest:Bool:=false
 emp:List Nat:=[]
 self:Nat:=0
 ext:Option (List D→Option (List T)):=none
 lkn:List Nat:=[]
 swp:Nat→Option OT:=fun _=>none
 mv:List Nat:=[]
def Hint.nvAt(h:Hint)(dst:Nat):Nat:=if h.emp.contains dst=true then 1099511627776 else h.nv
abbrev D.i(n:Int):D:=.int .i64 n
def D.nc:D→Nat
 | .agg l=>l.length
 |_=>1
def D.cells:D→List D
 | .agg l=>l
 |x=>[x]
def T.cells:T→List T
 | .d (.agg l)=>l.map .d
 | .agg cs=>cs
 |x=>[x]
def T.nc:T→Nat
 | .d x=>x.nc
 | .agg cs=>cs.length
 |_=>1
def T.cell(t:T)(off:Nat):Option T:=
 match t with
 | .agg cs=>cs[off]?
 | .d (.agg l)=>(l[off]?).map .d
 |x=>if off=0 then some x else none
def T.pures:List T→Option (List D)
 | []=>some []
 | .d x::r=>(T.pures r).map (x::·)
 |_::_=>none
def T.mkAgg(l:List T):T:=match T.pures l with |some ds=>.d (.agg ds) |none=>.agg l
def T.setCells(t:T)(off:Nat)(vs:List T):T:=T.mkAgg (t.cells.take off++vs++t.cells.drop (off+vs.length))
def T.putCell(e:T)(off:Nat)(c:T):T:=
 match e with
 | .d (.agg _)=>e.setCells off [c]
 | .agg _=>e.setCells off [c]
 |_=>c
def T.at:T→aE→Option T
 |t,[]=>some t
 | .own es,(i,off)::p=>(es[i]?).bind fun e=>(e.cell off).bind fun c=>c.at p
 |_,_::_=>none
def T.put:T→aE→T→Option T
 |_,[],x=>some x
 | .own es,(i,off)::p,x=>(es[i]?).bind fun e=>(e.cell off).bind fun c=>(c.put p x).map fun c'=>
   .own (es.set i (e.putCell off c'))
 |_,_::_,_=>none
def D.norm1:D→D
 | .nils=>.sl false []
 |x=>x
def D.norm:D→D
 | .agg l=>.agg (l.map D.norm1)
 |x=>x.norm1
mutual
def T.frz(b:Bool):T→Option D
 | .d x=>some x.norm
 | .own es=>(T.frzs b es).map (.sl b)
 | .agg cs=>(T.frzs b cs).map .agg
 | .dead=>none
def T.frzs(b:Bool):List T→Option (List D)
 | []=>some []
 |t::r=>(T.frz b t).bind fun x=>(T.frzs b r).map (x::·)
end
mutual
def D.imm:D→Bool
 | .sl b l=> !b&&D.imms l
 | .agg l=>D.imms l
 | .fn _ a c=>D.imms a&&D.imms c
 | .iface _ x=>x.imm
 | .rptr _=>false
 |_=>true
def D.imms:List D→Bool
 | []=>true
 |x::r=>x.imm&&D.imms r
end
mutual
def T.imm:T→Bool
 | .d x=>x.imm
 | .own es=>T.imms es
 | .agg cs=>T.imms cs
 | .dead=>true
def T.imms:List T→Bool
 | []=>true
 |x::r=>x.imm&&T.imms r
end
mutual
def D.lend:D→D
 | .sl _ l=>.sl true (D.lends l)
 | .agg l=>.agg (D.lends l)
 | .fn f a c=>.fn f (D.lends a) (D.lends c)
 | .iface t x=>.iface t x.lend
 | .rptr l=>.rptr (D.lends l)
 |x=>x
def D.lends:List D→List D
 | []=>[]
 |x::r=>x.lend::D.lends r
end
def canon(sn:Bool)(l:List D):List D:=if sn=false∧D.imms l=true then l else D.lends l
mutual
def D.low(n:Nat):D→Bool
 | .ptr o=>o<n
 | .map o=>o<n
 | .sl _ l=>D.lows n l
 | .agg l=>D.lows n l
 | .fn _ a c=>D.lows n a&&D.lows n c
 | .iface _ x=>x.low n
 | .rptr l=>D.lows n l
 | .yld o=>o<n
 |_=>true
def D.lows(n:Nat):List D→Bool
 | []=>true
 |x::r=>x.low n&&D.lows n r
end
mutual
def T.low(n:Nat):T→Bool
 | .d x=>x.low n
 | .own es=>T.lows n es
 | .agg cs=>T.lows n cs
 | .dead=>true
def T.lows(n:Nat):List T→Bool
 | []=>true
 |x::r=>x.low n&&T.lows n r
end
mutual
def SV.low(n:Nat):SV→Bool
 | .d x=>x.low n
 | .bor (.o o) _ _ _=>o<n
 | .loc (.o o) _ _ _=>o<n
 | .rp _ cs=>D.lows n cs
 | .clip _ l=>D.lows n l
 | .agg l=>SV.lows n l
 | .tup l=>SV.lows n l
 |_=>true
def SV.lows(n:Nat):List SV→Bool
 | []=>true
 |x::r=>x.low n&&SV.lows n r
end
def Ob.low(n:Nat):Ob→Bool
 | .box c=>c.low n
 | .map es=>es.all fun e=>e.1.low n&&e.2.low n
 | .iter _ _=>true
 | .miter m=>match m with |some o=>o<n |none=>true
 | .frame _ _ _ _ env ct=>env.all (fun p=>p.2.low n)&&ct.all fun p=>p.2.low n
 | .lock=>true
 | .row es=>T.lows n es
 | .sset _=>true
def Ob.plain:Ob→Bool
 | .map _=>true
 | .iter _ _=>true
 | .miter _=>true
 | .frame .. =>true
 | .row _=>true
 | .sset _=>true
 |_=>false
def D.ofCell:Value→Option D
 | .bool b=>some (.bool b)
 | .int k n=>some (.int k n)
 | .string s=>some (.str s.data.toList)
 | .pointer none=>some .nilp
 | .slice none 0 0=>some .nils
 | .map none=>some .nilm
 | .nilFunc=>some .nilf
 | .nilIface=>some .nili
 |_=>none
def D.ofVal:Value→Option D
 | .agg cs=>(cs.toList.mapM D.ofCell).map .agg
 |v=>D.ofCell v
def T.ofD1:D→T
 | .nils=>.own []
 |x=>.d x
def T.ofZero:D→T
 | .agg l=>if l.any (fun x=>match x with | .nils=>true |_=>false)then .agg (l.map T.ofD1)else .d (.agg l)
 |x=>T.ofD1 x
def SV.cells:SV→List SV
 | .d (.agg l)=>l.map .d
 | .agg l=>l
 | .tup _=>[.dead]
 |x=>[x]
def SV.nc:SV→Nat
 | .d x=>x.nc
 | .agg l=>l.length
 |_=>1
def SV.pures:List SV→Option (List D)
 | []=>some []
 | .d x::r=>(SV.pures r).map (x::·)
 |_::_=>none
def SV.mkAgg(l:List SV):SV:=match SV.pures l with |some ds=>.d (.agg ds) |none=>.agg l
def jW(P:Program)(t:TypeId):Option Bool:=match P.underlying t with |some (.struct _) |some (.array _ _)=>some true |some _=>some false |none=>none
def elemOf(P:Program)(t:TypeId):Option TypeId:=match P.underlying t with |some (.slice e)=>some e |_=>none
def ah(P:Program)(t:TypeId)(f:Nat):Option (Nat×Nat×Bool):=
 match P.underlying t with
 |some (.struct fs)=>(fs[f]?).bind fun x=>(jW P x.type).map fun ag=>(x.offset,P.cellsOf x.type,ag)
 |_=>none
def aO(P:Program)(t:TypeId):Option D:=((P.info? t).bind (·.zero)).bind D.ofVal
inductive Tr where
 |kill (r:Root) (p:aE)
 |killN (r:Root) (n:Nat)
 |frz (r:Root) (p:aE) (l:List D)
 |ren (a b:Nat×Nat)
 |killO
mutual
def Tr.sv(x:Tr):SV→SV
 | .bor r p off len=>
  match x with
  | .kill r' p'=>if r=r' then(if p=p' then .dead else if p'.length<p.length then .dead else .bor r p off len)else .bor r p off len
  | .killN r' n=>if r=r'∧n≤p.length then .dead else .bor r p off len
  | .frz r' p' l=>if r=r' then(if p=p' then .d (.sl false ((l.drop off).take len))else if p'.length<p.length then .dead else .bor r p off len)else .bor r p off len
  | .ren a b=>if r=.l a.1 a.2 then .bor (.l b.1 b.2) p off len else .bor r p off len
  | .killO=>match r with | .o _=>.dead |_=>.bor r p off len
 | .loc r p i off=>
  match x with
  | .kill r' p'=>if r=r' then(if p=p' then .dead else if p'.length<p.length then .dead else .loc r p i off)else .loc r p i off
  | .killN r' n=>if r=r'∧n≤p.length then .dead else .loc r p i off
  | .frz r' p' _=>if r=r' then(if p=p' then .dead else if p'.length<p.length then .dead else .loc r p i off)else .loc r p i off
  | .ren a b=>if r=.l a.1 a.2 then .loc (.l b.1 b.2) p i off else .loc r p i off
  | .killO=>match r,p with | .o _,_::_=>.dead |_,_=>.loc r p i off
 | .agg l=>.agg (Tr.svs x l)
 | .tup l=>.tup (Tr.svs x l)
 |v=>v
def Tr.svs(x:Tr):List SV→List SV
 | []=>[]
 |v::r=>x.sv v::Tr.svs x r
end
def Tr.env(x:Tr)(e:List (Nat×SV)):List (Nat×SV):=e.map fun p=>(p.1,x.sv p.2)
def trs:List Tr→List (Nat×SV)→List (Nat×SV)
 | [],e=>e
 |x::r,e=>trs r (x.env e)
def look{α:Type}(l:List (Nat×α))(t:Nat):Option α:=
 match l with
 | []=>none
 |(k,v)::r=>if k=t then some v else look r t
def aZ{α:Type}(l:List ((Nat×Nat)×α))(t:Nat×Nat):Option α:=
 match l with
 | []=>none
 |(k,v)::r=>if k=t then some v else aZ r t
def St.get(s:St)(t:Nat):SV:=(look s.env t).getD .dead
def B4:Operand→SV
 | .const v=>match D.ofVal v with |some x=>.d x |none=>.dead
 | .func f=>.d (.fn (.func f) [] [])
 |_=>.dead
def St.val(s:St):Operand→SV
 | .tmp t=>s.get t
 |x=>B4 x
def cont(ct:List ((Nat×Nat)×T))(H:List Ob):Root→Option T
 | .l n k=>aZ ct (n,k)
 | .o n=>match H[n]? with |some (.box c)=>some (.own [c]) |_=>none
structure Wk where
 ct:List ((Nat×Nat)×T)
 H:List Ob
 tr:List Tr:=[]
def Wk.get(k:Wk)(r:Root):Option T:=cont k.ct k.H r
def Wk.set(k:Wk)(r:Root)(t:T):Option Wk:=
 match r with
 | .l n j=>some {k with ct:=((n,j),t)::k.ct}
 | .o n=>match t with
  | .own [c]=>some {k with H:=k.H.set n (.box c)}
  |_=>none
def Wk.tell(k:Wk)(x:Tr):Wk:={k with tr:=k.tr++[x]}
def Wk.new(k:Wk)(n j:Nat)(t:T):Wk:={k with ct:=((n,j),t)::k.ct,tr:=k.tr++[.kill (.l n j) []]}
def win{α:Type}(l:List α)(off len:Nat):List α:=(l.drop off).take len
def ar(nv:Nat)(v:SV)(k:Wk):Option (T×Wk):=
 match v with
 | .d x=>some (.d x,k)
 | .clip b l=>some (.d (.sl b l),k)
 | .ns _=>some (.d (.sl false []),k)
 | .bor r p off len=>
  (k.get r).bind fun c=>(c.at p).bind fun nd=>
   match nd with
   | .own es=>
    match r,p with
    | .l n j,[]=>
     if nv≤n∧off=0∧len=es.length then(k.set (.l n j) .dead).map fun(k:Wk)=>(.own es,k.tell (.kill (.l n j) []))
     else(T.frzs false es).bind fun l=>(k.set r .dead).map fun(k:Wk)=>(.d (.sl false (win l off len)),k.tell (.frz r [] l))
    |r,p=>(T.frzs false es).bind fun l=>(c.put p (.d (.sl false l))).bind fun c'=>(k.set r c').map fun(k:Wk)=>(.d (.sl false (win l off len)),k.tell (.frz r p l))
   |_=>none
 |_=>none
def trv:List Tr→SV→SV
 | [],v=>v
 |x::r,v=>trv r (x.sv v)
def cj(nv:Nat):List SV→Wk→Option (List T×Wk)
 | [],k=>some ([],k)
 |v::r,k=>(ar nv (trv k.tr v) k).bind fun(t,k)=>(cj nv r k).map fun(ts,k)=>(t::ts,k)
def bD(nv:Nat)(v:SV)(k:Wk):Option (T×Wk):=
 match v with
 | .agg l=>(cj nv l k).map fun(ts,k)=>(T.mkAgg ts,k)
 |v=>ar nv (trv k.tr v) k
def D.sv1:D→Option SV
 | .agg _=>none
 |x=>some (.d x)
def dy(r:Root)(p:aE)(i off:Nat):T→Option SV
 | .d x=>x.sv1
 | .own es=>some (.bor r (p++[(i,off)]) 0 es.length)
 |_=>none
def eT(r:Root)(p:aE)(i:Nat):Nat→List T→Option (List SV)
 |_,[]=>some []
 |off,c::cs=>(dy r p i off c).bind fun v=>(eT r p i (off+1) cs).map (v::·)
def asLoc:SV→SV
 | .d (.ptr o)=>.loc (.o o) [] 0 0
 | .d (.rptr cs)=>.rp true cs
 |v=>v
def dW(P:Program)(t:TypeId)(v:SV)(k:Wk):Option SV:=
 match asLoc v with
 | .loc r p i off=>
  (k.get r).bind fun c=>(c.at p).bind fun nd=>
   match nd with
   | .own es=>(es[i]?).bind fun e=>(jW P t).bind fun ag=>
    if ag then
     match e with
     | .d (.agg l)=>if off+P.cellsOf t≤l.length then some (.d (.agg (win l off (P.cellsOf t))))else none
     | .agg cs=>if off+P.cellsOf t≤cs.length then(eT r p i off (win cs off (P.cellsOf t))).map SV.mkAgg else none
     |_=>none
    else(e.cell off).bind (dy r p i off)
   |_=>none
 | .rp _ cs=>(jW P t).bind fun ag=>
  if ag then(if P.cellsOf t≤cs.length then some (.d (.agg (cs.take (P.cellsOf t))))else none)
  else(cs[0]?).bind D.sv1
 |_=>none
def ow(dst:Nat)(v:SV)(k:Wk):Option (SV×Wk):=
 match v with
 | .bor r p 0 len=>
  (k.get r).bind fun c=>(c.at p).bind fun nd=>match nd with
   | .own es=>if len=es.length∧p≠[]then(c.put p .dead).bind fun c'=>(k.set r c').map fun(k:Wk)=>(.bor (.l dst 0) [] 0 len,(k.tell (.kill r p)).new dst 0 (.own es))else none
   |_=>none
 |_=>none
def mb:T→Bool
 | .own _=>true
 | .agg cs=>cs.any fun c=>match c with | .own _=>true |_=>false
 |_=>false
def T.fresh1:T→T
 | .d x=>T.ofD1 x
 |t=>t
def T.fresh:T→T
 | .d x=>T.ofZero x
 | .agg cs=>.agg (cs.map T.fresh1)
 |t=>t
def dB(nv:Nat)(v:SV)(k:Wk):Option (T×Wk):=(bD nv v k).map fun p=>(p.1.fresh,p.2)
def gB(P:Program)(nv:Nat)(t:TypeId)(a v:SV)(k:Wk):Option Wk:=
 (dB nv v k).bind fun(x,k)=>
 match asLoc (trv k.tr a)with
 | .loc r p i off=>
  if x.nc=P.cellsOf t∧0<x.nc then
   (k.get r).bind fun c=>(c.at p).bind fun nd=>
    match nd with
    | .own es=>(es[i]?).bind fun e=>
     if off+x.nc≤e.nc then
      (c.put p (.own (es.set i (if off=0∧x.nc=e.nc then x else e.setCells off x.cells)))).bind fun c'=>
       (k.set r c').map fun(k:Wk)=>if mb e then k.tell (.killN r (p.length+1))else k
     else none
    |_=>none
  else none
 |_=>none
def gf(op:BinOp)(k:IntKind)(x y:Int):Option D:=
 match op with
 | .add=>some (.int k (k.wrap (x+y)))
 | .sub=>some (.int k (k.wrap (x - y)))
 | .mul=>some (.int k (k.wrap (x * y)))
 | .quo=>if y=0 then none else some (.int k (k.wrap (x.tdiv y)))
 | .rem=>if y=0 then none else some (.int k (x.tmod y))
 | .and=>some (.int k (k.wrap (BitVec.ofInt k.bits x&&&BitVec.ofInt k.bits y).toNat))
 | .or=>some (.int k (k.wrap (BitVec.ofInt k.bits x ||| BitVec.ofInt k.bits y).toNat))
 | .xor=>some (.int k (k.wrap (BitVec.ofInt k.bits x ^^^ BitVec.ofInt k.bits y).toNat))
 | .andNot=>some (.int k (k.wrap (BitVec.ofInt k.bits x&&&~~~ BitVec.ofInt k.bits y).toNat))
 | .eql=>some (.bool (x==y))
 | .neq=>some (.bool (x !=y))
 | .lss=>some (.bool (decide (x<y)))
 | .leq=>some (.bool (decide (x≤y)))
 | .gtr=>some (.bool (decide (x >y)))
 | .geq=>some (.bool (decide (x≥y)))
 |_=>none
def Fo(op:BinOp)(k:IntKind)(x y:Int):Option D:=
 if y<0 then none else
 match op with
 | .shl=>some (.int k (k.wrap (x * 2 ^ (min y.toNat k.bits))))
 | .shr=>some (.int k (x.fdiv (2 ^ (min y.toNat k.bits))))
 |_=>none
def zk(op:BinOp)(x y:List UInt8):Option D:=
 match op with
 | .add=>if x.length+y.length≤9223372036854775807 then some (.str (x++y))else none
 | .eql=>some (.bool (x==y))
 | .neq=>some (.bool (!(x==y)))
 | .lss=>some (.bool (Op.bytesLess x y))
 | .leq=>some (.bool (Op.bytesLess x y || x==y))
 | .gtr=>some (.bool (!(Op.bytesLess x y || x==y)))
 | .geq=>some (.bool (!Op.bytesLess x y))
 |_=>none
def dl(P:Program)(t:TypeId):Option Nat:=match P.underlying t with |some (.int _)=>some 0 |some .string=>some 1 |some .bool=>some 2 |_=>none
def eqK:Nat→D→D→Option Bool
 |0,.int k a,.int k' b=>if k=k' then some (a==b)else none
 |1,.str a,.str b=>some (a==b)
 |2,.bool a,.bool b=>some (a==b)
 |_,_,_=>none
def uD:List Nat→List D→List D→Option Bool
 | [],[],[]=>some true
 |n::ns,a::r,b::q=>(eqK n a b).bind fun x=>(uD ns r q).map (x&&·)
 |_,_,_=>none
def mc(P:Program):Nat→List Field→Option (List Nat)
 |_,[]=>some []
 |i,f::r=>if f.offset=i∧f.name≠ "_" then(dl P f.type).bind fun n=>(mc P (i+1) r).map (n::·)else none
def sg(P:Program)(t:TypeId):Option (List Nat):=
 match P.underlying t with
 |some (.struct fs)=>if P.stoodInHeld t=false∧P.eqGuardType P.depth t=false then mc P 0 fs.toList else none
 |_=>none
def si(P:Program)(cst:Bool)(t:TypeId):D→SV→Option Bool
 | .nils,v=>match P.underlying t with
  |some (.slice _)=>(match v with | .d .nils=>some true | .d (.sl _ (_::_))=>some false | .clip _ (_::_)=>some false | .ns b=>some b | .bor _ _ _ (_+1)=>some false |_=>none)
  |_=>none
 | .nilp,v=>match P.underlying t with
  |some (.pointer _)=>(match v with | .d .nilp=>some true | .d (.ptr _)=>some false | .d (.rptr _)=>some false | .loc .. =>some false | .rp .. =>some false |_=>none)
  |_=>none
 | .nilm,v=>match P.underlying t with
  |some (.map _ _)=>(match v with | .d .nilm=>some true | .d (.map _)=>some false |_=>none)
  |_=>none
 | .nilf,v=>match P.underlying t with
  |some (.func _ _ _)=>(match v with | .d .nilf=>some true | .d (.fn ..)=>some false |_=>none)
  |_=>none
 | .nili,v=>match P.underlying t with
  |some (.interface _)=>(match v with | .d .nili=>if cst then some true else none | .d (.iface ..)=>some false |_=>none)
  |_=>none
 |_,_=>none
def eqV(P:Program)(cst:Bool)(t:TypeId)(x y:SV):Option Bool:=
 match x,y with
 | .d (.bool a),.d (.bool b)=>match P.underlying t with |some .bool=>some (a==b) |_=>none
 | .d (.agg a),.d (.agg b)=>(sg P t).bind fun ks=>uD ks a b
 |x,.d y=>match si P cst t y x with
  |some b=>some b
  |none=>match x with | .d x=>si P cst t x (.d y) |_=>none
 | .d x,y=>si P cst t x y
 |_,_=>none
def cE(P:Program)(cst:Bool)(op:BinOp)(t:TypeId)(x y:SV):Option D:=
 match x,y with
 | .d (.int k a),.d (.int k' b)=>
  match op with
  | .shl | .shr=>Fo op k a b
  |op=>if k=k' then gf op k a b else none
 | .d (.str a),.d (.str b)=>zk op a b
 |x,y=>
  match op with
  | .eql=>(eqV P cst t x y).map .bool
  | .neq=>(eqV P cst t x y).map fun b=>.bool (!b)
  |_=>none
def unE(op:UnOp):SV→Option D
 | .d (.bool b)=>match op with | .not=>some (.bool (!b)) |_=>none
 | .d (.int k n)=>match op with | .neg=>gf .sub k 0 n | .xor=>gf .xor k (if k.signed then -1 else k.max) n |_=>none
 |_=>none
def md:List D→Option (List UInt8)
 | []=>some []
 | .int .u8 n::r=>(md r).map (UInt8.ofNat n.toNat::·)
 |_=>none
def Gl(P:Program)(e:TypeId):Bool:=match P.underlying e with |some (.int .u8)=>true |_=>false
def tE(P:Program)(src dst:TypeId):SV→Option D
 | .d (.int _ n)=>match P.underlying src,P.underlying dst with
  |some _,some (.int k)=>some (.int k (k.wrap n))
  |some _,some .string=>some (.str (Utf8.encode n).data.toList)
  |_,_=>none
 | .d (.str s)=>match P.underlying src,P.underlying dst with
  |some .string,some .string=>some (.str s)
  |some .string,some (.slice e)=>if Gl P e=true then some (.sl false (s.map fun b=>.int .u8 b.toNat))else none
  |_,_=>none
 | .d (.sl _ l)=>match P.underlying src,P.underlying dst with |some (.slice e),some .string=>if Gl P e=true then(md l).map .str else none |_,_=>none
 |_=>none
def lM(k:Wk)(r:Root)(p:aE)(i off:Nat):Bool:=
 match (k.get r).bind (·.at p)with
 |some (.own es)=>(match es[i]? with |some e=>decide (off<e.nc) |none=>false)
 |_=>false
def cy(P:Program)(t:TypeId)(x i:SV)(k:Wk):Option SV:=
 match i with
 | .d (.int _ n)=>
  match P.underlying t with
  |some (.slice e)=>
   match x with
   | .d (.sl b l)=>if 0≤n then(l[n.toNat]?).bind fun y=>if y.nc=P.cellsOf e then some (.rp b y.cells)else none else none
   | .clip b l=>if 0≤n then(l[n.toNat]?).bind fun y=>if y.nc=P.cellsOf e then some (.rp b y.cells)else none else none
   | .bor r p off len=>
    if 0≤n∧n<len then
     (k.get r).bind fun c=>(c.at p).bind fun nd=>match nd with
      | .own es=>(es[off+n.toNat]?).bind fun y=>if y.nc=P.cellsOf e then some (.loc r p (off+n.toNat) 0)else none
      |_=>none
    else none
   |_=>none
  |some (.array len e)=>
   match asLoc x with
   | .loc r p j off=>if 0≤n∧n<len∧(P.info? e).isSome∧lM k r p j (off+n.toNat * P.cellsOf e)then some (.loc r p j (off+n.toNat * P.cellsOf e))else none
   | .rp b cs=>if 0≤n∧n<len∧(P.info? e).isSome then some (.rp b (cs.drop (n.toNat * P.cellsOf e)))else none
   |_=>none
  |_=>none
 |_=>none
def cz(P:Program)(t:TypeId)(x:SV)(f:Nat)(k:Wk):Option SV:=
 (ah P t f).bind fun(o,n,_)=>
  if 0<n then
   match asLoc x with
   | .loc r p i off=>if lM k r p i (off+o)then some (.loc r p i (off+o))else none
   | .rp b cs=>some (.rp b (cs.drop o))
   |_=>none
  else none
def cell1:SV→Option SV
 | .d (.agg _)=>none
 |x=>some x
def Qg(cs:List SV)(off n:Nat)(ag:Bool):Option SV:=
 if ag then(if off+n≤cs.length then some (SV.mkAgg (win cs off n))else none)else(cs[off]?).bind cell1
def vY(P:Program)(t:TypeId)(x:SV)(f:Nat):Option SV:=
 (ah P t f).bind fun(o,n,ag)=>
  match x with
  | .d (.agg l)=>if ag then(if o+n≤l.length then some (.d (.agg (win l o n)))else none)else(l[o]?).bind D.sv1
  | .agg l=>Qg l o n ag
  |_=>none
def me(P:Program)(t:TypeId)(x i:SV):Option SV:=
 match i with
 | .d (.int _ n)=>
  match x with
  | .d (.str s)=>match P.underlying t with
   |some .string=>if 0≤n then(s[n.toNat]?).map fun b=>.d (.int .u8 b.toNat)else none
   |_=>none
  | .d (.agg l)=>match P.underlying t with
   |some (.array len e)=>if 0≤n∧n<len∧0<P.cellsOf e then
     (jW P e).bind fun ag=>(if ag then(if n.toNat * P.cellsOf e+P.cellsOf e≤l.length then some (.d (.agg (win l (n.toNat * P.cellsOf e) (P.cellsOf e))))else none)else(l[n.toNat * P.cellsOf e]?).bind D.sv1)else none
   |_=>none
  |_=>none
 |_=>none
def bf:Option SV→Nat→Option Nat
 |none,d=>some d
 |some (.d (.int _ n)),_=>if 0≤n then some n.toNat else none
 |_,_=>none
def headD(n:Nat):List D→Bool
 | []=>true
 |x::_=>x.nc==n
def headT(n:Nat):List T→Bool
 | []=>true
 |x::_=>x.nc==n
def lN(n:Nat)(r:Root)(p:aE)(o m:Nat)(k:Wk):Bool:=
 match (k.get r).bind fun c=>c.at p with
 |some (.own es)=>headT n (win es o m)
 |_=>false
def fw(P:Program)(t:TypeId)(x:SV)(lo hi mx:Option SV)(k:Wk):Option SV:=
 match x with
 | .d (.str s)=>match P.underlying t,mx with
  |some .string,none=>(bf lo 0).bind fun l=>(bf hi s.length).bind fun h=>if l≤h∧h≤s.length then some (.d (.str (win s l (h - l))))else none
  |_,_=>none
 | .d (.sl b xs)=>match P.underlying t,mx with
  |some (.slice e),none=>(bf lo 0).bind fun l=>(bf hi xs.length).bind fun h=>if l≤h∧h≤xs.length∧(P.info? e).isSome∧headD (P.cellsOf e) (win xs l (h - l))then some (.d (.sl b (win xs l (h - l))))else none
  |some (.slice e),some m=>(bf lo 0).bind fun l=>(bf hi xs.length).bind fun h=>(bf (some m) 0).bind fun m=>
    if l≤h∧h=m∧h≤xs.length∧hi.isSome∧(P.info? e).isSome∧headD (P.cellsOf e) (win xs l (h - l))then some (.clip b (win xs l (h - l)))else none
  |_,_=>none
 | .d .nils=>match P.underlying t,mx with
  |some (.slice e),none=>(bf lo 0).bind fun l=>(bf hi 0).bind fun h=>if l=0∧h=0∧(P.info? e).isSome then some (.d .nils)else none
  |some (.slice e),some m=>(bf lo 0).bind fun l=>(bf hi 0).bind fun h=>(bf (some m) 0).bind fun m=>if l=0∧h=0∧m=0∧hi.isSome∧(P.info? e).isSome then some (.d .nils)else none
  |_,_=>none
 | .bor r p off len=>match P.underlying t,mx with
  |some (.slice e),none=>(bf lo 0).bind fun l=>(bf hi len).bind fun h=>if l≤h∧h≤len∧(P.info? e).isSome∧lN (P.cellsOf e) r p (off+l) (h - l) k then some (.bor r p (off+l) (h - l))else none
  |some (.slice e),some m=>(bf lo 0).bind fun l=>(bf hi len).bind fun h=>(bf (some m) 0).bind fun m=>
    if l≤h∧h≤m∧m≤len∧hi.isSome∧(P.info? e).isSome∧lN (P.cellsOf e) r p (off+l) (h - l) k then some (.bor r p (off+l) (h - l))else none
  |_,_=>none
 |_=>none
def vZ(P:Program)(t:TypeId)(H:List Ob):SV→Option Int
 | .d (.str s)=>match P.underlying t with |some .string=>some s.length |_=>none
 | .d .nils=>match P.underlying t with |some (.slice _)=>some 0 |_=>none
 | .d (.sl _ l)=>match P.underlying t with |some (.slice _)=>some l.length |_=>none
 | .clip _ l=>match P.underlying t with |some (.slice _)=>some l.length |_=>none
 | .ns _=>match P.underlying t with |some (.slice _)=>some 0 |_=>none
 | .bor _ _ _ len=>match P.underlying t with |some (.slice _)=>some len |_=>none
 | .d .nilm=>match P.underlying t with |some (.map _ _)=>some 0 |_=>none
 | .d (.map o)=>match P.underlying t,H[o]? with |some (.map _ _),some (.map es)=>some es.length |_,_=>none
 |_=>none
def fx:List T→Bool
 | []=>true
 | .d _::r=>fx r
 |_::_=>false
def dj(nv:Nat)(v:SV)(k:Wk):Option (List T×Wk):=
 match v with
 | .d .nils=>some ([],k)
 | .d (.sl _ l)=>some (l.map .d,k)
 | .clip _ l=>some (l.map .d,k)
 | .ns _=>some ([],k)
 | .bor r p off len=>
  (k.get r).bind fun c=>(c.at p).bind fun nd=>match nd with
   | .own es=>
    match r,p with
    | .l n j,[]=>if nv≤n∧off=0∧len=es.length then(k.set (.l n j) .dead).map fun(k:Wk)=>(es,k.tell (.kill (.l n j) []))
     else if fx (win es off len)then some (win es off len,k)else none
    |_,_=>if fx (win es off len)then some (win es off len,k)else none
   |_=>none
 |_=>none
def bL(n:Nat)(l:List T):Bool:=l.all fun t=>t.nc==n
def Fq(len:Nat)(es news:List T):Bool:=decide (len≠0) || es.isEmpty || !news.isEmpty
def oz(n:Nat)(news:List T)(v:SV)(k:Wk):Option (List T×Wk):=
 match v with
 | .d .nils=>some ([],k)
 | .clip _ []=>some ([],k)
 | .bor r p off len=>
  if off=0 then
   (k.get r).bind fun c=>(c.at p).bind fun nd=>match nd with
    | .own es=>if len≤es.length∧bL n es∧Fq len es news then(c.put p .dead).bind fun c'=>(k.set r c').map fun(k:Wk)=>(es.take len,k.tell (.kill r p))else none
    |_=>none
  else none
 |_=>none
def eo(P:Program)(nv dst:Nat)(t:TypeId)(s x:SV)(k:Wk):Option (SV×Wk):=
 (elemOf P t).bind fun e=>(aO P e).bind fun z=>(dj nv x k).bind fun(news,k)=>
  if 0<P.cellsOf e∧bL (P.cellsOf e) news∧z.nc=P.cellsOf e then
   (oz (P.cellsOf e) news (trv k.tr s) k).bind fun(olds,k)=>
    if(olds.length+news.length) * P.bytesOf e≤140737488355328∧olds.length+news.length≤9223372036854775807 then
     some (.bor (.l dst 0) [] 0 (olds++news).length,k.new dst 0 (.own (olds++news)))
    else none
  else none
def v7(P:Program)(dst:Nat)(t:TypeId)(l c:SV)(k:Wk):Option (SV×Wk):=
 match l,c with
 | .d (.int _ n),.d (.int _ m)=>
  (elemOf P t).bind fun e=>(aO P e).bind fun z=>
   if 0≤n∧n≤m∧(n=0→m=0)∧(P.bytesOf e:Int) * m≤281474976710656∧m≤9223372036854775807∧0<P.cellsOf e∧z.nc=P.cellsOf e then
    some (.bor (.l dst 0) [] 0 n.toNat,k.new dst 0 (.own (List.replicate n.toNat (T.ofZero z))))
   else none
 |_,_=>none
def lO(l:List T):List (Nat×T)→Option (List T)
 | []=>some l
 |(i,t)::r=>if i<l.length then lO (l.set i t) r else none
def bU(nv:Nat):List (Nat×SV)→Wk→Option (List (Nat×T)×Wk)
 | [],k=>some ([],k)
 |(i,v)::r,k=>(bD nv v k).bind fun(t,k)=>(bU nv r k).map fun(ts,k)=>((i,t)::ts,k)
def isD:SV→Bool
 | .d _=>true
 |_=>false
def bN(P:Program)(nv dst:Nat)(lit:Bool)(t:TypeId)(len:Nat)(parts:List (Nat×SV))(k:Wk):Option (SV×Wk):=
 (elemOf P t).bind fun e=>(aO P e).bind fun z=>(bU nv parts k).bind fun(ps,k)=>
  if 0<P.cellsOf e∧ps.all (fun p=>p.2.nc==P.cellsOf e)∧len * P.cellsOf e≤16777216∧z.nc=P.cellsOf e then
   (lO (List.replicate len (T.ofZero z)) ps).bind fun es=>
    if lit then(if parts.all (fun p=>isD p.2)then(T.frzs false es).map fun ds=>(.d (.sl false ds),k)else none)
    else some (.bor (.l dst 0) [] 0 len,k.new dst 0 (.own es))
  else none
def SV.solid:SV→Bool
 | .dead=>false
 | .tup _=>false
 |_=>true
def cI(P:Program)(t:TypeId):Option (Nat ⊕ List (Nat×Nat)):=
 match P.underlying t with
 |some (.struct fs)=>(fs.toList.mapM fun f=>(P.info? f.type).map fun i=>(f.offset,i.size)).map .inr
 |some (.array _ e)=>(P.info? e).map fun i=>.inl i.size
 |_=>none
def nX:Nat ⊕ List (Nat×Nat)→Nat→Option (Nat×Nat)
 | .inl n,i=>some (i * n,n)
 | .inr l,i=>l[i]?
def qL(pl:Nat ⊕ List (Nat×Nat)):List SV→List (Nat×SV)→Option (List SV)
 |cs,[]=>some cs
 |cs,(i,v)::r=>(nX pl i).bind fun(o,n)=>if v.solid∧v.nc=n∧o+n≤cs.length then qL pl (cs.take o++v.cells++cs.drop (o+n)) r else none
def sj(P:Program)(t:TypeId)(parts:List (Nat×SV)):Option SV:=
 match aO P t with
 |some (.agg z)=>(cI P t).bind fun pl=>(qL pl (z.map .d) parts).map SV.mkAgg
 |_=>none
def aI(P:Program)(kt:TypeId)(x y:D):Option Bool:=
 match x,y with
 | .agg a,.agg b=>(sg P kt).bind fun ks=>uD ks a b
 |x,y=>(dl P kt).bind fun n=>eqK n x y
def ec(eq:D→D→Option Bool)(key:D):List (D×T)→Option (Option T)
 | []=>some none
 |e::r=>(eq key e.1).bind fun b=>if b then some (some e.2)else ec eq key r
def jX(eq:D→D→Option Bool)(key:D)(v:T):List (D×T)→Option (List (D×T))
 | []=>some [(key,v)]
 |e::r=>(eq key e.1).bind fun b=>if b then some ((key,v)::r)else(jX eq key v r).map (e::·)
def B5(ks:List (List UInt8)):D→Option (Option T)
 | .str s=>some (if ks.contains s=true then some (.d (.bool true))else none)
 |_=>none
def sk(ks:List (List UInt8))(kd y:D):Option (List (List UInt8)):=
 match kd,y with
 | .str s,.bool true=>some (s::ks)
 |_,_=>none
def gg(P:Program)(t:TypeId):Option (TypeId×TypeId):=match P.underlying t with |some (.map a e)=>some (a,e) |_=>none
def gO(P:Program)(t:TypeId)(m key:SV)(ok:Bool)(H:List Ob):Option SV:=
 (gg P t).bind fun(kt,e)=>
  match key with
  | .d kd=>
   if(aI P kt kd kd).isSome then
   (match m with
   | .d .nilm=>some none
   | .d (.map o)=>match H[o]? with |some (.map es)=>ec (aI P kt) kd es |some (.sset ks)=>B5 ks kd |_=>none
   |_=>none).bind fun r=>(aO P e).bind fun z=>
    (match r with |some (.d x)=>some (x,true) |some _=>none |none=>some (z,false)).map fun(x,b)=>if ok then .tup [.d x,.d (.bool b)]else .d x
   else none
  |_=>none
def cD(P:Program)(nv:Nat)(t:TypeId)(m key v:SV)(k:Wk):Option Wk:=
 (gg P t).bind fun(kt,_)=>
  match m,key with
  | .d (.map o),.d kd=>if(aI P kt kd kd).isSome then(bD nv v k).bind fun(x,k)=>match x,k.H[o]? with
   | .d y,some (.map es)=>(jX (aI P kt) kd (.d y) es).map fun es=>{k with H:=k.H.set o (.map es)}
   | .own l,some (.map es)=>(jX (aI P kt) kd (.own l) es).map fun es=>{k with H:=k.H.set o (.map es)}
   | .d y,some (.sset ks)=>(sk ks kd y).map fun ks=>{k with H:=k.H.set o (.sset ks)}
   |_,_=>none
   else none
  |_,_=>none
def v8(_:Program)(_:Nat)(_:TypeId)(_ _:SV)(_:Wk):Option (SV×Wk):=none
def MC:List (D×T)→Option (List (D×T))
 | []=>some []
 |e::r=>(T.frz false e.2).bind fun x=>(MC r).map ((e.1,.d x)::·)
def adQ:SV→Option SV
 | .d x=>some (.d x.norm)
 |_=>none
def ig(_:Program)(_:TypeId)(_ _:SV)(_:Wk):Option (SV×Wk):=none
def wb(h:Hint)(dst:Nat)(x:T)(k:Wk):Option (SV×Wk):=
 if x.nc=0 then none
 else if h.objs.contains dst then some (.d (.ptr k.H.length),{k with H:=k.H++[.box x]})
 else some (.loc (.l dst 0) [] 0 0,k.new dst 0 (.own [x]))
def bm(dst:Nat)(slice:Bool)(v:SV)(k:Wk):Option (SV×Wk):=
 match v with
 | .d .nils=>if slice then some (.bor (.l dst 0) [] 0 0,k.new dst 0 (.own []))else some (.d .nils,k)
 | .bor (.l n j) [] 0 len=>
  if(n,j)=(dst,0)then some (.bor (.l n j) [] 0 len,k)else
  (k.get (.l n j)).bind fun c=>match c with
   | .own es=>
    if len=es.length then some (.bor (.l dst 0) [] 0 len,({k with ct:=((n,j),.dead)::k.ct}.new dst 0 c).tell (.ren (n,j) (dst,0)))
    else some (.bor (.l n j) [] 0 len,k)
   |_=>none
 |v=>some (v,k)
def Gm:SV→SV→Option D
 | .d (.int q a),.d (.int _ b)=>some (.int q (if b<a then b else a))
 |_,_=>none
def Gn:SV→SV→Option D
 | .d (.int q a),.d (.int _ b)=>some (.int q (if b >a then b else a))
 |_,_=>none
def mf(P:Program)(t:TypeId)(x:SV)(k:Wk):Option (SV×Wk):=
 match P.underlying t,x with
 |some .string,.d (.str s)=>some (.d (.ptr k.H.length),{k with H:=k.H++[.iter s 0]})
 |some (.map _ _),.d .nilm=>some (.d (.ptr k.H.length),{k with H:=k.H++[.miter none]})
 |some (.map _ _),.d (.map o)=>match k.H[o]? with
  |some (.map _)=>some (.d (.ptr k.H.length),{k with H:=k.H++[.miter (some o)]})
  |_=>none
 |_,_=>none
def tF(x:SV)(str:Bool)(k:Wk):Option (SV×Wk):=
 match x with
 | .d (.ptr i)=>match k.H[i]?,str with
  |some (.iter s p),true=>
   if p<s.length then
    let r:=Utf8.decode ⟨s.toArray⟩ p
    some (.tup [.d (.bool true),.d (.i p),.d (.int .i32 r.1)],{k with H:=k.H.set i (.iter s (p+r.2))})
   else some (.tup [.d (.bool false)],k)
  |some (.miter none),false=>some (.tup [.d (.bool false)],k)
  |some (.miter (some m)),false=>match k.H[m]? with
   |some (.map [])=>some (.tup [.d (.bool false)],k)
   |_=>none
  |_,_=>none
 |_=>none
def pH(P:Program)(t:TypeId):SV→Option SV
 | .d x=>match P.underlying t with
  |some (.interface _)=>none
  |some _=>some (.d (.iface t x))
  |none=>none
 |_=>none
def kq(P:Program)(u:TypeId)(ok:Bool):SV→Option SV
 | .d .nili=>match P.underlying u with
  |some (.interface _)=>none
  |some _=>if ok then(aO P u).map fun z=>.tup [.d z,.d (.bool false)]else none
  |none=>none
 | .d (.iface t x)=>match P.underlying u with
  |some (.interface _)=>none
  |some _=>if t=u then some (if ok then .tup [.d x,.d (.bool true)]else .d x)else if ok then(aO P u).map fun z=>.tup [.d z,.d (.bool false)]else none
  |none=>none
 |_=>none
def isConst:Operand→Bool
 | .const _=>true
 |_=>false
def DS:D→Bool
 | .nilf=>false
 |_=>true
def opE(P:Program)(h:Hint)(dst:Nat)(ty:TypeId)(op:Op)(ρ:Operand→SV)(k:Wk):Option (SV×Wk):=
 match op with
 | .move x=>some (ρ x,k)
 | .assign x=>bm dst (elemOf P ty).isSome (ρ x) k
 | .pick c a b=>match ρ c with | .d (.bool t)=>some (if t then ρ a else ρ b,k) |_=>none
 | .alloc e=>(aO P e).bind fun z=>wb h dst (T.ofZero z) k
 | .box e x=>(dB h.nv (ρ x) k).bind fun(t,k)=>if t.nc=P.cellsOf e then wb h dst t k else none
 | .build t parts=>(sj P t (parts.toList.map fun p=>(p.1,ρ p.2))).map (·,k)
 | .buildSlice t len parts=>bN P h.nv dst (h.lits.contains dst) t len (parts.toList.map fun p=>(p.1,ρ p.2)) k
 | .load t (.global g)=>(h.gl g).bind fun x=>if DS x=true then(dW P t (.rp true x.cells) k).map (·,k)else none
 | .load t a=>if h.lits.contains dst=true then(dW P t (ρ a) k).bind fun v=>ow dst v k else(dW P t (ρ a) k).map (·,k)
 | .store t a v=>(gB P h.nv t (ρ a) (ρ v) k).map (.dead,·)
 | .nilCheck x=>match ρ x with | .loc r p i o=>some (.loc r p i o,k) | .rp b cs=>some (.rp b cs,k) | .d (.ptr o)=>some (.d (.ptr o),k) | .d (.rptr cs)=>some (.d (.rptr cs),k) | .d (.fn (.func f) a c)=>some (.d (.fn (.func f) a c),k) |_=>none
 | .binOp op t x y _=>(cE P (isConst x || isConst y) op t (ρ x) (ρ y)).map fun y=>(.d y,k)
 | .unOp op _ x=>(unE op (ρ x)).map fun y=>(.d y,k)
 | .convert s t x=>(tE P s t (ρ x)).map fun y=>(.d y,k)
 | .makeFunc f a c=>(SV.pures (a.toList.map ρ)).bind fun a=>(SV.pures (c.toList.map ρ)).map fun c=>(.d (.fn f a c),k)
 | .makeMap _ none=>some (.d (.map k.H.length),{k with H:=k.H++[if h.lits.contains dst=true then .sset []else .map []]})
 | .makeMap t (some n)=>match gg P t,ρ n with |some _,.d (.int _ _)=>some (.d (.map k.H.length),{k with H:=k.H++[.map []]}) |_,_=>none
 | .makeSlice t l c=>v7 P dst t (ρ l) (ρ c) k
 | .slice t x lo hi mx=>(fw P t (ρ x) (lo.map ρ) (hi.map ρ) (mx.map ρ) k).map (·,k)
 | .fieldAddr t x f=>(cz P t (ρ x) f k).map (·,k)
 | .field t x f=>(vY P t (ρ x) f).map (·,k)
 | .indexAddr t x i=>(cy P t (ρ x) (ρ i) k).map (·,k)
 | .index t x i=>(me P t (ρ x) (ρ i)).map (·,k)
 | .lookup t m key ok=>
  if h.lits.contains dst=true then(if ok then none else v8 P dst t (ρ m) (ρ key) k)
  else if h.objs.contains dst=true then(if ok then none else ig P t (ρ m) (ρ key) k)
  else(gO P t (ρ m) (ρ key) ok k.H).map (·,k)
 | .mapUpdate t m key v=>(cD P h.nv t (ρ m) (ρ key) (ρ v) k).map (.dead,·)
 | .insert t m key v=>(cD P h.nv t (ρ m) (ρ key) (ρ v) k).map (.dead,·)
 | .range t x=>mf P t (ρ x) k
 | .next x str=>tF (ρ x) str k
 | .makeInterface t x=>(pH P t (ρ x)).map (·,k)
 | .typeAssert x _ u ok=>(kq P u ok (ρ x)).map (·,k)
 | .extract x n=>match ρ x with | .tup l=>(l[n]?).map (·,k) |_=>none
 | .call {callee:=.builtin .len,args,argTypes}=>match args.toList,argTypes.toList with
  | [x],[t]=>(vZ P t k.H (ρ x)).map fun n=>(.d (.int .i64 n),k)
  |_,_=>none
 | .call {callee:=.builtin .min,args,argTypes:=_}=>match args.toList with
  | [x,y]=>(Gm (ρ x) (ρ y)).map fun n=>(.d n,k)
  |_=>none
 | .call {callee:=.builtin .max,args,argTypes:=_}=>match args.toList with
  | [x,y]=>(Gn (ρ x) (ρ y)).map fun n=>(.d n,k)
  |_=>none
 | .call {callee:=.builtin .append,args,argTypes}=>match args.toList,argTypes.toList with
  | [x,y],[t,u]=>if t=u then eo P h.nv dst t (ρ x) (ρ y) k else none
  |_,_=>none
 |_=>none
mutual
def D.beq:D→D→Bool
 | .int k n,.int k' n'=>decide (k=k')&&decide (n=n')
 | .bool b,.bool b'=>decide (b=b')
 | .str s,.str s'=>decide (s=s')
 | .nils,.nils=>true
 | .sl b l,.sl b' l'=>decide (b=b')&&D.beqs l l'
 | .agg l,.agg l'=>D.beqs l l'
 | .nilp,.nilp=>true
 | .ptr o,.ptr o'=>decide (o=o')
 | .nilm,.nilm=>true
 | .map o,.map o'=>decide (o=o')
 | .nilf,.nilf=>true
 | .fn f a c,.fn f' a' c'=>decide (f=f')&&D.beqs a a'&&D.beqs c c'
 | .nili,.nili=>true
 | .iface t x,.iface t' x'=>decide (t=t')&&D.beq x x'
 | .rptr l,.rptr l'=>D.beqs l l'
 | .yld o,.yld o'=>decide (o=o')
 |_,_=>false
def D.beqs:List D→List D→Bool
 | [],[]=>true
 |x::r,y::s=>D.beq x y&&D.beqs r s
 |_,_=>false
end
mutual
theorem D.beq_eq:∀(x y:D),D.beq x y=true→x=y
 | .int k n,y,h=>by cases y <;>simp_all [D.beq]
 | .bool b,y,h=>by cases y <;>simp_all [D.beq]
 | .str s,y,h=>by cases y <;>simp_all [D.beq]
 | .nils,y,h=>by cases y <;>simp_all [D.beq]
 | .sl b l,y,h=>by
  cases y <;>simp only[D.beq,xA,yD,xH]at h
  rw[h.1,D.beqs_eq l _ h.2]
 | .agg l,y,h=>by
  cases y <;>simp only[D.beq,xH]at h
  rw[D.beqs_eq l _ h]
 | .nilp,y,h=>by cases y <;>simp_all [D.beq]
 | .ptr o,y,h=>by cases y <;>simp_all [D.beq]
 | .nilm,y,h=>by cases y <;>simp_all [D.beq]
 | .map o,y,h=>by cases y <;>simp_all [D.beq]
 | .nilf,y,h=>by cases y <;>simp_all [D.beq]
 | .fn f a c,y,h=>by
  cases y <;>simp only[D.beq,xA,yD,xH]at h
  rw[h.1.1,D.beqs_eq a _ h.1.2,D.beqs_eq c _ h.2]
 | .nili,y,h=>by cases y <;>simp_all [D.beq]
 | .iface t x,y,h=>by
  cases y <;>simp only[D.beq,xA,yD,xH]at h
  rw[h.1,D.beq_eq x _ h.2]
 | .rptr l,y,h=>by
  cases y <;>simp only[D.beq,xH]at h
  rw[D.beqs_eq l _ h]
 | .yld o,y,h=>by cases y <;>simp_all [D.beq]
theorem D.beqs_eq:∀(l m:List D),D.beqs l m=true→l=m
 | [],m,h=>by cases m <;>simp_all [D.beqs]
 |x::r,m,h=>by
  cases m with
  |nil=>simp[D.beqs]at h
  |cons y s=>
   simp only[D.beqs,xA]at h
   rw[D.beq_eq x y h.1,D.beqs_eq r s h.2]
end
mutual
def T.beq:T→T→Bool
 | .d x,.d y=>D.beq x y
 | .own l,.own m=>T.beqs l m
 | .agg l,.agg m=>T.beqs l m
 | .dead,.dead=>true
 |_,_=>false
def T.beqs:List T→List T→Bool
 | [],[]=>true
 |x::r,y::s=>T.beq x y&&T.beqs r s
 |_,_=>false
end
mutual
theorem T.beq_eq:∀(x y:T),T.beq x y=true→x=y
 | .d x,y,h=>by
  cases y <;>simp only[T.beq,xH]at h
  rw[D.beq_eq x _ h]
 | .own l,y,h=>by
  cases y <;>simp only[T.beq,xH]at h
  rw[T.beqs_eq l _ h]
 | .agg l,y,h=>by
  cases y <;>simp only[T.beq,xH]at h
  rw[T.beqs_eq l _ h]
 | .dead,y,h=>by cases y <;>simp_all [T.beq]
theorem T.beqs_eq:∀(l m:List T),T.beqs l m=true→l=m
 | [],m,h=>by cases m <;>simp_all [T.beqs]
 |x::r,m,h=>by
  cases m with
  |nil=>simp[T.beqs]at h
  |cons y s=>
   simp only[T.beqs,xA]at h
   rw[T.beq_eq x y h.1,T.beqs_eq r s h.2]
end
mutual
def SV.beq:SV→SV→Bool
 | .d x,.d y=>D.beq x y
 | .bor r p o l,.bor r' p' o' l'=>decide (r=r')&&decide (p=p')&&decide (o=o')&&decide (l=l')
 | .loc r p i o,.loc r' p' i' o'=>decide (r=r')&&decide (p=p')&&decide (i=i')&&decide (o=o')
 | .rp b l,.rp b' m=>decide (b=b')&&D.beqs l m
 | .clip b l,.clip b' m=>decide (b=b')&&D.beqs l m
 | .ns b,.ns b'=>decide (b=b')
 | .agg l,.agg m=>SV.beqs l m
 | .tup l,.tup m=>SV.beqs l m
 | .dead,.dead=>true
 |_,_=>false
def SV.beqs:List SV→List SV→Bool
 | [],[]=>true
 |x::r,y::s=>SV.beq x y&&SV.beqs r s
 |_,_=>false
end
mutual
theorem SV.beq_eq:∀(x y:SV),SV.beq x y=true→x=y
 | .d x,y,h=>by
  cases y <;>simp only[SV.beq,xH]at h
  rw[D.beq_eq x _ h]
 | .bor r p o l,y,h=>by cases y <;>simp_all [SV.beq]
 | .loc r p i o,y,h=>by cases y <;>simp_all [SV.beq]
 | .rp b l,y,h=>by
  cases y <;>simp only[SV.beq,xA,yD,xH]at h
  rw[h.1,D.beqs_eq l _ h.2]
 | .clip b l,y,h=>by
  cases y <;>simp only[SV.beq,xA,yD,xH]at h
  rw[h.1,D.beqs_eq l _ h.2]
 | .ns b,y,h=>by cases y <;>simp_all [SV.beq]
 | .agg l,y,h=>by
  cases y <;>simp only[SV.beq,xH]at h
  rw[SV.beqs_eq l _ h]
 | .tup l,y,h=>by
  cases y <;>simp only[SV.beq,xH]at h
  rw[SV.beqs_eq l _ h]
 | .dead,y,h=>by cases y <;>simp_all [SV.beq]
theorem SV.beqs_eq:∀(l m:List SV),SV.beqs l m=true→l=m
 | [],m,h=>by cases m <;>simp_all [SV.beqs]
 |x::r,m,h=>by
  cases m with
  |nil=>simp[SV.beqs]at h
  |cons y s=>
   simp only[SV.beqs,xA]at h
   rw[SV.beq_eq x y h.1,SV.beqs_eq r s h.2]
end
def AA{α:Type}(f:α→α→Bool):List α→List α→Bool
 | [],[]=>true
 |x::r,y::s=>f x y&&AA f r s
 |_,_=>false
theorem qM{α:Type}{f:α→α→Bool}(hf:∀x y,f x y=true→x=y):∀(l m:List α),AA f l m=true→l=m
 | [],m,h=>by cases m <;>simp_all [AA]
 |x::r,m,h=>by
  cases m with
  |nil=>simp[AA]at h
  |cons y s=>
   simp only[AA,xA]at h
   rw[hf x y h.1,qM hf r s h.2]
def Ob.beq:Ob→Ob→Bool
 | .box x,.box y=>T.beq x y
 | .map l,.map m=>AA (fun a b=>D.beq a.1 b.1&&T.beq a.2 b.2) l m
 | .iter s p,.iter s' p'=>decide (s=s')&&decide (p=p')
 | .miter m,.miter m'=>decide (m=m')
 | .lock,.lock=>true
 |_,_=>false
theorem Ob.beq_eq(x y:Ob)(h:Ob.beq x y=true):x=y:=by
 cases x <;>cases y <;>simp only[Ob.beq,xA,yD,xH]at h
 ·rw[T.beq_eq _ _ h]
 ·rw[qM (fun a b q=> ?_) _ _ h]
  simp only[xA]at q
  exact Prod.ext (D.beq_eq _ _ q.1) (T.beq_eq _ _ q.2)
 ·rw[h.1,h.2]
 ·rw[h]
 ·rfl
def St.beq(s s':St):Bool:=
 AA (fun a b=>decide (a.1=b.1)&&SV.beq a.2 b.2) s.env s'.env&&AA (fun a b=>decide (a.1=b.1)&&T.beq a.2 b.2) s.ct s'.ct&&AA Ob.beq s.H s'.H
theorem St.beq_eq(s s':St)(h:St.beq s s'=true):s=s':=by
 obtain⟨e,c,H⟩:=s;obtain⟨e',c',H'⟩:=s';simp only[St.beq,xA]at h
 obtain⟨⟨h1,h2⟩,h3⟩:=h
 have e1:=qM (fun a b q=>by
  simp only[xA,yD]at q
  exact Prod.ext q.1 (SV.beq_eq _ _ q.2)) _ _ h1
 have e2:=qM (fun a b q=>by
  simp only[xA,yD]at q
  exact Prod.ext q.1 (T.beq_eq _ _ q.2)) _ _ h2
 have e3:=qM Ob.beq_eq _ _ h3;rw[e1,e2,e3]
structure Lend where
 sn:Bool:=false
 lk:List Nat:=[]
def EM:Nat:=1099511627776
def bH(nv:Nat)(v:SV)(k:Wk)(b:Lend):Option (D×Wk×Lend):=
 match v with
 | .d x=>some (if EM≤nv then x else x.norm,k,b)
 | .clip t l=>some (.sl t l,k,b)
 | .ns _=>some (.sl false [],k,b)
 | .bor r p off len=>
  (k.get r).bind fun c=>(c.at p).bind fun nd=>match nd with
   | .own es=>
    if EM≤nv∧es.isEmpty=true then some (.sl false [],k,b)else
    match r,p with
    | .l n j,[]=>
     if nv≤n∧off=0∧len=es.length then(T.frzs false es).bind fun l=>(k.set (.l n j) .dead).map fun(k:Wk)=>(.sl false l,k.tell (.frz (.l n j) [] l),b)
     else(T.frzs true es).map fun l=>(.sl true (win l off len),k,{b with sn:=true})
    | .l _ _,_=>(T.frzs true es).map fun l=>(.sl true (win l off len),k,{b with sn:=true})
    | .o n,_=>(T.frzs true es).map fun l=>(.sl true (win l off len),k,{sn:=true,lk:=n::b.lk})
   |_=>none
 |_=>none
def ft(nv:Nat):List SV→Wk→Lend→Option (List D×Wk×Lend)
 | [],k,b=>some ([],k,b)
 |v::r,k,b=>(bH nv (trv k.tr v) k b).bind fun(x,k,b)=>(ft nv r k b).map fun(xs,k,b)=>(x::xs,k,b)
def om(nv:Nat)(v:SV)(k:Wk)(b:Lend):Option (D×Wk×Lend):=
 match v with
 | .agg l=>(ft nv l k b).map fun(xs,k,b)=>(.agg xs,k,b)
 |v=>bH nv (trv k.tr v) k b
def dp(nv:Nat):List SV→Wk→Lend→Option (List D×Wk×Lend)
 | [],k,b=>some ([],k,b)
 |v::r,k,b=>(om nv v k b).bind fun(x,k,b)=>(dp nv r k b).map fun(xs,k,b)=>(x::xs,k,b)
def bV(dst j:Nat)(t:T)(k:Wk):Option (SV×Nat×Wk):=
 match t with
 | .d x=>some (.d x,j,k)
 | .own es=>some (.bor (.l dst j) [] 0 es.length,j+1,k.new dst j (.own es))
 |_=>none
def bO(dst:Nat):Nat→List T→Wk→Option (List SV×Nat×Wk)
 |j,[],k=>some ([],j,k)
 |j,t::r,k=>(bV dst j t k).bind fun(v,j,k)=>(bO dst j r k).map fun(vs,j,k)=>(v::vs,j,k)
def eU(dst j:Nat)(t:T)(k:Wk):Option (SV×Nat×Wk):=
 match t with
 | .agg ts=>(bO dst j ts k).map fun(vs,j,k)=>(.agg vs,j,k)
 |t=>bV dst j t k
def cS(dst:Nat):Nat→List T→Wk→Option (List SV×Wk)
 |_,[],k=>some ([],k)
 |j,t::r,k=>(eU dst j t k).bind fun(v,j,k)=>(cS dst j r k).map fun(vs,k)=>(v::vs,k)
def iT(dst:Nat)(rs:List T)(k:Wk):Option (SV×Wk):=
 (cS dst 0 rs k).map fun(vs,k)=>(match vs with | [v]=>v |vs=>.tup vs,k)
abbrev ak:=FuncId→List D→List Ob→Option (List T×List Ob)
def bB(lk:List Nat)(H:List Ob):List Ob:=lk.foldl (fun H n=>H.set n .lock) H
def dZ(H0:List Ob)(lk:List Nat)(H:List Ob):List Ob:=lk.foldl (fun H n=>match H0[n]? with |some x=>H.set n x |none=>H) H
def aS:List Ob→List Ob→Bool
 | [],_=>true
 | .box c::r,.box c'::r'=>c.nc==c'.nc&&aS r r'
 | .map _::r,.map _::r'=>aS r r'
 | .iter _ _::r,.iter _ _::r'=>aS r r'
 | .miter _::r,.miter _::r'=>aS r r'
 | .frame .. ::r,.frame .. ::r'=>aS r r'
 | .lock::r,.lock::r'=>aS r r'
 | .row _::r,.row _::r'=>aS r r'
 | .sset _::r,.sset _::r'=>aS r r'
 |_,_=>false
mutual
def SV.imm:SV→Bool
 | .d x=>x.imm
 | .rp b cs=> !b&&D.imms cs
 | .clip b l=> !b&&D.imms l
 | .agg l=>SV.imms l
 | .tup l=>SV.imms l
 |_=>true
def SV.imms:List SV→Bool
 | []=>true
 |x::r=>x.imm&&SV.imms r
end
def bE:List Ob→Bool
 | []=>true
 | .box c::r=>c.imm&&bE r
 | .map es::r=>es.all (fun e=>e.1.imm&&e.2.imm)&&bE r
 | .iter _ _::r=>bE r
 | .miter _::r=>bE r
 | .frame _ _ _ _ env ct::r=>env.all (fun p=>p.2.imm)&&ct.all (fun p=>p.2.imm)&&bE r
 | .lock::r=>bE r
 | .row es::r=>T.imms es&&bE r
 | .sset _::r=>bE r
def aU(call:ak)(h:Hint)(dst:Nat)(f:FuncId)(ds:List D)(b:Lend)(k:Wk):Option (SV×Wk):=
 if h.keep.contains dst&&D.lows 0 ds then
  (call f ds []).bind fun(rs,H2)=>if H2.length=0∧(b.sn=true→T.imms rs=true)then iT dst rs k else none
 else if h.keep.contains dst then none
 else
  (call f ds (bB b.lk k.H)).bind fun(rs,H2)=>
   if(b.sn=true→T.imms rs=true∧bE H2=true)∧aS (bB b.lk k.H) H2=true then iT dst rs {k with H:=dZ k.H b.lk H2,tr:=k.tr++[.killO]}else none
def uE(f:D→Option D):List D→Option (List D)
 | []=>some []
 |x::r=>(f x).bind fun y=>(uE f r).map (y::·)
def roD(H:List Ob):Nat→D→Option D
 |0,_=>none
 |n+1,.ptr o=>match H[o]? with |some (.box c)=>(T.frz true c).bind fun d=>(uE (roD H n) d.cells).map .rptr |_=>none
 |n+1,.agg l=>(uE (roD H n) l).map .agg
 |_+1,x=>some x
def pI(H:List Ob):List Nat:=(List.range H.length).filter fun n=>match H[n]? with |some ob=> !bE [ob] |none=>false
def cF(call:ak)(h:Hint)(dst:Nat)(f:FuncId)(ds:List D)(b:Lend)(k:Wk):Option (SV×Wk):=
 if h.ro.contains dst=true then(uE (roD k.H 4) ds).bind fun ds'=>aU call h dst f (D.lends ds') {sn:=true,lk:=List.range k.H.length++b.lk} k
 else if h.lkn.contains dst=true∧b.sn=true then aU call h dst f ds {b with lk:=b.lk++pI k.H} k
 else aU call h dst f ds b k
def SV.isPan:SV→Bool
 | .tup [.d _,.agg []]=>true
 |_=>false
def eH(r:SV×Wk):Option (SV×Wk):=if r.1.isPan=true then none else some r
def YB:Nat:=1099511627776
def ii(P:Program)(g:FuncId):Option String:=match P.funcs[g]? with
 |some fn=>if fn.body.isNone=true∧fn.origin= "" then some fn.name else none
 |none=>none
def AB(nm:String)(ds:List D):Option D:=
 match ds with
 | [.str s,.int .u8 c]=>if nm= "internal/bytealg.IndexByteString" then some (.i (Lib.indexByte s c.toNat.toUInt8))else if nm= "internal/bytealg.CountString" then some (.i (Lib.countByte s c.toNat.toUInt8))else none
 | [.ptr o]=>if nm= "internal/abi.NoEscape" then some (.ptr o)else none
 |_=>none
def am(P:Program)(call:ak)(h:Hint)(dst:Nat)(ty:TypeId)(op:Op)(ρ:Operand→SV)(k:Wk):Option (SV×Wk):=
 match op with
 | .call {callee:=.value f,args, .. }=>
  match ρ f with
  | .d (.fn (.func g) first cap)=>if YB≤g then none else match ii P g with
   |some nm=>(SV.pures (args.toList.map ρ)).bind fun ds=>(AB nm (first++ds++cap)).map fun y=>(.d y,k)
   |none=>(dp (h.nvAt dst) (args.toList.map ρ) k {}).bind fun(ds,k,b)=>(cF call h dst g (canon b.sn (first++ds++cap)) b k).bind eH
  | .d (.yld o)=>(dp (h.nvAt dst) (args.toList.map ρ) k {}).bind fun(ds,k,b)=>(cF call h dst (YB+o) (canon b.sn ds) b k).bind eH
  |_=>none
 |op=>opE P h dst ty op ρ k
def dK(ops:List Oper)(s:St)(o:Oper):Option Bool:=
 match o.guard with
 |none=>some true
 |some (j,want)=>match (ops[j]?).bind (·.dst)with
  |some t=>match s.get t with
   | .d (.bool b)=>some (b==want)
   | .tup []=>some false
   |_=>none
  |none=>none
def St.fin(s:St)(dst:Option Nat)(v:SV)(k:Wk):St:=
 {env:=match dst with |some d=>(d,v)::trs k.tr s.env |none=>trs k.tr s.env,ct:=k.ct,H:=k.H}
def St.wk(s:St):Wk:={ct:=s.ct,H:=s.H}
def ij(P:Program)(call:ak)(h:Hint)(ops:List Oper)(o:Oper)(s:St):Option St:=
 (dK ops s o).bind fun w=>
  if w then(am P call h (o.dst.getD 0) o.type o.op s.val s.wk).map fun(v,k)=>s.fin o.dst v k
  else some (s.fin o.dst (.tup []) s.wk)
mutual
def D.flat:D→Bool
 | .int _ _=>true
 | .bool _=>true
 | .str _=>true
 | .agg l=>D.flats l
 | .iface _ x=>x.flat
 |_=>false
def D.flats:List D→Bool
 | []=>true
 |x::r=>x.flat&&D.flats r
end
def ba(P:Program)(call:ak)(h:Hint)(ops:List Oper):List Oper→St→Option St
 | [],s=>some s
 |o::r,s=>(ij P call h ops o s).bind (ba P call h ops r)
def mvE(_:Program)(_:ak)(_:Hint)(_:Nat)(_:FuncId)(_:List SV)(_:Wk):Option (SV×Wk):=none
def cZ(P:Program)(call:ak)(h:Hint)(dst:Nat)(ty:TypeId)(op:Op)(ρ:Operand→SV)(k:Wk):Option (Option D×SV×Wk):=
 match op with
 | .panic x=>match ρ x with
  | .d (.iface t y)=>if y.flat=true then some (some (.iface t y),.dead,k)else none
  |_=>none
 | .call {callee:=.value f,args, .. }=>
  match ρ f with
  | .d (.fn (.func g) first cap)=>if YB≤g then none else
   if h.mv.contains dst=true then(if first.isEmpty&&cap.isEmpty then((mvE P call h dst g (args.toList.map ρ) k).bind eH).map fun(v,k)=>(none,v,k)else none)
   else(dp (h.nvAt dst) (args.toList.map ρ) k {}).bind fun(ds,k,b)=>(cF call h dst g (canon b.sn (first++ds++cap)) b k).bind fun(v,k)=>match v with
   | .tup [.d d,.agg []]=>if d.flat=true then some (some d,.dead,k)else none
   |v=>some (none,v,k)
  |_=>none
 |op=>(opE P h dst ty op ρ k).map fun(v,k)=>(none,v,k)
def ck(P:Program)(call:ak)(h:Hint)(ops:List Oper):List Oper→St→Option (Option D×St)
 | [],s=>some (none,s)
 |o::r,s=>(dK ops s o).bind fun w=>
  if w then(cZ P call h (o.dst.getD 0) o.type o.op s.val s.wk).bind fun(t,v,k)=>match t with
   |some d=>some (some d,s.fin none .dead k)
   |none=>ck P call h ops r (s.fin o.dst v k)
  else ck P call h ops r (s.fin o.dst (.tup []) s.wk)
mutual
def SV.roots:SV→List (Nat×Nat)
 | .bor (.l n k) _ _ _=>[(n,k)]
 | .loc (.l n k) _ _ _=>[(n,k)]
 | .agg l=>SV.rootss l
 | .tup l=>SV.rootss l
 |_=>[]
def SV.rootss:List SV→List (Nat×Nat)
 | []=>[]
 |v::r=>v.roots++SV.rootss r
end
def fu:List (Nat×Nat)→List (Nat×Nat)
 | []=>[]
 |x::r=>if(fu r).contains x then fu r else x::fu r
def pick(ct:List ((Nat×Nat)×T)):List (Nat×Nat)→List ((Nat×Nat)×T)
 | []=>[]
 |x::r=>match aZ ct x with |some t=>(x,t)::pick ct r |none=>pick ct r
def prune(live:List Nat)(s:St):St:=
 let env:=live.map fun t=>(t,s.get t)
 {env,ct:=pick s.ct (fu (SV.rootss (env.map (·.2)))),H:=s.H}
mutual
def SV.rts:SV→List Root
 | .bor r _ _ _=>[r]
 | .loc r _ _ _=>[r]
 | .d (.ptr o)=>[.o o]
 | .d (.map o)=>[.o o]
 | .agg l=>SV.rtss l
 | .tup l=>SV.rtss l
 |_=>[]
def SV.rtss:List SV→List Root
 | []=>[]
 |v::r=>v.rts++SV.rtss r
end
mutual
def SV.srts:SV→List Root
 | .bor r _ _ _=>[r]
 | .loc r _ _ _=>[r]
 | .agg l=>SV.srtss l
 | .tup l=>SV.srtss l
 |_=>[]
def SV.srtss:List SV→List Root
 | []=>[]
 |v::r=>v.srts++SV.srtss r
end
def Tr.rts:Tr→List Root
 | .kill r _=>[r]
 | .killN r _=>[r]
 | .frz r _ _=>[r]
 | .ren a b=>[.l a.1 a.2,.l b.1 b.2]
 | .killO=>[]
def Tr.isRen:Tr→Bool
 | .ren _ _=>true
 |_=>false
def Tr.isKillO:Tr→Bool
 | .killO=>true
 |_=>false
def Tr.hist(x:Tr)(l:List Root):List Root:=
 match x with
 | .ren a b=>if l.any (fun r=>decide (r=.l a.1 a.2))then .l b.1 b.2::l else l
 |_=>l
def Root.isO:Root→Bool
 | .o _=>true
 |_=>false
def qO:Operand→Option Nat
 | .tmp t=>some t
 |_=>none
def kw(o:Op):List Nat:=o.operands.toList.filterMap qO
def cW(h:Hint)(dst:Nat):Op→Bool
 | .load .. =>h.lits.contains dst
 | .move _ | .pick .. | .build .. | .nilCheck _ | .binOp .. | .unOp .. | .convert .. | .makeFunc .. | .slice .. | .fieldAddr .. | .field .. | .indexAddr .. | .index .. | .extract .. =>false
 | .lookup .. =>h.lits.contains dst || h.objs.contains dst
 | .call {callee:=.builtin .len, .. }=>false
 | .call {callee:=.builtin .min, .. }=>false
 | .call {callee:=.builtin .max, .. }=>false
 | .buildSlice .. => !h.lits.contains dst
 |_=>true
def hOf(h:Hint)(dst:Nat):Op→Bool
 | .alloc _=>h.objs.contains dst
 | .box .. =>h.objs.contains dst
 | .assign _ | .buildSlice .. | .makeSlice .. | .store .. =>false
 | .call {callee:=.builtin .append, .. }=>false
 | .call {callee:=.value _, .. }=> !h.keep.contains dst
 |_=>true
def pK:Op→Bool
 | .call {callee:=.value _, .. }=>false
 | .assign _=>false
 |_=>true
def reads:Op→Bool
 | .move _ | .pick .. | .build .. | .nilCheck _ | .binOp .. | .unOp .. | .convert .. | .makeFunc .. | .field .. | .index .. | .extract .. =>false
 |_=>true
def looks(ops:List Oper)(o:Oper):List Nat:=kw o.op++(match o.guard with |some (j,_)=>((ops[j]?).bind (·.dst)).toList |none=>[])
def oo(h:Hint)(dst:Nat):Op→Bool
 | .alloc _=>h.objs.contains dst
 | .box .. =>h.objs.contains dst
 | .makeMap .. =>true
 | .range .. =>true
 | .next .. =>true
 | .call {callee:=.value _, .. }=> !h.keep.contains dst || h.ro.contains dst || h.lkn.contains dst
 |_=>false
structure Fp where
 sl:List Nat
 dst:Option Nat
 rd:List Root
 wr:List Root
 hr:Bool
 hw:Bool
 ren:Bool
 rx:Option (Root×aE×Nat×Nat×Nat)
 sx:List SV
 wx:Option (Root×aE)
 ox:List Root
abbrev jl:=List (Nat×List Root)
def aW(hi:jl)(t:Nat):List Root:=(look hi t).getD []
def gM(s:St):jl:=s.env.map fun p=>(p.1,p.2.srts)
def bP(P:Program)(call:ak)(h:Hint)(ops:List Oper)(o:Oper)(s:St):Option (Bool×SV×Wk):=
 (dK ops s o).bind fun w=>if w then(am P call h (o.dst.getD 0) o.type o.op s.val s.wk).map fun(v,k)=>(true,v,k)else some (false,.tup [],s.wk)
def cm(k k':Wk):List Root:=(k'.ct.take (k'.ct.length - k.ct.length)).map fun p=>Root.l p.1.1 p.1.2
def dz:Op→Bool
 | .move (.tmp _)=>true
 |_=>false
def AC(tk:Bool)(op:Op)(σ:Operand→SV)(v:SV):Option (Root×aE×Nat×Nat×Nat):=
 match op with
 | .load _ (.global _)=>none
 | .load _ a=>if tk=true then none else match asLoc (σ a),v with
  | .loc r p i off,.bor .. =>some (r,p,i,off,1)
  | .loc r p i off,.d (.agg _)=>none
  | .loc r p i off,.d _=>some (r,p,i,off,0)
  |_,_=>none
 | .fieldAddr .. =>match v with | .loc r p i off=>some (r,p,i,off,2) |_=>none
 |_=>none
def AD(op:Op)(σ:Operand→SV):Option (Root×aE):=
 match op with
 | .call {callee:=.builtin .append,args, .. }=>match args.toList with
  | [x,_]=>(match σ x with | .bor r p _ _=>some (r,p) |_=>none)
  |_=>none
 |_=>none
def Tr.killAt(r:Root)(q:aE):Tr→Bool
 | .kill r' p'=>decide (r'=r)&&decide (p'=q)
 |_=>false
def MD(rx:Option (Root×aE×Nat×Nat×Nat))(l:List SV):List SV:=match rx with |some _=>l |none=>[]
def ME(wx:Option (Root×aE))(tr:List Tr):List Root:=match wx with |some (r,q)=>(tr.filter fun x=> !x.killAt r q).flatMap Tr.rts |none=>[]
def gh(h:Hint)(ops:List Oper)(o:Oper)(hi:jl)(s:St)(w:Bool)(v:SV)(k:Wk):Fp:=
 let cur:=(looks ops o).flatMap fun t=>(s.get t).rts
 let rd:=if dz o.op=true then []else(looks ops o).flatMap (aW hi)++v.srts++(if reads o.op then cur else [])
 let e:=w&&cW h (o.dst.getD 0) o.op
 let wr:=cm s.wk k++k.tr.flatMap Tr.rts
 {sl:=looks ops o,dst:=o.dst,rd,wr,hr:=(w&&oo h (o.dst.getD 0) o.op) || rd.any Root.isO || wr.any Root.isO || k.tr.any Tr.isKillO,hw:=e&&(hOf h (o.dst.getD 0) o.op || (pK o.op&&cur.any Root.isO) || k.tr.any Tr.isKillO),ren:=k.tr.any Tr.isRen,rx:=if w=true then AC (cW h (o.dst.getD 0) o.op) o.op s.val v else none,sx:=MD (if w=true then AC (cW h (o.dst.getD 0) o.op) o.op s.val v else none) (v::(looks ops o).map fun t=>s.get t),wx:=if w=true then AD o.op s.val else none,ox:=ME (if w=true then AD o.op s.val else none) k.tr}
def bQ:List Tr→List Root→List Root
 | [],l=>l
 |x::r,l=>bQ r (x.hist l)
def aF(hi:jl)(tr:List Tr)(d:Option Nat)(L:List Root):jl:=
 let hi:=hi.map fun p=>(p.1,bQ tr p.2)
 match d with |some d=>(d,L)::hi |none=>hi
def cG(o:Op)(hi:jl)(v:SV):List Root:=
 match o with
 | .move (.tmp t)=>aW hi t
 |_=>v.srts
def DT(a b:List Root):Bool:=a.any fun r=>b.any fun q=>decide (q=r)
def kx(x y:Fp):Bool:=
 (match x.dst with |some d=> !y.sl.contains d&&y.dst !=some d |none=>true)&&
 (match y.dst with |some d=> !x.sl.contains d |none=>true)&&
 !DT x.wr y.rd&& !DT x.wr y.wr&& !DT y.wr x.rd&& !(x.hw&&(y.hr || y.hw))&& !(y.hw&&x.hr)&& !(x.ren&&y.ren)
def Wp(kd:Nat):aE→Nat→Nat→aE→Bool
 |_,_,_,[]=>false
 | [],i,off,(i',o')::q=>if i'=i∧o'=off then decide (kd=2) || (decide (kd=1)&& !q.isEmpty)else true
 |s::p,i,off,s'::q=>if s=s' then Wp kd p i off q else true
mutual
def SV.unhurt(r:Root)(q:aE):SV→Bool
 | .bor r' p _ _=>decide (r≠r') || (decide (q≠p)&& !decide (q.length<p.length))
 | .loc r' p _ _=>decide (r≠r') || (decide (q≠p)&& !decide (q.length<p.length))
 | .agg l=>SV.unhurts r q l
 | .tup l=>SV.unhurts r q l
 |_=>true
def SV.unhurts(r:Root)(q:aE):List SV→Bool
 | []=>true
 |v::l=>v.unhurt r q&&SV.unhurts r q l
end
def apartX(_ _:Fp):Bool:=false
def apartFp(x y:Fp):Bool:=kx x y || apartX x y || apartX y x
abbrev Cf:=St×jl
def aH(P:Program)(call:ak)(h:Hint)(ops:List Oper)(o:Oper)(c:Cf):Option (Cf×Fp):=
 (bP P call h ops o c.1).map fun(w,v,k)=>((c.1.fin o.dst v k,aF c.2 k.tr o.dst (cG o.op c.2 v)),gh h ops o c.2 c.1 w v k)
def aC(P:Program)(call:ak)(h:Hint)(ops:List Oper):List Oper→Cf→Option (Cf×List Fp)
 | [],c=>some (c,[])
 |o::r,c=>(aH P call h ops o c).bind fun(c',f)=>(aC P call h ops r c').map fun(c'',fs)=>(c'',f::fs)
def B6(acc:List Nat)(o:Oper):Nat:=o.after.toList.foldl (fun m e=>if Region.binds .any e then m ||| 2 ^ e.on ||| (acc[e.on]?).getD 0 else m) 0
def we:List Oper→List Nat→Option (List Nat)
 | [],acc=>some acc
 |o::r,acc=>if o.after.toList.all fun e=> !Region.binds .any e || decide (e.on<acc.length)then we r (acc++[B6 acc o])else none
def dL(b:Nat)(f:Fp):Nat→List Fp→Bool
 |_,[]=>true
 |j,g::gs=>(b.testBit j || apartFp g f)&&dL b f (j+1) gs
def ky(all:List Fp):Nat→List Nat→List Fp→Bool
 |i,b::bs,f::fs=>dL b f 0 (all.take i)&&ky all (i+1) bs fs
 |_,_,_=>true
def mg(ops:List Oper)(fs:List Fp):Bool:=match we ops []with |some bs=>ky fs 0 bs fs |none=>false
inductive Ex where
 |normal
 |exit (id:Nat)
 |ret
 |pan (d:D)
 deriving Inhabited
def Ex.block(id:Nat):Ex→Ex
 | .exit j=>if j=id then .normal else .exit j
 |e=>e
def gi(f:St→Option (Ex×St)):Nat→St→Option (Ex×St)
 |0,_=>none
 |n+1,s=>(f s).bind fun(e,s')=>match e with | .normal=>gi f n s' |e=>some (e,s')
def zl(n:Nat)(ops:Array Oper):Bool:=ops.toList.all fun o=>match o.dst with |some d=>decide (d<n) |none=>true
def aD(n:Nat):Code→Bool
 | .region _ ops _=>zl n ops
 | .seq a b=>aD n a&&aD n b
 | .cond _ a b=>aD n a&&aD n b
 | .block _ c=>aD n c
 | .loop c=>aD n c
 | .scope c=>aD n c
 | .rangeFunc _ ps a b=>ps.toList.all (fun t=>decide (t<n))&&aD n a&&aD n b
 |_=>true
def jY:Code→List Nat
 | .region _ ops _=>ops.toList.filterMap (·.dst)
 | .seq a b=>jY a++jY b
 | .cond _ a b=>jY a++jY b
 | .block _ c=>jY c
 | .loop c=>jY c
 | .scope c=>jY c
 |_=>[]
def SV.loose:SV→SV
 | .d x=>.d x
 | .bor (.l n j) p off len=>.bor (.l n j) p off len
 | .loc (.l n j) p i off=>.loc (.l n j) p i off
 |_=>.dead
def pL(call:ak)(h:Hint)(f:Operand)(ps:List Nat)(a b:Code)(s:St):Option (Ex×St):=
 if h.nest=true then none else
 match s.val f with
 | .d (.fn (.func g) first cap)=>
  if YB≤g then none else
  (call g (first++[.yld s.H.length]++cap) (s.H++[.frame h.self ps a b (s.env.map fun p=>(p.1,p.2.loose)) s.ct])).bind fun(rs,H2)=>
   match rs,H2[s.H.length]? with
   | [],some (.frame _ _ _ _ env ct)=>if H2.length=s.H.length+1 then some (.normal,{env,ct,H:=H2.set s.H.length .lock})else none
   |_,_=>none
 |_=>none
def leB(bs:List Nat)(u v:Nat):Bool:=decide (u=v) || ((bs[v]?).getD 0).testBit u
def zm(bs:List Nat):List (Nat×Nat)→List Nat→List Nat
 | [],L=>L
 |e::E,L=>(zm bs E L).filter (leB bs e.2) |>fun A=>(zm bs E L).filter (fun x=> !leB bs e.2 x)++A
def AE(bs:List Nat)(E:List (Nat×Nat)):List (Nat×Fp)→Bool
 | []=>true
 |p::r=>r.all (fun q=>((bs[q.1]?).getD 0).testBit p.1 || apartFp p.2 q.2 || E.any (fun e=>leB bs p.1 e.1&&leB bs e.2 q.1))&&AE bs E r
def jZ(ops:List Oper)(L:List Nat):List Oper:=L.filterMap fun i=>ops[i]?
def oA(P:Program)(call:ak)(h:Hint)(live:List Nat)(ops:List Oper)(bs:List Nat)(s:St):OT→List (Nat×Nat)→Option St
 | .leaf,E=>(aC P call h ops (jZ ops (zm bs E (List.range ops.length))) (s,gM s)).bind fun(c,fs)=>if AE bs E ((zm bs E (List.range ops.length)).zip fs)=true then some (prune live c.1)else none
 | .node i j a b,E=>if i≠j∧i<ops.length∧j<ops.length then(oA P call h live ops bs s a ((i,j)::E)).bind fun s1=>(oA P call h live ops bs s b ((j,i)::E)).bind fun s2=>if St.beq s1 s2=true then some s1 else none else none
def RN:List Oper→Option (Nat×Nat×TypeId×Nat)
 | [a,b]=>match a.op,a.dst,a.guard,b.op,b.dst,b.guard with
  | .move (.tmp src),some s1,none,.range mt (.tmp s2),some it,none=>if s1=s2 then some (src,s1,mt,it)else none
  |_,_,_,_,_,_=>none
 |_=>none
def RO:List Oper→Option (Nat×Nat×Nat)
 | [a,b]=>match a.op,a.dst,a.guard,b.op,b.dst,b.guard with
  | .next (.tmp it) false,some t,none,.extract (.tmp t2) 0,some c,none=>if t=t2 then some (it,t,c)else none
  |_,_,_,_,_,_=>none
 |_=>none
def RP:List Oper→Option (Nat×Nat×Nat×Nat)
 | [a,b,d]=>match a.op,a.dst,a.guard,b.op,b.dst,b.guard,d.op,d.dst,d.guard with
  | .entry (.tmp it),some e,none,.extract (.tmp e2) 0,some x,none,.assign (.tmp x2),some kv,none=>if e=e2∧x=x2 then some (it,e,x,kv)else none
  |_,_,_,_,_,_,_,_,_=>none
 |_=>none
def RR:List Oper→Option (Nat×Nat×Nat×Nat×TypeId)
 | [a,b,d]=>match a.op,a.dst,a.guard,b.op,b.dst,b.guard,d.op,d.dst,d.guard with
  | .move (.tmp all),some m,none,.move (.tmp kv),some k,none,.mapUpdate mt (.tmp m2) (.tmp k2) (.const (.bool true)),none,none=>if m=m2∧k=k2 then some (all,m,kv,k,mt)else none
  |_,_,_,_,_,_,_,_,_=>none
 |_=>none
structure Cpy where
 src:Nat
 all:Nat
 mt:TypeId
 mt2:TypeId
 W:List Nat
def tG:Code→Code→Option Cpy
 | .region _ o0 false,.block x (.loop (.seq (.region _ o1 false) (.seq (.cond (.tmp c') .skip (.exit y)) (.block _ (.seq (.region _ o2 false) (.region _ o3 false))))))=>
  (RN o0.toList).bind fun(src,s1,mt,it)=>(RO o1.toList).bind fun(it1,t,c)=>(RP o2.toList).bind fun(it2,e,xx,kv)=>(RR o3.toList).bind fun(all,m,kv2,k,mt2)=>
   if x=y∧c'=c∧it1=it∧it2=it∧kv2=kv∧[s1,it,t,c,e,xx,kv,m,k].Nodup∧all∉[s1,it,t,c,e,xx,kv,m,k]∧src∉[s1,it,t,c,e,xx,kv,m,k]then some ⟨src,all,mt,mt2,[s1,it,t,c,e,xx,kv,m,k]⟩else none
 |_,_=>none
def qP:List (D×T)→Option (List (List UInt8))
 | []=>some []
 |(.str k,_)::r=>(qP r).map (k::·)
 |_=>none
def B7(P:Program)(p:Cpy)(s:St):Option (Ex×St):=
 match s.get p.src,s.get p.all with
 | .d (.map q),.d (.map o)=>match s.H[q]?,s.H[o]? with
  |some (.map es),some (.sset ks)=>if(gg P p.mt).isSome=true∧((gg P p.mt2).bind fun x=>dl P x.1)=some 1 then(qP es).map fun l=>(.normal,{env:=s.env.filter fun e=> !p.W.contains e.1,ct:=s.ct,H:=s.H.set o (.sset (l++ks))})else none
  |_,_=>none
 |_,_=>none
def aB(P:Program)(call:ak)(h:Hint)(fuel:Nat):Code→St→Option (Ex×St)
 | .skip,s=>some (.normal,s)
 | .region id ops dr,s=>
  if dr then match h.swp id with |some t=>(we ops.toList []).bind fun bs=>(oA P call h (h.live id) ops.toList bs s t []).map fun s'=>(.normal,s') |none=>(aC P call h ops.toList ops.toList (s,gM s)).bind fun(c,fs)=>if mg ops.toList fs then some (.normal,prune (h.live id) c.1)else none
  else if h.pan.contains id then(ck P call h ops.toList ops.toList s).map fun(t,s')=>match t with |some d=>(.pan d,s') |none=>(.normal,prune (h.live id) s')
  else(ba P call h ops.toList ops.toList s).map fun s'=>(.normal,prune (h.live id) s')
 | .seq a b,s=>match tG a b with
  |some p=>B7 P p s
  |none=>(aB P call h fuel a s).bind fun(e,s')=>match e with | .normal=>aB P call h fuel b s' |e=>some (e,s')
 | .cond c a b,s=>match s.val c with | .d (.bool t)=>if t then aB P call h fuel a s else aB P call h fuel b s |_=>none
 | .block id c,s=>(aB P call h fuel c s).map fun(e,s')=>(e.block id,s')
 | .loop c,s=>gi (aB P call h fuel c) fuel s
 | .exit id,s=>some (.exit id,s)
 | .scope c,s=>aB P call h fuel c s
 | .label _,s=>some (.normal,s)
 | .ret,s=>some (.ret,s)
 | .rangeFunc f ps a b,s=>pL call h f ps.toList a b s
 |_,_=>none
def wg(P:Program)(s:St):ResultVar→Option SV
 | .tmp t=>some (s.get t)
 | .cell a t=>dW P t (s.get a) s.wk
def ep(P:Program)(s:St):List ResultVar→Option (List SV)
 | []=>some []
 |r::rs=>(wg P s r).bind fun v=>(ep P s rs).map (v::·)
def er:List SV→Wk→Option (List T×Wk)
 | [],k=>some ([],k)
 |v::r,k=>(bD 0 v k).bind fun(t,k)=>(er r k).map fun(ts,k)=>(t::ts,k)
def AF(vs:List SV)(k:Wk):Option (List T×Wk):=(er vs.reverse k).map fun(ts,k)=>(ts.reverse,k)
def SV.bp:SV→Option (Root×aE)
 | .bor r p _ _=>some (r,p)
 |_=>none
def nY(a b:SV):Bool:=match a.bp,b.bp with |some (r,p),some (q,s)=>decide (r=q)&&decide (p.length<s.length) |_,_=>false
def crossing:List SV→Bool
 | []=>false
 |a::r=>r.any (nY a) || crossing r
def gP(vs:List SV)(k:Wk):Option (List T×Wk):=if crossing vs=true then AF vs k else er vs k
def ik(n0:Nat)(rs:List T)(H:List Ob):List Ob:=
 if H.length=n0 then H
 else if T.lows n0 rs∧(H.take n0).all (·.low n0)then H.take n0 else H
def enter(ds:List D)(H:List Ob):St:={env:=ds.zipIdx.map fun(d,i)=>(i,.d d),ct:=[],H}
def settle(own:Bool)(ts:List T):Option (List T):=if own then some (ts.map T.fresh)else(T.frzs false ts).map fun xs=>(canon false xs).map T.d
def aQ:List T→Bool
 | [.d _,.agg []]=>true
 |_=>false
def cJ(P:Program)(own:Bool)(fn:Func)(n0:Nat)(r:Ex×St):Option (List T×List Ob):=
 match r.1 with
 | .exit _=>none
 | .pan d=>some ([.d d,.agg []],ik n0 [.d d] r.2.H)
 |_=>(ep P r.2 fn.results.toList).bind fun vs=>(gP vs r.2.wk).bind fun(ts,k)=>(settle own ts).bind fun ts=>if aQ ts=true then none else some (ts,ik n0 ts k.H)
def cK:List D→Bool
 | [.sl _ []]=>true
 |_=>false
def jm(b:Bool)(H:List Ob):St:={env:=[(0,.ns b)],ct:=[],H}
def pM(es:List T)(ds:List D):St:={env:=(0,.bor (.l 0 0) [] 0 es.length)::ds.zipIdx.map fun(d,i)=>(i+1,.d d),ct:=[((0,0),.own es)],H:=[]}
def Fs:List Ob→Option (List T)
 | [.row es]=>some es
 |_=>none
def eV(H:List Ob):Bool:=H.all fun | .lock=>true |_=>false
def wh(n:Nat)(c:Bool)(r1 r2:Option (List T×List Ob)):Option (List T×List Ob):=
 match r1,r2 with
 |some ([.d (.sl false [])],H1),some ([.d (.sl false [])],H2)=>if eV H1=true∧eV H2=true∧H1.length=n∧H2.length=n then some ([.d (.sl c [])],List.replicate n .lock)else none
 |some ([.own []],H1),some ([.own []],H2)=>if eV H1=true∧eV H2=true∧H1.length=n∧H2.length=n then some ([.own []],List.replicate n .lock)else none
 |_,_=>none
def Ft(h:Hint):List D→Bool
 | [.sl b _]=>decide (h.nilt=2)&&b
 |_=>false
def pO(P:Program)(call:ak)(hint:FuncId→Hint)(n:Nat)(o:Nat)(ds:List D)(H:List Ob):Option (List T×List Ob):=
 match H[o]?,ds with
 |some (.frame g [p] a b env ct),[d]=>
  (aB P call {hint g with nest:=true} n a {env:=(p,.d d)::env,ct,H:=H.set o .lock}).bind fun(e1,s1)=>match e1 with
   | .normal=>(aB P call {hint g with nest:=true} n b s1).bind fun(e2,s2)=>match e2 with
    | .normal=>match s2.H[o]? with
     |some .lock=>
      let env':=((env.map (·.1)).filter fun t=> !(p::jY a++jY b).contains t).map fun t=>(t,(s2.get t).loose)
      some ([.d (.bool true)],ik H.length [] (s2.H.set o (.frame g [p] a b env' (pick s2.ct (fu (SV.rootss (env'.map (·.2))))))))
     |_=>none
    |_=>none
   |_=>none
 |_,_=>none
def D.pin:D→Bool
 | .ptr _=>true
 |x=>x.flat
def kz:ak:=fun _ _ _=>none
def fy(P:Program)(call:ak)(hint:FuncId→Hint)(n:Nat)(r:D)(g:FuncId)(ds:List D)(H:List Ob):Option (List T×List Ob):=
 (P.funcs[g]?).bind fun fn=>fn.body.bind fun c=>
  match c with
  | .seq (.region id ops false) rest=>
   match ops.toList with
   |o::l=>match o.op,o.dst,o.guard with
    | .call {callee:=.builtin .recover, .. },some t,none=>
     if ds.length=fn.params.size+fn.nfree∧aD fn.ntmps c=true∧(fn.name== "runtime.NumGoroutine")=false then
      (ba P kz (hint g) ops.toList l {env:=(t,.d r)::(enter ds H).env,ct:=[],H}).bind fun s=>(aB P call {hint g with nest:=true} n rest (prune ((hint g).live id) s)).bind fun(e,s)=>match e with
       | .normal=>cJ P (hint g).own fn H.length (.normal,s)
       | .ret=>cJ P (hint g).own fn H.length (.ret,s)
       |_=>none
     else none
    |_,_,_=>none
   |_=>none
  |_=>none
def Gp:Ex→Option D
 | .normal=>some .nili
 | .ret=>some .nili
 | .pan d=>some d
 |_=>none
def yU(P:Program)(call:ak)(hint:FuncId→Hint)(n:Nat)(f:FuncId)(c:Code)(nt:Nat)(s:St):Option (Ex×St):=
 match c with
 | .seq (.region i0 o0 false) (.seq (.region i1 o1 false) rest)=>
  (ba P call (hint f) o0.toList o0.toList s).bind fun s=>match o1.toList.getLast? with
   |some o=>match o.op,o.dst,o.guard with
    | .defer {callee:=.value x,args, .. },none,none=>
     (ba P call (hint f) o1.toList o1.toList.dropLast (prune ((hint f).live i0) s)).bind fun s=>match s.val x with
      | .d (.fn (.func g) [] cap)=>
       if args.size=0∧cap.all D.pin=true then
        (aB P call (hint f) n rest (prune ((hint f).live i1) s)).bind fun(e,s)=>(Gp e).bind fun r=>
         ((aU (fy P call hint n r) {hint f with keep:=[]} nt g (canon false cap) {} s.wk).bind eH).map fun(_,k)=>(.ret,s.fin none .dead k)
       else none
      |_=>none
    |_,_,_=>none
   |_=>none
 |_=>none
def aR(P:Program)(hint:FuncId→Hint):Nat→ak
 |0,_,_,_=>none
 |n+1,f,ds,H=>
  if YB≤f then pO P (aR P hint n) hint n (f - YB) ds H else
  match (hint f).ext with
  |some F=>(F ds).bind fun rs=>if aQ rs=true then none else some (rs,H)
  |none=>
  (P.funcs[f]?).bind fun fn=>fn.body.bind fun c=>
   if ds.length=fn.params.size+fn.nfree∧aD fn.ntmps c=true∧(fn.name== "runtime.NumGoroutine")=false then
    if(hint f).rcv=true then(yU P (aR P hint n) hint n f c fn.ntmps (enter ds H)).bind (cJ P (hint f).own fn H.length)
    else if(decide ((hint f).nilt≠0)&&cK ds)=true then
     wh H.length (Ft (hint f) ds) ((aB P (aR P hint n) (hint f) n c (jm true H)).bind (cJ P (hint f).own fn H.length)) ((aB P (aR P hint n) (hint f) n c (jm false H)).bind (cJ P (hint f).own fn H.length))
    else(aB P (aR P hint n) (hint f) n c (enter ds H)).bind (cJ P (hint f).own fn H.length)
   else if ds.length+1=fn.params.size+fn.nfree∧aD fn.ntmps c=true∧(fn.name== "runtime.NumGoroutine")=false then
    (Fs H).bind fun es=>(aB P (aR P hint n) (hint f) n c (pM es ds)).bind (cJ P (hint f).own fn 0)
   else none
def Qh(c:Bool)(t t':T):Prop:=(t=.d (.sl false [])∧t'=.d (.sl c []))∨(t=.own []∧t'=.own [])
theorem pP{n:Nat}{c:Bool}{r1 r2:Option (List T×List Ob)}{r:List T×List Ob}(e:wh n c r1 r2=some r):∃t t' H1 H2,Qh c t t'∧r1=some ([t],H1)∧r2=some ([t],H2)∧eV H1=true∧eV H2=true∧H1.length=n∧H2.length=n∧r=([t'],List.replicate n .lock):=by
 unfold wh at e
 split at e
 ·split at e
  ·rename_i h
   simp only[xJ]at e
   exact⟨_,_,_,_,.inl ⟨rfl,rfl⟩,rfl,rfl,h.1,h.2.1,h.2.2.1,h.2.2.2,e.symm⟩
  ·cases e
 ·split at e
  ·rename_i h
   simp only[xJ]at e
   exact⟨_,_,_,_,.inr ⟨rfl,rfl⟩,rfl,rfl,h.1,h.2.1,h.2.2.1,h.2.2.2,e.symm⟩
  ·cases e
 ·cases e
theorem B8{n:Nat}{c:Bool}{t t':T}{H1 H2:List Ob}(ht:Qh c t t')(h1:eV H1=true)(h2:eV H2=true)(h3:H1.length=n)(h4:H2.length=n):wh n c (some ([t],H1)) (some ([t],H2))=some ([t'],List.replicate n .lock):=by
 rcases ht with⟨rfl,rfl⟩ |⟨rfl,rfl⟩ <;>exact if_pos ⟨h1,h2,h3,h4⟩
structure Cx where
 w:World
 pm:Bool→Nat→Prop
 nO:Nat
 ρ:Nat→Nat
def oq(d:D)(v:Value):Prop:=match d with | .agg _=>∃cs,v=.agg cs |_=>v.oneCell'=true
mutual
def VC(c:Cx):D→List Value→Prop
 | .int k n,cs=>cs=[.int k n]
 | .bool b,cs=>cs=[.bool b]
 | .str s,cs=>∃b:ByteArray,cs=[.string b]∧b.data.toList=s
 | .nils,cs=>cs=[.slice none 0 0]
 | .sl b l,cs=>∃a len cap,cs=[.slice a len cap]∧len=l.length∧len≤cap∧(l≠[]→∃ad sz,a=some ad∧ad.spot=none∧c.pm b ad.block∧0<sz∧VE c l ad 0 sz)
 | .agg l,cs=>VCs c l cs
 | .nilp,cs=>cs=[.pointer none]
 | .ptr o,cs=>o<c.nO∧cs=[.pointer (some ⟨c.ρ o,0,none⟩)]
 | .nilm,cs=>cs=[.map none]
 | .map o,cs=>o<c.nO∧cs=[.map (some (c.ρ o))]
 | .nilf,cs=>cs=[.nilFunc]
 | .fn f a b,cs=>∃av bv:Array Value,cs=[.func f av bv]∧VVs c a av.toList∧VVs c b bv.toList
 | .nili,cs=>cs=[.nilIface]
 | .iface t x,cs=>∃v,cs=[.iface t v]∧VC c x v.cells.toList∧oq x v
 | .yld o,cs=>o<c.nO∧cs=[.func (.yield (c.ρ o)) #[] #[]]
 | .rptr l,cs=>∃a vs,cs=[.pointer (some a)]∧a.spot=none∧c.pm true a.block∧(∀(j:Nat) (u:Value),vs[j]? =some u→c.w.cell? (a.add j)=some u)∧VCs c l vs
def VCs(c:Cx):List D→List Value→Prop
 | [],cs=>cs=[]
 |d::ds,cs=>∃v r,cs=v::r∧VC c d [v]∧VCs c ds r
def VVs(c:Cx):List D→List Value→Prop
 | [],vs=>vs=[]
 |d::ds,vs=>∃v r,vs=v::r∧VC c d v.cells.toList∧oq d v∧VVs c ds r
def VE(c:Cx):List D→Addr→Nat→Nat→Prop
 | [],_,_,_=>True
 |d::ds,a,o,sz=>(∃cs,cs.length=sz∧(∀j v,cs[j]? =some v→c.w.cell? (a.add (o+j))=some v)∧VC c d cs)∧VE c ds a (o+sz) sz
end
def VV(c:Cx)(d:D)(v:Value):Prop:=VC c d v.cells.toList∧oq d v
structure Ext(c c':Cx):Prop where
 pm:∀b g,c.pm b g→c'.pm b g∧c'.w.heap[g]? =c.w.heap[g]?
 nO:c.nO≤c'.nO
 ρ:∀o,o<c.nO→c'.ρ o=c.ρ o
theorem eJ(a:Addr)(n:Nat):(a.add n).block=a.block:=by unfold Addr.add;split <;>rfl
theorem aL(b o n:Nat):(⟨b,o,none⟩:Addr).add n=⟨b,o+n,none⟩:=by unfold Addr.add;split <;>simp_all
theorem j0{w w':World}{a:Addr}(h:w'.heap[a.block]? =w.heap[a.block]?):w'.cell? a=w.cell? a:=by simp[World.cell?,h]
mutual
theorem VC.ext{c c':Cx}(h:Ext c c'):∀(d:D) (cs:List Value),VC c d cs→VC c' d cs
 | .int _ _,_,hv=>by simpa [VC]using hv
 | .bool _,_,hv=>by simpa [VC]using hv
 | .str _,_,hv=>by simpa [VC]using hv
 | .nils,_,hv=>by simpa [VC]using hv
 | .nilp,_,hv=>by simpa [VC]using hv
 | .nilm,_,hv=>by simpa [VC]using hv
 | .nilf,_,hv=>by simpa [VC]using hv
 | .nili,_,hv=>by simpa [VC]using hv
 | .ptr o,cs,hv=>by
  simp only[VC]at hv ⊢
  exact⟨yA hv.1 h.nO,by rw[h.ρ o hv.1];exact hv.2⟩
 | .map o,cs,hv=>by
  simp only[VC]at hv ⊢
  exact⟨yA hv.1 h.nO,by rw[h.ρ o hv.1];exact hv.2⟩
 | .yld o,cs,hv=>by
  simp only[VC]at hv ⊢
  exact⟨yA hv.1 h.nO,by rw[h.ρ o hv.1];exact hv.2⟩
 | .agg l,cs,hv=>by simp only[VC]at hv ⊢;exact VCs.ext h l cs hv
 | .sl b l,cs,hv=>by
  simp only[VC]at hv ⊢
  obtain⟨a,len,cap,h1,h2,h3,h4⟩:=hv
  refine⟨a,len,cap,h1,h2,h3,fun hl=> ?_⟩
  obtain⟨ad,sz,h5,h6,h7,h8,h9⟩:=h4 hl
  exact⟨ad,sz,h5,h6,(h.pm _ _ h7).1,h8,VE.ext h l ad 0 sz (h.pm _ _ h7).2 h9⟩
 | .fn f a b,cs,hv=>by
  simp only[VC]at hv ⊢
  obtain⟨av,bv,h1,h2,h3⟩:=hv
  exact⟨av,bv,h1,VVs.ext h a _ h2,VVs.ext h b _ h3⟩
 | .iface t x,cs,hv=>by
  simp only[VC]at hv ⊢
  obtain⟨v,h1,h2,h3⟩:=hv
  exact⟨v,h1,VC.ext h _ _ h2,h3⟩
 | .rptr l,cs,hv=>by
  simp only[VC]at hv ⊢
  obtain⟨a,vs,h1,h2,h3,h4,h5⟩:=hv
  refine⟨a,vs,h1,h2,(h.pm _ _ h3).1,fun j u hj=> ?_,VCs.ext h l vs h5⟩
  rw[j0 (w:=c.w) (by rw[eJ];exact(h.pm _ _ h3).2)]
  exact h4 j u hj
theorem VCs.ext{c c':Cx}(h:Ext c c'):∀(l:List D) (cs:List Value),VCs c l cs→VCs c' l cs
 | [],_,hv=>by simpa [VCs]using hv
 |d::ds,cs,hv=>by
  simp only[VCs]at hv ⊢
  obtain⟨v,r,h1,h2,h3⟩:=hv
  exact⟨v,r,h1,VC.ext h d _ h2,VCs.ext h ds _ h3⟩
theorem VVs.ext{c c':Cx}(h:Ext c c'):∀(l:List D) (cs:List Value),VVs c l cs→VVs c' l cs
 | [],_,hv=>by simpa [VVs]using hv
 |d::ds,cs,hv=>by
  simp only[VVs]at hv ⊢
  obtain⟨v,r,h1,h2,h3,h4⟩:=hv
  exact⟨v,r,h1,VC.ext h _ _ h2,h3,VVs.ext h ds _ h4⟩
theorem VE.ext{c c':Cx}(h:Ext c c'):∀(l:List D) (a:Addr) (o sz:Nat),c'.w.heap[a.block]? =c.w.heap[a.block]? →VE c l a o sz→VE c' l a o sz
 | [],_,_,_,_,_=>by simp[VE]
 |d::ds,a,o,sz,hb,hv=>by
  simp only[VE]at hv ⊢
  obtain⟨⟨cs,h1,h2,h3⟩,h4⟩:=hv
  refine⟨⟨cs,h1,fun j v hj=> ?_,VC.ext h d cs h3⟩,VE.ext h ds a (o+sz) sz hb h4⟩
  rw[j0 (w:=c.w) (by rw[eJ];exact hb)]
  exact h2 j v hj
end
theorem VV.ext{c c':Cx}(h:Ext c c'){d:D}{v:Value}(hv:VV c d v):VV c' d v:=⟨VC.ext h _ _ hv.1,hv.2⟩
theorem VCs.len{c:Cx}:∀(l:List D) (cs:List Value),VCs c l cs→cs.length=l.length
 | [],_,hv=>by simp only[VCs]at hv;simp[hv]
 |d::ds,cs,hv=>by
  simp only[VCs]at hv
  obtain⟨v,r,h1,h2,h3⟩:=hv;subst h1;simp[VCs.len ds r h3]
theorem VC.len{c:Cx}(d:D)(cs:List Value)(hv:VC c d cs):cs.length=d.nc:=by
 cases d with
 |agg l=>exact VCs.len l cs hv
 |ptr o=>simp only[VC]at hv;simp[hv.2,D.nc]
 |map o=>simp only[VC]at hv;simp[hv.2,D.nc]
 |yld o=>simp only[VC]at hv;simp[hv.2,D.nc]
 |str s=>obtain⟨b,h,_⟩:=hv;simp[h,D.nc]
 |sl b l=>obtain⟨a,len,cap,h,_⟩:=hv;simp[h,D.nc]
 |fn f a b=>obtain⟨av,bv,h,_⟩:=hv;simp[h,D.nc]
 |iface t x=>obtain⟨v,h,_⟩:=hv;simp[h,D.nc]
 |rptr l=>obtain⟨a,vs,h,_⟩:=hv;simp[h,D.nc]
 |_=>simp only[VC]at hv;simp[hv,D.nc]
mutual
theorem VC.one{c:Cx}:∀(d:D) (v:Value),VC c d [v]→v.oneCell'=true
 | .agg l,v,hv=>by simp only[VC]at hv;exact VCs.one l [v] hv v (by simp)
 | .int _ _,v,hv=>by simp only[VC,xC,and_true]at hv;simp[hv,Value.oneCell']
 | .bool _,v,hv=>by simp only[VC,xC,and_true]at hv;simp[hv,Value.oneCell']
 | .nils,v,hv=>by simp only[VC,xC,and_true]at hv;simp[hv,Value.oneCell']
 | .nilp,v,hv=>by simp only[VC,xC,and_true]at hv;simp[hv,Value.oneCell']
 | .nilm,v,hv=>by simp only[VC,xC,and_true]at hv;simp[hv,Value.oneCell']
 | .nilf,v,hv=>by simp only[VC,xC,and_true]at hv;simp[hv,Value.oneCell']
 | .nili,v,hv=>by simp only[VC,xC,and_true]at hv;simp[hv,Value.oneCell']
 | .ptr _,v,hv=>by simp only[VC,xC,and_true]at hv;simp[hv.2,Value.oneCell']
 | .map _,v,hv=>by simp only[VC,xC,and_true]at hv;simp[hv.2,Value.oneCell']
 | .yld _,v,hv=>by simp only[VC,xC,and_true]at hv;simp[hv.2,Value.oneCell']
 | .str _,v,hv=>by obtain⟨b,h,_⟩:=hv;simp at h;simp[h,Value.oneCell']
 | .sl _ _,v,hv=>by obtain⟨a,len,cap,h,_⟩:=hv;simp at h;simp[h,Value.oneCell']
 | .fn _ _ _,v,hv=>by obtain⟨av,bv,h,_⟩:=hv;simp at h;simp[h,Value.oneCell']
 | .iface _ _,v,hv=>by obtain⟨u,h,_⟩:=hv;simp at h;simp[h,Value.oneCell']
 | .rptr _,v,hv=>by obtain⟨a,vs,h,_⟩:=hv;simp at h;simp[h,Value.oneCell']
theorem VCs.one{c:Cx}:∀(l:List D) (cs:List Value),VCs c l cs→∀v∈cs,v.oneCell'=true
 | [],_,hv=>by simp only[VCs]at hv;simp[hv]
 |d::ds,cs,hv=>by
  simp only[VCs]at hv
  obtain⟨v,r,h1,h2,h3⟩:=hv;subst h1;intro u hu
  rcases List.mem_cons.1 hu with rfl |hu
  ·exact VC.one d _ h2
  ·exact VCs.one ds r h3 u hu
end
theorem VC.ones{c:Cx}(d:D)(cs:List Value)(hv:VC c d cs):∀v∈cs,v.oneCell'=true:=by
 have hl:=VC.len d cs hv
 cases d with
 |agg l=>exact VCs.one l cs hv
 |_=>
  simp only[D.nc]at hl
  match cs,hl with
  | [u],_=>intro v hu;rw[List.mem_singleton.1 hu];exact VC.one _ u hv
theorem fz{v:Value}(h:v.oneCell'=true):v.cells= #[v]:=by cases v <;>simp_all [Value.cells,Value.oneCell']
theorem VV.agg{c:Cx}{l:List D}{cs:Array Value}(h:VCs c l cs.toList):VV c (.agg l) (.agg cs):=⟨by simpa [Value.cells,VC]using h,cs,rfl⟩
theorem VV.one{c:Cx}{d:D}{v:Value}(hv:VC c d [v])(ha:∀l,d≠ .agg l):VV c d v:=by
 have h1:=VC.one d v hv
 refine⟨by rw[fz h1];exact hv,?_⟩
 cases d with
 |agg l=>exact absurd rfl (ha l)
 |_=>exact h1
theorem VV.inv{c:Cx}{d:D}{v:Value}(hv:VV c d v)(ha:∀l,d≠ .agg l):VC c d [v]:=by
 obtain⟨h1,h2⟩:=hv
 cases d with
 |agg l=>exact absurd rfl (ha l)
 |_=>rwa [fz h2]at h1
theorem VV.inv_agg{c:Cx}{l:List D}{v:Value}(hv:VV c (.agg l) v):∃cs,v=.agg cs∧VCs c l cs.toList:=by
 obtain⟨h1,cs,rfl⟩:=hv
 exact⟨cs,rfl,by simpa [Value.cells,VC]using h1⟩
theorem VV.of_cells{c:Cx}{d:D}{cs:List Value}(hv:VC c d cs)(ha:∀l,d≠ .agg l):∃v,cs=[v]∧VV c d v:=by
 have hl:=VC.len d cs hv;have h1:d.nc=1:=by cases d <;>first |rfl |exact absurd rfl (ha _)
 rw[h1]at hl
 match cs,hl with
 | [u],_=>exact⟨u,rfl,VV.one hv ha⟩
theorem VCs.get{c:Cx}:∀(l:List D) (cs:List Value),VCs c l cs→∀(i:Nat) (x:D),l[i]? =some x→∃v,cs[i]? =some v∧VC c x [v]
 | [],_,_=>by simp
 |d::ds,cs,hv=>by
  simp only[VCs]at hv
  obtain⟨v,r,h1,h2,h3⟩:=hv;subst h1;intro i x hx
  cases i with
  |zero=>simp at hx;subst hx;exact⟨v,by simp,h2⟩
  |succ i=>simp at hx;obtain⟨u,h4,h5⟩:=VCs.get ds r h3 i x hx;exact⟨u,by simpa using h4,h5⟩
theorem VCs.win{c:Cx}:∀(l:List D) (cs:List Value),VCs c l cs→∀o n,VCs c (win l o n) (win cs o n)
 | [],cs,hv=>by simp only[VCs]at hv;subst hv;intro o n;simp[Go.Am.win,VCs]
 |d::ds,cs,hv=>by
  have hv0:=hv;simp only[VCs]at hv
  obtain⟨v,r,h1,h2,h3⟩:=hv;subst h1;intro o n
  cases o with
  |zero=>
   cases n with
   |zero=>simp[Go.Am.win,VCs]
   |succ n=>
    have:=VCs.win ds r h3 0 n
    simp only[Go.Am.win,List.drop_zero,List.take_succ_cons,VCs]at this ⊢
    exact⟨v,_,rfl,h2,this⟩
  |succ o=>simpa [Go.Am.win]using VCs.win ds r h3 o n
theorem VCs.append{c:Cx}:∀(l:List D) (cs:List Value) (l':List D) (cs':List Value),VCs c l cs→VCs c l' cs'→VCs c (l++l') (cs++cs')
 | [],_,_,_,hv,h'=>by simp only[VCs]at hv;subst hv;simpa using h'
 |d::ds,cs,l',cs',hv,h'=>by
  simp only[VCs]at hv
  obtain⟨v,r,h1,h2,h3⟩:=hv;subst h1;simp only[List.cons_append,VCs]
  exact⟨v,_,rfl,h2,VCs.append ds r l' cs' h3 h'⟩
theorem VE.get{c:Cx}:∀(l:List D) (a:Addr) (o sz:Nat),VE c l a o sz→∀(i:Nat) (x:D),l[i]? =some x→
  x.nc=sz∧∃cs,(∀j v,cs[j]? =some v→c.w.cell? (a.add (o+i * sz+j))=some v)∧VC c x cs
 | [],_,_,_,_=>by simp
 |d::ds,a,o,sz,hv=>by
  simp only[VE]at hv
  obtain⟨⟨cs,h1,h2,h3⟩,h4⟩:=hv;intro i x hx
  cases i with
  |zero=>simp at hx;subst hx;exact⟨by rw[←VC.len _ _ h3,h1],cs,fun j v hj=>by simpa using h2 j v hj,h3⟩
  |succ i=>
   simp at hx;obtain⟨h5,cs',h6,h7⟩:=VE.get ds a (o+sz) sz h4 i x hx
   refine⟨h5,cs',fun j v hj=> ?_,h7⟩
   have:=h6 j v hj
   rwa [show o+(i+1) * sz+j=o+sz+i * sz+j by rw[Nat.add_mul];omega]
theorem zn:∀l:List D,(D.lends l).length=l.length
 | []=>rfl
 |x::l=>by simp[D.lends,zn l]
theorem sq{x:D}{v:Value}(h:oq x v):oq x.lend v:=by cases x <;>exact h
theorem VC.norm1{c:Cx}{x:D}{cs:List Value}(h:VC c x cs):VC c x.norm1 cs:=by
 cases x with
 |nils=>simp only[VC]at h;simp only[D.norm1,VC];exact⟨none,0,0,h,rfl,Nat.le_refl _,fun q=>absurd rfl q⟩
 |_=>exact h
theorem VCs.norm1{c:Cx}:∀(l:List D) (cs:List Value),VCs c l cs→VCs c (l.map D.norm1) cs
 | [],cs,h=>h
 |d::ds,cs,h=>by
  simp only[VCs]at h
  obtain⟨v,r,rfl,h2,h3⟩:=h
  exact⟨v,r,rfl,h2.norm1,VCs.norm1 ds r h3⟩
theorem VC.norm{c:Cx}{x:D}{cs:List Value}(h:VC c x cs):VC c x.norm cs:=by
 cases x with
 |agg l=>simp only[VC]at h;simp only[D.norm,VC];exact VCs.norm1 l cs h
 |_=>exact h.norm1
theorem zo{x:D}{v:Value}(h:oq x v):oq x.norm v:=by cases x <;>exact h
theorem VV.norm{c:Cx}{x:D}{v:Value}(h:VV c x v):VV c x.norm v:=⟨h.1.norm,zo h.2⟩
mutual
theorem VC.lend{c:Cx}(hm:∀b,c.pm false b→c.pm true b):∀(d:D) (cs:List Value),VC c d cs→VC c d.lend cs
 | .int _ _,_,hv=>hv
 | .bool _,_,hv=>hv
 | .str _,_,hv=>hv
 | .nils,_,hv=>hv
 | .nilp,_,hv=>hv
 | .nilm,_,hv=>hv
 | .nilf,_,hv=>hv
 | .nili,_,hv=>hv
 | .ptr _,_,hv=>hv
 | .map _,_,hv=>hv
 | .yld _,_,hv=>hv
 | .agg l,cs,hv=>by simp only[VC]at hv;simp only[D.lend,VC];exact VCs.lend hm l cs hv
 | .sl b l,cs,hv=>by
  simp only[VC]at hv
  simp only[D.lend,VC];obtain⟨a,len,cap,h1,h2,h3,h4⟩:=hv
  refine⟨a,len,cap,h1,by rw[zn];exact h2,h3,fun hl=> ?_⟩
  obtain⟨ad,sz,h5,h6,h7,h8,h9⟩:=h4 (fun e=>by subst e;exact hl rfl)
  exact⟨ad,sz,h5,h6,by cases b <;>first |exact hm _ h7 |exact h7,h8,VE.lend hm l ad 0 sz h9⟩
 | .fn f a b,cs,hv=>by
  simp only[VC]at hv
  simp only[D.lend,VC];obtain⟨av,bv,h1,h2,h3⟩:=hv
  exact⟨av,bv,h1,VVs.lend hm a _ h2,VVs.lend hm b _ h3⟩
 | .iface t x,cs,hv=>by
  simp only[VC]at hv
  simp only[D.lend,VC];obtain⟨v,h1,h2,h3⟩:=hv
  exact⟨v,h1,VC.lend hm _ _ h2,sq h3⟩
 | .rptr l,cs,hv=>by
  simp only[VC]at hv
  simp only[D.lend,VC];obtain⟨a,vs,h1,h2,h3,h4,h5⟩:=hv
  exact⟨a,vs,h1,h2,h3,h4,VCs.lend hm l vs h5⟩
theorem VCs.lend{c:Cx}(hm:∀b,c.pm false b→c.pm true b):∀(l:List D) (cs:List Value),VCs c l cs→VCs c (D.lends l) cs
 | [],_,hv=>hv
 |d::ds,cs,hv=>by
  simp only[VCs]at hv
  obtain⟨v,r,h1,h2,h3⟩:=hv
  exact⟨v,r,h1,VC.lend hm d _ h2,VCs.lend hm ds _ h3⟩
theorem VVs.lend{c:Cx}(hm:∀b,c.pm false b→c.pm true b):∀(l:List D) (cs:List Value),VVs c l cs→VVs c (D.lends l) cs
 | [],_,hv=>hv
 |d::ds,cs,hv=>by
  simp only[VVs]at hv
  obtain⟨v,r,h1,h2,h3,h4⟩:=hv
  exact⟨v,r,h1,VC.lend hm d _ h2,sq h3,VVs.lend hm ds _ h4⟩
theorem VE.lend{c:Cx}(hm:∀b,c.pm false b→c.pm true b):∀(l:List D) (a:Addr) (o sz:Nat),VE c l a o sz→VE c (D.lends l) a o sz
 | [],_,_,_,hv=>hv
 |d::ds,a,o,sz,hv=>by
  simp only[VE]at hv
  obtain⟨⟨cs,h1,h2,h3⟩,h4⟩:=hv
  exact⟨⟨cs,h1,h2,VC.lend hm d cs h3⟩,VE.lend hm ds a (o+sz) sz h4⟩
end
theorem VVs.canon{c:Cx}(hm:∀b,c.pm false b→c.pm true b){sn:Bool}{l:List D}{cs:List Value}(h:VVs c l cs):VVs c (canon sn l) cs:=by
 unfold Go.Am.canon;split
 ·exact h
 ·exact VVs.lend hm l cs h
mutual
def TC(c:Cx):T→List Value→List Nat→Prop
 | .d x,cs,S=>S=[]∧VC c x cs
 | .dead,cs,S=>S=[]∧∃v,cs=[v]∧v.oneCell'=true
 | .agg ts,cs,S=>TCs c ts cs S
 | .own es,cs,S=>(∃a,cs=[.slice a 0 0]∧es=[]∧S=[])∨
   ∃g cap cur e sz S',cs=[.slice (some ⟨g,0,none⟩) es.length cap]∧S=g::S'∧c.w.heap[g]? =some (.cells cur e (0,0))∧
    es.length≤cap∧cap≤maxLen∧cap * sz≤cur.size∧0<es.length * sz∧TE c es sz (cur.toList.take (es.length * sz)) S'
def TCs(c:Cx):List T→List Value→List Nat→Prop
 | [],cs,S=>cs=[]∧S=[]
 |t::ts,cs,S=>∃v r S1 S2,cs=v::r∧S=S1++S2∧TC c t [v] S1∧TCs c ts r S2
def TE(c:Cx):List T→Nat→List Value→List Nat→Prop
 | [],_,cs,S=>cs=[]∧S=[]
 |t::ts,sz,cs,S=>∃c1 c2 S1 S2,cs=c1++c2∧S=S1++S2∧c1.length=sz∧TC c t c1 S1∧TE c ts sz c2 S2
end
def Kept(c c':Cx)(S:List Nat):Prop:=∀g∈S,c'.w.heap[g]? =c.w.heap[g]?
theorem Kept.left{c c':Cx}{A B:List Nat}(h:Kept c c' (A++B)):Kept c c' A:=fun g hg=>h g (xL _ hg)
theorem Kept.right{c c':Cx}{A B:List Nat}(h:Kept c c' (A++B)):Kept c c' B:=fun g hg=>h g (xR _ hg)
mutual
theorem TC.ext{c c':Cx}(h:Ext c c'):∀(t:T) (cs:List Value) (S:List Nat),Kept c c' S→TC c t cs S→TC c' t cs S
 | .d x,cs,S,_,hv=>by simp only[TC]at hv ⊢;exact⟨hv.1,VC.ext h x cs hv.2⟩
 | .dead,cs,S,_,hv=>by simpa only[TC]using hv
 | .agg ts,cs,S,hk,hv=>by simp only[TC]at hv ⊢;exact TCs.ext h ts cs S hk hv
 | .own es,cs,S,hk,hv=>by
  simp only[TC]at hv ⊢
  rcases hv with hv |⟨g,cap,cur,e,sz,S',h1,h2,h3,h4,h5,h6,h7,h8⟩
  ·exact .inl hv
  ·subst h2
   exact .inr ⟨g,cap,cur,e,sz,S',h1,rfl,by rw[hk g (by simp)];exact h3,h4,h5,h6,h7,TE.ext h es sz _ S' (fun x hx=>hk x (by simp[hx])) h8⟩
theorem TCs.ext{c c':Cx}(h:Ext c c'):∀(ts:List T) (cs:List Value) (S:List Nat),Kept c c' S→TCs c ts cs S→TCs c' ts cs S
 | [],_,_,_,hv=>by simpa only[TCs]using hv
 |t::ts,cs,S,hk,hv=>by
  simp only[TCs]at hv ⊢
  obtain⟨v,r,S1,S2,h1,h2,h3,h4⟩:=hv;subst h2
  exact⟨v,r,S1,S2,h1,rfl,TC.ext h t _ _ hk.left h3,TCs.ext h ts _ _ hk.right h4⟩
theorem TE.ext{c c':Cx}(h:Ext c c'):∀(ts:List T) (sz:Nat) (cs:List Value) (S:List Nat),Kept c c' S→TE c ts sz cs S→TE c' ts sz cs S
 | [],_,_,_,_,hv=>by simpa only[TE]using hv
 |t::ts,sz,cs,S,hk,hv=>by
  simp only[TE]at hv ⊢
  obtain⟨c1,c2,S1,S2,h1,h2,h3,h4,h5⟩:=hv;subst h2
  exact⟨c1,c2,S1,S2,h1,rfl,h3,TC.ext h t _ _ hk.left h4,TE.ext h ts sz _ _ hk.right h5⟩
end
theorem TCs.len{c:Cx}:∀(ts:List T) (cs:List Value) (S:List Nat),TCs c ts cs S→cs.length=ts.length
 | [],_,_,hv=>by simp only[TCs]at hv;simp[hv.1]
 |t::ts,cs,S,hv=>by
  simp only[TCs]at hv
  obtain⟨v,r,S1,S2,h1,h2,h3,h4⟩:=hv;subst h1;simp[TCs.len ts r S2 h4]
theorem TC.len{c:Cx}(t:T)(cs:List Value)(S:List Nat)(hv:TC c t cs S):cs.length=t.nc:=by
 cases t with
 |d x=>simp only[TC]at hv;exact VC.len x cs hv.2
 |dead=>obtain⟨_,v,h,_⟩:=hv;simp[h,T.nc]
 |agg ts=>exact TCs.len ts cs S hv
 |own es=>rcases hv with⟨a,h,_⟩ |⟨g,cap,cur,e,sz,S',h,_⟩ <;>simp[h,T.nc]
theorem TE.len{c:Cx}:∀(ts:List T) (sz:Nat) (cs:List Value) (S:List Nat),TE c ts sz cs S→cs.length=ts.length * sz∧∀t∈ts,t.nc=sz
 | [],_,_,_,hv=>by simp only[TE]at hv;simp[hv.1]
 |t::ts,sz,cs,S,hv=>by
  simp only[TE]at hv
  obtain⟨c1,c2,S1,S2,h1,h2,h3,h4,h5⟩:=hv;obtain⟨i1,i2⟩:=TE.len ts sz c2 S2 h5;subst h1
  refine⟨by simp[h3,i1,Nat.add_mul,Nat.add_comm],fun u hu=> ?_⟩
  rcases List.mem_cons.1 hu with rfl |hu
  ·rw[←TC.len _ _ _ h4,h3]
  ·exact i2 u hu
mutual
theorem TC.ones{c:Cx}:∀(t:T) (cs:List Value) (S:List Nat),TC c t cs S→∀v∈cs,v.oneCell'=true
 | .d x,cs,S,hv=>by simp only[TC]at hv;exact VC.ones x cs hv.2
 | .dead,cs,S,hv=>by obtain⟨_,v,h,h1⟩:=hv;simp[h,h1]
 | .agg ts,cs,S,hv=>by simp only[TC]at hv;exact TCs.ones ts cs S hv
 | .own es,cs,S,hv=>by rcases hv with⟨a,h,_⟩ |⟨g,cap,cur,e,sz,S',h,_⟩ <;>simp[h,Value.oneCell']
theorem TCs.ones{c:Cx}:∀(ts:List T) (cs:List Value) (S:List Nat),TCs c ts cs S→∀v∈cs,v.oneCell'=true
 | [],cs,S,hv=>by simp only[TCs]at hv;simp[hv.1]
 |t::ts,cs,S,hv=>by
  simp only[TCs]at hv
  obtain⟨v,r,S1,S2,h1,h2,h3,h4⟩:=hv;subst h1;intro u hu
  rcases List.mem_cons.1 hu with rfl |hu
  ·exact TC.ones t _ _ h3 _ (by simp)
  ·exact TCs.ones ts r S2 h4 u hu
end
theorem TE.ones{c:Cx}:∀(ts:List T) (sz:Nat) (cs:List Value) (S:List Nat),TE c ts sz cs S→∀v∈cs,v.oneCell'=true
 | [],_,cs,S,hv=>by simp only[TE]at hv;simp[hv.1]
 |t::ts,sz,cs,S,hv=>by
  simp only[TE]at hv
  obtain⟨c1,c2,S1,S2,h1,h2,h3,h4,h5⟩:=hv;subst h1;intro u hu
  rcases List.mem_append.1 hu with hu |hu
  ·exact TC.ones t _ _ h4 u hu
  ·exact TE.ones ts sz c2 S2 h5 u hu
theorem TCs.append{c:Cx}:∀(a:List T) (cs:List Value) (S:List Nat) (b:List T) (ds:List Value) (R:List Nat),TCs c a cs S→TCs c b ds R→TCs c (a++b) (cs++ds) (S++R)
 | [],_,_,_,_,_,h,h'=>by simp only[TCs]at h;obtain⟨rfl,rfl⟩:=h;simpa using h'
 |t::ts,cs,S,b,ds,R,h,h'=>by
  simp only[TCs]at h
  obtain⟨v,r,S1,S2,h1,h2,h3,h4⟩:=h;subst h1;subst h2;simp only[List.cons_append,TCs]
  exact⟨v,r++ds,S1,S2++R,rfl,by simp,h3,TCs.append ts r S2 b ds R h4 h'⟩
theorem TCs.split{c:Cx}:∀(n:Nat) (ts:List T) (cs:List Value) (S:List Nat),TCs c ts cs S→
  ∃S1 S2,S=S1++S2∧TCs c (ts.take n) (cs.take n) S1∧TCs c (ts.drop n) (cs.drop n) S2
 |0,ts,cs,S,h=>⟨[],S,rfl,by simp[TCs],by simpa using h⟩
 |n+1,[],cs,S,h=>by simp only[TCs]at h;obtain⟨rfl,rfl⟩:=h;exact⟨[],[],rfl,by simp[TCs],by simp[TCs]⟩
 |n+1,t::ts,cs,S,h=>by
  simp only[TCs]at h
  obtain⟨v,r,S1,S2,h1,h2,h3,h4⟩:=h;obtain⟨A,B,h5,h6,h7⟩:=TCs.split n ts r S2 h4;subst h1;subst h2;subst h5
  refine⟨S1++A,B,by simp,?_,by simpa using h7⟩
  simp only[List.take_succ_cons,TCs]
  exact⟨v,_,S1,A,rfl,rfl,h3,h6⟩
theorem TCs.get{c:Cx}{ts:List T}{cs:List Value}{S:List Nat}(h:TCs c ts cs S){n:Nat}{t:T}(ht:ts[n]? =some t):
  ∃v L St R,cs[n]? =some v∧S=L++St++R∧TC c t [v] St∧TCs c (ts.take n) (cs.take n) L∧TCs c (ts.drop (n+1)) (cs.drop (n+1)) R:=by
 obtain⟨A,B,h1,h2,h3⟩:=TCs.split n ts cs S h
 have hd:ts.drop n=t::ts.drop (n+1):=by
  obtain⟨hn,hx⟩:=List.getElem?_eq_some_iff.1 ht;rw[xW hn,hx]
 rw[hd]at h3
 simp only[TCs]at h3
 obtain⟨v,r,S1,S2,h4,h5,h6,h7⟩:=h3;subst h1;subst h5;have hr:cs.drop (n+1)=r:=by rw[←List.tail_drop,h4];rfl
 refine⟨v,A,S1,S2,?_,by simp,h6,h2,by rw[hr];exact h7⟩
 have:=congrArg (·[0]?) h4
 simpa using this
theorem TCs.of_d{c:Cx}:∀(l:List D) (cs:List Value),VCs c l cs→TCs c (l.map .d) cs []
 | [],cs,h=>by simp only[VCs]at h;simp[h,TCs]
 |d::ds,cs,h=>by
  simp only[VCs]at h
  obtain⟨v,r,h1,h2,h3⟩:=h;subst h1;simp only[List.map_cons,TCs]
  exact⟨v,r,[],[],rfl,rfl,by simp only[TC];exact⟨trivial,h2⟩,TCs.of_d ds r h3⟩
theorem TC.cells{c:Cx}{t:T}{cs:List Value}{S:List Nat}(h:TC c t cs S):TCs c t.cells cs S:=by
 have hl:=TC.len t cs S h
 have one:t.nc=1→(∀v,cs=[v]→TCs c [t] [v] S):=fun _ v hv=>by
  subst hv;simp only[TCs]
  exact⟨v,[],S,[],rfl,by simp,h,rfl,rfl⟩
 have one':t.nc=1→TCs c [t] cs S:=fun h1=>by
  rw[h1]at hl
  match cs,hl,one h1 with
  | [v],_,k=>exact k v rfl
 cases t with
 |agg ts=>exact h
 |own es=>exact one' rfl
 |dead=>exact one' rfl
 |d x=>
  cases x with
  |agg l=>simp only[TC,VC]at h;obtain⟨rfl,h⟩:=h;exact TCs.of_d l cs h
  |_=>exact one' rfl
theorem T.pures_spec{c:Cx}:∀(ts:List T) (ds:List D),T.pures ts=some ds→∀(cs:List Value) (S:List Nat),TCs c ts cs S→S=[]∧VCs c ds cs
 | [],ds,h=>by
  simp only[T.pures,xJ]at h
  subst h;intro cs S hc;simp only[TCs]at hc
  exact⟨hc.2,by simp[VCs,hc.1]⟩
 |t::ts,ds,h=>by
  cases t with
  |d x=>
   simp only[T.pures,xM]at h
   obtain⟨r,h1,h2⟩:=h;subst h2;intro cs S hc;simp only[TCs,TC]at hc
   obtain⟨v,q,S1,S2,h3,h4,⟨h5,h6⟩,h7⟩:=hc;obtain⟨i1,i2⟩:=T.pures_spec ts r h1 q S2 h7;subst h3;subst h4;subst h5;subst i1
   exact⟨rfl,by simp only[VCs];exact⟨v,q,rfl,h6,i2⟩⟩
  |_=>simp[T.pures]at h
theorem TC.mk{c:Cx}{ts:List T}{cs:List Value}{S:List Nat}(h:TCs c ts cs S):TC c (T.mkAgg ts) cs S:=by
 unfold T.mkAgg;split
 ·rename_i ds hd
  obtain⟨h1,h2⟩:=T.pures_spec ts ds hd cs S h;subst h1;simp only[TC,VC]
  exact⟨trivial,h2⟩
 ·exact h
theorem T.cell_cells{t ct:T}{off:Nat}(h:t.cell off=some ct):t.cells[off]? =some ct:=by
 unfold T.cell at h
 split at h
 ·exact h
 ·simpa [T.cells]using h
 ·rename_i h1 h2
  split at h
  ·rename_i h0
   subst h0
   cases t with
   |agg cs=>exact absurd rfl (h1 cs)
   |d x=>
    cases x with
    |agg l=>exact absurd rfl (h2 l)
    |_=>simpa [T.cells]using h
   |_=>simpa [T.cells]using h
  ·cases h
theorem TC.setCells{c:Cx}{t:T}{cs:List Value}{S:List Nat}(h:TC c t cs S)(off n:Nat):
  ∃L M R,S=L++M++R∧∀(c':Cx) (vs:List T) (ws:List Value) (Sv:List Nat),Ext c c'→vs.length=n→TCs c' vs ws Sv→Kept c c' (L++R)→
   TC c' (t.setCells off vs) (cs.take off++ws++cs.drop (off+ws.length)) (L++Sv++R):=by
 have hc:=h.cells;obtain⟨L,B,h1,h2,h3⟩:=TCs.split off t.cells cs S hc;obtain⟨M,R,h4,_,h6⟩:=TCs.split n (t.cells.drop off) (cs.drop off) B h3;subst h1;subst h4
 refine⟨L,M,R,by simp,fun c' vs ws Sv hx hn hv hk=> ?_⟩
 have hl:=TCs.len vs ws Sv hv;unfold T.setCells;refine TC.mk ?_;rw[List.drop_drop,List.drop_drop]at h6
 rw[hl,hn];exact TCs.append _ _ _ _ _ _ (TCs.append _ _ _ _ _ _ (TCs.ext hx _ _ _ hk.left h2) hv) (TCs.ext hx _ _ _ hk.right h6)
theorem TE.append{c:Cx}:∀(a:List T) (sz:Nat) (cs:List Value) (S:List Nat) (b:List T) (ds:List Value) (R:List Nat),TE c a sz cs S→TE c b sz ds R→TE c (a++b) sz (cs++ds) (S++R)
 | [],_,_,_,_,_,_,h,h'=>by simp only[TE]at h;obtain⟨rfl,rfl⟩:=h;simpa using h'
 |t::ts,sz,cs,S,b,ds,R,h,h'=>by
  simp only[TE]at h
  obtain⟨c1,c2,S1,S2,h1,h2,h3,h4,h5⟩:=h;subst h1;subst h2;simp only[List.cons_append,TE]
  exact⟨c1,c2++ds,S1,S2++R,by simp,by simp,h3,h4,TE.append ts sz c2 S2 b ds R h5 h'⟩
theorem TE.split{c:Cx}:∀(n:Nat) (ts:List T) (sz:Nat) (cs:List Value) (S:List Nat),TE c ts sz cs S→
  ∃S1 S2,S=S1++S2∧TE c (ts.take n) sz (cs.take (n * sz)) S1∧TE c (ts.drop n) sz (cs.drop (n * sz)) S2
 |0,ts,sz,cs,S,h=>⟨[],S,rfl,by simp[TE],by simpa using h⟩
 |n+1,[],sz,cs,S,h=>by simp only[TE]at h;obtain⟨rfl,rfl⟩:=h;exact⟨[],[],rfl,by simp[TE],by simp[TE]⟩
 |n+1,t::ts,sz,cs,S,h=>by
  simp only[TE]at h
  obtain⟨c1,c2,S1,S2,h1,h2,h3,h4,h5⟩:=h;obtain⟨A,B,h6,h7,h8⟩:=TE.split n ts sz c2 S2 h5;subst h1;subst h2;subst h6;have e:(n+1) * sz=c1.length+n * sz:=by rw[Nat.add_mul,h3];omega
  refine⟨S1++A,B,by simp,?_,?_⟩
  ·rw[e,List.take_length_add_append]
   simp only[List.take_succ_cons,TE]
   exact⟨c1,_,S1,A,rfl,rfl,h3,h4,h7⟩
  ·rw[e,List.drop_length_add_append]
   simpa using h8
theorem TE.get{c:Cx}{ts:List T}{sz:Nat}{cs:List Value}{S:List Nat}(h:TE c ts sz cs S){n:Nat}{t:T}(ht:ts[n]? =some t):
  ∃c1 L St R,c1.length=sz∧cs=cs.take (n * sz)++c1++cs.drop (n * sz+sz)∧(cs.take (n * sz)).length=n * sz∧S=L++St++R∧TC c t c1 St∧TE c (ts.take n) sz (cs.take (n * sz)) L∧TE c (ts.drop (n+1)) sz (cs.drop (n * sz+sz)) R:=by
 obtain⟨A,B,h1,h2,h3⟩:=TE.split n ts sz cs S h;have hn:=(List.getElem?_eq_some_iff.1 ht).1
 have hd:ts.drop n=t::ts.drop (n+1):=by
  obtain⟨hn,hx⟩:=List.getElem?_eq_some_iff.1 ht;rw[xW hn,hx]
 rw[hd]at h3
 simp only[TE]at h3
 obtain⟨c1,c2,S1,S2,h4,h5,h6,h7,h8⟩:=h3;subst h1;subst h5;have hr:cs.drop (n * sz+sz)=c2:=by rw[←List.drop_drop,h4,←h6,List.drop_left]
 refine⟨c1,A,S1,S2,h6,?_,?_,by simp,h7,h2,by rw[hr];exact h8⟩
 ·rw[hr,xK,←h4,yP]
 ·have:=(TE.len _ _ _ _ h).1
  rw[yR,this]
  have:n * sz≤ts.length * sz:=Nat.mul_le_mul_right _ (Nat.le_of_lt hn)
  omega
theorem TE.put{c c':Cx}(hx:Ext c c'){ts:List T}{sz n:Nat}{cs c1:List Value}{L R St:List Nat}{t:T}(hn:n<ts.length)(hl:TE c (ts.take n) sz (cs.take (n * sz)) L)(hr:TE c (ts.drop (n+1)) sz (cs.drop (n * sz+sz)) R)
  (hk:Kept c c' (L++R)) (h1:c1.length=sz) (ht:TC c' t c1 St):TE c' (ts.set n t) sz (cs.take (n * sz)++c1++cs.drop (n * sz+sz)) (L++St++R):=by
 rw[List.set_eq_take_append_cons_drop,if_pos hn];have e:ts.take n++t::ts.drop (n+1)=(ts.take n++[t])++ts.drop (n+1):=by simp
 rw[e];refine TE.append _ _ _ _ _ _ _ (TE.append _ _ _ _ _ _ _ (TE.ext hx _ _ _ _ hk.left hl) ?_) (TE.ext hx _ _ _ _ hk.right hr);simp only[TE]
 exact⟨c1,[],St,[],by simp,by simp,h1,ht,rfl,rfl⟩
def NodeH(c:Cx):Value→T→aE→Value→Prop
 |h,_,[],h'=>h'=h
 |h,.own es,(i,off)::p,h'=>∃g len cap cur e el ct cv,h=.slice (some ⟨g,0,none⟩) len cap∧c.w.heap[g]? =some (.cells cur e (0,0))∧es[i]? =some el∧el.cell off=some ct∧cur[i * el.nc+off]? =some cv∧NodeH c cv ct p h'
 |_,_,_::_,_=>False
theorem T.put_elem(e c':T)(off:Nat):e.putCell off c'=e.setCells off [c']∨(e.nc=1∧(∀l,e≠ .agg l)∧(∀l,e≠ .d (.agg l))∧e.putCell off c'=c'):=by
 cases e with
 |d y=>cases y <;>first |exact .inl rfl |exact .inr ⟨rfl,by simp,by simp,rfl⟩
 |agg l=>exact .inl rfl
 |own es=>exact .inr ⟨rfl,by simp,by simp,rfl⟩
 |dead=>exact .inr ⟨rfl,by simp,by simp,rfl⟩
def SameShape(es es':List T):Prop:=es'.length=es.length∧∀(i:Nat) (e:T),es[i]? =some e→∃e':T,es'[i]? =some e'∧e'.nc=e.nc
theorem SameShape.refl(es:List T):SameShape es es:=⟨rfl,fun _ e h=>⟨e,h,rfl⟩⟩
theorem T.cells_len(t:T):t.cells.length=t.nc:=by
 cases t with
 |d x=>cases x <;>simp[T.cells,T.nc,D.nc]
 |_=>simp[T.cells,T.nc]
theorem T.mkAgg_cells(ts:List T):(T.mkAgg ts).cells=ts:=by
 unfold T.mkAgg;split
 ·rename_i ds hd
  have:∀(ts:List T) (ds:List D),T.pures ts=some ds→ds.map T.d=ts:=by
   intro ts
   induction ts with
   |nil=>intro ds h;simp[T.pures]at h;simp[h]
   |cons t r ih=>
    intro ds h
    cases t with
    |d x=>
     simp only[T.pures,xM]at h
     obtain⟨q,h1,h2⟩:=h;subst h2;simp[ih q h1]
    |_=>simp[T.pures]at h
  simpa [T.cells]using this ts ds hd
 ·rfl
theorem T.mkAgg_cell(ts:List T)(off:Nat):(T.mkAgg ts).cell off=ts[off]? :=by
 have h:=T.mkAgg_cells ts;unfold T.mkAgg at h ⊢
 split at h
 ·rename_i ds hd
  have h':ds.map T.d=ts:=by simpa [T.cells]using h
  rw[←h'];simp[T.cell]
 ·simp[T.cell]
theorem T.mkAgg_nc(ts:List T):(T.mkAgg ts).nc=ts.length:=by rw[←T.cells_len,T.mkAgg_cells]
theorem T.cell_lt{e c:T}{off:Nat}(h:e.cell off=some c):off<e.nc:=by
 have:=T.cell_cells h
 rw[←T.cells_len]
 exact(List.getElem?_eq_some_iff.1 this).1
theorem T.setCells_nc{e:T}{off:Nat}{vs:List T}(h:off+vs.length≤e.nc):(e.setCells off vs).nc=e.nc:=by
 have:=T.cells_len e
 unfold T.setCells;rw[T.mkAgg_nc]
 simp
 omega
theorem T.setCells_other{e:T}{off off':Nat}{vs:List T}{d:T}(h:off+vs.length≤e.nc)(hd:e.cells[off']? =some d)(hne:off'<off∨off+vs.length≤off'):(e.setCells off vs).cell off'=some d:=by
 have hl:=T.cells_len e;unfold T.setCells;rw[T.mkAgg_cell]
 rcases hne with hne |hne
 ·rw[xK,xO (by simp;omega),xU,if_pos hne];exact hd
 ·rw[xN (by simp;omega),List.getElem?_drop]
  simp only[xP,yR];rw[show off+vs.length+(off' - (min off e.cells.length+vs.length))=off' by omega]
  exact hd
theorem T.putCell_nc{e c x:T}{off:Nat}(h:e.cell off=some x)(h1:c.nc=1):(e.putCell off c).nc=e.nc:=by
 have hlt:=T.cell_lt h
 rcases T.put_elem e c off with q |⟨q1,_,_,q4⟩
 ·rw[q];exact T.setCells_nc (by simp;omega)
 ·rw[q4,h1,q1]
theorem T.putCell_other{e c d x:T}{off off':Nat}(h:e.cell off=some x)(hd:e.cell off'=some d)(hne:off'≠off):(e.putCell off c).cell off'=some d:=by
 have hlt:=T.cell_lt h;have hlt':=T.cell_lt hd
 rcases T.put_elem e c off with q |⟨q1,q2,q3,q4⟩
 ·rw[q];exact T.setCells_other (by simp;omega) (T.cell_cells hd) (by simp;omega)
 ·omega
theorem T.putCell_same{e c x:T}{off:Nat}(h:e.cell off=some x)(h1:c.nc=1)(h2:∀l,c≠ .agg l)(h3:∀l,c≠ .d (.agg l)):(e.putCell off c).cell off=some c:=by
 have hlt:=T.cell_lt h;have hl:=T.cells_len e
 rcases T.put_elem e c off with q |⟨q1,q2,q3,q4⟩
 ·rw[q]
  unfold T.setCells;rw[T.mkAgg_cell,xK,xN (by simp;omega)]
  simp only[yR];rw[show off - min off e.cells.length=0 by omega]
  simp
 ·have:off=0:=by omega
  subst this;rw[q4]
  cases c with
  |agg l=>exact absurd rfl (h2 l)
  |d y=>cases y <;>first |exact absurd rfl (h3 _) |rfl
  |_=>rfl
theorem NodeH.uniq{c:Cx}:∀(p:aE) (t:T) (h a b:Value),NodeH c h t p a→NodeH c h t p b→a=b
 | [],_,_,_,_,ha,hb=>by simp only[NodeH]at ha hb;rw[ha,hb]
 |(i,off)::p,t,h,a,b,ha,hb=>by
  cases t with
  |own es=>
   simp only[NodeH]at ha hb
   obtain⟨g,len,cap,cur,e,el,ct,cv,n1,n2,n3,n4,n5,n6⟩:=ha;obtain⟨g',len',cap',cur',e',el',ct',cv',m1,m2,m3,m4,m5,m6⟩:=hb;subst n1;simp only[Value.slice.injEq,xJ,Addr.mk.injEq,and_true]at m1
   obtain⟨m1,_,_⟩:=m1;subst m1;rw[n2]at m2
   simp only[xJ,Obj.cells.injEq,and_true]at m2
   obtain⟨m2,_⟩:=m2;subst m2;rw[n3]at m3
   simp only[xJ]at m3
   subst m3;rw[n4]at m4
   simp only[xJ]at m4
   subst m4;rw[n5]at m5
   simp only[xJ]at m5
   subst m5;exact NodeH.uniq p ct cv a b n6 m6
  |d x=>simp[NodeH]at ha
  |agg l=>simp[NodeH]at ha
  |dead=>simp[NodeH]at ha
theorem NodeH.ext{c c':Cx}:∀(q:aE) (t:T) (h h':Value) (S:List Nat),TC c t [h] S→Kept c c' S→NodeH c h t q h'→NodeH c' h t q h'
 | [],_,_,_,_,_,_,hn=>hn
 |(i,off)::q,t,h,h',S,ht,hk,hn=>by
  cases t with
  |own es=>
   simp only[NodeH]at hn ⊢
   obtain⟨g,len,cap,cur,e,el,ct,cv,n1,n2,n3,n4,n5,n6⟩:=hn
   rcases ht with⟨a,_,h2,_⟩ |⟨g',cap',cur',e',sz,S',h1,h2,h3,h4,h5,h6,h7,h8⟩
   ·subst h2;simp at n3
   ·subst n1
    simp only[xC,Value.slice.injEq,xJ,Addr.mk.injEq,and_true]at h1
    obtain⟨h1,_,_⟩:=h1;subst h1;rw[n2]at h3
    simp only[xJ,Obj.cells.injEq,and_true]at h3
    obtain⟨h3,_⟩:=h3;subst h3;subst h2;obtain⟨c1,L1,Se,R1,k1,k2,k3,k4,k5,k6,k7⟩:=TE.get h8 n3;obtain⟨v,L2,Sc,R2,m1,m2,m3,m4,m5⟩:=TCs.get k5.cells (T.cell_cells n4);have hnc:el.nc=sz:=by rw[←TC.len _ _ _ k5,k1]
    have hoff:off<c1.length:=(List.getElem?_eq_some_iff.1 m1).1
    have e1:(cur.toList.take (es.length * sz))[i * sz+off]? =some v:=by
     rw[k2,xK,xN (by omega),k3,show i * sz+off - i * sz=off by omega,xO hoff]
     exact m1
    rw[xU]at e1
    have hv:cv=v:=by
     split at e1
     ·rw[hnc]at n5
      have e2:cur[i * sz+off]? =some v:=by simpa using e1
      rw[e2]at n5
      simpa using n5.symm
     ·cases e1
    subst hv;subst k4;subst m2
    exact⟨g,len,cap,cur,e,el,ct,cv,rfl,by rw[hk g (by simp)];exact n2,n3,n4,n5,NodeH.ext q ct cv h' Sc m3 (fun x hx=>hk x (by simp[hx])) n6⟩
  |d x=>simp[NodeH]at hn
  |agg l=>simp[NodeH]at hn
  |dead=>simp[NodeH]at hn
theorem TCs.sub{c:Cx}{ts:List T}{cs:List Value}{S:List Nat}(h:TCs c ts cs S){n:Nat}{t:T}(ht:ts[n]? =some t):
  ∃v St,cs[n]? =some v∧TC c t [v] St∧∀z∈St,z∈S:=by
 obtain⟨v,L,St,R,h1,h2,h3,_,_⟩:=TCs.get h ht
 exact⟨v,St,h1,h3,fun z hz=>by rw[h2];simp[hz]⟩
theorem TE.sub{c:Cx}{ts:List T}{sz:Nat}{cs:List Value}{S:List Nat}(h:TE c ts sz cs S){n:Nat}{t y:T}{off:Nat}(ht:ts[n]? =some t)(hy:t.cell off=some y):
  ∃v St,cs[n * sz+off]? =some v∧TC c y [v] St∧∀z∈St,z∈S:=by
 obtain⟨c1,L1,Se,R1,k1,k2,k3,k4,k5,k6,k7⟩:=TE.get h ht;obtain⟨v,St,h1,h2,h3⟩:=TCs.sub k5.cells (T.cell_cells hy);have hoff:off<c1.length:=(List.getElem?_eq_some_iff.1 h1).1
 refine⟨v,St,?_,h2,fun z hz=>by rw[k4];simp[h3 z hz]⟩
 rw[k2,xK,xN (by omega),k3,show n * sz+off - n * sz=off by omega,xO hoff]
 exact h1
theorem Fu{cur:Array Value}{n sz i off:Nat}{c1:List Value}{v:Value}(k2:cur.toList.take n=(cur.toList.take n).take (i * sz)++c1++(cur.toList.take n).drop (i * sz+sz))(k3:((cur.toList.take n).take (i * sz)).length=i * sz)(m1:c1[off]? =some v):
  cur[i * sz+off]? =some v:=by
 have hoff:off<c1.length:=(List.getElem?_eq_some_iff.1 m1).1
 have e1:(cur.toList.take n)[i * sz+off]? =some v:=by
  rw[k2,xK,xN (by omega),k3,show i * sz+off - i * sz=off by omega,xO hoff]
  exact m1
 rw[xU]at e1
 split at e1
 ·simpa using e1
 ·cases e1
structure Focus(c:Cx)(t:T)(h:Value)(p:aE)(nd:T)(h':Value)(L Sn R:List Nat):Prop where
 node:NodeH c h t p h'
 tc:TC c nd [h'] Sn
 put:∀(c':Cx) (nd' t':T) (Sn':List Nat),Ext c c'→Kept c c' (L++R)→t.put p nd'=some t'→TC c' nd' [h'] Sn'→TC c' t' [h] (L++Sn'++R)
 oth:∀(c':Cx) (nd' t':T) (Q:aE→Prop),Kept c c' (L++R)→t.put p nd'=some t'→nd'.nc=1→
  (∀q es,Q q→nd.at q=some (.own es)→∃es',nd'.at q=some (.own es')∧SameShape es es'∧∀h1,NodeH c h' nd q h1→NodeH c' h' nd' q h1)→
  ∀q es,(∀q',q=p++q'→Q q')→t.at q=some (.own es)→∃es',t'.at q=some (.own es')∧SameShape es es'∧∀h1,NodeH c h t q h1→NodeH c' h t' q h1
theorem T.put_nc:∀(p:aE) (t nd nd' t':T),t.at p=some nd→t.put p nd'=some t'→t.nc=1→nd'.nc=1→t'.nc=1
 | [],_,_,_,_,_,hp,_,h=>by simp only[T.put,xJ]at hp;subst hp;exact h
 |(i,off)::p,t,nd,nd',t',_,hp,_,_=>by
  cases t with
  |own es=>
   simp only[T.put,xB,xM]at hp
   obtain⟨e,_,ct,_,c',_,rfl⟩:=hp;rfl
  |_=>simp[T.put]at hp
theorem TC.focus{c:Cx}:∀(p:aE) (t:T) (h:Value) (S:List Nat) (nd:T),TC c t [h] S→t.at p=some nd→
  ∃h' L Sn R,S=L++Sn++R∧Focus c t h p nd h' L Sn R
 | [],t,h,S,nd,ht,hat=>by
  simp only[T.at,xJ]at hat
  subst hat
  refine⟨h,[],S,[],by simp,rfl,ht,fun c' nd' t' Sn' _ _ hp hn=> ?_,fun c' nd' t' Q _ hp _ hb q es hq=> ?_⟩
  ·simp only[T.put,xJ]at hp
   subst hp
   simpa using hn
  ·simp only[T.put,xJ]at hp
   subst hp;exact hb q es (hq q rfl)
 |(i,off)::p,t,h,S,nd,ht,hat=>by
  cases t with
  |own es=>
   simp only[T.at,xB]at hat
   obtain⟨el,he,ct,hct,hat⟩:=hat;have hn:=(List.getElem?_eq_some_iff.1 he).1
   rcases ht with⟨a,_,h2,_⟩ |⟨g,cap,cur,e,sz,S',h1,h2,h3,h4,h5,h6,h7,h8⟩
   ·subst h2;simp at he
   ·obtain⟨c1,L1,Se,R1,k1,k2,k3,k4,k5,k6,k7⟩:=TE.get h8 he
    obtain⟨v,L2,Sc,R2,m1,m2,m3,m4,m5⟩:=TCs.get k5.cells (T.cell_cells hct);obtain⟨h',L3,Sn,R3,n2,foc⟩:=TC.focus p ct v Sc nd m3 hat;have hnc:el.nc=sz:=by rw[←TC.len _ _ _ k5,k1]
    have hctn:ct.nc=1:=by rw[←TC.len _ _ _ m3];rfl
    have hoff:off<c1.length:=(List.getElem?_eq_some_iff.1 m1).1
    have e1:cur[i * el.nc+off]? =some v:=by
     rw[hnc]
     have e1:(cur.toList.take (es.length * sz))[i * sz+off]? =some v:=by
      rw[k2,xK,xN (by omega),k3,show i * sz+off - i * sz=off by omega,xO hoff]
      exact m1
     rw[xU]at e1
     split at e1
     ·simpa using e1
     ·cases e1
    subst h2;subst k4;subst m2;subst n2;simp only[xC,and_true]at h1
    refine⟨h',g::L1++L2++L3,Sn,R3++R2++R1,by simp,?_,foc.tc,fun c' nd' t' Sn' hx hk hp hnd=> ?_,fun c' nd' t' Q hk hp hnc1 hb q es0 hq hq0=> ?_⟩
    ·simp only[NodeH]
     exact⟨g,es.length,cap,cur,e,el,ct,v,h1,h3,he,hct,e1,foc.node⟩
    ·simp only[T.put,he,hct,xS,xM]at hp
     obtain⟨ct',hp,hp2⟩:=hp;subst hp2;have n5:=foc.put c' nd' ct' Sn' hx (fun x hx'=>hk x (by rcases List.mem_append.1 hx' with q |q <;>simp[q])) hp hnd
     have hg:c'.w.heap[g]? =some (.cells cur e (0,0)):=by rw[hk g (by simp)];exact h3
     have el':TC c' (el.putCell off ct') c1 (L2++(L3++Sn'++R3)++R2):=by
      rcases T.put_elem el ct' off with q |⟨q1,q2,q3,q4⟩
      ·rw[q]
       unfold T.setCells;refine TC.mk ?_
       have ee:c1=c1.take off++[v]++c1.drop (off+1):=by
        obtain⟨hh,hv⟩:=List.getElem?_eq_some_iff.1 m1;rw[xK,List.singleton_append,←hv,←xW hh,yP]
       rw[ee];refine TCs.append _ _ _ _ _ _ (TCs.append _ _ _ _ _ _ (TCs.ext hx _ _ _ (fun x hx'=>hk x (by simp[hx'])) m4) ?_) ?_
       ·simp only[TCs];exact⟨v,[],_,[],rfl,by simp,n5,rfl,rfl⟩
       ·simp only[xZ,yN]
        exact TCs.ext hx _ _ _ (fun x hx'=>hk x (by simp[hx'])) m5
      ·rw[q4]
       have hl1:=TC.len _ _ _ k5;rw[q1]at hl1
       have hoff0:off=0:=by omega
       subst hoff0
       have hcel:el.cells=[el]:=by
        cases el with
        |agg l=>exact absurd rfl (q2 l)
        |d y=>cases y <;>first |rfl |exact absurd rfl (q3 _)
        |_=>rfl
       match c1,hl1,m1 with
       | [u],_,m1=>
        simp only[yE,xJ]at m1
        subst m1;rw[hcel]at m4 m5
        simp only[List.take_zero,TCs]at m4
        simp only[Nat.zero_add,List.drop_succ_cons,List.drop_zero,TCs]at m5
        rw[m4.2,m5.2]
        simpa using n5
     simp only[TC];refine .inr ⟨g,cap,cur,e,sz,L1++(L2++(L3++Sn'++R3)++R2)++R1,by rw[List.length_set,h1],by simp,hg,by rw[List.length_set];exact h4,h5,h6,by rw[List.length_set];exact h7,?_⟩
     rw[List.length_set];rw[k2];exact TE.put hx hn k6 k7 (fun x hx'=>hk x (by rcases List.mem_append.1 hx' with q |q <;>simp[q])) k1 el'
    ·simp only[T.put,he,hct,xS,xM]at hp
     obtain⟨ct',hp,hp2⟩:=hp;subst hp2;have hg:c'.w.heap[g]? =some (.cells cur e (0,0)):=by rw[hk g (by simp)];exact h3
     have hct1:ct'.nc=1:=T.put_nc p ct nd nd' ct' hat hp hctn hnc1;have hpn:(el.putCell off ct').nc=el.nc:=T.putCell_nc hct hct1
     have hset:∀(j:Nat) (x:T),es[j]? =some x→∃x':T,(es.set i (el.putCell off ct'))[j]? =some x'∧x'.nc=x.nc∧(j≠i→x'=x)∧(j=i→x=el∧x'=el.putCell off ct'):=by
      intro j x hx
      by_cases hj:i=j
      ·subst hj
       rw[he]at hx
       simp only[xJ]at hx
       subst hx
       exact⟨_,by rw[yK (by simpa using hn)],hpn,fun h=>absurd rfl h,fun _=>⟨rfl,rfl⟩⟩
      ·exact⟨x,by rw[List.getElem?_set_ne hj];exact hx,rfl,fun _=>rfl,fun h=>absurd h.symm hj⟩
     cases q with
     |nil=>
      simp only[T.at,xJ,T.own.injEq]at hq0
      subst hq0
      refine⟨_,rfl,⟨by simp,fun j x hx=> ?_⟩,fun h1 hh=>hh⟩
      obtain⟨x',a1,a2,_⟩:=hset j x hx
      exact⟨x',a1,a2⟩
     |cons ab q=>
      obtain⟨a,b⟩:=ab;simp only[T.at,xB]at hq0
      obtain⟨x,hx,y,hy,hq0⟩:=hq0;obtain⟨x',a1,a2,a3,a4⟩:=hset a x hx
      have goOn:∀y' es',x'.cell b=some y'→y'.at q=some (.own es')→SameShape es0 es'→
        (∀cv hq,cur[a * x.nc+b]? =some cv→NodeH c cv y q hq→NodeH c' cv y' q hq)→
        ∃es',(T.own (es.set i (el.putCell off ct'))).at ((a,b)::q)=some (.own es')∧SameShape es0 es'∧∀hq,NodeH c h (T.own es) ((a,b)::q) hq→NodeH c' h (T.own (es.set i (el.putCell off ct'))) ((a,b)::q) hq:=by
       intro y' es' b1 b2 b3 b4
       refine⟨es',by simp[T.at,a1,b1,b2],b3,fun hq hh=> ?_⟩
       simp only[NodeH]at hh ⊢
       obtain⟨g',len',cap',cur',e',el',ct'',cv,d1,d2,d3,d4,d5,d6⟩:=hh;rw[h1]at d1
       simp only[Value.slice.injEq,xJ,Addr.mk.injEq,and_true]at d1
       obtain⟨d1,_,_⟩:=d1;subst d1;rw[h3]at d2
       simp only[xJ,Obj.cells.injEq,and_true]at d2
       obtain⟨d2,_⟩:=d2;subst d2;rw[hx]at d3
       simp only[xJ]at d3
       subst d3;rw[hy]at d4
       simp only[xJ]at d4
       subst d4
       exact⟨g,es.length,cap,cur,e,x',y',cv,h1,hg,a1,b1,by rw[a2];exact d5,b4 cv hq d5 d6⟩
      by_cases ha:a=i
      ·obtain⟨ax,ax'⟩:=a4 ha
       subst ax;subst ax';subst ha
       by_cases hb':b=off
       ·subst hb'
        rw[hct]at hy
        simp only[xJ]at hy
        subst hy;obtain⟨es',c1',c2',c3'⟩:=foc.oth c' nd' ct' Q (fun x hx'=>hk x (by rcases List.mem_append.1 hx' with q |q <;>simp[q])) hp hnc1 hb q es0 (fun q' hq'=>hq q' (by rw[hq'];rfl)) hq0
        have hce:(x.putCell b ct').cell b=some ct':=by
         by_cases hag:(∀l,ct'≠ .agg l)∧(∀l,ct'≠ .d (.agg l))
         ·exact T.putCell_same hct hct1 hag.1 hag.2
         ·exfalso
          cases q with
          |nil=>simp only[T.at,xJ]at c1';subst c1';exact hag ⟨by simp,by simp⟩
          |cons z q=>cases ct' with
           |own _=>exact hag ⟨by simp,by simp⟩
           |_=>simp[T.at]at c1'
        refine goOn ct' es' hce c1' c2' fun cv h1 d5 d6=> ?_
        have:cv=v:=by rw[e1]at d5;simpa using d5.symm
        subst this;exact c3' h1 d6
       ·refine goOn y es0 (T.putCell_other hct hy hb') hq0 (SameShape.refl _) fun cv h1 d5 d6=> ?_
        have hyc:=T.cell_cells hy;have hyl:=T.cell_lt hy
        have fin:∀v' Sc',c1[b]? =some v'→TC c y [v'] Sc'→(∀z∈Sc',z∈L2∨z∈R2)→NodeH c' cv y q h1:=fun v' Sc' f1 f2 f3=>by
         have:cv=v':=by
          rw[hnc]at d5
          have:=Fu k2 k3 f1
          rw[d5]at this
          simpa using this
         subst this;exact NodeH.ext q y cv h1 Sc' f2 (fun z hz=>hk z (by rcases f3 z hz with w |w <;>simp[w])) d6
        rcases Nat.lt_or_gt_of_ne hb' with hlt |hgt
        ·obtain⟨v',St,g1,g2,g3⟩:=TCs.sub m4 (n:=b) (t:=y) (by rw[xU,if_pos hlt];exact hyc)
         exact fin v' St (by rw[xU,if_pos hlt]at g1;exact g1) g2 (fun z hz=>.inl (g3 z hz))
        ·obtain⟨v',St,g1,g2,g3⟩:=TCs.sub m5 (n:=b - (off+1)) (t:=y) (by rw[List.getElem?_drop,show off+1+(b - (off+1))=b by omega];exact hyc)
         exact fin v' St (by rw[List.getElem?_drop,show off+1+(b - (off+1))=b by omega]at g1;exact g1) g2 (fun z hz=>.inr (g3 z hz))
      ·have:=a3 ha
       subst this;refine goOn y es0 hy hq0 (SameShape.refl _) fun cv h1 d5 d6=> ?_
       have hxn:x'.nc=sz:=(TE.len _ _ _ _ h8).2 x' (yS hx);have al:=(List.getElem?_eq_some_iff.1 hx).1
       have fin:∀v' Sc',(cur.toList.take (es.length * sz))[a * sz+b]? =some v'→TC c y [v'] Sc'→(∀z∈Sc',z∈L1∨z∈R1)→NodeH c' cv y q h1:=fun v' Sc' f1 f2 f3=>by
        have:cv=v':=by
         rw[hxn]at d5
         rw[xU]at f1
         split at f1
         ·have f1':cur[a * sz+b]? =some v':=by simpa using f1
          rw[d5]at f1'
          simpa using f1'
         ·cases f1
        subst this;exact NodeH.ext q y cv h1 Sc' f2 (fun z hz=>hk z (by rcases f3 z hz with w |w <;>simp[w])) d6
       rcases Nat.lt_or_gt_of_ne ha with hlt |hgt
       ·obtain⟨v',St,g1,g2,g3⟩:=TE.sub k6 (n:=a) (t:=x') (by rw[xU,if_pos hlt];exact hx) hy
        refine fin v' St ?_ g2 (fun z hz=>.inl (g3 z hz))
        rw[xU]at g1
        split at g1
        ·exact g1
        ·cases g1
       ·obtain⟨v',St,g1,g2,g3⟩:=TE.sub k7 (n:=a - (i+1)) (t:=x') (by rw[List.getElem?_drop,show i+1+(a - (i+1))=a by omega];exact hx) hy
        refine fin v' St ?_ g2 (fun z hz=>.inr (g3 z hz))
        rw[List.getElem?_drop]at g1
        have e2:i * sz+sz+((a - (i+1)) * sz+b)=a * sz+b:=by
         have:a=(a - (i+1))+i+1:=by omega
         conv=>rhs;rw[this]
         simp only[Nat.add_mul];omega
        rw[e2]at g1
        exact g1
  |d x=>simp[T.at]at hat
  |agg l=>simp[T.at]at hat
  |dead=>simp[T.at]at hat
def All2{α β:Type}(R:α→β→Prop):List α→List β→Prop
 | [],l=>l=[]
 |a::as,l=>∃b r,l=b::r∧R a b∧All2 R as r
theorem All2.imp{α β:Type}{R R':α→β→Prop}:∀{as:List α} {l:List β},(∀a∈as,∀b,R a b→R' a b)→All2 R as l→All2 R' as l
 | [],_,_,h=>h
 |a::as,l,f,h=>by
  obtain⟨b,r,h1,h2,h3⟩:=h
  exact⟨b,r,h1,f a (by simp) b h2,All2.imp (fun x hx=>f x (by simp[hx])) h3⟩
theorem All2.map{α α' β:Type}{R:α→β→Prop}{R':α'→β→Prop}(g:α→α'):∀{as:List α} {l:List β},(∀a∈as,∀b,R a b→R' (g a) b)→All2 R as l→All2 R' (as.map g) l
 | [],_,_,h=>h
 |a::as,l,f,h=>by
  obtain⟨b,r,h1,h2,h3⟩:=h
  exact⟨b,r,h1,f a (by simp) b h2,All2.map g (fun x hx=>f x (by simp[hx])) h3⟩
theorem All2.len{α β:Type}{R:α→β→Prop}:∀{as:List α} {l:List β},All2 R as l→l.length=as.length
 | [],_,h=>by rw[show _=[]from h];rfl
 |a::as,l,h=>by
  obtain⟨b,r,h1,h2,h3⟩:=h;simp[h1,All2.len h3]
theorem All2.get{α β:Type}{R:α→β→Prop}:∀{as:List α} {l:List β},All2 R as l→∀{i:Nat} {a:α},as[i]? =some a→∃b,l[i]? =some b∧R a b
 | [],_,_,_,_,h=>by simp at h
 |a::as,l,h,i,x,hx=>by
  obtain⟨b,r,h1,h2,h3⟩:=h;subst h1
  cases i with
  |zero=>simp at hx;subst hx;exact⟨b,by simp,h2⟩
  |succ i=>simp at hx;obtain⟨y,h4,h5⟩:=All2.get h3 hx;exact⟨y,by simpa using h4,h5⟩
theorem All2.mem{α β:Type}{R:α→β→Prop}:∀{as:List α} {l:List β},All2 R as l→∀a∈as,∃b∈l,R a b
 | [],_,_,a,h=>by simp at h
 |x::as,l,h,a,ha=>by
  obtain⟨b,r,h1,h2,h3⟩:=h;subst h1
  rcases List.mem_cons.1 ha with rfl |ha
  ·exact⟨b,by simp,h2⟩
  ·obtain⟨y,h4,h5⟩:=All2.mem h3 a ha;exact⟨y,by simp[h4],h5⟩
theorem All2.append{α β:Type}{R:α→β→Prop}:∀{as bs:List α} {l m:List β},All2 R as l→All2 R bs m→All2 R (as++bs) (l++m)
 | [],_,_,_,h,h'=>by rw[show _=[]from h];simpa using h'
 |a::as,bs,l,m,h,h'=>by
  obtain⟨b,r,h1,h2,h3⟩:=h;subst h1
  exact⟨b,r++m,rfl,h2,All2.append h3 h'⟩
theorem All2.win{α β:Type}{R:α→β→Prop}:∀{as:List α} {l:List β},All2 R as l→∀o n,All2 R (Go.Am.win as o n) (Go.Am.win l o n)
 | [],l,h,o,n=>by rw[show l=[]from h];simp[Go.Am.win,All2]
 |a::as,l,h,o,n=>by
  obtain⟨b,r,h1,h2,h3⟩:=h;subst h1
  cases o with
  |zero=>
   cases n with
   |zero=>simp[Go.Am.win,All2]
   |succ n=>
    have:=All2.win h3 0 n
    simp only[Go.Am.win,List.drop_zero,List.take_succ_cons]at this ⊢
    exact⟨b,_,rfl,h2,this⟩
  |succ o=>simpa [Go.Am.win]using All2.win h3 o n
def Win(h:Value)(es:List T)(off len:Nat)(v:Value):Prop:=
 ∃a n cap a' cap',h=.slice a n cap∧v=.slice a' len cap'∧len≤cap'∧(off=0→a'=a∧cap'≤cap)∧
  (0<len→∃g el,a=some ⟨g,0,none⟩∧es[off]? =some el∧a'=some ⟨g,off * el.nc,none⟩)
def SB(c:Cx)(K:Root→Option T)(hd:Root→Value):SV→Value→Prop
 | .d x,v=>VV c x v
 | .bor r p off len,v=>∃t es h',K r=some t∧t.at p=some (.own es)∧NodeH c (hd r) t p h'∧off+len≤es.length∧Win h' es off len v
 | .loc r p i off,v=>∃t es g n cap el,K r=some t∧t.at p=some (.own es)∧NodeH c (hd r) t p (.slice (some ⟨g,0,none⟩) n cap)∧es[i]? =some el∧off<el.nc∧
   v=.pointer (some ⟨g,i * el.nc+off,none⟩)
 | .rp b cs,v=>∃a vs,v=.pointer (some a)∧a.spot=none∧c.pm b a.block∧(∀j u,vs[j]? =some u→c.w.cell? (a.add j)=some u)∧VCs c cs vs
 | .clip b l,v=>VC c (.sl b l) [v]∧∃a,v=.slice a l.length l.length
 | .ns b,v=>∃a cap,v=.slice a 0 cap∧b=a.isNone
 | .agg _,_=>False
 | .tup _,_=>False
 | .dead,_=>True
theorem Fv{c:Cx}{v:Value}{b:Bool}(h:∃a cap,v=.slice a 0 cap∧b=a.isNone):VC c (.sl false []) [v]:=by
 obtain⟨a,cap,rfl,_⟩:=h;simp only[VC]
 exact⟨a,0,cap,rfl,rfl,Nat.zero_le _,fun h=>absurd rfl h⟩
def CO(c:Cx)(K:Root→Option T)(hd:Root→Value):SV→Value→Prop
 | .d x,v=>VC c x [v]
 |x,v=>SB c K hd x v
def S1(c:Cx)(K:Root→Option T)(hd:Root→Value):SV→Value→Prop
 | .agg l,v=>∃cs,v=.agg cs∧All2 (CO c K hd) l cs.toList
 |x,v=>SB c K hd x v
def SO(c:Cx)(K:Root→Option T)(hd:Root→Value):SV→Value→Prop
 | .tup l,v=>∃vs,v=.tuple vs∧All2 (S1 c K hd) l vs.toList
 |x,v=>S1 c K hd x v
def ot(c c':Cx)(K K':Root→Option T)(hd hd':Root→Value)(r:Root)(q:aE):Prop:=
 ∀t es,K r=some t→t.at q=some (.own es)→∃t' es',K' r=some t'∧t'.at q=some (.own es')∧SameShape es es'∧∀h,NodeH c (hd r) t q h→NodeH c' (hd' r) t' q h
section
variable{c c':Cx}{K K':Root→Option T}{hd hd':Root→Value}
theorem SB.keep_bor{r:Root}{p:aE}{off len:Nat}{v:Value}(hh:ot c c' K K' hd hd' r p)(h:SB c K hd (.bor r p off len) v):SB c' K' hd' (.bor r p off len) v:=by
 obtain⟨t,es,h',h1,h2,h3,h4,h5⟩:=h;obtain⟨t',es',k1,k2,k3,k4⟩:=hh t es h1 h2
 refine⟨t',es',h',k1,k2,k4 _ h3,by rw[k3.1];exact h4,?_⟩
 obtain⟨a,n,cap,a',cap',m1,m2,m3,m4,m5⟩:=h5
 refine⟨a,n,cap,a',cap',m1,m2,m3,m4,fun hl=> ?_⟩
 obtain⟨g,el,n1,n2,n3⟩:=m5 hl;obtain⟨el',o1,o2⟩:=k3.2 _ _ n2
 exact⟨g,el',n1,o1,by rw[o2];exact n3⟩
theorem SB.keep_loc{r:Root}{p:aE}{i off:Nat}{v:Value}(hh:ot c c' K K' hd hd' r p)(h:SB c K hd (.loc r p i off) v):SB c' K' hd' (.loc r p i off) v:=by
 obtain⟨t,es,g,n,cap,el,h1,h2,h3,h4,h5,h6⟩:=h;obtain⟨t',es',k1,k2,k3,k4⟩:=hh t es h1 h2;obtain⟨el',o1,o2⟩:=k3.2 _ _ h4
 exact⟨t',es',g,n,cap,el',k1,k2,k4 _ h3,o1,by rw[o2];exact h5,by rw[o2];exact h6⟩
theorem SB.keep_rest(hx:Ext c c'){u:SV}{v:Value}(hb:∀r p off len,u≠ .bor r p off len)(hl:∀r p i off,u≠ .loc r p i off)(h:SB c K hd u v):SB c' K' hd' u v:=by
 cases u with
 |d x=>exact VV.ext hx h
 |bor r p off len=>exact absurd rfl (hb r p off len)
 |loc r p i off=>exact absurd rfl (hl r p i off)
 |rp b cs=>
  obtain⟨a,vs,h1,h2,h3,h4,h5⟩:=h
  refine⟨a,vs,h1,h2,(hx.pm _ _ h3).1,fun j u hu=> ?_,VCs.ext hx _ _ h5⟩
  rw[j0 (w:=c.w) (by rw[eJ];exact(hx.pm _ _ h3).2)]
  exact h4 j u hu
 |clip b l=>exact⟨VC.ext hx _ _ h.1,h.2⟩
 |ns b=>exact h
 |agg l=>exact h
 |tup l=>exact h
 |dead=>trivial
theorem CO.of_SB{u:SV}{v:Value}(h:SB c K hd u v)(ha:∀l,u≠ .d (.agg l)):CO c K hd u v:=by
 cases u with
 |d x=>exact VV.inv h (fun l hl=>ha l (by rw[hl]))
 |_=>exact h
theorem CO.to_SB{u:SV}{v:Value}(hu:∀y,u≠ .d y)(h:CO c K hd u v):SB c K hd u v:=by
 cases u with
 |d y=>exact absurd rfl (hu y)
 |_=>exact h
theorem S1.to_SB{u:SV}{v:Value}(hu:∀l,u≠ .agg l)(h:S1 c K hd u v):SB c K hd u v:=by
 cases u with
 |agg y=>exact absurd rfl (hu y)
 |_=>exact h
theorem S1.of_SB{u:SV}{v:Value}(hu:∀l,u≠ .agg l)(h:SB c K hd u v):S1 c K hd u v:=by
 cases u with
 |agg y=>exact absurd rfl (hu y)
 |_=>exact h
theorem SO.to_S1{u:SV}{v:Value}(hu:∀l,u≠ .tup l)(h:SO c K hd u v):S1 c K hd u v:=by
 cases u with
 |tup y=>exact absurd rfl (hu y)
 |_=>exact h
theorem SO.of_S1{u:SV}{v:Value}(hu:∀l,u≠ .tup l)(h:S1 c K hd u v):SO c K hd u v:=by
 cases u with
 |tup y=>exact absurd rfl (hu y)
 |_=>exact h
theorem SO.step(x:Tr)(hx:Ext c c')(H:∀u v,(∀y,u≠ .d y)→SB c K hd u v→SB c' K' hd' (x.sv u) v)(hag:∀u l,(∀y,u≠ .d y)→x.sv u≠ .d (.agg l)){u:SV}{v:Value}(h:SO c K hd u v):SO c' K' hd' (x.sv u) v:=by
 have hdd:∀y,x.sv (.d y)=.d y:=fun y=>by cases x <;>rfl
 have sb:∀u v,SB c K hd u v→SB c' K' hd' (x.sv u) v:=fun u v h=>by
  cases u with
  |d y=>rw[hdd];exact VV.ext hx h
  |_=>exact H _ v (by simp) h
 have co:∀u v,CO c K hd u v→CO c' K' hd' (x.sv u) v:=fun u v h=>by
  by_cases hy:∃y,u=.d y
  ·obtain⟨y,rfl⟩:=hy
   rw[hdd];exact VC.ext hx y _ h
  ·have hy':∀y,u≠ .d y:=fun y e=>hy ⟨y,e⟩
   exact CO.of_SB (H u v hy' (CO.to_SB hy' h)) (fun l=>hag u l hy')
 have svs:∀l,Tr.svs x l=l.map x.sv:=fun l=>by induction l with
  |nil=>rfl
  |cons a r ih=>simp[Tr.svs,ih]
 have ag:∀l,x.sv (.agg l)=.agg (l.map x.sv):=fun l=>by rw[←svs];cases x <;>rfl
 have tu:∀l,x.sv (.tup l)=.tup (l.map x.sv):=fun l=>by rw[←svs];cases x <;>rfl
 have nag:∀u l,(∀l,u≠ .agg l)→x.sv u≠ .agg l:=fun u l hu=>by
  cases u <;>simp_all [Tr.sv] <;>cases x <;>simp <;>(repeat' split) <;>simp
 have ntu:∀u l,(∀l,u≠ .tup l)→x.sv u≠ .tup l:=fun u l hu=>by
  cases u <;>simp_all [Tr.sv] <;>cases x <;>simp <;>(repeat' split) <;>simp
 have s1:∀u v,S1 c K hd u v→S1 c' K' hd' (x.sv u) v:=fun u v h=>by
  by_cases hu:∃l,u=.agg l
  ·obtain⟨l,rfl⟩:=hu
   rw[ag];obtain⟨cs,h1,h2⟩:=h
   exact⟨cs,h1,h2.map _ (fun a _ b hab=>co a b hab)⟩
  ·have hu':∀l,u≠ .agg l:=fun l e=>hu ⟨l,e⟩
   exact S1.of_SB (fun l=>nag u l hu') (sb u v (S1.to_SB hu' h))
 by_cases hu:∃l,u=.tup l
 ·obtain⟨l,rfl⟩:=hu
  rw[tu];obtain⟨cs,h1,h2⟩:=h
  exact⟨cs,h1,h2.map _ (fun a _ b hab=>s1 a b hab)⟩
 ·have hu':∀l,u≠ .tup l:=fun l e=>hu ⟨l,e⟩
  exact SO.of_S1 (fun l=>ntu u l hu') (s1 u v (SO.to_S1 hu' h))
theorem SO.keep(hx:Ext c c')(hh:∀r q,ot c c' K K' hd hd' r q){u:SV}{v:Value}(h:SO c K hd u v):SO c' K' hd' u v:=by
 have sb:∀u v,SB c K hd u v→SB c' K' hd' u v:=fun u v h=>by
  cases u with
  |bor r p off len=>exact SB.keep_bor (hh r p) h
  |loc r p i off=>exact SB.keep_loc (hh r p) h
  |_=>exact SB.keep_rest hx (by simp) (by simp) h
 have co:∀u v,CO c K hd u v→CO c' K' hd' u v:=fun u v h=>by
  by_cases hy:∃y,u=.d y
  ·obtain⟨y,rfl⟩:=hy
   exact VC.ext hx y _ h
  ·have hy':∀y,u≠ .d y:=fun y e=>hy ⟨y,e⟩
   have h2:=sb u v (CO.to_SB hy' h)
   cases u <;>first |exact absurd rfl (hy' _) |exact h2
 have s1:∀u v,S1 c K hd u v→S1 c' K' hd' u v:=fun u v h=>by
  by_cases hu:∃l,u=.agg l
  ·obtain⟨l,rfl⟩:=hu
   obtain⟨cs,h1,h2⟩:=h;exact⟨cs,h1,h2.imp (fun a _ b hab=>co a b hab)⟩
  ·have hu':∀l,u≠ .agg l:=fun l e=>hu ⟨l,e⟩
   exact S1.of_SB hu' (sb u v (S1.to_SB hu' h))
 by_cases hu:∃l,u=.tup l
 ·obtain⟨l,rfl⟩:=hu
  obtain⟨cs,h1,h2⟩:=h;exact⟨cs,h1,h2.imp (fun a _ b hab=>s1 a b hab)⟩
 ·have hu':∀l,u≠ .tup l:=fun l e=>hu ⟨l,e⟩
  exact SO.of_S1 hu' (s1 u v (SO.to_S1 hu' h))
theorem SO.kill(hx:Ext c c')(r:Root)(p:aE)(hh:∀r' q,(r'=r→q≠p∧q.length≤p.length)→ot c c' K K' hd hd' r' q){u:SV}{v:Value}(h:SO c K hd u v):SO c' K' hd' ((Tr.kill r p).sv u) v:=by
 refine SO.step _ hx (fun u v hu h=> ?_) (fun u l hu=> ?_) h
 ·cases u with
  |bor r' q off len=>
   simp only[Tr.sv];split
   ·split
    ·trivial
    ·split
     ·trivial
     ·exact SB.keep_bor (hh r' q (fun _=>⟨‹_›,by omega⟩)) h
   ·exact SB.keep_bor (hh r' q (fun e=>absurd e ‹_›)) h
  |loc r' q i off=>
   simp only[Tr.sv];split
   ·split
    ·trivial
    ·split
     ·trivial
     ·exact SB.keep_loc (hh r' q (fun _=>⟨‹_›,by omega⟩)) h
   ·exact SB.keep_loc (hh r' q (fun e=>absurd e ‹_›)) h
  |d y=>exact absurd rfl (hu y)
  |agg l=>exact h.elim
  |tup l=>exact h.elim
  |rp b cs=>exact SB.keep_rest (u:=.rp b cs) hx (by simp) (by simp) h
  |clip b l=>exact SB.keep_rest (u:=.clip b l) hx (by simp) (by simp) h
  |ns b=>exact h
  |dead=>trivial
 ·cases u <;>simp_all [Tr.sv] <;>(repeat' split) <;>simp
theorem SO.killN(hx:Ext c c')(r:Root)(n:Nat)(hh:∀r' q,(r'=r→q.length<n)→ot c c' K K' hd hd' r' q){u:SV}{v:Value}(h:SO c K hd u v):SO c' K' hd' ((Tr.killN r n).sv u) v:=by
 refine SO.step _ hx (fun u v hu h=> ?_) (fun u l hu=> ?_) h
 ·cases u with
  |bor r' q off len=>
   simp only[Tr.sv];split
   ·trivial
   ·rename_i hn;exact SB.keep_bor (hh r' q (fun e=>by subst e;simpa using hn)) h
  |loc r' q i off=>
   simp only[Tr.sv];split
   ·trivial
   ·rename_i hn;exact SB.keep_loc (hh r' q (fun e=>by subst e;simpa using hn)) h
  |d y=>exact absurd rfl (hu y)
  |agg l=>exact h.elim
  |tup l=>exact h.elim
  |rp b cs=>exact SB.keep_rest (u:=.rp b cs) hx (by simp) (by simp) h
  |clip b l=>exact SB.keep_rest (u:=.clip b l) hx (by simp) (by simp) h
  |ns b=>exact h
  |dead=>trivial
 ·cases u <;>simp_all [Tr.sv] <;>(repeat' split) <;>simp
theorem SO.frz(hx:Ext c c')(r:Root)(p:aE)(l:List D)(hh:∀r' q,(r'=r→q≠p∧q.length≤p.length)→ot c c' K K' hd hd' r' q)
  (hf:∀off len v,SB c K hd (.bor r p off len) v→VC c' (.sl false (Go.Am.win l off len)) [v]) {u:SV} {v:Value} (h:SO c K hd u v):SO c' K' hd' ((Tr.frz r p l).sv u) v:=by
 refine SO.step _ hx (fun u v hu h=> ?_) (fun u l hu=> ?_) h
 ·cases u with
  |bor r' q off len=>
   simp only[Tr.sv];split
   ·split
    ·rename_i e1 e2;subst e1;subst e2;exact VV.one (hf off len v h) (by simp)
    ·split
     ·trivial
     ·exact SB.keep_bor (hh r' q (fun _=>⟨‹_›,by omega⟩)) h
   ·exact SB.keep_bor (hh r' q (fun e=>absurd e ‹_›)) h
  |loc r' q i off=>
   simp only[Tr.sv];split
   ·split
    ·trivial
    ·split
     ·trivial
     ·exact SB.keep_loc (hh r' q (fun _=>⟨‹_›,by omega⟩)) h
   ·exact SB.keep_loc (hh r' q (fun e=>absurd e ‹_›)) h
  |d y=>exact absurd rfl (hu y)
  |agg l=>exact h.elim
  |tup l=>exact h.elim
  |rp b cs=>exact SB.keep_rest (u:=.rp b cs) hx (by simp) (by simp) h
  |clip b l=>exact SB.keep_rest (u:=.clip b l) hx (by simp) (by simp) h
  |ns b=>exact h
  |dead=>trivial
 ·cases u <;>simp_all [Tr.sv] <;>(repeat' split) <;>simp
theorem SO.ren(hx:Ext c c')(a b:Nat×Nat)(hh:∀r q,r≠ .l a.1 a.2→ot c c' K K' hd hd' r q)
  (hr:∀q t es,K (.l a.1 a.2)=some t→t.at q=some (.own es)→∃t' es',K' (.l b.1 b.2)=some t'∧t'.at q=some (.own es')∧SameShape es es'∧∀h,NodeH c (hd (.l a.1 a.2)) t q h→NodeH c' (hd' (.l b.1 b.2)) t' q h) {u:SV} {v:Value} (h:SO c K hd u v):SO c' K' hd' ((Tr.ren a b).sv u) v:=by
 refine SO.step _ hx (fun u v hu h=> ?_) (fun u l hu=> ?_) h
 ·cases u with
  |bor r' q off len=>
   simp only[Tr.sv];split
   ·rename_i e;subst e
    obtain⟨t,es,h',h1,h2,h3,h4,h5⟩:=h;obtain⟨t',es',k1,k2,k3,k4⟩:=hr q t es h1 h2
    refine⟨t',es',h',k1,k2,k4 _ h3,by rw[k3.1];exact h4,?_⟩
    obtain⟨a,n,cap,a',cap',m1,m2,m3,m4,m5⟩:=h5
    refine⟨a,n,cap,a',cap',m1,m2,m3,m4,fun hl=> ?_⟩
    obtain⟨g,el,n1,n2,n3⟩:=m5 hl;obtain⟨el',o1,o2⟩:=k3.2 _ _ n2
    exact⟨g,el',n1,o1,by rw[o2];exact n3⟩
   ·exact SB.keep_bor (hh r' q ‹_›) h
  |loc r' q i off=>
   simp only[Tr.sv];split
   ·rename_i e;subst e
    obtain⟨t,es,g,n,cap,el,h1,h2,h3,h4,h5,h6⟩:=h;obtain⟨t',es',k1,k2,k3,k4⟩:=hr q t es h1 h2;obtain⟨el',o1,o2⟩:=k3.2 _ _ h4
    exact⟨t',es',g,n,cap,el',k1,k2,k4 _ h3,o1,by rw[o2];exact h5,by rw[o2];exact h6⟩
   ·exact SB.keep_loc (hh r' q ‹_›) h
  |d y=>exact absurd rfl (hu y)
  |agg l=>exact h.elim
  |tup l=>exact h.elim
  |rp b cs=>exact SB.keep_rest (u:=.rp b cs) hx (by simp) (by simp) h
  |clip b l=>exact SB.keep_rest (u:=.clip b l) hx (by simp) (by simp) h
  |ns b=>exact h
  |dead=>trivial
 ·cases u <;>simp_all [Tr.sv] <;>(repeat' split) <;>simp
theorem SO.killO(hx:Ext c c')(hh:∀r q,(∀n,r=.o n→q=[])→ot c c' K K' hd hd' r q){u:SV}{v:Value}(h:SO c K hd u v):SO c' K' hd' (Tr.killO.sv u) v:=by
 refine SO.step _ hx (fun u v hu h=> ?_) (fun u l hu=> ?_) h
 ·cases u with
  |bor r' q off len=>
   cases r' with
   |o n=>simp only[Tr.sv];trivial
   |l n j=>simp only[Tr.sv];exact SB.keep_bor (hh _ q (by simp)) h
  |loc r' q i off=>
   cases r' with
   |o n=>
    cases q with
    |nil=>simp only[Tr.sv];exact SB.keep_loc (hh _ [] (by simp)) h
    |cons a q=>simp only[Tr.sv];trivial
   |l n j=>simp only[Tr.sv];exact SB.keep_loc (hh _ q (by simp)) h
  |d y=>exact absurd rfl (hu y)
  |agg l=>exact h.elim
  |tup l=>exact h.elim
  |rp b cs=>exact SB.keep_rest (u:=.rp b cs) hx (by simp) (by simp) h
  |clip b l=>exact SB.keep_rest (u:=.clip b l) hx (by simp) (by simp) h
  |ns b=>exact h
  |dead=>trivial
 ·cases u <;>simp_all [Tr.sv] <;>(repeat' split) <;>simp
end
def upd{β:Type}(S:Root→β)(r:Root)(x:β):Root→β:=fun r'=>if r'=r then x else S r'
@[simp] theorem aG{β:Type}(S:Root→β)(r:Root)(x:β):upd S r x r=x:=by simp[upd]
theorem ai{β:Type}(S:Root→β){r r':Root}(x:β)(h:r'≠r):upd S r x r'=S r':=by simp[upd,h]
def Own(S:Root→List Nat)(fl:List Nat)(b:Nat):Prop:=(∃r,b∈S r)∨b∈fl
structure Dis(S:Root→List Nat)(fl:List Nat):Prop where
 nd:∀r,(S r).Nodup
 ndF:fl.Nodup
 one:∀r r' b,b∈S r→b∈S r'→r=r'
 oneF:∀r b,b∈S r→b∉fl
section
variable{S:Root→List Nat}{fl:List Nat}
theorem Dis.drop(h:Dis S fl){r:Root}{L M R:List Nat}(e:S r=L++M++R):Dis (upd S r (L++R)) fl:=by
 have hs:∀r' b,b∈upd S r (L++R) r'→b∈S r':=fun r' b hb=>by
  by_cases hr:r'=r
  ·subst hr;rw[aG]at hb;rw[e];simp at hb ⊢;rcases hb with h |h <;>simp[h]
  ·rwa [ai _ _ hr]at hb
 refine⟨fun r'=> ?_,h.ndF,fun r1 r2 b h1 h2=>h.one r1 r2 b (hs _ _ h1) (hs _ _ h2),fun r' b hb=>h.oneF r' b (hs _ _ hb)⟩
 by_cases hr:r'=r
 ·subst hr
  rw[aG]
  have:=h.nd r'
  rw[e]at this
  simp only[xT,xK]at this ⊢
  grind
 ·rw[ai _ _ hr];exact h.nd r'
theorem Own.drop{r:Root}{L M R:List Nat}(e:S r=L++M++R){b:Nat}(h:Own (upd S r (L++R)) fl b):Own S fl b:=by
 rcases h with⟨r',hb⟩ |hb
 ·left
  by_cases hr:r'=r
  ·subst hr;rw[aG]at hb;refine⟨r',?_⟩;rw[e];simp at hb ⊢;rcases hb with h |h <;>simp[h]
  ·rw[ai _ _ hr]at hb;exact⟨r',hb⟩
 ·exact .inr hb
theorem Dis.detach(h:Dis S fl){r:Root}{L M R:List Nat}(e:S r=L++M++R):Dis (upd S r (L++R)) (M++fl):=by
 have hd:=h.drop e;have hn:=h.nd r;rw[e]at hn
 have hM:∀b∈M,b∈S r:=fun b hb=>by rw[e];simp[hb]
 refine⟨hd.nd,?_,hd.one,fun r' b hb hc=> ?_⟩
 ·rw[xT]
  simp only[xT]at hn
  exact⟨hn.1.2.1,h.ndF,fun a ha b hb hab=>h.oneF r a (hM a ha) (hab▸hb)⟩
 ·rcases List.mem_append.1 hc with hc |hc
  ·by_cases hr:r'=r
   ·subst hr
    rw[aG]at hb
    simp only[xT,xK]at hn
    rcases List.mem_append.1 hb with hb |hb
    ·exact hn.2.2 b hb b (by simp[hc]) rfl
    ·exact hn.2.1.2.2 b hc b hb rfl
   ·rw[ai _ _ hr]at hb
    exact hr (h.one r' r b hb (hM b hc))
  ·exact hd.oneF r' b hb hc
theorem Own.detach{r:Root}{L M R:List Nat}(e:S r=L++M++R){b:Nat}:Own (upd S r (L++R)) (M++fl) b↔Own S fl b:=by
 constructor
 ·rintro(h |hb)
  ·exact Own.drop e (.inl h)
  ·rcases List.mem_append.1 hb with hb |hb
   ·exact .inl ⟨r,by rw[e];simp[hb]⟩
   ·exact .inr hb
 ·rintro(⟨r',hb⟩ |hb)
  ·by_cases hr:r'=r
   ·subst hr
    rw[e]at hb
    simp only[xD]at hb
    rcases hb with(hb |hb) |hb
    ·exact .inl ⟨r',by rw[aG];simp[hb]⟩
    ·exact .inr (by simp[hb])
    ·exact .inl ⟨r',by rw[aG];simp[hb]⟩
   ·exact .inl ⟨r',by rw[ai _ _ hr];exact hb⟩
  ·exact .inr (by simp[hb])
theorem Dis.attach{r:Root}{L M R:List Nat}(h:Dis S (M++fl))(e:S r=L++R):Dis (upd S r (L++M++R)) fl:=by
 have hs:∀r' b,b∈upd S r (L++M++R) r'→b∈S r'∨(r'=r∧b∈M):=fun r' b hb=>by
  by_cases hr:r'=r
  ·subst hr;rw[aG]at hb;rw[e];simp at hb ⊢;rcases hb with h |h |h <;>simp[h]
  ·rw[ai _ _ hr]at hb;exact .inl hb
 have hF:=h.ndF;rw[xT]at hF
 refine⟨fun r'=> ?_,hF.2.1,fun r1 r2 b h1 h2=> ?_,fun r' b hb hc=> ?_⟩
 ·by_cases hr:r'=r
  ·subst hr
   rw[aG];have h1:=h.nd r';have h2:∀b,b∈M→b∉S r':=fun b hb hc=>h.oneF r' b hc (by simp[hb])
   rw[e]at h1 h2
   simp only[xT,xK,xD,not_or]at h1 h2 ⊢
   refine⟨h1.1,⟨hF.1,h1.2.1,fun a ha b hb hab=>(h2 a ha).2 (hab▸hb)⟩,fun a ha b hb hab=> ?_⟩
   rcases hb with hb |hb
   ·exact(h2 b hb).1 (hab▸ha)
   ·exact h1.2.2 a ha b hb hab
  ·rw[ai _ _ hr];exact h.nd r'
 ·rcases hs r1 b h1 with a1 |⟨a1,b1⟩ <;>rcases hs r2 b h2 with a2 |⟨a2,b2⟩
  ·exact h.one r1 r2 b a1 a2
  ·exact absurd (by simp[b2]) (h.oneF r1 b a1)
  ·exact absurd (by simp[b1]) (h.oneF r2 b a2)
  ·rw[a1,a2]
 ·rcases hs r' b hb with a1 |⟨a1,b1⟩
  ·exact h.oneF r' b a1 (by simp[hc])
  ·exact hF.2.2 b b1 b hc rfl
theorem Own.attach{r:Root}{L M R:List Nat}(e:S r=L++R){b:Nat}:Own (upd S r (L++M++R)) fl b↔Own S (M++fl) b:=by
 constructor
 ·rintro(⟨r',hb⟩ |hb)
  ·by_cases hr:r'=r
   ·subst hr
    rw[aG]at hb
    simp only[xD]at hb
    rcases hb with(hb |hb) |hb
    ·exact .inl ⟨r',by rw[e];simp[hb]⟩
    ·exact .inr (by simp[hb])
    ·exact .inl ⟨r',by rw[e];simp[hb]⟩
   ·exact .inl ⟨r',by rw[ai _ _ hr]at hb;exact hb⟩
  ·exact .inr (by simp[hb])
 ·rintro(⟨r',hb⟩ |hb)
  ·by_cases hr:r'=r
   ·subst hr
    rw[e]at hb
    refine .inl ⟨r',?_⟩;rw[aG];simp only[xD]at hb ⊢
    rcases hb with hb |hb <;>simp[hb]
   ·exact .inl ⟨r',by rw[ai _ _ hr];exact hb⟩
  ·rcases List.mem_append.1 hb with hb |hb
   ·exact .inl ⟨r,by rw[aG];simp[hb]⟩
   ·exact .inr hb
theorem Dis.float(h:Dis S fl){fl':List Nat}(hn:fl'.Nodup)(hs:∀b∈fl',b∈fl):Dis S fl':=
 ⟨h.nd,hn,h.one,fun r b hb hc=>h.oneF r b hb (hs b hc)⟩
theorem Dis.fresh(h:Dis S fl){g:Nat}(hg:¬Own S fl g):Dis S (g::fl):=
 ⟨h.nd,List.nodup_cons.2 ⟨fun hc=>hg (.inr hc),h.ndF⟩,h.one,fun r b hb hc=>by
  rcases List.mem_cons.1 hc with rfl |hc
  ·exact hg (.inl ⟨r,hb⟩)
  ·exact h.oneF r b hb hc⟩
end
structure Av where
 w0:World
 F:Bool→Nat→Prop
 O0:Nat→Prop
 n0:Nat
 ρ0:Nat→Nat
 mono:∀b,F true b→F false b
def aa(A:Av)(nO:Nat)(ρ:Nat→Nat)(S:Root→List Nat)(fl:List Nat)(w:World):Cx:=
 {w,pm:=fun t b=>¬Own S fl b∧¬A.F t b∧b<w.heap.size,nO,ρ}
theorem zp(A:Av)(nO:Nat)(ρ:Nat→Nat)(S:Root→List Nat)(fl:List Nat)(w:World):∀b,(aa A nO ρ S fl w).pm false b→(aa A nO ρ S fl w).pm true b:=fun b h=>⟨h.1,fun q=>h.2.1 (A.mono b q),h.2.2⟩
def j3(t:T)(v:Value):Prop:=match t with | .d x=>oq x v | .agg _=>∃cs,v=.agg cs |_=>v.oneCell'=true
def RetAll(c:Cx):List T→List Value→List Nat→Prop
 | [],vs,M=>vs=[]∧M=[]
 |t::ts,vs,M=>∃v r M1 M2,vs=v::r∧M=M1++M2∧TC c t v.cells.toList M1∧j3 t v∧RetAll c ts r M2
theorem RetAll.imp{c c':Cx}:∀(ts:List T) (vs:List Value) (M:List Nat),(∀t∈ts,∀cs M',(∀b∈M',b∈M)→TC c t cs M'→TC c' t cs M')→RetAll c ts vs M→RetAll c' ts vs M
 | [],_,_,_,hp=>hp
 |t::ts,vs,M,f,hp=>by
  obtain⟨v,r,M1,M2,h1,rfl,h3,h4,h5⟩:=hp
  exact⟨v,r,M1,M2,h1,rfl,f t (by simp) _ _ (fun b hb=>xL _ hb) h3,h4,RetAll.imp ts r M2 (fun t ht cs M' hM=>f t (by simp[ht]) cs M' (fun b hb=>xR _ (hM b hb))) h5⟩
theorem RetAll.ext{c c':Cx}(h:Ext c c')(ts:List T)(vs:List Value)(M:List Nat)(hk:Kept c c' M)(hp:RetAll c ts vs M):RetAll c' ts vs M:=
 RetAll.imp ts vs M (fun t _ cs M' hM ht=>TC.ext h t cs M' (fun b hb=>hk b (hM b hb)) ht) hp
abbrev AG(c:Cx)(e:D×T)(x:MapEntry):Prop:=VV c e.1 x.key
def wj(ct:List ((Nat×Nat)×T)):List (Nat×Nat):=fu (ct.map (·.1))
def IF(hd:Nat×Nat→Value):Root→Value
 | .l n j=>hd (n,j)
 | .o _=>undef
def FrOK(c:Cx)(M:List Nat)(env:List (Nat×SV))(ct:List ((Nat×Nat)×T))(tmps:Array Value):Prop:=
 ∃(S:Nat×Nat→List Nat) (hd:Nat×Nat→Value),M=(wj ct).flatMap S∧(∀x t,aZ ct x=some t→TC c t [hd x] (S x))∧
  (∀p∈env,p.2.loose=p.2)∧∀t,SB c (cont ct []) (IF hd) ((look env t).getD .dead) (tmps.getD t undef)
def Sz(n:Nat)(ps:List Nat)(x y:Code):Prop:=(∀t∈ps,t<n)∧aD n x=true∧aD n y=true
structure Stamps(en:Array MapEntry)(clock:Nat):Prop where
 lt:∀x∈en.toList,x.born<clock
 nd:(en.toList.map (·.born)).Nodup
theorem Stamps.nil:Stamps #[] 0:=⟨by simp,by simp⟩
theorem Stamps.push{en:Array MapEntry}{clock:Nat}(h:Stamps en clock)(k v:Value):Stamps (en.push {key:=k,val:=v,born:=clock}) (clock+1):=by
 refine⟨fun x hx=> ?_,?_⟩
 ·simp only[Array.toList_push,xD,yQ]at hx
  rcases hx with hx |rfl
  ·exact Nat.lt_succ_of_lt (h.lt x hx)
  ·exact Nat.lt_succ_self _
 ·simp only[Array.toList_push,List.map_append,List.map_cons,List.map_nil,xT,List.mem_map]
  refine⟨h.nd,by simp,?_⟩
  rintro a ⟨x,hx,rfl⟩ b hb rfl;simp only[yQ]at hb
  have:=h.lt x hx
  omega
theorem Stamps.same{en en':Array MapEntry}{clock:Nat}(h:Stamps en clock)(e:en'.toList.map (·.born)=en.toList.map (·.born)):Stamps en' clock:=by
 refine⟨fun x hx=> ?_,by rw[e];exact h.nd⟩
 have:x.born∈en.toList.map (·.born):=by rw[←e];exact List.mem_map.2 ⟨x,hx,rfl⟩
 obtain⟨y,hy,hy2⟩:=List.mem_map.1 this;rw[←hy2];exact h.lt y hy
def MapAt(w:World)(b:Nat)(en:Array MapEntry)(clock:Nat):Prop:=w.heap[b]? =some (.map en clock)∧Stamps en clock
theorem MapAt.same{w w':World}{b:Nat}{en:Array MapEntry}{clock:Nat}(h:MapAt w b en clock)(e:w'.heap[b]? =w.heap[b]?):MapAt w' b en clock:=⟨e.trans h.1,h.2⟩
def SetOf(es:List (D×T))(ks:List (List UInt8)):Prop:=(∀p∈es,∃s∈ks,p=(.str s,.d (.bool true)))∧∀s∈ks,(D.str s,T.d (.bool true))∈es
def ObOK(c:Cx)(b:Nat)(M:List Nat):Ob→Prop
 | .map es=>∃en clock,MapAt c.w b en clock∧All2 (AG c) es en.toList∧RetAll c (es.map (·.2)) (en.toList.map (·.val)) M
 | .iter s p=>M=[]∧∃y:ByteArray,c.w.heap[b]? =some (.stringIter y p)∧y.data.toList=s
 | .miter m=>M=[]∧(∀o,m=some o→o<c.nO)∧∃since last,c.w.heap[b]? =some (.mapIter (m.map c.ρ) since #[] last)
 | .row _=>False
 | .sset ks=>∃es en clock,MapAt c.w b en clock∧All2 (AG c) es en.toList∧RetAll c (es.map (·.2)) (en.toList.map (·.val)) M∧SetOf es ks
 | .frame _ ps x y env ct=>∃r:Loop,c.w.heap[b]? =some (.loop r)∧r.state=.ready∧r.pending=none∧r.params.toList=ps∧r.assign=x∧r.body=y∧FrOK c M env ct r.tmps∧Sz r.tmps.size ps x y
 |_=>True
theorem sr{α:Type}{ct:List ((Nat×Nat)×α)}{x:Nat×Nat}{t:α}(h:aZ ct x=some t):(x,t)∈ct:=by
 induction ct with
 |nil=>cases h
 |cons p r ih=>
  obtain⟨y,u⟩:=p;simp only[aZ]at h
  split at h
  ·rename_i e;simp only[xJ]at h;subst e;subst h;simp
  ·simp[ih h]
theorem zq{α:Type}{env:List (Nat×α)}{t:Nat}{v:α}(h:look env t=some v):(t,v)∈env:=by
 induction env with
 |nil=>cases h
 |cons p r ih=>
  obtain⟨y,u⟩:=p;simp only[look]at h
  split at h
  ·rename_i e;simp only[xJ]at h;subst e;subst h;simp
  ·simp[ih h]
theorem fC{l:List (Nat×Nat)}{x:Nat×Nat}:x∈fu l↔x∈l:=by
 induction l with
 |nil=>simp[fu]
 |cons y r ih=>
  simp only[fu];split
  ·rename_i h
   rw[ih,xY]
   exact⟨.inr,fun h'=>h'.elim (fun e=>by subst e;exact ih.1 (by simpa using h)) id⟩
  ·simp[ih]
theorem B9(l:List (Nat×Nat)):(fu l).Nodup:=by
 induction l with
 |nil=>simp[fu]
 |cons y r ih=>
  simp only[fu];split
  ·exact ih
  ·rename_i h
   exact List.nodup_cons.2 ⟨by simpa using h,ih⟩
theorem FrOK.imp{c c':Cx}{M:List Nat}{env:List (Nat×SV)}{ct:List ((Nat×Nat)×T)}{tmps:Array Value}(h:FrOK c M env ct tmps)(hk:Kept c c' M)
  (hv:∀p∈env,∀x v,p.2=.d x→VV c x v→VV c' x v)
  (ht:∀p∈ct,∀cs M',(∀b∈M',b∈M)→TC c p.2 cs M'→TC c' p.2 cs M'):FrOK c' M env ct tmps:=by
 obtain⟨S,hdi,h1,h2,h0,h3⟩:=h
 have hS:∀x t,aZ ct x=some t→∀b∈S x,b∈M:=fun x t hx b hb=>by
  rw[h1];exact List.mem_flatMap.2 ⟨x,fC.2 (List.mem_map.2 ⟨_,sr hx,rfl⟩),hb⟩
 have hold:∀r q,ot c c' (cont ct []) (cont ct []) (IF hdi) (IF hdi) r q:=fun r q t es e1 e2=>by
  refine⟨t,es,e1,e2,.refl _,fun h' hn=> ?_⟩
  cases r with
  |l n j=>exact NodeH.ext q t _ h' _ (h2 _ t e1) (fun b hb=>hk b (hS _ t e1 b hb)) hn
  |o n=>simp[cont]at e1
 refine⟨S,hdi,h1,fun x t hx=>ht _ (sr hx) _ _ (hS x t hx) (h2 x t hx),h0,fun t=> ?_⟩
 have:=h3 t
 cases hl:look env t with
 |none=>trivial
 |some u=>
  rw[hl]at this
  simp only[Option.getD_some]at this ⊢
  have hm:=zq hl;have hu:=h0 _ hm
  cases u with
  |d x=>exact hv _ hm x _ rfl this
  |bor r p off len=>exact SB.keep_bor (hold r p) this
  |loc r p i off=>exact SB.keep_loc (hold r p) this
  |dead=>trivial
  |_=>simp[SV.loose]at hu
theorem ObOK.ext{c c':Cx}(h:Ext c c'){b:Nat}{M:List Nat}{ob:Ob}(hb:c'.w.heap[b]? =c.w.heap[b]?)(hk:Kept c c' M)(ho:ObOK c b M ob):ObOK c' b M ob:=by
 cases ob with
 |map es=>
  obtain⟨en,cl,h1,h2,h3⟩:=ho
  exact⟨en,cl,h1.same hb,h2.imp (fun _ _ _ q=>VV.ext h q),RetAll.ext h _ _ _ hk h3⟩
 |iter s p=>
  obtain⟨h1,y,h2,h3⟩:=ho
  exact⟨h1,y,hb.trans h2,h3⟩
 |miter m=>
  obtain⟨h1,h2,since,last,h3⟩:=ho
  refine⟨h1,fun o e=>yA (h2 o e) h.nO,since,last,hb.trans (h3.trans ?_)⟩
  cases m with
  |none=>rfl
  |some o=>simp only[xQ,h.ρ o (h2 o rfl)]
 |frame g ps x y env ct=>
  obtain⟨r,h1,h2,h3,h4,h5,h6,h7⟩:=ho
  exact⟨r,hb.trans h1,h2,h3,h4,h5,h6,h7.1.imp hk (fun _ _ _ _ _ q=>VV.ext h q) (fun _ _ _ _ hM q=>TC.ext h _ _ _ (fun b hb=>hk b (hM b hb)) q),h7.2⟩
 |sset ks=>
  obtain⟨es,en,cl,h1,h2,h3,h4⟩:=ho
  exact⟨es,en,cl,h1.same hb,h2.imp (fun _ _ _ q=>VV.ext h q),RetAll.ext h _ _ _ hk h3,h4⟩
 |_=>trivial
def PlOK(c:Cx)(S:Root→List Nat)(ρ:Nat→Nat)(n:Nat)(ob:Ob):Prop:=∃M,S (.o n)=ρ n::M∧ObOK c (ρ n) M ob
theorem PlOK.ext{c c':Cx}(h:Ext c c'){S S':Root→List Nat}{ρ ρ':Nat→Nat}{n:Nat}{ob:Ob}(ho:PlOK c S ρ n ob)(hs:∀b∈S (.o n),c'.w.heap[b]? =c.w.heap[b]?)(e1:S' (.o n)=S (.o n))(e2:ρ' n=ρ n):PlOK c' S' ρ' n ob:=by
 obtain⟨M,h1,h2⟩:=ho
 refine⟨M,by rw[e1,h1,e2],?_⟩
 rw[e2];exact h2.ext h (hs _ (by rw[h1];simp)) (fun b hb=>hs b (by rw[h1];simp[hb]))
def Recs(w w':World):Prop:=∀(b:Nat) (r:Loop),w.heap[b]? =some (.loop r)→∃st pe,w'.heap[b]? =some (.loop {r with state:=st,pending:=pe})
theorem Recs.refl(w:World):Recs w w:=fun _ r h=>⟨r.state,r.pending,h⟩
theorem Recs.trans{a b c:World}(x:Recs a b)(y:Recs b c):Recs a c:=fun i r h=>by
 obtain⟨st,pe,h1⟩:=x i r h;obtain⟨st',pe',h2⟩:=y i _ h1
 exact⟨st',pe',h2⟩
theorem Recs.old{w w':World}(h:∀b,b<w.heap.size→w'.heap[b]? =w.heap[b]?):Recs w w':=fun b r hb=>⟨r.state,r.pending,(h b (Array.getElem?_eq_some_iff.1 hb).1).trans hb⟩
theorem Recs.other{w w':World}{g:Nat}(h:∀b,b≠g→w'.heap[b]? =w.heap[b]?)(hg:∀r,w.heap[g]? ≠some (.loop r)):Recs w w':=fun b r hb=>⟨r.state,r.pending,(h b (fun e=>hg r (e▸hb))).trans hb⟩
structure Fr(A:Av)(w:World):Prop where
 os:w.os=A.w0.os
 tape:w.tape=A.w0.tape
 output:w.output=A.w0.output
 size:A.w0.heap.size≤w.heap.size
 kept:∀b,b<A.w0.heap.size→¬A.O0 b→w.heap[b]? =A.w0.heap[b]?
 recs:Recs A.w0 w
structure KR(A:Av)(ρ:Nat→Nat)(S:Root→List Nat)(hd:Root→Value)(fl:List Nat)(k:Wk)(vals:List (SV×Value))(w:World):Prop where
 cont:∀r t,k.get r=some t→TC (aa A k.H.length ρ S fl w) t [hd r] (S r)
 gone:∀r,k.get r=none→(∀n ob,r=.o n→k.H[n]? =some ob→ob.plain=false)→S r=[]
 obj:∀n,hd (.o n)=.slice (some ⟨ρ n,0,none⟩) 1 1
 map:∀n ob,k.H[n]? =some ob→ob.plain=true→PlOK (aa A k.H.length ρ S fl w) S ρ n ob
 dis:Dis S fl
 blk:∀b,Own S fl b→b<w.heap.size∧(∀t,¬A.F t b)∧(b<A.w0.heap.size→A.O0 b)
 vals:∀p∈vals,SO (aa A k.H.length ρ S fl w) k.get hd (trv k.tr p.1) p.2
 fr:Fr A w
 Fold:∀t b,A.F t b→b<A.w0.heap.size
 rho:A.n0≤k.H.length∧∀o,o<A.n0→ρ o=A.ρ0 o
def GV(d:D)(vs:List Value):Prop:=(DS d=true→∀c,VCs c d.cells vs)∧(DS d=false→∃t p,vs=[.iface t p])
def GH(w:World)(g:Nat)(vs:List Value):Prop:=∃t fr,w.heap[g]? =some (.cells vs.toArray t fr)
theorem GH.cell{w:World}{g:Nat}{vs:List Value}(h:GH w g vs)(j:Nat):w.cell? ((⟨g,0,none⟩:Addr).add j)=vs[j]? :=by
 obtain⟨t,fr,h⟩:=h;rw[aL,Nat.zero_add];unfold World.cell?;simp[h]
theorem GH.same{w w':World}{g:Nat}{vs:List Value}(h:GH w g vs)(e:w'.heap[g]? =w.heap[g]?):GH w' g vs:=by
 obtain⟨t,fr,h⟩:=h
 exact⟨t,fr,e.trans h⟩
def GA(G:Nat→Option D)(A:Av):Prop:=
 ∀g d,G g=some d→g<A.w0.heap.size∧¬A.O0 g∧(∀t,¬A.F t g)∧∃vs:List Value,GH A.w0 g vs∧GV d vs
theorem GA.now{G:Nat→Option D}{A:Av}{ρ:Nat→Nat}{S:Root→List Nat}{hd:Root→Value}{fl:List Nat}{k:Wk}{vals:List (SV×Value)}{w:World}(hG:GA G A)(h:KR A ρ S hd fl k vals w){g:Nat}{d:D}(e:G g=some d):
  ¬Own S fl g∧g<w.heap.size∧w.heap[g]? =A.w0.heap[g]? :=by
 obtain⟨h1,h2,_,_⟩:=hG g d e
 exact⟨fun ho=>h2 ((h.blk g ho).2.2 h1),yA h1 h.fr.size,h.fr.kept g h1 h2⟩
theorem GA.rp{G:Nat→Option D}{A:Av}{ρ:Nat→Nat}{S:Root→List Nat}{hd:Root→Value}{fl:List Nat}{k:Wk}{vals:List (SV×Value)}{w:World}(hG:GA G A)(h:KR A ρ S hd fl k vals w){g:Nat}{d:D}(e:G g=some d)(ho:DS d=true):
  SO (aa A k.H.length ρ S fl w) k.get hd (.rp true d.cells) (.pointer (some ⟨g,0,none⟩)):=by
 obtain⟨q1,q2,q3⟩:=hG.now h e;obtain⟨_,_,h3,vs,h4,h5⟩:=hG g d e
 refine⟨⟨g,0,none⟩,vs,rfl,rfl,⟨q1,h3 true,q2⟩,fun j u hj=> ?_,h5.1 ho _⟩
 rw[←hj,←(h4.same q3).cell j];rfl
structure WS(S:Root→List Nat)(fl:List Nat)(w:World)(S':Root→List Nat)(fl':List Nat)(w':World):Prop where
 os:w'.os=w.os
 tape:w'.tape=w.tape
 output:w'.output=w.output
 size:w.heap.size≤w'.heap.size
 same:∀b,b<w.heap.size→¬Own S fl b→w'.heap[b]? =w.heap[b]?
 own:∀b,Own S' fl' b→Own S fl b∨(w.heap.size≤b∧b<w'.heap.size)
 recs:Recs w w'
section
variable{A:Av}{ρ ρ':Nat→Nat}{S S':Root→List Nat}{hd hd':Root→Value}{fl fl':List Nat}{k k':Wk}{vals:List (SV×Value)}{w w':World}
theorem WS.ext(s:WS S fl w S' fl' w'){nO nO':Nat}(hn:nO≤nO')(hr:∀o,o<nO→ρ' o=ρ o):Ext (aa A nO ρ S fl w) (aa A nO' ρ' S' fl' w'):=
 ⟨fun t g hp=>⟨⟨fun ho=>by rcases s.own g ho with h |h;exact hp.1 h;exact absurd hp.2.2 (by omega),hp.2.1,yA hp.2.2 s.size⟩,s.same g hp.2.2 hp.1⟩,hn,hr⟩
theorem WS.blk(s:WS S fl w S' fl' w')(h:KR A ρ S hd fl k vals w):∀b,Own S' fl' b→b<w'.heap.size∧(∀t,¬A.F t b)∧(b<A.w0.heap.size→A.O0 b):=fun b hb=>by
 have hsz:=h.fr.size
 rcases s.own b hb with h1 |⟨h1,h2⟩
 ·have:=h.blk b h1;exact⟨yA this.1 s.size,this.2.1,this.2.2⟩
 ·exact⟨h2,fun t hF=>by have:=h.Fold t b hF;omega,fun h3=>by omega⟩
theorem WS.frm(s:WS S fl w S' fl' w')(h:KR A ρ S hd fl k vals w):Fr A w':=
 ⟨s.os.trans h.fr.os,s.tape.trans h.fr.tape,s.output.trans h.fr.output,Nat.le_trans h.fr.size s.size,fun b hb hO=>by
  rw[s.same b (yA hb h.fr.size) (fun ho=>hO ((h.blk b ho).2.2 hb))];exact h.fr.kept b hb hO,h.fr.recs.trans s.recs⟩
theorem WS.stay(ho:∀b,Own S' fl' b→Own S fl b):WS S fl w S' fl' w:=⟨rfl,rfl,rfl,Nat.le_refl _,fun _ _ _=>rfl,fun b hb=>.inl (ho b hb),.refl _⟩
theorem KR.hold(h:KR A ρ S hd fl k vals w){r:Root}(c':Cx)(hk:k'.get r=k.get r)(hh:hd' r=hd r)(hs:∀b∈S r,c'.w.heap[b]? =w.heap[b]?)(q:aE):
  ot (aa A k.H.length ρ S fl w) c' k.get k'.get hd hd' r q:=fun t es h1 h2=>
 ⟨t,es,by rw[hk];exact h1,h2,SameShape.refl _,fun h' hn=>by rw[hh];exact NodeH.ext q t _ h' _ (h.cont r t h1) hs hn⟩
theorem im{ct:List ((Nat×Nat)×T)}{n j:Nat}{t:T}{H:List Ob}{r:Root}:cont (((n,j),t)::ct) H r=if r=.l n j then some t else cont ct H r:=by
 cases r with
 |l a b=>
  simp only[Go.Am.cont,aZ,Root.l.injEq,pJ]
  by_cases h:n=a∧j=b
  ·obtain⟨rfl,rfl⟩:=h;simp
  ·rw[if_neg h,if_neg (fun e=>h ⟨e.1.symm,e.2.symm⟩)]
 |o a=>simp[Go.Am.cont]
theorem Wk.set_spec{r:Root}{t:T}(hs:k.set r t=some k')(ht:(∃c,k.get r=some c∧(∀n,r=.o n→True))):
  (∀r',k'.get r'=if r'=r then some t else k.get r')∧k'.H.length=k.H.length∧k'.tr=k.tr∧(∀(n:Nat) (ob:Ob),ob.plain=true→(k'.H[n]? =some ob↔k.H[n]? =some ob)):=by
 cases r with
 |l n j=>
  simp only[Wk.set,xJ]at hs
  subst hs
  exact⟨fun r'=>im,rfl,rfl,fun _ _ _=>Iff.rfl⟩
 |o n=>
  obtain⟨c,hc,_⟩:=ht;simp only[Wk.set]at hs
  split at hs
  ·rename_i c' 
   simp only[xJ]at hs
   subst hs;simp only[Wk.get,Go.Am.cont]at hc
   have hb:∃c0,k.H[n]? =some (.box c0):=by
    revert hc
    cases k.H[n]? with
    |none=>simp
    |some x=>cases x <;>simp
   obtain⟨c0,hb⟩:=hb;have hlt:=(List.getElem?_eq_some_iff.1 hb).1
   refine⟨fun r'=> ?_,by simp,rfl,fun m ob hpl=> ?_⟩
   ·cases r' with
    |l a b=>simp[Wk.get,Go.Am.cont]
    |o m=>
     simp only[Wk.get,Go.Am.cont,Root.o.injEq]
     by_cases hm:m=n
     ·subst hm;simp[hlt]
     ·rw[List.getElem?_set_ne (Ne.symm hm)];simp[hm]
   ·by_cases hm:n=m
    ·subst hm;rw[yK hlt,hb]
     constructor <;>intro q <;>simp only[xJ]at q <;>subst q <;>cases hpl
    ·simp[List.getElem?_set_ne hm]
  ·cases hs
theorem KR.giveUp(h:KR A ρ S hd fl k vals w){r:Root}{t t' nd nd':T}{p:aE}{h':Value}{L Sn R M:List Nat}(x:Tr)
  (hr:k.get r=some t) (hS:S r=L++Sn++R) (hf:Focus (aa A k.H.length ρ S fl w) t (hd r) p nd h' L Sn R)
  (hp:t.put p nd'=some t') (hn1:nd'.nc=1) (hs:k.set r t'=some k') (hM:M=Sn∨M=[])
  (hnd:TC (aa A k.H.length ρ (upd S r (L++R)) (M++fl) w) nd' [h'] [])
  (hx:∀u v,(∀r' q,(r'=r→q≠p∧q.length≤p.length)→ot (aa A k.H.length ρ S fl w) (aa A k.H.length ρ (upd S r (L++R)) (M++fl) w) k.get k'.get hd hd r' q)→
    SO (aa A k.H.length ρ S fl w) k.get hd u v→SO (aa A k.H.length ρ (upd S r (L++R)) (M++fl) w) k'.get hd (x.sv u) v):
  KR A ρ (upd S r (L++R)) hd (M++fl) (k'.tell x) vals w∧Ext (aa A k.H.length ρ S fl w) (aa A k.H.length ρ (upd S r (L++R)) (M++fl) w):=by
 obtain⟨g1,g2,g3,g4⟩:=Wk.set_spec hs ⟨t,hr,fun _ _=>trivial⟩
 have hown:∀b,Own (upd S r (L++R)) (M++fl) b→Own S fl b:=fun b hb=>by
  rcases hM with rfl |rfl
  ·exact(Own.detach hS).1 hb
  ·exact Own.drop hS (by simpa using hb)
 have ws:WS S fl w (upd S r (L++R)) (M++fl) w:=WS.stay hown;have ext:Ext (aa A k.H.length ρ S fl w) (aa A k.H.length ρ (upd S r (L++R)) (M++fl) w):=ws.ext (Nat.le_refl _) (fun _ _=>rfl)
 have hget:∀r',r'≠r→k'.get r'=k.get r':=fun r' hne=>by rw[g1 r',if_neg hne]
 have hgetr:k'.get r=some t':=by rw[g1 r,if_pos rfl]
 have hget':∀r',(k'.tell x).get r'=k'.get r':=fun _=>rfl
 refine⟨⟨fun r' t0 h0=> ?_,fun r' h0 hm=> ?_,h.obj,fun n ob hm hpl=> ?_,?_,ws.blk h,fun pr hpr=> ?_,h.fr,h.Fold,by rw[show(k'.tell x).H.length=k.H.length from g2];exact h.rho⟩,ext⟩
 ·have e:(k'.tell x).H.length=k.H.length:=g2
  rw[e];rw[hget']at h0
  by_cases hne:r'=r
  ·subst hne
   rw[hgetr]at h0
   simp only[xJ]at h0
   subst h0;rw[aG]
   have:=hf.put _ nd' t' [] ext (fun _ _=>rfl) hp hnd
   simpa using this
  ·rw[hget r' hne]at h0
   rw[ai _ _ hne];exact TC.ext ext _ _ _ (fun _ _=>rfl) (h.cont r' t0 h0)
 ·rw[hget']at h0
  by_cases hne:r'=r
  ·subst hne;rw[hgetr]at h0;cases h0
  ·rw[ai _ _ hne]
   rw[hget r' hne]at h0
   exact h.gone r' h0 (fun n ob e hm'=>by
    cases hpl:ob.plain with
    |false=>rfl
    |true=>rw[←hpl];exact hm n ob e ((g4 n ob hpl).2 hm'))
 ·have e:(k'.tell x).H.length=k.H.length:=g2
  rw[e];have hm':=(g4 n ob hpl).1 hm
  have hne:(Root.o n)≠r:=by
   rintro rfl
   cases ob <;>simp[Wk.get,Go.Am.cont,hm',Ob.plain]at hr hpl
  exact(h.map n ob hm' hpl).ext ext (fun _ _=>rfl) (ai _ _ hne) rfl
 ·rcases hM with rfl |rfl
  ·exact h.dis.detach hS
  ·simpa using h.dis.drop hS
 ·have e:(k'.tell x).H.length=k.H.length:=g2
  rw[e];have e2:(k'.tell x).tr=k.tr++[x]:=by simp[Wk.tell,g3]
  rw[e2]
  have e3:∀(a:List Tr) (u:SV),trv (a++[x]) u=x.sv (trv a u):=fun a=>by
   induction a with
   |nil=>intro u;rfl
   |cons y a ih=>intro u;simp only[List.cons_append,trv];exact ih _
  rw[e3];refine hx _ _ (fun r' q hq=> ?_) (h.vals pr hpr)
  by_cases hne:r'=r
  ·subst hne
   obtain⟨q1,q2⟩:=hq rfl;intro t0 es h1 h2;rw[hr]at h1
   simp only[xJ]at h1
   subst h1
   obtain⟨es',o1,o2,o3⟩:=hf.oth (aa A k.H.length ρ (upd S r' (L++R)) (M++fl) w) nd' t' (fun _=>False) (fun _ _=>rfl) hp hn1 (fun _ _ hF=>hF.elim) q es (fun q' hq'=>by
    subst hq';simp only[xP]at q2
    have:q'=[]:=yL (by omega)
    subst this
    exact q1 (by simp)) h2
   exact⟨t',es',hgetr,o1,o2,o3⟩
  ·exact h.hold _ (hget r' hne) rfl (fun _ _=>rfl) q
theorem WS.of(hos:w'.os=w.os)(ht:w'.tape=w.tape)(ho:w'.output=w.output)(hsz:w.heap.size≤w'.heap.size){M M':List Nat}
  (same:∀b,b<w.heap.size→b∉M→w'.heap[b]? =w.heap[b]?) (hM':∀b∈M',b∈M∨(w.heap.size≤b∧b<w'.heap.size)) (hrec:Recs w w'):WS S (M++fl) w S (M'++fl) w':=
 ⟨hos,ht,ho,hsz,fun b hb hn=>same b hb (fun hm=>hn (.inr (by simp[hm]))),fun b hb=>by
  rcases hb with hb |hb
  ·exact .inl (.inl hb)
  ·rcases List.mem_append.1 hb with hb |hb
   ·rcases hM' b hb with q |q
    ·exact .inl (.inr (by simp[q]))
    ·exact .inr q
   ·exact .inl (.inr (by simp[hb])),hrec⟩
theorem KR.world(hos:w'.os=w.os)(ht:w'.tape=w.tape)(ho:w'.output=w.output)(hsz:w.heap.size≤w'.heap.size)(hrec:Recs w w'){M M':List Nat}(h:KR A ρ S hd (M++fl) k vals w)
  (same:∀b,b<w.heap.size→b∉M→w'.heap[b]? =w.heap[b]?) (hM':∀b∈M',b∈M∨(w.heap.size≤b∧b<w'.heap.size)) (hn:M'.Nodup):
  KR A ρ S hd (M'++fl) k vals w'∧Ext (aa A k.H.length ρ S (M++fl) w) (aa A k.H.length ρ S (M'++fl) w'):=by
 have ws:WS S (M++fl) w S (M'++fl) w':=WS.of hos ht ho hsz same hM' hrec;have ext:Ext (aa A k.H.length ρ S (M++fl) w) (aa A k.H.length ρ S (M'++fl) w'):=ws.ext (Nat.le_refl _) (fun _ _=>rfl)
 have kept:∀r,∀b∈S r,w'.heap[b]? =w.heap[b]? :=fun r b hb=>same b (h.blk b (.inl ⟨r,hb⟩)).1 (fun hm=>h.dis.oneF r b hb (by simp[hm]))
 have hF:=h.dis.ndF;rw[xT]at hF
 have hM'2:∀b∈M',b∉fl:=fun b hb hc=>by
  rcases hM' b hb with q |q
  ·exact hF.2.2 b q b hc rfl
  ·have:=(h.blk b (.inr (by simp[hc]))).1;omega
 refine⟨⟨fun r t ht=>TC.ext ext _ _ _ (kept r) (h.cont r t ht),h.gone,h.obj,fun n ob he hpl=> ?_,⟨h.dis.nd,?_,h.dis.one,fun r b hb hc=> ?_⟩,ws.blk h,fun p hp=> ?_,ws.frm h,h.Fold,h.rho⟩,ext⟩
 ·exact(h.map n ob he hpl).ext ext (kept (.o n)) rfl rfl
 ·rw[xT]
  exact⟨hn,hF.2.1,fun a ha b hb hab=>hM'2 a ha (hab▸hb)⟩
 ·rcases List.mem_append.1 hc with hc |hc
  ·rcases hM' b hc with q |q
   ·exact h.dis.oneF r b hb (by simp[q])
   ·have:=(h.blk b (.inl ⟨r,hb⟩)).1;omega
  ·exact h.dis.oneF r b hb (by simp[hc])
 ·exact SO.keep ext (fun r q=>h.hold _ rfl rfl (kept r) q) (h.vals p hp)
theorem KR.newRoot{n j:Nat}{t:T}{hv:Value}{M:List Nat}(h:KR A ρ S hd (M++fl) k vals w)(ht:TC (aa A k.H.length ρ S (M++fl) w) t [hv] M):
  KR A ρ (upd S (.l n j) M) (upd hd (.l n j) hv) fl (k.new n j t) vals w∧Ext (aa A k.H.length ρ S (M++fl) w) (aa A k.H.length ρ (upd S (.l n j) M) fl w):=by
 have e1:S (.l n j)=[]++S (.l n j)++[]:=by simp
 have d1:=h.dis.drop e1;simp only[List.append_nil]at d1
 have own1:∀b,Own (upd (upd S (.l n j) []) (.l n j) ([]++M++[])) fl b→Own S (M++fl) b:=fun b hb=>by
  have:=(Own.attach (S:=upd S (.l n j) []) (r:=.l n j) (L:=[]) (R:=[]) (M:=M) (by simp)).1 hb
  exact Own.drop e1 (by simpa using this)
 have e2:upd (upd S (.l n j) []) (.l n j) ([]++M++[])=upd S (.l n j) M:=by
  funext r;simp only[upd,List.nil_append,List.append_nil];split <;>rfl
 have d2:=Dis.attach (r:=.l n j) (L:=[]) (R:=[]) (M:=M) (fl:=fl) d1 (by simp)
 rw[e2]at d2 own1
 have ws:WS S (M++fl) w (upd S (.l n j) M) fl w:=WS.stay own1;have ext:Ext (aa A k.H.length ρ S (M++fl) w) (aa A k.H.length ρ (upd S (.l n j) M) fl w):=ws.ext (Nat.le_refl _) (fun _ _=>rfl)
 have get:∀r,(k.new n j t).get r=if r=.l n j then some t else k.get r:=fun r=>im
 have hd1:∀r,r≠ .l n j→upd hd (.l n j) hv r=hd r:=fun r hr=>ai _ _ hr
 refine⟨⟨fun r t0 h0=> ?_,fun r h0 hm=> ?_,fun m=>by rw[hd1 _ (by simp)];exact h.obj m,fun m ob he hpl=> ?_,d2,ws.blk h,fun p hp=> ?_,h.fr,h.Fold,h.rho⟩,ext⟩
 ·rw[get]at h0
  split at h0
  ·rename_i e;subst e
   simp only[xJ]at h0
   subst h0;rw[aG,aG];exact TC.ext ext _ _ _ (fun _ _=>rfl) ht
  ·rename_i e
   rw[hd1 r e,ai _ _ e];exact TC.ext ext _ _ _ (fun _ _=>rfl) (h.cont r t0 h0)
 ·rw[get]at h0
  split at h0
  ·cases h0
  ·rename_i e
   rw[ai _ _ e];exact h.gone r h0 hm
 ·exact(h.map m ob he hpl).ext ext (fun _ _=>rfl) (ai _ _ (by simp)) rfl
 ·have e3:trv (k.new n j t).tr p.1=(Tr.kill (.l n j) []).sv (trv k.tr p.1):=by
   have:∀(a:List Tr) (x:Tr) (u:SV),trv (a++[x]) u=x.sv (trv a u):=fun a x u=>by
    induction a generalizing u with
    |nil=>rfl
    |cons y a ih=>simp only[List.cons_append,trv];exact ih _
   exact this _ _ _
  rw[e3];refine SO.kill ext _ _ (fun r q hq=> ?_) (h.vals p hp)
  by_cases hr:r=.l n j
  ·obtain⟨q1,q2⟩:=hq hr
   exact absurd (yL (by simpa using q2)) q1
  ·exact h.hold _ (by rw[get,if_neg hr]) (hd1 r hr) (fun _ _=>rfl) q
end
theorem VE.shift{c:Cx}{a a':Addr}:∀(l:List D) (o o' sz:Nat),(∀j,a'.add (o'+j)=a.add (o+j))→VE c l a o sz→VE c l a' o' sz
 | [],_,_,_,_,_=>by simp[VE]
 |d::ds,o,o',sz,he,h=>by
  simp only[VE]at h ⊢
  obtain⟨⟨cs,h1,h2,h3⟩,h4⟩:=h
  refine⟨⟨cs,h1,fun j v hj=>by rw[he];exact h2 j v hj,h3⟩,VE.shift ds (o+sz) (o'+sz) sz (fun j=> ?_) h4⟩
  have:=he (sz+j)
  rwa [←Nat.add_assoc,←Nat.add_assoc]at this
theorem VE.drop{c:Cx}{a:Addr}:∀(n:Nat) (l:List D) (o sz:Nat),VE c l a o sz→VE c (l.drop n) a (o+n * sz) sz
 |0,l,o,sz,h=>by simpa using h
 |n+1,[],o,sz,h=>by simp[VE]
 |n+1,d::ds,o,sz,h=>by
  simp only[VE]at h
  have:=VE.drop n ds (o+sz) sz h.2
  simp only[List.drop_succ_cons]
  rwa [show o+(n+1) * sz=o+sz+n * sz by rw[Nat.add_mul];omega]
theorem VE.take{c:Cx}{a:Addr}:∀(n:Nat) (l:List D) (o sz:Nat),VE c l a o sz→VE c (l.take n) a o sz
 |0,l,o,sz,_=>by simp[VE]
 |n+1,[],o,sz,h=>by simp[VE]
 |n+1,d::ds,o,sz,h=>by
  simp only[VE,List.take_succ_cons]at h ⊢
  exact⟨h.1,VE.take n ds (o+sz) sz h.2⟩
theorem VE.win{c:Cx}{a:Addr}{l:List D}{o sz:Nat}(h:VE c l a o sz)(n m:Nat):VE c (Go.Am.win l n m) a (o+n * sz) sz:=VE.take m _ _ sz (VE.drop n l o sz h)
theorem T.frzs_len(b:Bool):∀(ts:List T) (ds:List D),T.frzs b ts=some ds→ds.length=ts.length
 | [],ds,h=>by simp only[T.frzs,xJ]at h;subst h;rfl
 |t::ts,ds,h=>by
  simp only[T.frzs,xB,xM]at h
  obtain⟨x,_,r,h2,rfl⟩:=h;simp[T.frzs_len b ts r h2]
def Pure(c c':Cx)(b:Bool)(S:List Nat):Prop:=∀g∈S,c'.pm b g∧c'.w.heap[g]? =c.w.heap[g]?
theorem Pure.left{c c':Cx}{b:Bool}{X Y:List Nat}(h:Pure c c' b (X++Y)):Pure c c' b X:=fun g hg=>h g (xL _ hg)
theorem Pure.right{c c':Cx}{b:Bool}{X Y:List Nat}(h:Pure c c' b (X++Y)):Pure c c' b Y:=fun g hg=>h g (xR _ hg)
mutual
theorem T.frz_ok{c c':Cx}(hx:Ext c c')(b:Bool):∀(t:T) (x:D) (cs:List Value) (S:List Nat),T.frz b t=some x→Pure c c' b S→TC c t cs S→VC c' x cs
 | .d y,x,cs,S,h,_,ht=>by
  simp only[T.frz,xJ]at h
  subst h;simp only[TC]at ht
  exact VC.ext hx _ _ ht.2.norm
 | .agg ts,x,cs,S,h,hp,ht=>by
  simp only[T.frz,xM]at h
  obtain⟨l,h1,rfl⟩:=h;simp only[TC]at ht
  simp only[VC];exact T.frzs_cells hx b ts l cs S h1 hp ht
 | .own es,x,cs,S,h,hp,ht=>by
  simp only[T.frz,xM]at h
  obtain⟨l,h1,rfl⟩:=h;have hlen:=T.frzs_len b es l h1
  rcases ht with⟨a,k1,k2,_⟩ |⟨g,cap,cur,e,sz,S',k1,k2,k3,k4,k5,k6,k7,k8⟩
  ·subst k2
   simp only[T.frzs,xJ]at h1
   subst h1;simp only[VC]
   exact⟨a,0,0,k1,rfl,Nat.le_refl _,fun hne=>absurd rfl hne⟩
  ·subst k2
   have hg:=hp g (by simp)
   simp only[VC]
   refine⟨some ⟨g,0,none⟩,es.length,cap,k1,hlen.symm,k4,fun hne=>⟨⟨g,0,none⟩,sz,rfl,rfl,hg.1,Nat.pos_of_mul_pos_left k7,?_⟩⟩
   refine T.frzs_elems hx b es l sz _ S' h1 (fun y hy=>hp y (by simp[hy])) k8 ⟨g,0,none⟩ 0 (fun j v hj=> ?_)
   rw[aL,World.cell?,hg.2,k3];simp only[Nat.zero_add,Option.isSome_none];rw[xU]at hj
   split at hj
   ·simpa using hj
   ·cases hj
 | .dead,x,cs,S,h,_,_=>by simp[T.frz]at h
theorem T.frzs_cells{c c':Cx}(hx:Ext c c')(b:Bool):∀(ts:List T) (ds:List D) (cs:List Value) (S:List Nat),T.frzs b ts=some ds→Pure c c' b S→TCs c ts cs S→VCs c' ds cs
 | [],ds,cs,S,h,_,ht=>by
  simp only[T.frzs,xJ]at h
  subst h;simp only[TCs]at ht
  simp[VCs,ht.1]
 |t::ts,ds,cs,S,h,hp,ht=>by
  simp only[T.frzs,xB,xM]at h
  obtain⟨x,h1,r,h2,rfl⟩:=h;simp only[TCs]at ht
  obtain⟨v,q,S1,S2,k1,k2,k3,k4⟩:=ht;subst k2;simp only[VCs]
  exact⟨v,q,k1,T.frz_ok hx b t x _ S1 h1 hp.left k3,T.frzs_cells hx b ts r q S2 h2 hp.right k4⟩
theorem T.frzs_elems{c c':Cx}(hx:Ext c c')(b:Bool):∀(ts:List T) (ds:List D) (sz:Nat) (cs:List Value) (S:List Nat),T.frzs b ts=some ds→Pure c c' b S→TE c ts sz cs S→
  ∀(a:Addr) (o:Nat),(∀j v,cs[j]? =some v→c'.w.cell? (a.add (o+j))=some v)→VE c' ds a o sz
 | [],ds,sz,cs,S,h,_,_=>by
  simp only[T.frzs,xJ]at h
  subst h;simp[VE]
 |t::ts,ds,sz,cs,S,h,hp,ht=>by
  simp only[T.frzs,xB,xM]at h
  obtain⟨x,h1,r,h2,rfl⟩:=h;simp only[TE]at ht
  obtain⟨c1,c2,S1,S2,k1,k2,k3,k4,k5⟩:=ht;subst k1;subst k2;intro a o hr;simp only[VE]
  refine⟨⟨c1,k3,fun j v hj=>hr j v (by rw[xO (List.getElem?_eq_some_iff.1 hj).1];exact hj),T.frz_ok hx b t x _ S1 h1 hp.left k4⟩,
   T.frzs_elems hx b ts r sz c2 S2 h2 hp.right k5 a (o+sz) (fun j v hj=> ?_)⟩
  have:=hr (sz+j) v (by rw[xN (by omega),k3];simpa using hj)
  rwa [←Nat.add_assoc]at this
end
theorem uL{c c':Cx}(hx:Ext c c'){b:Bool}{es:List T}{l:List D}{h' v:Value}{Sn:List Nat}(hf:T.frzs b es=some l)(hp:Pure c c' b Sn)(ht:TC c (.own es) [h'] Sn){off len:Nat}(hle:off+len≤es.length)(hw:Win h' es off len v):
  VC c' (.sl b (win l off len)) [v]:=by
 have hlen:=T.frzs_len b es l hf;obtain⟨a,n,cap,a',cap',m1,m2,m3,m4,m5⟩:=hw;subst m2;have hwl:(win l off len).length=len:=by simp only[win,yR,List.length_drop];omega
 simp only[VC]
 refine⟨a',len,cap',rfl,hwl.symm,m3,fun hne=> ?_⟩
 have hl0:0<len:=by
  rcases Nat.eq_zero_or_pos len with h0 |h0
  ·subst h0;simp[win]at hne
  ·exact h0
 obtain⟨g,el,n1,n2,n3⟩:=m5 hl0
 rcases ht with⟨a0,k1,k2,_⟩ |⟨g0,cap0,cur,e,sz,S',k1,k2,k3,k4,k5,k6,k7,k8⟩
 ·subst k2;simp at n2
 ·subst k2;subst n1
  simp only[xC,and_true]at k1
  rw[m1]at k1
  simp only[Value.slice.injEq,xJ,Addr.mk.injEq,and_true]at k1
  obtain⟨k1,_,_⟩:=k1;subst k1;have hnc:el.nc=sz:=(TE.len _ _ _ _ k8).2 el (yS n2);have hg:=hp g (by simp)
  refine⟨⟨g,off * el.nc,none⟩,sz,n3,rfl,hg.1,Nat.pos_of_mul_pos_left k7,?_⟩
  have hv:VE c' l ⟨g,0,none⟩ 0 sz:=T.frzs_elems hx b es l sz _ S' hf (fun y hy=>hp y (by simp[hy])) k8 ⟨g,0,none⟩ 0 (fun j v hj=>by
   rw[aL,World.cell?,hg.2,k3];simp only[Nat.zero_add,Option.isSome_none];rw[xU]at hj
   split at hj
   ·simpa using hj
   ·cases hj)
  refine VE.shift _ (0+off * sz) 0 sz (fun j=> ?_) (hv.win off len)
  rw[aL,aL,hnc]
  simp
theorem Win.whole{c:Cx}{es:List T}{h' v:Value}{Sn:List Nat}(hw:Win h' es 0 es.length v)(ht:TC c (.own es) [h'] Sn):TC c (.own es) [v] Sn:=by
 obtain⟨a,n,cap,a',cap',m1,m2,m3,m4,m5⟩:=hw;obtain⟨q1,q2⟩:=m4 rfl;subst m2;subst q1
 rcases ht with⟨a0,k1,k2,k3⟩ |⟨g,cap0,cur,e,sz,S',k1,k2,k3,k4,k5,k6,k7,k8⟩
 ·subst k2;subst k3
  rw[m1]at k1
  simp only[xC,Value.slice.injEq,and_true]at k1
  obtain⟨rfl,_,rfl⟩:=k1
  have:cap'=0:=by omega
  subst this;exact .inl ⟨a',rfl,rfl,rfl⟩
 ·rw[m1]at k1
  simp only[xC,Value.slice.injEq,and_true]at k1
  obtain⟨rfl,_,rfl⟩:=k1;exact .inr ⟨g,cap',cur,e,sz,S',rfl,k2,k3,m3,Nat.le_trans q2 k5,Nat.le_trans (Nat.mul_le_mul_right _ q2) k6,k7,k8⟩
section
variable{A:Av}{ρ:Nat→Nat}{S:Root→List Nat}{hd:Root→Value}{fl:List Nat}{k k':Wk}{vals:List (SV×Value)}{w:World}{nv:Nat}
theorem kA(a:List Tr)(x:Tr)(u:SV):trv (a++[x]) u=x.sv (trv a u):=by
 induction a generalizing u with
 |nil=>rfl
 |cons y a ih=>simp only[List.cons_append,trv];exact ih _
theorem KR.takeOut(h:KR A ρ S hd fl k vals w){r:Root}{t t':T}{p:aE}{es:List T}{h':Value}{L Sn R:List Nat}
  (hr:k.get r=some t) (hS:S r=L++Sn++R) (hf:Focus (aa A k.H.length ρ S fl w) t (hd r) p (.own es) h' L Sn R)
  (hp:t.put p .dead=some t') (hs:k.set r t'=some k'):
  KR A ρ (upd S r (L++R)) hd (Sn++fl) (k'.tell (.kill r p)) vals w∧Ext (aa A k.H.length ρ S fl w) (aa A k.H.length ρ (upd S r (L++R)) (Sn++fl) w):=by
 have hext:Ext (aa A k.H.length ρ S fl w) (aa A k.H.length ρ (upd S r (L++R)) (Sn++fl) w):=(WS.stay (fun b hb=>(Own.detach hS).1 hb)).ext (Nat.le_refl _) (fun _ _=>rfl)
 exact h.giveUp (.kill r p) hr hS hf hp rfl hs (.inl rfl) (by simp only[TC];exact⟨trivial,h',rfl,TC.ones _ _ _ hf.tc _ (by simp)⟩) (fun u v hh hu=>SO.kill hext r p hh hu)
theorem KR.freeze(h:KR A ρ S hd fl k vals w){r:Root}{t t' nd':T}{p:aE}{es:List T}{l:List D}{h':Value}{L Sn R:List Nat}
  (hr:k.get r=some t) (hS:S r=L++Sn++R) (hf:Focus (aa A k.H.length ρ S fl w) t (hd r) p (.own es) h' L Sn R) (hat:t.at p=some (.own es)) (hl:T.frzs false es=some l)
  (hnd:nd'=.dead∨nd'=.d (.sl false l)) (hp:t.put p nd'=some t') (hs:k.set r t'=some k'):
  KR A ρ (upd S r (L++R)) hd fl (k'.tell (.frz r p l)) vals w∧Ext (aa A k.H.length ρ S fl w) (aa A k.H.length ρ (upd S r (L++R)) fl w)∧
   Pure (aa A k.H.length ρ S fl w) (aa A k.H.length ρ (upd S r (L++R)) fl w) false Sn:=by
 have hext:Ext (aa A k.H.length ρ S fl w) (aa A k.H.length ρ (upd S r (L++R)) fl w):=(WS.stay (fun b hb=>Own.drop hS hb)).ext (Nat.le_refl _) (fun _ _=>rfl)
 have hSn:∀b∈Sn,b∈S r:=fun b hb=>by rw[hS];simp[hb]
 have hpure:Pure (aa A k.H.length ρ S fl w) (aa A k.H.length ρ (upd S r (L++R)) fl w) false Sn:=fun g hg=>by
  have hb:=h.blk g (.inl ⟨r,hSn g hg⟩)
  refine⟨⟨fun ho=> ?_,hb.2.1 _,hb.1⟩,rfl⟩
  rcases ho with⟨r',ho⟩ |ho
  ·by_cases hne:r'=r
   ·subst hne
    rw[aG]at ho
    have:=h.dis.nd r'
    rw[hS]at this
    simp only[xT,xK]at this
    rcases List.mem_append.1 ho with ho |ho
    ·exact this.2.2 g ho g (by simp[hg]) rfl
    ·exact this.2.1.2.2 g hg g ho rfl
   ·rw[ai _ _ hne]at ho
    exact hne (h.dis.one r' r g ho (hSn g hg))
  ·exact h.dis.oneF r g (hSn g hg) ho
 have hvc:∀off len v,SB (aa A k.H.length ρ S fl w) k.get hd (.bor r p off len) v→VC (aa A k.H.length ρ (upd S r (L++R)) fl w) (.sl false (win l off len)) [v]:=fun off len v hb=>by
  obtain⟨t0,es0,h0,b1,b2,b3,b4,b5⟩:=hb;rw[hr]at b1
  simp only[xJ]at b1
  subst b1;rw[hat]at b2
  simp only[xJ,T.own.injEq]at b2
  subst b2
  have:h0=h':=NodeH.uniq p t (hd r) h0 h' b3 hf.node
  subst this;exact uL hext hl hpure hf.tc b4 b5
 have:=h.giveUp (M:=[]) (.frz r p l) hr hS hf hp (by rcases hnd with rfl |rfl <;>rfl) hs (.inr rfl) (by
  rcases hnd with rfl |rfl
  ·simp only[TC];exact⟨trivial,h',rfl,TC.ones _ _ _ hf.tc _ (by simp)⟩
  ·simp only[TC]
   exact⟨trivial,T.frz_ok (c:=aa A k.H.length ρ S fl w) hext false (.own es) _ _ Sn (by simp[T.frz,hl]) hpure hf.tc⟩) (fun u v hh hu=>SO.frz hext r p l hh hvc hu)
 exact⟨this.1,hext,hpure⟩
theorem DU{S:Root→List Nat}{fl fl':List Nat}(h:∀b,b∈fl↔b∈fl')(nO:Nat):aa A nO ρ S fl w=aa A nO ρ S fl' w:=by
 unfold aa
 have:(fun(t:Bool) (b:Nat)=>¬Own S fl b∧¬A.F t b∧b<w.heap.size)=(fun t b=>¬Own S fl' b∧¬A.F t b∧b<w.heap.size):=by
  funext t b;simp only[Own,h]
 rw[this]
theorem KR.perm(h:KR A ρ S hd fl k vals w){fl':List Nat}(hp:fl.Perm fl'):KR A ρ S hd fl' k vals w∧aa A k.H.length ρ S fl w=aa A k.H.length ρ S fl' w:=by
 have hm:∀b,b∈fl↔b∈fl':=fun b=>hp.mem_iff
 have e:=DU (A:=A) (ρ:=ρ) (w:=w) (S:=S) hm k.H.length;have ho:∀b,Own S fl' b→Own S fl b:=fun b hb=>hb.imp id (hm b).2
 refine⟨⟨fun r t ht=>by rw[←e];exact h.cont r t ht,h.gone,h.obj,fun n ob he hpl=>by rw[←e];exact h.map n ob he hpl,h.dis.float (hp.nodup_iff.1 h.dis.ndF) (fun b hb=>(hm b).2 hb),fun b hb=>h.blk b (ho b hb),fun p hp=>by rw[←e];exact h.vals p hp,h.fr,h.Fold,h.rho⟩,e⟩
theorem KR.letGo(h:KR A ρ S hd fl k vals w){fl':List Nat}(hn:fl'.Nodup)(hs:∀b∈fl',b∈fl):KR A ρ S hd fl' k vals w∧Ext (aa A k.H.length ρ S fl w) (aa A k.H.length ρ S fl' w):=by
 have hext:Ext (aa A k.H.length ρ S fl w) (aa A k.H.length ρ S fl' w):=(WS.stay (fun b hb=>hb.imp id (hs b))).ext (Nat.le_refl _) (fun _ _=>rfl)
 refine⟨⟨fun r t ht=>TC.ext hext _ _ _ (fun _ _=>rfl) (h.cont r t ht),h.gone,h.obj,fun n ob he hpl=>(h.map n ob he hpl).ext hext (fun _ _=>rfl) rfl rfl,h.dis.float hn hs,fun b hb=>h.blk b (hb.imp id (hs b)),fun p hp=> ?_,h.fr,h.Fold,h.rho⟩,hext⟩
 ·exact SO.keep hext (fun r q=>h.hold _ rfl rfl (fun _ _=>rfl) q) (h.vals p hp)
theorem mh{r:Root}{t:T}(hs:k.set r t=some k'):k'.H.length=k.H.length:=by
 cases r with
 |l n j=>simp only[Wk.set,xJ]at hs;subst hs;rfl
 |o n=>
  simp only[Wk.set]at hs
  split at hs
  ·simp only[xJ]at hs;subst hs;simp
  ·cases hs
theorem wm(h:KR A ρ S hd fl k vals w){v:SV}{val:Value}{t:T}(hv:SB (aa A k.H.length ρ S fl w) k.get hd v val)(hnd:∀y,v≠ .d y)(e:ar nv v k=some (t,k')):
  ∃S' M,KR A ρ S' hd (M++fl) k' vals w∧Ext (aa A k.H.length ρ S fl w) (aa A k'.H.length ρ S' (M++fl) w)∧TC (aa A k'.H.length ρ S' (M++fl) w) t [val] M∧k'.H.length=k.H.length:=by
 cases v with
 |d y=>exact absurd rfl (hnd y)
 |clip b l=>
  simp only[ar,xJ,pJ]at e
  obtain⟨rfl,rfl⟩:=e
  exact⟨S,[],by simpa using h,by simpa using(⟨fun _ _ hp=>⟨hp,rfl⟩,Nat.le_refl _,fun _ _=>rfl⟩:Ext _ _),by simp only[TC,List.nil_append];exact⟨trivial,hv.1⟩,rfl⟩
 |ns b=>
  simp only[ar,xJ,pJ]at e
  obtain⟨rfl,rfl⟩:=e
  exact⟨S,[],by simpa using h,by simpa using(⟨fun _ _ hp=>⟨hp,rfl⟩,Nat.le_refl _,fun _ _=>rfl⟩:Ext _ _),by simp only[TC,List.nil_append];exact⟨trivial,Fv hv⟩,rfl⟩
 |bor r p off len=>
  obtain⟨t0,es,h',b1,b2,b3,b4,b5⟩:=hv;obtain⟨h0,L,Sn,R,hS,foc⟩:=TC.focus p t0 (hd r) (S r) (.own es) (h.cont r t0 b1) b2;have hh:h0=h':=NodeH.uniq p t0 (hd r) h0 h' foc.node b3;subst hh;simp only[ar,b1,b2,xS]at e
  have frozen:∀(nd':T) (k0:Wk) (l:List D) (t1:T),T.frzs false es=some l→(nd'=.dead∨nd'=.d (.sl false l))→t0.put p nd'=some t1→k.set r t1=some k0→
    (T.d (.sl false (win l off len)),k0.tell (.frz r p l))=(t,k')→
    ∃S' M,KR A ρ S' hd (M++fl) k' vals w∧Ext (aa A k.H.length ρ S fl w) (aa A k'.H.length ρ S' (M++fl) w)∧TC (aa A k'.H.length ρ S' (M++fl) w) t [val] M∧k'.H.length=k.H.length:=by
   intro nd' k0 l t1 f1 f2 f3 f4 f5;simp only[pJ]at f5
   obtain⟨rfl,rfl⟩:=f5;obtain⟨g1,g2,g3⟩:=h.freeze b1 hS foc b2 f1 f2 f3 f4;have hl:(k0.tell (.frz r p l)).H.length=k.H.length:=mh (k':=k0) f4
   refine⟨_,[],by simpa using g1,by rw[hl];simpa using g2,?_,hl⟩
   rw[hl];simp only[TC,List.nil_append]
   exact⟨trivial,uL g2 f1 g3 foc.tc b4 b5⟩
  split at e
  ·rename_i n j
   split at e
   ·rename_i hc
    obtain⟨_,rfl,rfl⟩:=hc;simp only[T.at,xJ]at b2
    subst b2;simp only[Wk.set,xQ,xJ,pJ]at e
    obtain⟨rfl,rfl⟩:=e;obtain⟨g1,g2⟩:=h.takeOut (k':={k with ct:=((n,j),.dead)::k.ct}) (t':=.dead) b1 hS foc rfl rfl
    refine⟨_,Sn,g1,g2,?_,rfl⟩
    exact b5.whole (TC.ext g2 _ _ _ (fun _ _=>rfl) foc.tc)
   ·simp only[xB,xM]at e
    obtain⟨l,f1,k0,f2,f3⟩:=e;exact frozen .dead k0 l .dead f1 (.inl rfl) rfl f2 f3
  ·simp only[xB,xM]at e
   obtain⟨l,f1,c',f2,k0,f3,f4⟩:=e;exact frozen _ k0 l c' f1 (.inr rfl) f2 f3 f4
 |agg l=>exact hv.elim
 |tup l=>exact hv.elim
 |_=>simp[ar]at e
theorem wn:∀(l:List SV) (vs:List Value) (ts:List T) (k k':Wk) (S:Root→List Nat) (fl:List Nat),KR A ρ S hd fl k vals w→
  (∀k0 S0 fl0,KR A ρ S0 hd fl0 k0 vals w→k0.H.length=k.H.length→All2 (fun u v=>CO (aa A k0.H.length ρ S0 fl0 w) k0.get hd (trv k0.tr u) v) l vs)→cj nv l k=some (ts,k')→
  ∃S' M,KR A ρ S' hd (M++fl) k' vals w∧Ext (aa A k.H.length ρ S fl w) (aa A k'.H.length ρ S' (M++fl) w)∧TCs (aa A k'.H.length ρ S' (M++fl) w) ts vs M∧k'.H.length=k.H.length
 | [],vs,ts,k,k',S,fl,h,hall,e=>by
  simp only[cj,xJ,pJ]at e
  obtain⟨rfl,rfl⟩:=e
  have:=hall k S fl h rfl
  rw[show vs=[]from this]
  exact⟨S,[],by simpa using h,by simpa using(⟨fun _ _ hp=>⟨hp,rfl⟩,Nat.le_refl _,fun _ _=>rfl⟩:Ext _ _),by simp[TCs],rfl⟩
 |u::l,vs,ts,k,k',S,fl,h,hall,e=>by
  simp only[cj,xB,xM]at e
  obtain⟨⟨t,k1⟩,e1,⟨ts',k2⟩,e2,e3⟩:=e;simp only[pJ]at e3
  obtain⟨rfl,rfl⟩:=e3;obtain⟨v,r,rfl,hv,_⟩:=hall k S fl h rfl
  have step:∃S1 M1,KR A ρ S1 hd (M1++fl) k1 vals w∧Ext (aa A k.H.length ρ S fl w) (aa A k1.H.length ρ S1 (M1++fl) w)∧TC (aa A k1.H.length ρ S1 (M1++fl) w) t [v] M1∧k1.H.length=k.H.length:=by
   by_cases hu:∃y,trv k.tr u=.d y
   ·obtain⟨y,hy⟩:=hu
    rw[hy]at e1 hv
    simp only[ar,xJ,pJ]at e1
    obtain⟨rfl,rfl⟩:=e1
    exact⟨S,[],by simpa using h,by simpa using(⟨fun _ _ hp=>⟨hp,rfl⟩,Nat.le_refl _,fun _ _=>rfl⟩:Ext _ _),by simp only[TC,List.nil_append];exact⟨trivial,hv⟩,rfl⟩
   ·have hu':∀y,trv k.tr u≠ .d y:=fun y hy=>hu ⟨y,hy⟩
    exact wm h (CO.to_SB hu' hv) hu' e1
  obtain⟨S1,M1,g1,g2,g3,g4⟩:=step
  obtain⟨S2,M2,p1,p2,p3,p4⟩:=wn l r ts' k1 k2 S1 (M1++fl) g1 (fun k0 S0 fl0 h0 hl=>by
   obtain⟨b,r',q1,_,q3⟩:=hall k0 S0 fl0 h0 (hl.trans g4);simp only[xC]at q1
   rw[q1.2];exact q3) e2
  have hperm:(M2++(M1++fl)).Perm ((M1++M2)++fl):=by
   rw[xK];exact List.perm_append_comm_assoc M2 M1 fl
  obtain⟨p1',e1'⟩:=p1.perm hperm;rw[e1']at p2 p3
  refine⟨S2,M1++M2,p1',⟨fun b g hp=> ?_,Nat.le_trans g2.nO p2.nO,fun o ho=>rfl⟩,?_,p4.trans g4⟩
  ·have q1:=g2.pm b g hp
   have q2:=p2.pm b g q1.1
   exact⟨q2.1,q2.2.trans q1.2⟩
  ·simp only[TCs]
   exact⟨v,r,M1,M2,rfl,rfl,TC.ext p2 _ _ _ (fun _ _=>rfl) g3,p3⟩
theorem uM(a:List Tr)(l:List SV):trv a (.agg l)=.agg (l.map (trv a)):=by
 induction a generalizing l with
 |nil=>simp[trv]
 |cons x a ih=>
  have svs:∀l,Tr.svs x l=l.map x.sv:=fun l=>by
   induction l with
   |nil=>rfl
   |cons a r ih=>simp[Tr.svs,ih]
  have:x.sv (.agg l)=.agg (l.map x.sv):=by rw[←svs];cases x <;>rfl
  simp only[trv,this,ih,List.map_map];congr 1
theorem Qi(a:List Tr)(y:D):trv a (.d y)=.d y:=by
 induction a with
 |nil=>rfl
 |cons x a ih=>
  have:x.sv (.d y)=.d y:=by cases x <;>rfl
  simp only[trv,this,ih]
theorem All2.of_map{α α' β:Type}{R:α'→β→Prop}(g:α→α'):∀{as:List α} {l:List β},All2 R (as.map g) l→All2 (fun a b=>R (g a) b) as l
 | [],_,h=>h
 |a::as,l,h=>by
  obtain⟨b,r,h1,h2,h3⟩:=h
  exact⟨b,r,h1,h2,All2.of_map g h3⟩
theorem hD(h:KR A ρ S hd fl k vals w){v:SV}{val:Value}{t:T}(hm:(v,val)∈vals)(e:bD nv v k=some (t,k')):
  ∃S' M,KR A ρ S' hd (M++fl) k' vals w∧Ext (aa A k.H.length ρ S fl w) (aa A k'.H.length ρ S' (M++fl) w)∧TC (aa A k'.H.length ρ S' (M++fl) w) t val.cells.toList M∧k'.H.length=k.H.length:=by
 have hv:=h.vals (v,val) hm
 by_cases hag:∃l,v=.agg l
 ·obtain⟨l,rfl⟩:=hag
  simp only[bD,xM]at e
  obtain⟨⟨ts,k1⟩,e1,e2⟩:=e;simp only[pJ]at e2
  obtain⟨rfl,rfl⟩:=e2
  have all:∀k0 S0 fl0,KR A ρ S0 hd fl0 k0 vals w→∃cs,val=.agg cs∧All2 (fun u v=>CO (aa A k0.H.length ρ S0 fl0 w) k0.get hd (trv k0.tr u) v) l cs.toList:=fun k0 S0 fl0 h0=>by
   have:=h0.vals _ hm
   simp only[uM]at this
   obtain⟨cs,h1,h2⟩:=this
   exact⟨cs,h1,h2.of_map⟩
  obtain⟨cs,rfl,_⟩:=all k S fl h
  obtain⟨S',M,g1,g2,g3,g4⟩:=wn (nv:=nv) l cs.toList ts k k1 S fl h (fun k0 S0 fl0 h0 hl=>by
   obtain⟨cs',h1,h2⟩:=all k0 S0 fl0 h0;simp only[Value.agg.injEq]at h1
   rw[h1];exact h2) e1
  exact⟨S',M,g1,g2,TC.mk g3,g4⟩
 ·have hne:∀l,v≠ .agg l:=fun l hl=>hag ⟨l,hl⟩
  have e':ar nv (trv k.tr v) k=some (t,k'):=by
   revert e hne
   cases v <;>intro e hne <;>first |exact e |exact absurd rfl (hne _)
  simp only at hv
  by_cases hd':∃y,trv k.tr v=.d y
  ·obtain⟨y,hy⟩:=hd'
   rw[hy]at e' hv
   simp only[ar,xJ,pJ]at e'
   obtain⟨rfl,rfl⟩:=e'
   exact⟨S,[],by simpa using h,by simpa using(⟨fun _ _ hp=>⟨hp,rfl⟩,Nat.le_refl _,fun _ _=>rfl⟩:Ext _ _),by simp only[TC,List.nil_append];exact⟨trivial,hv.1⟩,rfl⟩
  ·have hnd:∀y,trv k.tr v≠ .d y:=fun y hy=>hd' ⟨y,hy⟩
   by_cases htu:∃l,trv k.tr v=.tup l
   ·obtain⟨l,hl⟩:=htu
    rw[hl]at e'
    simp[ar]at e'
   ·by_cases hag':∃l,trv k.tr v=.agg l
    ·obtain⟨l,hl⟩:=hag'
     rw[hl]at e'
     simp[ar]at e'
    ·have hsb:=S1.to_SB (fun l hl=>hag' ⟨l,hl⟩) (SO.to_S1 (fun l hl=>htu ⟨l,hl⟩) hv)
     obtain⟨S',M,g1,g2,g3,g4⟩:=wm h hsb hnd e'
     refine⟨S',M,g1,g2,?_,g4⟩
     rw[fz (TC.ones _ _ _ g3 val (by simp))]
     exact g3
end
theorem wo{c:Cx}{x:D}{cs:List Value}(h:VC c x cs):TC c (T.ofD1 x) cs []:=by
 cases x <;>first |(simp only[T.ofD1,TC];exact⟨trivial,h⟩) |skip
 simp only[VC]at h
 exact .inl ⟨none,h,rfl,rfl⟩
theorem zr{c:Cx}:∀(l:List D) (cs:List Value),VCs c l cs→TCs c (l.map T.ofD1) cs []
 | [],cs,h=>by simp only[VCs]at h;simp[h,TCs]
 |d::ds,cs,h=>by
  simp only[VCs]at h
  obtain⟨v,r,rfl,h2,h3⟩:=h;simp only[List.map_cons,TCs]
  exact⟨v,r,[],[],rfl,rfl,wo h2,zr ds r h3⟩
theorem DV{c:Cx}{z:D}{cs:List Value}(h:VC c z cs):TC c (T.ofZero z) cs []:=by
 unfold T.ofZero;split
 ·rename_i l
  simp only[VC]at h
  split
  ·exact zr l cs h
  ·simp only[TC,VC];exact⟨trivial,h⟩
 ·exact wo h
theorem Gq{c:Cx}{t:T}{cs:List Value}{M:List Nat}(h:TC c t cs M):TC c (T.fresh1 t) cs M:=by
 cases t with
 |d x=>simp only[TC]at h;obtain⟨rfl,h⟩:=h;exact wo h
 |_=>exact h
theorem wp{c:Cx}:∀(l:List T) (cs:List Value) (M:List Nat),TCs c l cs M→TCs c (l.map T.fresh1) cs M
 | [],cs,M,h=>h
 |t::ts,cs,M,h=>by
  simp only[TCs]at h
  obtain⟨v,r,S1,S2,rfl,rfl,h1,h2⟩:=h;simp only[List.map_cons,TCs]
  exact⟨v,r,S1,S2,rfl,rfl,Gq h1,wp ts r S2 h2⟩
theorem Ca{c:Cx}{t:T}{cs:List Value}{M:List Nat}(h:TC c t cs M):TC c (T.fresh t) cs M:=by
 cases t with
 |d x=>simp only[TC]at h;obtain⟨rfl,h⟩:=h;exact DV h
 |agg l=>simp only[TC]at h ⊢;simp only[T.fresh,TC];exact wp l cs M h
 |_=>exact h
theorem wq{A:Av}{ρ:Nat→Nat}{S:Root→List Nat}{hd:Root→Value}{fl:List Nat}{k k':Wk}{vals:List (SV×Value)}{w:World}{nv:Nat}(h:KR A ρ S hd fl k vals w){v:SV}{val:Value}{t:T}(hm:(v,val)∈vals)(e:dB nv v k=some (t,k')):
  ∃S' M,KR A ρ S' hd (M++fl) k' vals w∧Ext (aa A k.H.length ρ S fl w) (aa A k'.H.length ρ S' (M++fl) w)∧TC (aa A k'.H.length ρ S' (M++fl) w) t val.cells.toList M∧k'.H.length=k.H.length:=by
 simp only[dB,xM,pJ]at e
 obtain⟨⟨t0,k0⟩,e,rfl,rfl⟩:=e;obtain⟨S',M,g1,g2,g3,g4⟩:=hD h hm e
 exact⟨S',M,g1,g2,Ca g3,g4⟩
theorem pQ{P:Program}{t:TypeId}{d:TypeDesc}(h:P.underlying t=some d):∃i,P.info? t=some i:=by
 unfold Program.underlying at h
 cases hi:P.info? t with
 |none=>rw[hi]at h;cases h
 |some i=>exact⟨i,rfl⟩
theorem DW{P:Program}{t:TypeId}{d:TypeDesc}(h:P.underlying t=some d)(w:World):(sizeOf t).run P w=.ok (P.cellsOf t) w:=by
 obtain⟨i,hi⟩:=pQ h;simp[sizeOf,typeInfo,hi,Program.cellsOf]
theorem hJ{P:Program}{t:TypeId}{b:Bool}(h:jW P t=some b)(w:World):(isAgg t).run P w=.ok b w∧(sizeOf t).run P w=.ok (P.cellsOf t) w:=by
 unfold jW at h
 cases hu:P.underlying t with
 |none=>rw[hu]at h;cases h
 |some d=>
  rw[hu]at h
  refine⟨?_,DW hu w⟩
  simp only[isAgg,Sem.run_bind,run_underlying hu,Result.andThen_ok]
  cases d <;>simp_all
theorem gC{P:Program}{t:TypeId}{w:World}{a:Addr}{cs:List Value}(h:jW P t=some true)(hn:cs.length=P.cellsOf t)(hc:∀j u,cs[j]? =some u→w.cell? (a.add j)=some u):
  (loadVar t a).run P w=.ok (.agg cs.toArray) w:=by
 obtain⟨h1,h2⟩:=hJ h w;have h3:=run_loadCells_list (P:=P) w a cs hc;rw[hn]at h3
 simp only[loadVar,Sem.run_bind,h1,Result.andThen_ok,if_true,h2,h3,Sem.run_pure]
theorem lP{P:Program}{t:TypeId}{w:World}{a:Addr}{v:Value}(h:jW P t=some false)(hc:w.cell? a=some v):
  (loadVar t a).run P w=.ok v w:=by
 obtain⟨h1,_⟩:=hJ h w;simp only[loadVar,Sem.run_bind,h1,Result.andThen_ok,xH,if_false,run_load,hc]
theorem T.at_append:∀(p q:aE) (t:T),t.at (p++q)=(t.at p).bind (·.at q)
 | [],q,t=>rfl
 |(i,off)::p,q,t=>by
  cases t with
  |own es=>
   simp only[List.cons_append,T.at,xX]
   congr 1;funext e;congr 1;funext c
   exact T.at_append p q c
  |_=>simp[T.at]
theorem NodeH.append{c:Cx}:∀(p q:aE) (t nd:T) (h h1 h2:Value),t.at p=some nd→NodeH c h t p h1→NodeH c h1 nd q h2→NodeH c h t (p++q) h2
 | [],q,t,nd,h,h1,h2,ha,hn,hq=>by
  simp only[T.at,xJ]at ha
  simp only[NodeH]at hn
  subst ha;subst hn;exact hq
 |(i,off)::p,q,t,nd,h,h1,h2,ha,hn,hq=>by
  cases t with
  |own es=>
   simp only[T.at,xB]at ha
   obtain⟨e0,he,c0,hc,ha⟩:=ha;simp only[List.cons_append,NodeH]at hn ⊢
   obtain⟨g,len,cap,cur,e,el,ct,cv,n1,n2,n3,n4,n5,n6⟩:=hn;rw[he]at n3
   simp only[xJ]at n3
   subst n3;rw[hc]at n4
   simp only[xJ]at n4
   subst n4
   exact⟨g,len,cap,cur,e,e0,c0,cv,n1,n2,he,hc,n5,NodeH.append p q c0 nd cv h1 h2 ha n6 hq⟩
  |_=>simp[T.at]at ha
section
variable{P:Program}{A:Av}{ρ:Nat→Nat}{S:Root→List Nat}{hd:Root→Value}{fl:List Nat}{k k':Wk}{vals:List (SV×Value)}{w:World}
structure Place(c:Cx)(t:T)(h:Value)(Sr:List Nat)(p:aE)(i off:Nat)(v:Value)(es:List T)(el:T)(g cap:Nat)(cur:Array Value)(e:TypeId)(sz:Nat)(c1:List Value)(L Sn R L1 Se R1:List Nat):Prop where
 foc:Focus c t h p (.own es) (.slice (some ⟨g,0,none⟩) es.length cap) L Sn R
 hS:Sr=L++Sn++R
 hSn:Sn=g::(L1++Se++R1)
 hel:es[i]? =some el
 hoff:off<el.nc
 hv:v=.pointer (some ⟨g,i * sz+off,none⟩)
 hg:c.w.heap[g]? =some (.cells cur e (0,0))
 hle:es.length≤cap
 hcap:cap≤maxLen
 hcur:cap * sz≤cur.size
 hsz:0<sz
 hnc:el.nc=sz
 hc1:c1.length=sz
 hcs:cur.toList.take (es.length * sz)=(cur.toList.take (es.length * sz)).take (i * sz)++c1++(cur.toList.take (es.length * sz)).drop (i * sz+sz)
 hci:((cur.toList.take (es.length * sz)).take (i * sz)).length=i * sz
 hte:TC c el c1 Se
 hL1:TE c (es.take i) sz ((cur.toList.take (es.length * sz)).take (i * sz)) L1
 hR1:TE c (es.drop (i+1)) sz ((cur.toList.take (es.length * sz)).drop (i * sz+sz)) R1
theorem Cb{c:Cx}{K:Root→Option T}{r:Root}{p:aE}{i off:Nat}{v:Value}{S:Root→List Nat}(hc:∀t,K r=some t→TC c t [hd r] (S r))(h:SB c K hd (.loc r p i off) v):
  ∃t es el g cap cur e sz c1 L Sn R L1 Se R1,K r=some t∧t.at p=some (.own es)∧Place c t (hd r) (S r) p i off v es el g cap cur e sz c1 L Sn R L1 Se R1:=by
 obtain⟨t,es,g,n,cap,el,h1,h2,h3,h4,h5,h6⟩:=h;obtain⟨h0,L,Sn,R,hS,foc⟩:=TC.focus p t (hd r) (S r) (.own es) (hc t h1) h2;have hh:h0=.slice (some ⟨g,0,none⟩) n cap:=NodeH.uniq p t (hd r) _ _ foc.node h3;subst hh
 rcases foc.tc with⟨a,_,k2,_⟩ |⟨g',cap',cur,e,sz,S',k1,k2,k3,k4,k5,k6,k7,k8⟩
 ·subst k2;simp at h4
 ·simp only[xC,Value.slice.injEq,xJ,Addr.mk.injEq,and_true]at k1
  obtain⟨rfl,rfl,rfl⟩:=k1;obtain⟨c1,L1,Se,R1,m1,m2,m3,m4,m5,m6,m7⟩:=TE.get k8 h4;have hnc:el.nc=sz:=by rw[←TC.len _ _ _ m5,m1]
  exact⟨t,es,el,g,cap,cur,e,sz,c1,L,Sn,R,L1,Se,R1,h1,h2,⟨foc,hS,by rw[k2,m4],h4,h5,by rw[h6,hnc],k3,k4,k5,k6,Nat.pos_of_mul_pos_left k7,hnc,m1,m2,m3,m5,m6,m7⟩⟩
theorem Place.cell{c:Cx}{t:T}{h:Value}{Sr:List Nat}{p:aE}{i off:Nat}{v:Value}{es:List T}{el:T}{g cap:Nat}{cur:Array Value}{e:TypeId}{sz:Nat}{c1:List Value}{L Sn R L1 Se R1:List Nat}
  (pl:Place c t h Sr p i off v es el g cap cur e sz c1 L Sn R L1 Se R1) {j:Nat} {u:Value} (hj:c1[j]? =some u):cur[i * sz+j]? =some u∧c.w.cell? ⟨g,i * sz+j,none⟩=some u:=by
 have:=Fu pl.hcs pl.hci hj
 exact⟨this,by simp[World.cell?,pl.hg,this]⟩
theorem D.sv1_ok{x:D}{sv:SV}(h:x.sv1=some sv):sv=.d x∧∀l,x≠ .agg l:=by
 cases x <;>simp_all [D.sv1]
theorem T.cells_cell{t ct:T}{off:Nat}(h:t.cells[off]? =some ct):t.cell off=some ct:=by
 have one:t.cells=[t]→(∀l,t≠ .agg l)→(∀l,t≠ .d (.agg l))→t.cell off=some ct:=fun hc h1 h2=>by
  rw[hc]at h
  cases off with
  |zero=>
   simp only[yE,xJ]at h
   subst h
   cases t with
   |agg l=>exact absurd rfl (h1 l)
   |d x=>cases x <;>first |rfl |exact absurd rfl (h2 _)
   |_=>rfl
  |succ n=>simp at h
 cases t with
 |agg cs=>simpa [T.cells,T.cell]using h
 |d x=>cases x <;>first |(exact one rfl (by simp) (by simp)) |simpa [T.cells,T.cell]using h
 |own es0=>exact one rfl (by simp) (by simp)
 |dead=>exact one rfl (by simp) (by simp)
theorem zt{c:Cx}{K:Root→Option T}{r:Root}{t:T}{p:aE}{i off:Nat}{v:Value}{es:List T}{el ct:T}{g cap:Nat}{cur:Array Value}{e:TypeId}{sz:Nat}{c1:List Value}{L Sn R L1 Se R1:List Nat}{Sr:List Nat}
  (hK:K r=some t) (hat:t.at p=some (.own es)) {o:Nat} (pl:Place c t (hd r) Sr p i o v es el g cap cur e sz c1 L Sn R L1 Se R1) (hct:el.cells[off]? =some ct) {sv:SV} (hsv:dy r p i off ct=some sv):
  ∃u,c1[off]? =some u∧CO c K hd sv u∧u.oneCell'=true:=by
 obtain⟨u,L2,Sc,R2,m1,m2,m3,m4,m5⟩:=TCs.get pl.hte.cells hct
 refine⟨u,m1,?_,TC.ones _ _ _ m3 u (by simp)⟩
 cases ct with
 |d x=>
  simp only[TC]at m3
  obtain⟨rfl,_⟩:=D.sv1_ok hsv;exact m3.2
 |own es'=>
  simp only[dy,xJ]at hsv
  subst hsv;have hcell:el.cell off=some (.own es'):=T.cells_cell hct
  have hnode:NodeH c (.slice (some ⟨g,0,none⟩) es.length cap) (.own es) [(i,off)] u:=by
   simp only[NodeH]
   exact⟨g,es.length,cap,cur,e,el,.own es',u,rfl,pl.hg,pl.hel,hcell,by rw[pl.hnc];exact(pl.cell m1).1,rfl⟩
  refine⟨t,es',u,hK,by rw[T.at_append,hat];simp[T.at,pl.hel,hcell],NodeH.append p _ t _ _ _ _ hat pl.foc.node hnode,by omega,?_⟩
  rcases m3 with⟨a,k1,k2,_⟩ |⟨g',cap',cur',e',sz',S',k1,k2,k3,k4,k5,k6,k7,k8⟩
  ·simp only[xC,and_true]at k1
   subst k2
   exact⟨a,0,0,a,0,k1,by simpa using k1,Nat.le_refl _,fun _=>⟨rfl,Nat.le_refl _⟩,fun h0=>by simp at h0⟩
  ·simp only[xC,and_true]at k1
   refine⟨_,es'.length,cap',_,cap',k1,k1,k4,fun _=>⟨rfl,Nat.le_refl _⟩,fun h0=> ?_⟩
   exact⟨g',es'[0],rfl,by simp,by simp⟩
 |agg l=>simp[dy]at hsv
 |dead=>simp[dy]at hsv
theorem wt{c:Cx}{K:Root→Option T}{r:Root}{t:T}{p:aE}{i o:Nat}{v:Value}{es:List T}{el:T}{g cap:Nat}{cur:Array Value}{e:TypeId}{sz:Nat}{c1:List Value}{L Sn R L1 Se R1:List Nat}{Sr:List Nat}
  (hK:K r=some t) (hat:t.at p=some (.own es)) (pl:Place c t (hd r) Sr p i o v es el g cap cur e sz c1 L Sn R L1 Se R1):∀(cs:List T) (off:Nat) (svs:List SV),(∀(j:Nat) (x:T),cs[j]? =some x→el.cells[off+j]? =some x)→eT r p i off cs=some svs→
  All2 (CO c K hd) svs (win c1 off cs.length)
 | [],off,svs,_,h=>by
  simp only[eT,xJ]at h
  subst h;simp[win,All2]
 |ct::cs,off,svs,hc,h=>by
  simp only[eT,xB,xM]at h
  obtain⟨sv,h1,svs',h2,rfl⟩:=h;obtain⟨u,m1,m2,_⟩:=zt hK hat pl (by simpa using hc 0 ct rfl) h1
  have ih:=wt hK hat pl cs (off+1) svs' (fun j x hj=>by have:=hc (j+1) x (by simpa using hj);rwa [show off+(j+1)=off+1+j by omega]at this) h2
  have hlt:=(List.getElem?_eq_some_iff.1 m1).1
  refine⟨u,win c1 (off+1) cs.length,?_,m2,ih⟩
  simp only[win,xZ];obtain⟨_,hx⟩:=List.getElem?_eq_some_iff.1 m1;rw[xW hlt,List.take_succ_cons,hx]
theorem SV.pures_ok{c:Cx}{K:Root→Option T}:∀(l:List SV) (ds:List D) (vs:List Value),SV.pures l=some ds→All2 (CO c K hd) l vs→VCs c ds vs
 | [],ds,vs,h,ha=>by
  simp only[SV.pures,xJ]at h
  subst h;rw[show vs=[]from ha]
  simp[VCs]
 |u::l,ds,vs,h,ha=>by
  cases u with
  |d x=>
   simp only[SV.pures,xM]at h
   obtain⟨r,h1,rfl⟩:=h;obtain⟨v,q,rfl,h2,h3⟩:=ha;simp only[VCs]
   exact⟨v,q,rfl,h2,SV.pures_ok l r q h1 h3⟩
  |_=>simp[SV.pures]at h
theorem SV.mkAgg_ok{c:Cx}{K:Root→Option T}{l:List SV}{vs:List Value}(h:All2 (CO c K hd) l vs):SO c K hd (SV.mkAgg l) (.agg vs.toArray):=by
 unfold SV.mkAgg;split
 ·rename_i ds hds
  exact VV.agg (by simpa using SV.pures_ok l ds vs hds h)
 ·exact⟨_,rfl,by simpa using h⟩
theorem qQ(h:KR A ρ S hd fl k vals w){u:SV}{v:Value}(hu:SO (aa A k.H.length ρ S fl w) k.get hd u v){r:Root}{p:aE}{i off:Nat}{t0:T}(hl:asLoc u=.loc r p i off)(hc:k.get r=some t0):SB (aa A k.H.length ρ S fl w) k.get hd (.loc r p i off) v:=by
 by_cases hp:∃n,u=.d (.ptr n)
 ·obtain⟨n,rfl⟩:=hp
  simp only[asLoc,SV.loc.injEq]at hl
  obtain⟨rfl,rfl,rfl,rfl⟩:=hl
  have hb:∃c,k.H[n]? =some (.box c)∧t0=.own [c]:=by
   simp only[Wk.get,cont]at hc
   cases hH:k.H[n]? with
   |none=>rw[hH]at hc;cases hc
   |some x=>
    rw[hH]at hc
    cases x with
    |box c=>simp only[xJ]at hc;exact⟨c,rfl,hc.symm⟩
    |_=>cases hc
  obtain⟨c,hH,rfl⟩:=hb;have hv:VC (aa A k.H.length ρ S fl w) (.ptr n) [v]:=VV.inv hu (by simp)
  simp only[VC,xC,and_true]at hv
  have hnc:0<c.nc:=by
   rcases h.cont _ _ hc with⟨a,_,k2,_⟩ |⟨g',cap',cur,e,sz,S',k1,k2,k3,k4,k5,k6,k7,k8⟩
   ·cases k2
   ·rw[(TE.len _ _ _ _ k8).2 c (by simp)];exact Nat.pos_of_mul_pos_left k7
  refine⟨.own [c],[c],ρ n,1,1,c,hc,rfl,by rw[h.obj];rfl,rfl,hnc,by simpa [aa]using hv.2⟩
 ·by_cases hq:∃cs,u=.d (.rptr cs)
  ·obtain⟨cs,rfl⟩:=hq
   simp[asLoc]at hl
  have:asLoc u=u:=by
   cases u with
   |d x=>cases x <;>first |rfl |exact absurd ⟨_,rfl⟩ hp |exact absurd ⟨_,rfl⟩ hq
   |_=>rfl
  rw[this]at hl
  subst hl;exact hu
theorem wu{c:Cx}{K:Root→Option T}{u:SV}{v:Value}{b:Bool}{cs:List D}(hl:asLoc u=.rp b cs)(hu:SO c K hd u v):SB c K hd (.rp b cs) v:=by
 cases u with
 |d x=>
  cases x with
  |rptr cs'=>
   simp only[asLoc,SV.rp.injEq]at hl
   obtain⟨rfl,rfl⟩:=hl;have h1:VC c (.rptr cs') [v]:=VV.inv hu (by simp)
   simp only[VC,xC,and_true]at h1
   exact h1
  |_=>simp[asLoc]at hl
 |rp b' cs'=>
  simp only[asLoc]at hl
  rw[←hl];exact hu
 |_=>simp[asLoc]at hl
theorem eC{α:Type}(l:List α)(o n:Nat)(h:o+n≤l.length):(win l o n).length=n:=by simp only[win,yR,List.length_drop];omega
theorem uN{α:Type}{l:List α}{o n j:Nat}{x:α}(h:(win l o n)[j]? =some x):l[o+j]? =some x:=by
 simp only[win,xU,List.getElem?_drop]at h
 split at h
 ·exact h
 ·cases h
theorem qR(h:KR A ρ S hd fl k vals w){t:TypeId}{u sv:SV}{v:Value}(hu:SO (aa A k.H.length ρ S fl w) k.get hd u v)(e:dW P t u k=some sv):
  ∃val,(Instr.loadAt t v).run P w=.ok val w∧SO (aa A k.H.length ρ S fl w) k.get hd sv val:=by
 unfold dW at e
 split at e
 ·rename_i r p i off hl
  simp only[xB]at e
  obtain⟨t0,hc,nd,hat,e⟩:=e
  split at e
  ·rename_i es
   simp only[xB]at e
   obtain⟨el,hel,ag,hag,e⟩:=e;obtain⟨t1,es1,el1,g,cap,cur,ty,sz,c1,L,Sn,R,L1,Se,R1,q1,q2,pl⟩:=Cb (fun t=>h.cont r t) (qQ h hu hl hc)
   rw[hc]at q1
   simp only[xJ]at q1
   subst q1;rw[hat]at q2
   simp only[xJ,T.own.injEq]at q2
   subst q2
   have:=pl.hel
   rw[hel]at this
   simp only[xJ]at this
   subst this;have hv:=pl.hv;subst hv;simp only[Instr.loadAt,Instr.sureAddr,Sem.run_bind,Sem.run_pure,Result.andThen_ok]
   have rd:∀(n:Nat) (j:Nat) (x:Value),(win c1 off n)[j]? =some x→w.cell? ((⟨g,i * sz+off,none⟩:Addr).add j)=some x:=fun n j x hj=>by
    rw[aL,Nat.add_assoc]
    exact(pl.cell (uN hj)).2
   cases ag with
   |true=>
    simp only[if_true]at e
    split at e
    ·rename_i l
     split at e
     ·rename_i hle
      simp only[xJ]at e
      subst e;have hte:=pl.hte;simp only[TC,VC]at hte
      have hlen:=VCs.len _ _ hte.2
      refine⟨_,gC (cs:=win c1 off (P.cellsOf t)) hag (eC _ _ _ (by omega)) (rd _),?_⟩
      exact VV.agg (by simpa using VCs.win l c1 hte.2 off (P.cellsOf t))
     ·cases e
    ·rename_i cs
     split at e
     ·rename_i hle
      simp only[xM]at e
      obtain⟨svs,e1,rfl⟩:=e;have hlen:=TCs.len _ _ _ (show TCs _ cs c1 Se from pl.hte)
      have a2:=wt (K:=k.get) hc hat pl _ off svs (fun j x hj=>by
       have:=uN hj
       simpa [T.cells]using this) e1
      rw[eC cs _ _ (by omega)]at a2
      exact⟨_,gC (cs:=win c1 off (P.cellsOf t)) hag (eC _ _ _ (by omega)) (rd _),SV.mkAgg_ok a2⟩
     ·cases e
    ·cases e
   |false=>
    simp only[xH,if_false,xB]at e
    obtain⟨ct,hct,e⟩:=e;obtain⟨x,m1,m2,m3⟩:=zt (K:=k.get) hc hat pl (T.cell_cells hct) e
    refine⟨x,lP hag (pl.cell m1).2,?_⟩
    cases ct with
    |d y=>
     obtain⟨rfl,hy⟩:=D.sv1_ok e;exact VV.one m2 hy
    |own es'=>simp only[dy,xJ]at e;subst e;exact m2
    |agg l=>simp[dy]at e
    |dead=>simp[dy]at e
  ·cases e
 ·rename_i b cs hl
  replace hu:=wu hl hu
  simp only[xB]at e
  obtain⟨ag,hag,e⟩:=e;obtain⟨a,vs,rfl,h2,h3,h4,h5⟩:=hu;have hlen:=VCs.len _ _ h5;simp only[Instr.loadAt,Instr.sureAddr,Sem.run_bind,Sem.run_pure,Result.andThen_ok]
  cases ag with
  |true=>
   simp only[if_true]at e
   split at e
   ·rename_i hle
    simp only[xJ]at e
    subst e
    refine⟨_,gC (cs:=vs.take (P.cellsOf t)) hag (by simp;omega) (fun j x hj=>h4 j x ?_),?_⟩
    ·rw[xU]at hj
     split at hj
     ·exact hj
     ·cases hj
    ·have:=VCs.win cs vs h5 0 (P.cellsOf t)
     simp only[win,List.drop_zero]at this
     exact VV.agg (by simpa using this)
   ·cases e
  |false=>
   simp only[xH,if_false,xB]at e
   obtain⟨x,hx,e⟩:=e;obtain⟨rfl,hy⟩:=D.sv1_ok e;obtain⟨y,m1,m2⟩:=VCs.get cs vs h5 0 x hx
   exact⟨y,lP hag (by have:=h4 0 y m1;simpa [Addr.add,aa]using this),VV.one m2 hy⟩
 ·cases e
theorem IG{el ct:T}{b:Nat}{q:aE}{es:List T}(h1:el.cell b=some ct)(h2:ct.at q=some (.own es)):mb el=true:=by
 have:∃l,ct=.own l:=by
  cases ct with
  |own l=>exact⟨l,rfl⟩
  |d x=>cases q <;>simp[T.at]at h2
  |agg l=>cases q <;>simp[T.at]at h2
  |dead=>cases q <;>simp[T.at]at h2
 obtain⟨l,rfl⟩:=this
 cases el with
 |own l'=>rfl
 |agg cs=>
  simp only[T.cell]at h1
  simp only[mb,List.any_eq_true]
  exact⟨_,yS h1,rfl⟩
 |d x=>cases x <;>simp[T.cell]at h1
 |dead=>simp[T.cell]at h1
theorem Cc{X c1 vs:List Value}{a sz off N:Nat}(hN:X.take N=(X.take N).take a++c1++(X.take N).drop (a+sz))(ha:((X.take N).take a).length=a)(h1:c1.length=sz)(hf:off+vs.length≤sz):
  (X.take (a+off)++vs++X.drop (a+off+vs.length)).take N=(X.take N).take a++(c1.take off++vs++c1.drop (off+vs.length))++(X.take N).drop (a+sz):=by
 have hlen:=congrArg List.length hN;simp only[xP,yR,List.length_drop]at hlen ha
 have hc:∀j,j<sz→c1[j]? =X[a+j]? :=fun j hj=>by
  have e1:(X.take N)[a+j]? =c1[j]? :=by
   rw[hN,xK,xN (by simp;omega)]
   simp only[yR];rw[show a+j - min a (min N X.length)=j by omega,xO (by omega)]
  rw[←e1,xU,if_pos (by omega)]
 apply List.ext_getElem?;intro j
 by_cases h0:j<a
 ·rw[xU,if_pos (by omega),xK,xO (by simp;omega),xK,xO (by simp;omega)]
  simp only[xU];rw[if_pos (by omega),if_pos h0,if_pos (by omega)]
 ·by_cases h2:j<a+sz
  ·have hr:((X.take N).take a++(c1.take off++vs++c1.drop (off+vs.length))++(X.take N).drop (a+sz))[j]? =(c1.take off++vs++c1.drop (off+vs.length))[j - a]? :=by
    rw[xK,xN (by simp;omega)]
    simp only[yR];rw[show j - min a (min N X.length)=j - a by omega,xO (by simp;omega)]
   rw[hr,xU,if_pos (by omega)]
   by_cases h3:j<a+off
   ·rw[xK,xO (by simp;omega),xK,xO (by simp;omega)]
    simp only[xU];rw[if_pos h3,if_pos (by omega),hc _ (by omega)]
    congr 1;omega
   ·by_cases h4:j<a+off+vs.length
    ·rw[xK,xN (by simp;omega),xO (by simp;omega),xK,xN (by simp;omega),xO (by simp;omega)]
     congr 1;simp;omega
    ·rw[xN (by simp;omega),xN (by simp;omega)]
     simp only[xP,yR,List.getElem?_drop];rw[hc _ (by omega)]
     congr 1;omega
  ·have hr:((X.take N).take a++(c1.take off++vs++c1.drop (off+vs.length))++(X.take N).drop (a+sz))[j]? =(X.take N)[j]? :=by
    rw[xN (by simp;omega),List.getElem?_drop]
    congr 1;simp;omega
   rw[hr,xU,xU];split
   ·rw[xN (by simp;omega),List.getElem?_drop]
    congr 1;simp;omega
   ·rfl
theorem eW(w:World)(g b:Nat)(cs:Array Value)(h:b≠g):(w.setRow g cs).heap[b]? =w.heap[b]? :=by
 simp only[World.setRow,Array.getElem?_modify];rw[if_neg (Ne.symm h)]
theorem KR.write{r:Root}{t t':T}{p:aE}{i off:Nat}{v:Value}{es:List T}{el el':T}{g cap:Nat}{cur:Array Value}{ty:TypeId}{sz:Nat}{c1 vs:List Value}{L Sn R L1 Se R1:List Nat}{M:List Nat}{o:Nat}
  (h:KR A ρ S hd (M++fl) k vals w) (hr:k.get r=some t) (hat:t.at p=some (.own es)) (pl:Place (aa A k.H.length ρ S (M++fl) w) t (hd r) (S r) p i o v es el g cap cur ty sz c1 L Sn R L1 Se R1)
  (hf:off+vs.length≤sz) (hnc:el'.nc=el.nc) (hp:t.put p (.own (es.set i el'))=some t') (hs:k.set r t'=some k') {La Mb Rc:List Nat} (hSe:Se=La++Mb++Rc)
  (hel:∀c',Ext (aa A k.H.length ρ S (M++fl) w) c'→Kept (aa A k.H.length ρ S (M++fl) w) c' (La++M++Rc)→TC c' el' (c1.take off++vs++c1.drop (off+vs.length)) (La++M++Rc)):
  let w':=w.setRow g (cur.toList.take (i * sz+off)++vs++cur.toList.drop (i * sz+off+vs.length)).toArray
  let k'':=if mb el then k'.tell (.killN r (p.length+1))else k'
  ∃S',KR A ρ S' hd fl k'' vals w'∧Ext (aa A k.H.length ρ S (M++fl) w) (aa A k.H.length ρ S' fl w'):=by
 intro w' k'';obtain⟨g1,g2,g3,g4⟩:=Wk.set_spec hs ⟨t,hr,fun _ _=>trivial⟩
 have hSr:=pl.hS;rw[pl.hSn,hSe]at hSr
 have e1:S r=(L++g::(L1++La))++Mb++(Rc++R1++R):=by rw[hSr];simp
 have d1:=h.dis.drop e1;have d2:=Dis.attach (r:=r) (L:=L++g::(L1++La)) (M:=M) (R:=Rc++R1++R) (fl:=fl) d1 (by simp)
 have e2:upd (upd S r ((L++g::(L1++La))++(Rc++R1++R))) r ((L++g::(L1++La))++M++(Rc++R1++R))=upd S r ((L++g::(L1++La))++M++(Rc++R1++R)):=by
  funext x;simp only[upd];split <;>rfl
 rw[e2]at d2
 have own1:∀b,Own (upd S r ((L++g::(L1++La))++M++(Rc++R1++R))) fl b→Own S (M++fl) b:=fun b hb=>by
  rw[←e2]at hb
  exact Own.drop e1 ((Own.attach (r:=r) (L:=L++g::(L1++La)) (M:=M) (R:=Rc++R1++R) (by simp)).1 hb)
 have hgS:g∈S r:=by rw[hSr];simp
 have hw':∀b,b≠g→w'.heap[b]? =w.heap[b]? :=fun b hb=>eW w g b _ hb
 have ws:WS S (M++fl) w (upd S r ((L++g::(L1++La))++M++(Rc++R1++R))) fl w':=
  ⟨rfl,rfl,rfl,by simp[w'],fun b _ hn=>hw' b (fun e=>hn (.inl ⟨r,e▸hgS⟩)),fun b hb=>.inl (own1 b hb),Recs.other (g:=g) hw' (fun r=>by rw[show w.heap[g]? =_ from pl.hg];simp)⟩
 have ext:Ext (aa A k.H.length ρ S (M++fl) w) (aa A k.H.length ρ (upd S r ((L++g::(L1++La))++M++(Rc++R1++R))) fl w'):=ws.ext (Nat.le_refl _) (fun _ _=>rfl)
 have hnd:=h.dis.nd r;rw[hSr]at hnd
 have hgn:∀b,b∈L∨b∈L1∨b∈La∨b∈Mb∨b∈Rc∨b∈R1∨b∈R→b≠g:=fun b hb e=>by
  subst e;simp only[xT,List.nodup_cons,xK,List.cons_append,xD,xY]at hnd
  grind
 have hgM:∀b,b∈M→b≠g:=fun b hb e=>h.dis.oneF r g hgS (by rw[←e];simp[hb])
 have hg':w'.heap[g]? =some (.cells (cur.toList.take (i * sz+off)++vs++cur.toList.drop (i * sz+off+vs.length)).toArray ty (0,0)):=setRow_heap w g cur _ ty _ pl.hg;have il:=(List.getElem?_eq_some_iff.1 pl.hel).1;have hlen1:es.length * sz≤cur.size:=Nat.le_trans (Nat.mul_le_mul_right _ pl.hle) pl.hcur
 have hi1:i * sz+sz≤es.length * sz:=by
  have:(i+1) * sz≤es.length * sz:=Nat.mul_le_mul_right _ il
  rwa [Nat.add_mul,Nat.one_mul]at this
 have keptS:∀b∈L++R,w'.heap[b]? =w.heap[b]? :=fun b hb=>hw' b (hgn b (by rcases List.mem_append.1 hb with q |q <;>simp[q]))
 have hnode:TC (aa A k.H.length ρ (upd S r ((L++g::(L1++La))++M++(Rc++R1++R))) fl w') (.own (es.set i el')) [.slice (some ⟨g,0,none⟩) es.length cap] (g::(L1++(La++M++Rc)++R1)):=by
  simp only[TC];refine .inr ⟨g,cap,_,ty,sz,L1++(La++M++Rc)++R1,by rw[List.length_set],rfl,hg',by rw[List.length_set];exact pl.hle,pl.hcap,?_,by rw[List.length_set];exact Nat.mul_pos (by omega) pl.hsz,?_⟩
  ·simp only[List.size_toArray,xP,yR,List.length_drop,yF]
   have:=pl.hcur
   omega
  ·rw[List.length_set]
   have:=Cc (vs:=vs) (off:=off) pl.hcs pl.hci pl.hc1 hf
   simp only at this ⊢
   rw[this];refine TE.put ext il pl.hL1 pl.hR1 (fun b hb=>hw' b (hgn b (by rcases List.mem_append.1 hb with q |q <;>simp[q]))) ?_ (hel _ ext (fun b hb=>hw' b ?_))
   ·simp only[xP,yR,List.length_drop,pl.hc1];omega
   ·simp only[xD]at hb
    rcases hb with(q |q) |q
    ·exact hgn b (by simp[q])
    ·exact hgM b q
    ·exact hgn b (by simp[q])
 have hroot:=pl.foc.put _ _ t' _ ext keptS hp hnode;have eS:L++g::(L1++(La++M++Rc)++R1)++R=(L++g::(L1++La))++M++(Rc++R1++R):=by simp
 rw[eS]at hroot
 have get:∀r',k''.get r'=if r'=r then some t' else k.get r':=fun r'=>by
  show k''.get r'=_;rw[←g1];simp only[k''];split <;>rfl
 have hH:k''.H=k'.H:=by simp only[k''];split <;>rfl
 have keptO:∀r',r'≠r→∀b∈S r',w'.heap[b]? =w.heap[b]? :=fun r' hne b hb=>hw' b (fun e=>hne (h.dis.one r' r b hb (e▸hgS)))
 have hold:∀r' q,(r'=r→mb el=true→q.length<p.length+1)→ot (aa A k.H.length ρ S (M++fl) w) (aa A k.H.length ρ (upd S r ((L++g::(L1++La))++M++(Rc++R1++R))) fl w') k.get k''.get hd hd r' q:=fun r' q hq=>by
  by_cases hne:r'=r
  ·subst hne
   intro t0 es0 b1 b2;rw[hr]at b1
   simp only[xJ]at b1
   subst b1
   obtain⟨es',o1,o2,o3⟩:=pl.foc.oth (aa A k.H.length ρ (upd S r' ((L++g::(L1++La))++M++(Rc++R1++R))) fl w') (.own (es.set i el')) t' (fun q'=>∀b x,q'≠(i,b)::x) keptS hp rfl (fun q' es1 hQ ha=>by
    cases q' with
    |nil=>
     simp only[T.at,xJ,T.own.injEq]at ha
     subst ha
     refine⟨_,rfl,⟨by simp,fun j x hx=> ?_⟩,fun _ hh=>hh⟩
     by_cases hj:i=j
     ·subst hj
      rw[pl.hel]at hx
      simp only[xJ]at hx
      subst hx
      exact⟨el',by rw[yK il],hnc⟩
     ·exact⟨x,by rw[List.getElem?_set_ne hj];exact hx,rfl⟩
    |cons ab q'=>
     obtain⟨a,b⟩:=ab;have hai:a≠i:=fun e=>hQ b q' (by rw[e])
     simp only[T.at,xB]at ha
     obtain⟨x,hx,y,hy,ha⟩:=ha;have hx':(es.set i el')[a]? =some x:=by rw[List.getElem?_set_ne (Ne.symm hai)];exact hx
     refine⟨es1,by simp[T.at,hx',hy,ha],SameShape.refl _,fun h1 hh=> ?_⟩
     simp only[NodeH]at hh ⊢
     obtain⟨g',len',cap',cur',e',el0,ct,cv,n1,n2,n3,n4,n5,n6⟩:=hh;simp only[Value.slice.injEq,xJ,Addr.mk.injEq,and_true]at n1
     obtain⟨n1,_,_⟩:=n1;subst n1;have hgg:=pl.hg;rw[hgg]at n2
     simp only[xJ,Obj.cells.injEq,and_true]at n2
     obtain⟨n2,_⟩:=n2;subst n2;rw[hx]at n3
     simp only[xJ]at n3
     subst n3;rw[hy]at n4
     simp only[xJ]at n4
     subst n4
     have hxn:x.nc=sz:=by
      rcases pl.foc.tc with⟨_,_,k2,_⟩ |⟨g0,cap0,cur0,e0,sz0,S0,k1,k2,k3,k4,k5,k6,k7,k8⟩
      ·subst k2;simp at hx
      ·have:=(TE.len _ _ _ _ k8).2
       rw[this x (yS hx),←this el (yS pl.hel),pl.hnc]
     have hbl:=T.cell_lt hy;have hal:=(List.getElem?_eq_some_iff.1 hx).1
     have hrange:a * sz+b<i * sz+off∨i * sz+off+vs.length≤a * sz+b:=by
      rcases Nat.lt_or_gt_of_ne hai with hlt |hgt
      ·left
       have:(a+1) * sz≤i * sz:=Nat.mul_le_mul_right _ hlt
       rw[Nat.add_mul]at this
       omega
      ·right
       have:(i+1) * sz≤a * sz:=Nat.mul_le_mul_right _ hgt
       rw[Nat.add_mul]at this
       omega
     have hcell:(cur.toList.take (i * sz+off)++vs++cur.toList.drop (i * sz+off+vs.length))[a * sz+b]? =cur[a * sz+b]? :=by
      rcases hrange with q |q
      ·rw[xK,xO (by simp;omega),xU,if_pos q];simp
      ·rw[xN (by simp;omega),List.getElem?_drop]
       simp only[xP,yR,yF];rw[show i * sz+off+vs.length+(a * sz+b - (min (i * sz+off) cur.size+vs.length))=a * sz+b by omega]
       simp
     rw[hxn]at n5
     obtain⟨v',St,f1,f2,f3⟩:∃v' St,cur[a * sz+b]? =some v'∧TC (aa A k.H.length ρ S (M++fl) w) y [v'] St∧∀z∈St,z∈L1∨z∈R1:=by
      rcases Nat.lt_or_gt_of_ne hai with hlt |hgt
      ·obtain⟨v',St,f1,f2,f3⟩:=TE.sub pl.hL1 (n:=a) (t:=x) (by rw[xU,if_pos hlt];exact hx) hy
       refine⟨v',St,?_,f2,fun z hz=>.inl (f3 z hz)⟩
       rw[xU]at f1
       split at f1
       ·rw[xU]at f1
        split at f1
        ·simpa using f1
        ·cases f1
       ·cases f1
      ·obtain⟨v',St,f1,f2,f3⟩:=TE.sub pl.hR1 (n:=a - (i+1)) (t:=x) (by rw[List.getElem?_drop,show i+1+(a - (i+1))=a by omega];exact hx) hy
       refine⟨v',St,?_,f2,fun z hz=>.inr (f3 z hz)⟩
       rw[List.getElem?_drop]at f1
       have e3:i * sz+sz+((a - (i+1)) * sz+b)=a * sz+b:=by
        have:a=(a - (i+1))+i+1:=by omega
        conv=>rhs;rw[this]
        simp only[Nat.add_mul];omega
       rw[e3,xU]at f1
       split at f1
       ·simpa using f1
       ·cases f1
     rw[n5]at f1
     simp only[xJ]at f1
     subst f1
     exact⟨g,len',cap',_,ty,x,y,cv,by simp_all,hg',hx',hy,by rw[hxn,List.getElem?_toArray,hcell];exact n5,NodeH.ext q' y cv h1 St f2 (fun z hz=>hw' z (hgn z (by rcases f3 z hz with q |q <;>simp[q]))) n6⟩) q es0 (fun q' hq'=>by
    subst hq';intro b x hqx;subst hqx;rw[T.at_append,hat]at b2
    simp only[xS,T.at,pl.hel,xB]at b2
    obtain⟨ct,hct,hca⟩:=b2
    have:=hq rfl (IG hct hca)
    simp at this) b2
   exact⟨t',es',by rw[get,if_pos rfl],o1,o2,o3⟩
  ·exact h.hold _ (by rw[get,if_neg hne]) rfl (keptO r' hne) q
 refine⟨_,⟨fun r' t0 h0=> ?_,fun r' h0 hm=> ?_,h.obj,fun n ob he hpl=> ?_,d2,ws.blk h,fun pr hpr=> ?_,ws.frm h,h.Fold,by rw[hH,g2];exact h.rho⟩,ext⟩
 ·rw[hH,g2]
  rw[get]at h0
  by_cases hne:r'=r
  ·subst hne
   rw[if_pos rfl]at h0
   simp only[xJ]at h0
   subst h0;rw[aG];exact hroot
  ·rw[if_neg hne]at h0
   rw[ai _ _ hne];exact TC.ext ext _ _ _ (keptO r' hne) (h.cont r' t0 h0)
 ·rw[get]at h0
  by_cases hne:r'=r
  ·rw[if_pos hne]at h0;cases h0
  ·rw[if_neg hne]at h0
   rw[ai _ _ hne]
   exact h.gone r' h0 (fun n ob e hm'=>by
    cases hpl:ob.plain with
    |false=>rfl
    |true=>rw[←hpl];exact hm n ob e (by rw[hH];exact(g4 n ob hpl).2 hm'))
 ·rw[hH]at he ⊢
  rw[g2];have he':=(g4 n ob hpl).1 he
  have hne:(Root.o n)≠r:=by
   rintro rfl
   cases ob <;>simp[Wk.get,Go.Am.cont,he',Ob.plain]at hr hpl
  exact(h.map n ob he' hpl).ext ext (keptO _ hne) (ai _ _ hne) rfl
 ·rw[hH,g2]
  by_cases hio:mb el=true
  ·have e3:trv k''.tr pr.1=(Tr.killN r (p.length+1)).sv (trv k.tr pr.1):=by
    simp only[k'',hio,if_true,Wk.tell,g3];exact kA _ _ _
   rw[e3];exact SO.killN ext r (p.length+1) (fun r' q hq=>hold r' q (fun e _=>hq e)) (h.vals pr hpr)
  ·have e3:k''.tr=k.tr:=by simp only[k'',if_neg hio,g3]
   rw[e3];exact SO.keep ext (fun r' q=>hold r' q (fun _ h0=>absurd h0 hio)) (h.vals pr hpr)
theorem Gr(h:KR A ρ S hd fl k vals w){nv:Nat}{t:TypeId}{a v:SV}{av vv:Value}(ha:(a,av)∈vals)(hv:(v,vv)∈vals)(e:gB P nv t a v k=some k'):
  ∃w' S',(Instr.storeAt t av vv).run P w=.ok () w'∧KR A ρ S' hd fl k' vals w'∧k'.H.length=k.H.length:=by
 simp only[gB,xB]at e
 obtain⟨⟨x,k1⟩,e1,e2⟩:=e;obtain⟨S1,M,g1,g2,g3,g4⟩:=wq h hv e1;have hloc:=g1.vals (a,av) ha;simp only at e2 hloc
 split at e2
 ·rename_i r p i off hl
  split at e2
  ·rename_i hsz
   obtain⟨hsz,hpos⟩:=hsz;simp only[xB]at e2
   obtain⟨t0,hc,nd,hat,e2⟩:=e2
   split at e2
   ·rename_i es
    simp only[xB]at e2
    obtain⟨el,hel,e2⟩:=e2;obtain⟨t1,es1,el1,g,cap,cur,ty,sz,c1,L,Sn,R,L1,Se,R1,q1,q2,pl⟩:=Cb (fun t=>g1.cont r t) (qQ g1 hloc hl hc)
    rw[hc]at q1
    simp only[xJ]at q1
    subst q1;rw[hat]at q2
    simp only[xJ,T.own.injEq]at q2
    subst q2
    have:=pl.hel
    rw[hel]at this
    simp only[xJ]at this
    subst this
    split at e2
    ·rename_i hfit
     simp only[xB,xM]at e2
     obtain⟨c',hput,k2,hset,hk⟩:=e2;have hvl:vv.cells.toList.length=x.nc:=TC.len _ _ _ g3;have hf:off+vv.cells.toList.length≤sz:=by rw[hvl,←pl.hnc];exact hfit
     have hcv:=pl.hv
     have hrange:i * sz+off+vv.cells.toList.length≤cur.size:=by
      have il:=(List.getElem?_eq_some_iff.1 pl.hel).1;have h1:es.length * sz≤cur.size:=Nat.le_trans (Nat.mul_le_mul_right _ pl.hle) pl.hcur;have h2:(i+1) * sz≤es.length * sz:=Nat.mul_le_mul_right _ il;rw[Nat.add_mul,Nat.one_mul]at h2
      omega
     have hrun:(Instr.storeAt t av vv).run P w=.ok () (w.setRow g (cur.toList.take (i * sz+off)++vv.cells.toList++cur.toList.drop (i * sz+off+vv.cells.toList.length)).toArray):=by
      have hi:∃inf,P.info? t=some inf:=by
       cases hi:P.info? t with
       |none=>simp[Program.cellsOf,hi]at hsz;omega
       |some inf=>exact⟨inf,rfl⟩
      obtain⟨inf,hi⟩:=hi;have hso:(sizeOf t).run P w=.ok (P.cellsOf t) w:=by simp[sizeOf,typeInfo,hi,Program.cellsOf]
      have hst:=run_storeCells_at P g (i * sz+off) ty vv.cells.toList 0 cur w pl.hg (by simpa using hrange) (TC.ones _ _ _ g3)
      subst hcv;simp only[Instr.storeAt,Instr.sureAddr,Sem.run_bind,Sem.run_pure,Result.andThen_ok,storeVar,hso];have hne:¬(vv.cells.size≠P.cellsOf t):=by rw[←yF,hvl,hsz];simp
      simp only[hne,if_false]
      simpa using hst
     have hk':k'=if mb el then k2.tell (.killN r (p.length+1))else k2:=hk.symm
     by_cases hfull:off=0∧x.nc=el.nc
     ·rw[if_pos hfull]at hput
      obtain⟨rfl,hfull⟩:=hfull
      obtain⟨S',w1,w2⟩:=KR.write (vs:=vv.cells.toList) (off:=0) g1 hc hat pl hf hfull hput hset (La:=[]) (Mb:=Se) (Rc:=[]) (by simp) (fun c' hx hkp=>by
       have e0:c1.take 0++vv.cells.toList++c1.drop (0+vv.cells.toList.length)=vv.cells.toList:=by
        rw[List.drop_of_length_le (by rw[pl.hc1,hvl,hfull,pl.hnc];omega)];simp
       rw[e0];simp only[List.nil_append,List.append_nil]at hkp ⊢
       exact TC.ext hx _ _ _ hkp g3)
      subst hk'
      refine⟨_,S',hrun,w1,?_⟩
      rw[←g4,←mh hset]
      split <;>rfl
     ·rw[if_neg hfull]at hput
      obtain⟨La,Mb,Rc,m1,m2⟩:=TC.setCells pl.hte off x.nc;obtain⟨S',w1,w2⟩:=KR.write (vs:=vv.cells.toList) (off:=off) g1 hc hat pl hf (T.setCells_nc (by rw[T.cells_len];exact hfit)) hput hset m1 (fun c' hx hkp=>m2 c' _ _ M hx (T.cells_len x) (TC.cells (TC.ext hx _ _ _ (fun b hb=>hkp b (by simp[hb])) g3)) (fun b hb=>hkp b (by rcases List.mem_append.1 hb with q |q <;>simp[q])))
      subst hk'
      refine⟨_,S',hrun,w1,?_⟩
      rw[←g4,←mh hset]
      split <;>rfl
    ·cases e2
   ·cases e2
  ·cases e2
 ·cases e2
end
end Go.Am
