/- A part of the proof: texts of mine, merged by a program (wip/dev/merge.py). -/
import Derived.Calls
import Derived.Orders
import Derived.WalkKit
import Derived.Lib.Bytealg
set_option linter.unusedSimpArgs false
set_option linter.unusedVariables false
theorem xB:type_of% @Option.bind_eq_some_iff:= @Option.bind_eq_some_iff
theorem xM:type_of% @Option.map_eq_some_iff:= @Option.map_eq_some_iff
theorem xJ:type_of% @Option.some.injEq:= @Option.some.injEq
theorem pJ:type_of% @Prod.mk.injEq:= @Prod.mk.injEq
theorem xG:type_of% @List.getElem?_eq_getElem:= @List.getElem?_eq_getElem
theorem xS:type_of% @Option.bind_some:= @Option.bind_some
theorem xA:type_of% @Bool.and_eq_true:= @Bool.and_eq_true
theorem xC:type_of% @List.cons.injEq:= @List.cons.injEq
theorem xD:type_of% @List.mem_append:= @List.mem_append
theorem xF:type_of% @Option.map_eq_bind:= @Option.map_eq_bind
theorem xH:type_of% @Bool.false_eq_true:= @Bool.false_eq_true
theorem xK:type_of% @List.append_assoc:= @List.append_assoc
theorem xL:type_of% @List.mem_append_left:= @List.mem_append_left
theorem xR:type_of% @List.mem_append_right:= @List.mem_append_right
theorem xN:type_of% @List.getElem?_append_right:= @List.getElem?_append_right
theorem xO:type_of% @List.getElem?_append_left:= @List.getElem?_append_left
theorem xP:type_of% @List.length_append:= @List.length_append
theorem xQ:type_of% @Option.map_some:= @Option.map_some
theorem xT:type_of% @List.nodup_append:= @List.nodup_append
theorem xU:type_of% @List.getElem?_take:= @List.getElem?_take
theorem xV:type_of% @Int.toNat_natCast:= @Int.toNat_natCast
theorem xW:type_of% @List.drop_eq_getElem_cons:= @List.drop_eq_getElem_cons
theorem xX:type_of% @Option.bind_assoc:= @Option.bind_assoc
theorem xY:type_of% @List.mem_cons:= @List.mem_cons
theorem xZ:type_of% @List.length_cons:= @List.length_cons
theorem yA:type_of% @Nat.lt_of_lt_of_le:= @Nat.lt_of_lt_of_le
theorem yB:type_of% @Array.getD_eq_getD_getElem? := @Array.getD_eq_getD_getElem?
theorem yD:type_of% @decide_eq_true_eq:= @decide_eq_true_eq
theorem yE:type_of% @List.getElem?_cons_zero:= @List.getElem?_cons_zero
theorem yF:type_of% @Array.length_toList:= @Array.length_toList
theorem yG:type_of% @List.any_eq_false:= @List.any_eq_false
theorem yI:type_of% @List.length_eq_one_iff:= @List.length_eq_one_iff
theorem yJ:type_of% @Option.isNone_iff_eq_none:= @Option.isNone_iff_eq_none
theorem yK:type_of% @List.getElem?_set_self:= @List.getElem?_set_self
theorem yL:type_of% @List.eq_nil_of_length_eq_zero:= @List.eq_nil_of_length_eq_zero
theorem yM:type_of% @Array.getElem?_toList:= @Array.getElem?_toList
theorem yN:type_of% @List.length_nil:= @List.length_nil
theorem yO:type_of% @List.getElem?_append:= @List.getElem?_append
theorem yP:type_of% @List.take_append_drop:= @List.take_append_drop
theorem yQ:type_of% @List.mem_singleton:= @List.mem_singleton
theorem yR:type_of% @List.length_take:= @List.length_take
theorem yS:type_of% @List.mem_of_getElem? := @List.mem_of_getElem?
theorem dC:type_of% @Nat.le_refl:=@Nat.le_refl
theorem pM:type_of% @List.map_append:=@List.map_append
theorem eA:type_of% @Int.natCast_zero:=@Int.natCast_zero
theorem eO:type_of% @List.getElem_mem:=@List.getElem_mem
theorem gy:type_of% @List.take_of_length_le:=@List.take_of_length_le
theorem F6:type_of% @List.map_take:=@List.map_take
theorem eG:type_of% @List.map_cons:=@List.map_cons
theorem Pe:type_of% @List.map_drop:=@List.map_drop
theorem BT:type_of% @List.map_set:=@List.map_set
theorem fj:type_of% @Nat.le_trans:=@Nat.le_trans
theorem eJ:type_of% @Nat.zero_le:=@Nat.zero_le
theorem gj:type_of% @List.append_nil:=@List.append_nil
theorem gZ:type_of% @Option.getD_some:=@Option.getD_some
theorem gG:type_of% @List.nil_append:=@List.nil_append
theorem fu:type_of% @Nat.zero_add:=@Nat.zero_add
theorem jf:type_of% @Nat.mul_le_mul_right:=@Nat.mul_le_mul_right
theorem lW:type_of% @List.getElem?_cons_succ:=@List.getElem?_cons_succ
theorem iy:type_of% @List.all_eq_true:=@List.all_eq_true
theorem iz:type_of% @List.take_length:=@List.take_length
theorem ic:type_of% @Bool.or_eq_true:=@Bool.or_eq_true
theorem jA:type_of% @List.getElem?_drop:=@List.getElem?_drop
theorem gk:type_of% @Nat.lt_or_ge:=@Nat.lt_or_ge
theorem g9:type_of% @List.map_nil:=@List.map_nil
theorem lX:type_of% @List.getElem?_eq_none:=@List.getElem?_eq_none
theorem jg:type_of% @List.drop_zero:=@List.drop_zero
theorem lY:type_of% @List.map_congr_left:=@List.map_congr_left
theorem lZ:type_of% @List.getElem_of_mem:=@List.getElem_of_mem
theorem jB:type_of% @List.take_zero:=@List.take_zero
theorem nq:type_of% @List.range_eq_range':=@List.range_eq_range'
theorem l6:type_of% @List.cons_append:=@List.cons_append
theorem kP:type_of% @Nat.le_max_right:=@Nat.le_max_right
theorem kS:type_of% @Option.elim_none:=@Option.elim_none
theorem ri:type_of% @Nat.add_sub_cancel_left:=@Nat.add_sub_cancel_left
theorem l7:type_of% @List.length_map:=@List.length_map
theorem l8:type_of% @Array.toList_inj:=@Array.toList_inj
theorem iT:type_of% @Nat.add_mul:=@Nat.add_mul
theorem jC:type_of% @List.mem_map:=@List.mem_map
theorem l9:type_of% @Nat.le_max_left:=@Nat.le_max_left
theorem rj:type_of% @List.getElem?_set_ne:=@List.getElem?_set_ne
theorem rk:type_of% @Bool.or_eq_false_iff:=@Bool.or_eq_false_iff
theorem rl:type_of% @Array.mem_toList_iff:=@Array.mem_toList_iff
theorem kU:type_of% @List.all_cons:=@List.all_cons
theorem ke:type_of% @List.map_map:=@List.map_map
theorem Ee:type_of% @Array.getElem?_setIfInBounds_ne:=@Array.getElem?_setIfInBounds_ne
theorem Az:type_of% @Classical.byContradiction:=@Classical.byContradiction
theorem v8:type_of% @Option.or_eq_none_iff:=@Option.or_eq_none_iff
theorem oX:type_of% @Option.elim_some:=@Option.elim_some
theorem kV:type_of% @Nat.add_zero:=@Nat.add_zero
theorem nu:type_of% @Option.none_or:=@Option.none_or
theorem rm:type_of% @List.ext_getElem?:=@List.ext_getElem?
theorem rq:type_of% @Bool.not_eq_true':=@Bool.not_eq_true'
theorem oY:type_of% @List.length_set:=@List.length_set
theorem Ef:type_of% @List.perm_append_comm_assoc:=@List.perm_append_comm_assoc
theorem nw:type_of% @Bool.true_and:=@Bool.true_and
theorem ru:type_of% @Nat.le_add_right:=@Nat.le_add_right
theorem oZ:type_of% @List.drop_drop:=@List.drop_drop
theorem Eg:type_of% @List.getD_eq_getElem?_getD:=@List.getD_eq_getElem?_getD
theorem ry:type_of% @Nat.min_eq_left:=@Nat.min_eq_left
theorem v9:type_of% @Array.toList_push:=@Array.toList_push
theorem AA:type_of% @List.mem_cons_of_mem:=@List.mem_cons_of_mem
theorem wb:type_of% @Function.comp_def:=@Function.comp_def
theorem ny:type_of% @Nat.le_of_lt:=@Nat.le_of_lt
theorem o4:type_of% @Int.lt_irrefl:=@Int.lt_irrefl
theorem Eh:type_of% @List.take_succ_cons:=@List.take_succ_cons
theorem Ei:type_of% @Nat.pos_of_mul_pos_left:=@Nat.pos_of_mul_pos_left
theorem we:type_of% @List.length_drop:=@List.length_drop
theorem wg:type_of% @List.range'_succ:=@List.range'_succ
theorem wj:type_of% @List.drop_length:=@List.drop_length
theorem nz:type_of% @Nat.le_succ:=@Nat.le_succ
theorem AB:type_of% @Nat.eq_zero_or_pos:=@Nat.eq_zero_or_pos
theorem AC:type_of% @Option.isSome_some:=@Option.isSome_some
theorem rz:type_of% @Nat.sub_self:=@Nat.sub_self
theorem wm:type_of% @Nat.add_assoc:=@Nat.add_assoc
theorem kW:type_of% @Prod.ext:=@Prod.ext
namespace Go.Am
open Go
abbrev J.{u}:=List.{u}
abbrev U.{u}:=Option.{u}
abbrev Pz:=Program
abbrev Vz:=Value
abbrev Wz:=World
abbrev Oz:=Operand
abbrev Qz:=Oper
inductive D where
 |int (k:IntKind) (n:Int)
 |bool (b:Bool)
 |str (s:List UInt8)
 |aJ
 |sl (b:Bool) (l:List D)
 |agg (l:List D)
 |cU
 |ptr (o:Nat)
 |de
 |map (o:Nat)
 |cZ
 |fn (f:Fn) (first cap:List D)
 |bX
 |iface (t:TypeId) (x:D)
 |bR (cs:List D)
 |yld (o:Nat)
 deriving Inhabited
inductive T where
 |d (x:D)
 |own (es:List T)
 |agg (cs:List T)
 |dead
 deriving Inhabited
abbrev dR:=J (Nat×Nat)
inductive aj where
 |l (n k:Nat)
 |o (n:Nat)
 deriving DecidableEq,Inhabited
inductive SV where
 |d (x:D)
 |aH (r:aj) (p:dR) (off len:Nat)
 |loc (r:aj) (p:dR) (i off:Nat)
 |rp (b:Bool) (cs:List D)
 |clip (b:Bool) (l:List D)
 |ns (b:Bool)
 |agg (l:List SV)
 |aS (l:List SV)
 |dead
 deriving Inhabited
inductive Ob where
 |box (c:T)
 |map (es:List (D×T))
 |iter (s:List UInt8) (p:Nat)
 |bY (m:Option Nat)
 |frame (g:FuncId) (ps:List Nat) (a b:Code) (env:List (Nat×SV)) (ct:List ((Nat×Nat)×T))
 |lock
 |row (es:List T)
 |sset (ks:List (List UInt8))
 deriving Inhabited
structure St where
 env:List (Nat×SV)
 ct:List ((Nat×Nat)×T)
 H:List Ob
inductive OT where
 |leaf
 |node (i j:Nat) (a b:OT)
structure Hint where
 nv:Nat
 cA:List Nat:=[]
 aV:List Nat:=[]
 lits:List Nat:=[]
 own:Bool:=false
 live:Nat->List Nat
 nilt:Nat:=0
 ro:List Nat:=[]
 gl:Nat->Option D:=λ_=>none
 cQ:List Nat:=[]
 rcv:Bool:=false
 nest:Bool:=false
 emp:List Nat:=[]
 self:Nat:=0
 ext:Option (List D->Option (List T)):=none
 lkn:List Nat:=[]
 swp:Nat->Option OT:=λ_=>none
 mv:List Nat:=[]
def Hint.nvAt(h:Hint)(dst:Nat):Nat:=if h.emp.contains dst=true then 1099511627776 else h.nv
abbrev D.i(n:Int):D:=.int .i64 n
def D.nc:D->Nat
 | .agg l=>l.length
 |_=>1
def D.cells:D->J D
 | .agg l=>l
 |x=>[x]
def T.cells:T->J T
 | .d (.agg l)=>l.map .d
 | .agg a=>a
 |x=>[x]
def T.nc:T->Nat
 | .d x=>x.nc
 | .agg a=>a.length
 |_=>1
def T.cell(t:T)(off:Nat):U T:=
 match t with
 | .agg a=>a[off]?
 | .d (.agg l)=>(l[off]?).map .d
 |x=>if off=0 then some x else none
def T.bH:List T->Option (List D)
 | []=>some []
 | .d x::r=>(T.bH r).map (x::·)
 |_::_=>none
def T.br(l:J T):T:=match T.bH l with |some a=>.d (.agg a) |none=>.agg l
def T.setCells(t:T)(off:Nat)(vs:J T):T:=T.br (t.cells.take off++vs++t.cells.drop (off+vs.length))
def T.aT(e:T)(off:Nat)(c:T):T:=
 match e with
 |.d (.agg _)|.agg _=>e.setCells off [c]
 |_=>c
def T.at:T->dR->Option T
 |t,[]=>some t
 | .own b,(i,a)::p=>(b[i]?).bind λe=>(e.cell a).bind λc=>c.at p
 |_,_::_=>none
def T.put:T->dR->T->Option T
 |_,[],x=>some x
 | .own b,(i,a)::p,x=>(b[i]?).bind λe=>(e.cell a).bind λc=>(c.put p x).map λc'=>
   .own (b.set i (e.aT a c'))
 |_,_::_,_=>none
def D.bt:D->D
 | .aJ=>.sl false []
 |x=>x
def D.norm:D->D
 | .agg l=>.agg (l.map D.bt)
 |x=>x.bt
mutual
def T.cR(b:Bool):T->Option D
 | .d x=>some x.norm
 | .own c=>(T.aZ b c).map (.sl b)
 | .agg a=>(T.aZ b a).map .agg
 | .dead=>none
def T.aZ(b:Bool):List T->Option (List D)
 | []=>some []
 |t::r=>(T.cR b t).bind λx=>(T.aZ b r).map (x::·)
end
mutual
def D.cX:D->Bool
 | .sl b l=> !b&&D.aY l
 | .agg l=>D.aY l
 | .fn _ a c=>D.aY a&&D.aY c
 | .iface _ x=>x.cX
 | .bR _=>false
 |_=>true
def D.aY:List D->Bool
 | []=>true
 |x::r=>x.cX&&D.aY r
end
mutual
def T.cX:T->Bool
 | .d x=>x.cX
 | .own a=>T.aY a
 | .agg b=>T.aY b
 | .dead=>true
def T.aY:List T->Bool
 | []=>true
 |x::r=>x.cX&&T.aY r
end
mutual
def D.bZ:D->D
 | .sl _ l=>.sl true (D.bl l)
 | .agg l=>.agg (D.bl l)
 | .fn f a c=>.fn f (D.bl a) (D.bl c)
 | .iface t x=>.iface t x.bZ
 | .bR l=>.bR (D.bl l)
 |x=>x
def D.bl:List D->List D
 | []=>[]
 |x::r=>x.bZ::D.bl r
end
def canon(sn:Bool)(l:J D):J D:=if sn=false/\D.aY l=true then l else D.bl l
mutual
def D.low(n:Nat):D->Bool
 |.ptr o|.map o=>o<n
 |.sl _ l|.agg l=>D.aQ n l
 | .fn _ a c=>D.aQ n a&&D.aQ n c
 | .iface _ x=>x.low n
 | .bR l=>D.aQ n l
 | .yld o=>o<n
 |_=>true
def D.aQ(n:Nat):List D->Bool
 | []=>true
 |x::r=>x.low n&&D.aQ n r
end
mutual
def T.low(n:Nat):T->Bool
 | .d x=>x.low n
 | .own b=>T.aQ n b
 | .agg a=>T.aQ n a
 | .dead=>true
def T.aQ(n:Nat):List T->Bool
 | []=>true
 |x::r=>x.low n&&T.aQ n r
end
mutual
def SV.low(n:Nat):SV->Bool
 | .d x=>x.low n
 |.aH (.o o) _ _ _|.loc (.o o) _ _ _=>o<n
 | .rp _ a=>D.aQ n a
 | .clip _ l=>D.aQ n l
 |.agg l|.aS l=>SV.aQ n l
 |_=>true
def SV.aQ(n:Nat):List SV->Bool
 | []=>true
 |x::r=>x.low n&&SV.aQ n r
end
def Ob.low(n:Nat):Ob->Bool
 | .box c=>c.low n
 | .map a=>a.all λe=>e.1.low n&&e.2.low n
 | .iter _ _=>true
 | .bY m=>match m with |some o=>o<n |none=>true
 | .frame _ _ _ _ b d=>b.all (λp=>p.2.low n)&&d.all λp=>p.2.low n
 | .lock=>true
 | .row a=>T.aQ n a
 | .sset _=>true
def Ob.plain:Ob->Bool
 |.map _|.iter _ _|.bY _|.frame ..|.row _|.sset _=>true
 |_=>false
def D.ofCell:Vz->U D
 | .bool b=>some (.bool b)
 | .int k n=>some (.int k n)
 | .string s=>some (.str s.data.toList)
 | .pointer none=>some .cU
 | .slice none 0 0=>some .aJ
 | .map none=>some .de
 | .nilFunc=>some .cZ
 | .nilIface=>some .bX
 |_=>none
def D.ofVal:Vz->U D
 | .agg a=>(a.toList.mapM D.ofCell).map .agg
 |v=>D.ofCell v
def T.ofD1:D->T
 | .aJ=>.own []
 |x=>.d x
def T.cj:D->T
 | .agg l=>if l.any (λx=>match x with | .aJ=>true |_=>false)then .agg (l.map T.ofD1)else .d (.agg l)
 |x=>T.ofD1 x
def SV.cells:SV->J SV
 | .d (.agg l)=>l.map .d
 | .agg l=>l
 | .aS _=>[.dead]
 |x=>[x]
def SV.nc:SV->Nat
 | .d x=>x.nc
 | .agg l=>l.length
 |_=>1
def SV.bH:List SV->Option (List D)
 | []=>some []
 | .d x::r=>(SV.bH r).map (x::·)
 |_::_=>none
def SV.br(l:J SV):SV:=match SV.bH l with |some a=>.d (.agg a) |none=>.agg l
def oR(P:Pz)(t:TypeId):U Bool:=match P.underlying t with |some (.struct _) |some (.array _ _)=>some true |some _=>some false |none=>none
def elemOf(P:Pz)(t:TypeId):U TypeId:=match P.underlying t with |some (.slice e)=>some e |_=>none
def dz(P:Pz)(t:TypeId)(f:Nat):U (Nat×Nat×Bool):=
 match P.underlying t with
 |some (.struct b)=>(b[f]?).bind λx=>(oR P x.type).map λa=>(x.offset,P.cellsOf x.type,a)
 |_=>none
def dS(P:Pz)(t:TypeId):U D:=((P.info? t).bind (·.zero)).bind D.ofVal
inductive Tr where
 |kill (r:aj) (p:dR)
 |cI (r:aj) (n:Nat)
 |cR (r:aj) (p:dR) (l:List D)
 |dp (a b:Nat×Nat)
 |bN
mutual
def Tr.sv(x:Tr):SV->SV
 | .aH r p c d=>
  match x with
  | .kill e f=>if r=e then(if p=f then .dead else if f.length<p.length then .dead else .aH r p c d)else .aH r p c d
  | .cI e n=>if r=e/\n<=p.length then .dead else .aH r p c d
  | .cR e f l=>if r=e then(if p=f then .d (.sl false ((l.drop c).take d))else if f.length<p.length then .dead else .aH r p c d)else .aH r p c d
  | .dp a b=>if r=.l a.1 a.2 then .aH (.l b.1 b.2) p c d else .aH r p c d
  | .bN=>match r with | .o _=>.dead |_=>.aH r p c d
 | .loc r p i c=>
  match x with
  | .kill e f=>if r=e then(if p=f then .dead else if f.length<p.length then .dead else .loc r p i c)else .loc r p i c
  | .cI e n=>if r=e/\n<=p.length then .dead else .loc r p i c
  | .cR e f _=>if r=e then(if p=f then .dead else if f.length<p.length then .dead else .loc r p i c)else .loc r p i c
  | .dp a b=>if r=.l a.1 a.2 then .loc (.l b.1 b.2) p i c else .loc r p i c
  | .bN=>match r,p with | .o _,_::_=>.dead |_,_=>.loc r p i c
 | .agg l=>.agg (Tr.bG x l)
 | .aS l=>.aS (Tr.bG x l)
 |v=>v
def Tr.bG(x:Tr):List SV->List SV
 | []=>[]
 |v::r=>x.sv v::Tr.bG x r
end
def Tr.env(x:Tr)(e:J (Nat×SV)):J (Nat×SV):=e.map λp=>(p.1,x.sv p.2)
def trs:List Tr->List (Nat×SV)->List (Nat×SV)
 | [],e=>e
 |x::r,e=>trs r (x.env e)
def look{a:Type}(l:List (Nat×a))(t:Nat):Option a:=
 match l with
 | []=>none
 |(k,v)::r=>if k=t then some v else look r t
def fc{a:Type}(l:List ((Nat×Nat)×a))(t:Nat×Nat):Option a:=
 match l with
 | []=>none
 |(k,v)::r=>if k=t then some v else fc r t
def St.get(s:St)(t:Nat):SV:=(look s.env t).getD .dead
def My:Oz->SV
 | .const v=>match D.ofVal v with |some x=>.d x |none=>.dead
 | .func f=>.d (.fn (.func f) [] [])
 |_=>.dead
def St.val(s:St):Oz->SV
 | .tmp t=>s.get t
 |x=>My x
def cont(ct:J ((Nat×Nat)×T))(H:J Ob):aj->U T
 | .l n k=>fc ct (n,k)
 | .o n=>match H[n]? with |some (.box c)=>some (.own [c]) |_=>none
structure Wk where
 ct:List ((Nat×Nat)×T)
 H:List Ob
 tr:List Tr:=[]
def Wk.get(k:Wk)(r:aj):U T:=cont k.ct k.H r
def Wk.set(k:Wk)(r:aj)(t:T):Option Wk:=
 match r with
 | .l n j=>some {k with ct:=((n,j),t)::k.ct}
 | .o n=>match t with
  | .own [c]=>some {k with H:=k.H.set n (.box c)}
  |_=>none
def Wk.tell(k:Wk)(x:Tr):Wk:={k with tr:=k.tr++[x]}
def Wk.new(k:Wk)(n j:Nat)(t:T):Wk:={k with ct:=((n,j),t)::k.ct,tr:=k.tr++[.kill (.l n j) []]}
def bz{a:Type}(l:J a)(off len:Nat):J a:=(l.drop off).take len
def dO(nv:Nat)(v:SV)(k:Wk):U (T×Wk):=
 match v with
 | .d x=>some (.d x,k)
 | .clip b l=>some (.d (.sl b l),k)
 | .ns _=>some (.d (.sl false []),k)
 | .aH r p d a=>
  (k.get r).bind λc=>(c.at p).bind λf=>
   match f with
   | .own e=>
    match r,p with
    | .l n j,[]=>
     if nv<=n/\d=0/\a=e.length then(k.set (.l n j) .dead).map λ(k:Wk)=>(.own e,k.tell (.kill (.l n j) []))
     else(T.aZ false e).bind λl=>(k.set r .dead).map λ(k:Wk)=>(.d (.sl false (bz l d a)),k.tell (.cR r [] l))
    |r,p=>(T.aZ false e).bind λl=>(c.put p (.d (.sl false l))).bind λc'=>(k.set r c').map λ(k:Wk)=>(.d (.sl false (bz l d a)),k.tell (.cR r p l))
   |_=>none
 |_=>none
def aU:List Tr->SV->SV
 | [],v=>v
 |x::r,v=>aU r (x.sv v)
def gH(nv:Nat):List SV->Wk->Option (List T×Wk)
 | [],k=>some ([],k)
 |v::r,k=>(dO nv (aU k.tr v) k).bind λ(t,k)=>(gH nv r k).map λ(a,k)=>(t::a,k)
def fV(nv:Nat)(v:SV)(k:Wk):U (T×Wk):=
 match v with
 | .agg l=>(gH nv l k).map λ(a,k)=>(T.br a,k)
 |v=>dO nv (aU k.tr v) k
def D.sv1:D->U SV
 | .agg _=>none
 |x=>some (.d x)
def im(r:aj)(p:dR)(i off:Nat):T->U SV
 | .d x=>x.sv1
 | .own a=>some (.aH r (p++[(i,off)]) 0 a.length)
 |_=>none
def kg(r:aj)(p:dR)(i:Nat):Nat->List T->Option (List SV)
 |_,[]=>some []
 |a,c::b=>(im r p i a c).bind λv=>(kg r p i (a+1) b).map (v::·)
def bD:SV->SV
 | .d (.ptr o)=>.loc (.o o) [] 0 0
 | .d (.bR a)=>.rp true a
 |v=>v
def hJ(P:Pz)(t:TypeId)(v:SV)(k:Wk):U SV:=
 match bD v with
 | .loc r p i a=>
  (k.get r).bind λc=>(c.at p).bind λg=>
   match g with
   | .own f=>(f[i]?).bind λe=>(oR P t).bind λd=>
    if d then
     match e with
     | .d (.agg l)=>if a+P.cellsOf t<=l.length then some (.d (.agg (bz l a (P.cellsOf t))))else none
     | .agg b=>if a+P.cellsOf t<=b.length then(kg r p i a (bz b a (P.cellsOf t))).map SV.br else none
     |_=>none
    else(e.cell a).bind (im r p i a)
   |_=>none
 | .rp _ b=>(oR P t).bind λd=>
  if d then(if P.cellsOf t<=b.length then some (.d (.agg (b.take (P.cellsOf t))))else none)
  else(b[0]?).bind D.sv1
 |_=>none
def t6(dst:Nat)(v:SV)(k:Wk):U (SV×Wk):=
 match v with
 | .aH r p 0 a=>
  (k.get r).bind λc=>(c.at p).bind λd=>match d with
   | .own b=>if a=b.length/\p≠[]then(c.put p .dead).bind λc'=>(k.set r c').map λ(k:Wk)=>(.aH (.l dst 0) [] 0 a,(k.tell (.kill r p)).new dst 0 (.own b))else none
   |_=>none
 |_=>none
def tB:T->Bool
 | .own _=>true
 | .agg a=>a.any λc=>match c with | .own _=>true |_=>false
 |_=>false
def T.fresh1:T->T
 | .d x=>T.ofD1 x
 |t=>t
def T.fresh:T->T
 | .d x=>T.cj x
 | .agg a=>.agg (a.map T.fresh1)
 |t=>t
def jD(nv:Nat)(v:SV)(k:Wk):U (T×Wk):=(fV nv v k).map λp=>(p.1.fresh,p.2)
def mT(P:Pz)(nv:Nat)(t:TypeId)(a v:SV)(k:Wk):U Wk:=
 (jD nv v k).bind λ(x,k)=>
 match bD (aU k.tr a)with
 | .loc r p i b=>
  if x.nc=P.cellsOf t/\0<x.nc then
   (k.get r).bind λc=>(c.at p).bind λf=>
    match f with
    | .own d=>(d[i]?).bind λe=>
     if b+x.nc<=e.nc then
      (c.put p (.own (d.set i (if b=0/\x.nc=e.nc then x else e.setCells b x.cells)))).bind λc'=>
       (k.set r c').map λ(k:Wk)=>if tB e then k.tell (.cI r (p.length+1))else k
     else none
    |_=>none
  else none
 |_=>none
def my(op:BinOp)(k:IntKind)(x y:Int):U D:=
 match op with
 | .add=>some (.int k (k.wrap (x+y)))
 | .sub=>some (.int k (k.wrap (x - y)))
 | .mul=>some (.int k (k.wrap (x * y)))
 | .quo=>if y=0 then none else some (.int k (k.wrap (x.tdiv y)))
 | .rem=>if y=0 then none else some (.int k (x.tmod y))
 | .and=>some (.int k (k.wrap (BitVec.ofInt k.bits x&&&BitVec.ofInt k.bits y).toNat))
 | .or=>some (.int k (k.wrap (BitVec.ofInt k.bits x ||| BitVec.ofInt k.bits y).toNat))
 | .xor=>some (.int k (k.wrap (BitVec.ofInt k.bits x ^^^ BitVec.ofInt k.bits y).toNat))
 | .andNot=>some (.int k (k.wrap (BitVec.ofInt k.bits x&&&~~~ BitVec.ofInt k.bits y).toNat))
 | .eql=>some (.bool (x==y))
 | .neq=>some (.bool (x !=y))
 | .lss=>some (.bool (decide (x<y)))
 | .leq=>some (.bool (decide (x<=y)))
 | .gtr=>some (.bool (decide (x >y)))
 | .geq=>some (.bool (decide (x>=y)))
 |_=>none
def QZ(op:BinOp)(k:IntKind)(x y:Int):U D:=
 if y<0 then none else
 match op with
 | .shl=>some (.int k (k.wrap (x * 2 ^ (min y.toNat k.bits))))
 | .shr=>some (.int k (x.fdiv (2 ^ (min y.toNat k.bits))))
 |_=>none
def Q1(op:BinOp)(x y:J UInt8):U D:=
 match op with
 | .add=>if x.length+y.length<=9223372036854775807 then some (.str (x++y))else none
 | .eql=>some (.bool (x==y))
 | .neq=>some (.bool (!(x==y)))
 | .lss=>some (.bool (Op.bytesLess x y))
 | .leq=>some (.bool (Op.bytesLess x y || x==y))
 | .gtr=>some (.bool (!(Op.bytesLess x y || x==y)))
 | .geq=>some (.bool (!Op.bytesLess x y))
 |_=>none
def ja(P:Pz)(t:TypeId):U Nat:=match P.underlying t with |some (.int _)=>some 0 |some .string=>some 1 |some .bool=>some 2 |_=>none
def eqK:Nat->D->D->U Bool
 |0,.int k a,.int k' b=>if k=k' then some (a==b)else none
 |1,.str a,.str b|2,.bool a,.bool b=>some (a==b)
 |_,_,_=>none
def tY:List Nat->List D->List D->Option Bool
 | [],[],[]=>some true
 |n::c,a::r,b::q=>(eqK n a b).bind λx=>(tY c r q).map (x&&·)
 |_,_,_=>none
def t8(P:Program):Nat->List Field->Option (List Nat)
 |_,[]=>some []
 |i,f::r=>if f.offset=i/\f.name≠ "_" then(ja P f.type).bind λn=>(t8 P (i+1) r).map (n::·)else none
def rA(P:Pz)(t:TypeId):U (J Nat):=
 match P.underlying t with
 |some (.struct a)=>if P.stoodInHeld t=false/\P.eqGuardType P.depth t=false then t8 P 0 a.toList else none
 |_=>none
def ua(P:Pz)(cst:Bool)(t:TypeId):D->SV->U Bool
 | .aJ,v=>match P.underlying t with
  |some (.slice _)=>(match v with | .d .aJ=>some true | .d (.sl _ (_::_))=>some false | .clip _ (_::_)=>some false | .ns b=>some b | .aH _ _ _ (_+1)=>some false |_=>none)
  |_=>none
 | .cU,v=>match P.underlying t with
  |some (.pointer _)=>(match v with | .d .cU=>some true | .d (.ptr _)=>some false | .d (.bR _)=>some false | .loc .. =>some false | .rp .. =>some false |_=>none)
  |_=>none
 | .de,v=>match P.underlying t with
  |some (.map _ _)=>(match v with | .d .de=>some true | .d (.map _)=>some false |_=>none)
  |_=>none
 | .cZ,v=>match P.underlying t with
  |some (.func _ _ _)=>(match v with | .d .cZ=>some true | .d (.fn ..)=>some false |_=>none)
  |_=>none
 | .bX,v=>match P.underlying t with
  |some (.interface _)=>(match v with | .d .bX=>if cst then some true else none | .d (.iface ..)=>some false |_=>none)
  |_=>none
 |_,_=>none
def eqV(P:Pz)(cst:Bool)(t:TypeId)(x y:SV):U Bool:=
 match x,y with
 | .d (.bool a),.d (.bool b)=>match P.underlying t with |some .bool=>some (a==b) |_=>none
 | .d (.agg a),.d (.agg b)=>(rA P t).bind λc=>tY c a b
 |x,.d y=>match ua P cst t y x with
  |some b=>some b
  |none=>match x with | .d x=>ua P cst t x (.d y) |_=>none
 | .d x,y=>ua P cst t x y
 |_,_=>none
def gR(P:Pz)(cst:Bool)(op:BinOp)(t:TypeId)(x y:SV):U D:=
 match x,y with
 | .d (.int k a),.d (.int k' b)=>
  match op with
  | .shl | .shr=>QZ op k a b
  |op=>if k=k' then my op k a b else none
 | .d (.str a),.d (.str b)=>Q1 op a b
 |x,y=>
  match op with
  | .eql=>(eqV P cst t x y).map .bool
  | .neq=>(eqV P cst t x y).map λb=>.bool (!b)
  |_=>none
def unE(op:UnOp):SV->U D
 | .d (.bool b)=>match op with | .not=>some (.bool (!b)) |_=>none
 | .d (.int k n)=>match op with | .neg=>my .sub k 0 n | .xor=>my .xor k (if k.signed then -1 else k.max) n |_=>none
 |_=>none
def F7(P:Pz)(a dst:TypeId):SV->U D
 | .d (.int _ n)=>match P.underlying a,P.underlying dst with
  |some _,some (.int k)=>some (.int k (k.wrap n))
  |_,_=>none
 |_=>none
def o5(k:Wk)(r:aj)(p:dR)(i off:Nat):Bool:=
 match (k.get r).bind (·.at p)with
 |some (.own a)=>(match a[i]? with |some e=>decide (off<e.nc) |none=>false)
 |_=>false
def gU(P:Pz)(t:TypeId)(x i:SV)(k:Wk):U SV:=
 match i with
 | .d (.int _ n)=>
  match P.underlying t with
  |some (.slice e)=>
   match x with
   |.d (.sl b l)|.clip b l=>if 0<=n then(l[n.toNat]?).bind λy=>if y.nc=P.cellsOf e then some (.rp b y.cells)else none else none
   | .aH r p a d=>
    if 0<=n/\n<d then
     (k.get r).bind λc=>(c.at p).bind λh=>match h with
      | .own g=>(g[a+n.toNat]?).bind λy=>if y.nc=P.cellsOf e then some (.loc r p (a+n.toNat) 0)else none
      |_=>none
    else none
   |_=>none
  |some (.array d e)=>
   match bD x with
   | .loc r p j a=>if 0<=n/\n<d/\(P.info? e).isSome/\o5 k r p j (a+n.toNat * P.cellsOf e)then some (.loc r p j (a+n.toNat * P.cellsOf e))else none
   | .rp b f=>if 0<=n/\n<d/\(P.info? e).isSome then some (.rp b (f.drop (n.toNat * P.cellsOf e)))else none
   |_=>none
  |_=>none
 |_=>none
def eL(P:Pz)(t:TypeId)(x:SV)(f:Nat)(k:Wk):U SV:=
 (dz P t f).bind λ(o,n,_)=>
  if 0<n then
   match bD x with
   | .loc r p i a=>if o5 k r p i (a+o)then some (.loc r p i (a+o))else none
   | .rp b c=>some (.rp b (c.drop o))
   |_=>none
  else none
def cell1:SV->U SV
 | .d (.agg _)=>none
 |x=>some x
def aci(cs:J SV)(off n:Nat)(a:Bool):U SV:=
 if a then(if off+n<=cs.length then some (SV.br (bz cs off n))else none)else(cs[off]?).bind cell1
def F8(P:Pz)(t:TypeId)(x:SV)(f:Nat):U SV:=
 (dz P t f).bind λ(o,n,a)=>
  match x with
  | .d (.agg l)=>if a then(if o+n<=l.length then some (.d (.agg (bz l o n)))else none)else(l[o]?).bind D.sv1
  | .agg l=>aci l o n a
  |_=>none
def ub(P:Pz)(t:TypeId)(x i:SV):U SV:=
 match i with
 | .d (.int _ n)=>
  match x with
  | .d (.str s)=>match P.underlying t with
   |some .string=>if 0<=n then(s[n.toNat]?).map λb=>.d (.int .u8 b.toNat)else none
   |_=>none
  | .d (.agg l)=>match P.underlying t with
   |some (.array a e)=>if 0<=n/\n<a/\0<P.cellsOf e then
     (oR P e).bind λc=>(if c then(if n.toNat * P.cellsOf e+P.cellsOf e<=l.length then some (.d (.agg (bz l (n.toNat * P.cellsOf e) (P.cellsOf e))))else none)else(l[n.toNat * P.cellsOf e]?).bind D.sv1)else none
   |_=>none
  |_=>none
 |_=>none
def eY:U SV->Nat->U Nat
 |none,d=>some d
 |some (.d (.int _ n)),_=>if 0<=n then some n.toNat else none
 |_,_=>none
def headD(n:Nat):J D->Bool
 | []=>true
 |x::_=>x.nc==n
def IK(n:Nat):J T->Bool
 | []=>true
 |x::_=>x.nc==n
def tC(n:Nat)(r:aj)(p:dR)(o m:Nat)(k:Wk):Bool:=
 match (k.get r).bind λc=>c.at p with
 |some (.own a)=>IK n (bz a o m)
 |_=>false
def kx(P:Pz)(t:TypeId)(x:SV)(lo hi f:U SV)(k:Wk):U SV:=
 match x with
 | .d (.str s)=>match P.underlying t,f with
  |some .string,none=>(eY lo 0).bind λl=>(eY hi s.length).bind λh=>if l<=h/\h<=s.length then some (.d (.str (bz s l (h - l))))else none
  |_,_=>none
 | .d (.sl b d)=>match P.underlying t,f with
  |some (.slice e),none=>(eY lo 0).bind λl=>(eY hi d.length).bind λh=>if l<=h/\h<=d.length/\(P.info? e).isSome/\headD (P.cellsOf e) (bz d l (h - l))then some (.d (.sl b (bz d l (h - l))))else none
  |some (.slice e),some m=>(eY lo 0).bind λl=>(eY hi d.length).bind λh=>(eY (some m) 0).bind λm=>
    if l<=h/\h=m/\h<=d.length/\hi.isSome/\(P.info? e).isSome/\headD (P.cellsOf e) (bz d l (h - l))then some (.clip b (bz d l (h - l)))else none
  |_,_=>none
 | .d .aJ=>match P.underlying t,f with
  |some (.slice e),none=>(eY lo 0).bind λl=>(eY hi 0).bind λh=>if l=0/\h=0/\(P.info? e).isSome then some (.d .aJ)else none
  |some (.slice e),some m=>(eY lo 0).bind λl=>(eY hi 0).bind λh=>(eY (some m) 0).bind λm=>if l=0/\h=0/\m=0/\hi.isSome/\(P.info? e).isSome then some (.d .aJ)else none
  |_,_=>none
 | .aH r p a c=>match P.underlying t,f with
  |some (.slice e),none=>(eY lo 0).bind λl=>(eY hi c).bind λh=>if l<=h/\h<=c/\(P.info? e).isSome/\tC (P.cellsOf e) r p (a+l) (h - l) k then some (.aH r p (a+l) (h - l))else none
  |some (.slice e),some m=>(eY lo 0).bind λl=>(eY hi c).bind λh=>(eY (some m) 0).bind λm=>
    if l<=h/\h<=m/\m<=c/\hi.isSome/\(P.info? e).isSome/\tC (P.cellsOf e) r p (a+l) (h - l) k then some (.aH r p (a+l) (h - l))else none
  |_,_=>none
 |_=>none
def F9(P:Pz)(t:TypeId)(H:J Ob):SV->U Int
 | .d (.str s)=>match P.underlying t with |some .string=>some s.length |_=>none
 | .d .aJ=>match P.underlying t with |some (.slice _)=>some 0 |_=>none
 |.d (.sl _ l)|.clip _ l=>match P.underlying t with |some (.slice _)=>some l.length |_=>none
 | .ns _=>match P.underlying t with |some (.slice _)=>some 0 |_=>none
 | .aH _ _ _ a=>match P.underlying t with |some (.slice _)=>some a |_=>none
 | .d .de=>match P.underlying t with |some (.map _ _)=>some 0 |_=>none
 | .d (.map o)=>match P.underlying t,H[o]? with |some (.map _ _),some (.map b)=>some b.length |_,_=>none
 |_=>none
def fW:List T->Bool
 | []=>true
 | .d _::r=>fW r
 |_::_=>false
def gc(nv:Nat)(v:SV)(k:Wk):U (J T×Wk):=
 match v with
 | .d .aJ=>some ([],k)
 |.d (.sl _ l)|.clip _ l=>some (l.map .d,k)
 | .ns _=>some ([],k)
 | .aH r p b a=>
  (k.get r).bind λc=>(c.at p).bind λe=>match e with
   | .own d=>
    match r,p with
    | .l n j,[]=>if nv<=n/\b=0/\a=d.length then(k.set (.l n j) .dead).map λ(k:Wk)=>(d,k.tell (.kill (.l n j) []))
     else if fW (bz d b a)then some (bz d b a,k)else none
    |_,_=>if fW (bz d b a)then some (bz d b a,k)else none
   |_=>none
 |_=>none
def dY(n:Nat)(l:J T):Bool:=l.all λt=>t.nc==n
def Q2(len:Nat)(es a:J T):Bool:=decide (len≠0) || es.isEmpty || !a.isEmpty
def qs(n:Nat)(b:J T)(v:SV)(k:Wk):U (J T×Wk):=
 match v with
 |.d .aJ|.clip _ []=>some ([],k)
 | .aH r p e a=>
  if e=0 then
   (k.get r).bind λc=>(c.at p).bind λf=>match f with
    | .own d=>if a<=d.length/\dY n d/\Q2 a d b then(c.put p .dead).bind λc'=>(k.set r c').map λ(k:Wk)=>(d.take a,k.tell (.kill r p))else none
    |_=>none
  else none
 |_=>none
def iA(P:Pz)(nv dst:Nat)(t:TypeId)(s x:SV)(k:Wk):U (SV×Wk):=
 (elemOf P t).bind λe=>(dS P e).bind λz=>(gc nv x k).bind λ(a,k)=>
  if 0<P.cellsOf e/\dY (P.cellsOf e) a/\z.nc=P.cellsOf e then
   (qs (P.cellsOf e) a (aU k.tr s) k).bind λ(b,k)=>
    if(b.length+a.length) * P.bytesOf e<=140737488355328/\b.length+a.length<=9223372036854775807 then
     some (.aH (.l dst 0) [] 0 (b++a).length,k.new dst 0 (.own (b++a)))
    else none
  else none
def Ga(P:Pz)(dst:Nat)(t:TypeId)(l c:SV)(k:Wk):U (SV×Wk):=
 match l,c with
 | .d (.int _ n),.d (.int _ m)=>
  (elemOf P t).bind λe=>(dS P e).bind λz=>
   if 0<=n/\n<=m/\(n=0->m=0)/\(P.bytesOf e:Int) * m<=281474976710656/\m<=9223372036854775807/\0<P.cellsOf e/\z.nc=P.cellsOf e then
    some (.aH (.l dst 0) [] 0 n.toNat,k.new dst 0 (.own (List.replicate n.toNat (T.cj z))))
   else none
 |_,_=>none
def tD(l:List T):List (Nat×T)->Option (List T)
 | []=>some l
 |(i,t)::r=>if i<l.length then tD (l.set i t) r else none
def gm(nv:Nat):List (Nat×SV)->Wk->Option (List (Nat×T)×Wk)
 | [],k=>some ([],k)
 |(i,v)::r,k=>(fV nv v k).bind λ(t,k)=>(gm nv r k).map λ(a,k)=>((i,t)::a,k)
def isD:SV->Bool
 | .d _=>true
 |_=>false
def gd(P:Pz)(nv dst:Nat)(b:Bool)(t:TypeId)(len:Nat)(a:J (Nat×SV))(k:Wk):U (SV×Wk):=
 (elemOf P t).bind λe=>(dS P e).bind λz=>(gm nv a k).bind λ(c,k)=>
  if 0<P.cellsOf e/\c.all (λp=>p.2.nc==P.cellsOf e)/\len * P.cellsOf e<=16777216/\z.nc=P.cellsOf e then
   (tD (List.replicate len (T.cj z)) c).bind λd=>
    if b then(if a.all (λp=>isD p.2)then(T.aZ false d).map λf=>(.d (.sl false f),k)else none)
    else some (.aH (.l dst 0) [] 0 len,k.new dst 0 (.own d))
  else none
def SV.solid:SV->Bool
 |.dead|.aS _=>false
 |_=>true
def dZ(P:Pz)(t:TypeId):U (Nat ⊕ J (Nat×Nat)):=
 match P.underlying t with
 |some (.struct a)=>(a.toList.mapM λf=>(P.info? f.type).map λi=>(f.offset,i.size)).map .inr
 |some (.array _ e)=>(P.info? e).map λi=>.inl i.size
 |_=>none
def wn:Nat ⊕ J (Nat×Nat)->Nat->U (Nat×Nat)
 | .inl n,i=>some (i * n,n)
 | .inr l,i=>l[i]?
def AD(b:Nat ⊕ List (Nat×Nat)):List SV->List (Nat×SV)->Option (List SV)
 |a,[]=>some a
 |a,(i,v)::r=>(wn b i).bind λ(o,n)=>if v.solid/\v.nc=n/\o+n<=a.length then AD b (a.take o++v.cells++a.drop (o+n)) r else none
def BU(P:Pz)(t:TypeId)(a:J (Nat×SV)):U SV:=
 match dS P t with
 |some (.agg z)=>(dZ P t).bind λb=>(AD b (z.map .d) a).map SV.br
 |_=>none
def eC(P:Pz)(kt:TypeId)(x y:D):U Bool:=
 match x,y with
 | .agg a,.agg b=>(rA P kt).bind λc=>tY c a b
 |x,y=>(ja P kt).bind λn=>eqK n x y
def jX(eq:D->D->Option Bool)(key:D):List (D×T)->Option (Option T)
 | []=>some none
 |e::r=>(eq key e.1).bind λb=>if b then some (some e.2)else jX eq key r
def qt(eq:D->D->Option Bool)(key:D)(v:T):List (D×T)->Option (List (D×T))
 | []=>some [(key,v)]
 |e::r=>(eq key e.1).bind λb=>if b then some ((key,v)::r)else(qt eq key v r).map (e::·)
def Mz(ks:J (J UInt8)):D->U (U T)
 | .str s=>some (if ks.contains s=true then some (.d (.bool true))else none)
 |_=>none
def BV(ks:J (J UInt8))(kd y:D):U (J (J UInt8)):=
 match kd,y with
 | .str s,.bool true=>some (s::ks)
 |_,_=>none
def mz(P:Pz)(t:TypeId):U (TypeId×TypeId):=match P.underlying t with |some (.map a e)=>some (a,e) |_=>none
def nA(P:Pz)(t:TypeId)(m key:SV)(d:Bool)(H:J Ob):U SV:=
 (mz P t).bind λ(c,e)=>
  match key with
  | .d a=>
   if(eC P c a a).isSome then
   (match m with
   | .d .de=>some none
   | .d (.map o)=>match H[o]? with |some (.map f)=>jX (eC P c) a f |some (.sset g)=>Mz g a |_=>none
   |_=>none).bind λr=>(dS P e).bind λz=>
    (match r with |some (.d x)=>some (x,true) |some _=>none |none=>some (z,false)).map λ(x,b)=>if d then .aS [.d x,.d (.bool b)]else .d x
   else none
  |_=>none
def hD(P:Pz)(nv:Nat)(t:TypeId)(m key v:SV)(k:Wk):U Wk:=
 (mz P t).bind λ(d,_)=>
  match m,key with
  | .d (.map o),.d b=>if(eC P d b b).isSome then(fV nv v k).bind λ(x,k)=>match x,k.H[o]? with
   | .d y,some (.map a)=>(qt (eC P d) b (.d y) a).map λa=>{k with H:=k.H.set o (.map a)}
   | .own l,some (.map a)=>(qt (eC P d) b (.own l) a).map λa=>{k with H:=k.H.set o (.map a)}
   | .d y,some (.sset c)=>(BV c b y).map λc=>{k with H:=k.H.set o (.sset c)}
   |_,_=>none
   else none
  |_,_=>none
def Gb(_:Pz)(_:Nat)(_:TypeId)(_ _:SV)(_:Wk):U (SV×Wk):=none
def w!:List (D×T)->Option (List (D×T))
 | []=>some []
 |e::r=>(T.cR false e.2).bind λx=>(w! r).map ((e.1,.d x)::·)
def atM:SV->U SV
 | .d x=>some (.d x.norm)
 |_=>none
def nY(_:Pz)(_:TypeId)(_ _:SV)(_:Wk):U (SV×Wk):=none
def Gc(h:Hint)(dst:Nat)(x:T)(k:Wk):U (SV×Wk):=
 if x.nc=0 then none
 else if h.cA.contains dst then some (.d (.ptr k.H.length),{k with H:=k.H++[.box x]})
 else some (.loc (.l dst 0) [] 0 0,k.new dst 0 (.own [x]))
def ff(dst:Nat)(slice:Bool)(v:SV)(k:Wk):U (SV×Wk):=
 match v with
 | .d .aJ=>if slice then some (.aH (.l dst 0) [] 0 0,k.new dst 0 (.own []))else some (.d .aJ,k)
 | .aH (.l n j) [] 0 a=>
  if(n,j)=(dst,0)then some (.aH (.l n j) [] 0 a,k)else
  (k.get (.l n j)).bind λc=>match c with
   | .own b=>
    if a=b.length then some (.aH (.l dst 0) [] 0 a,({k with ct:=((n,j),.dead)::k.ct}.new dst 0 c).tell (.dp (n,j) (dst,0)))
    else some (.aH (.l n j) [] 0 a,k)
   |_=>none
 |v=>some (v,k)
def SW:SV->SV->U D
 | .d (.int q a),.d (.int _ b)=>some (.int q (if b<a then b else a))
 |_,_=>none
def SX:SV->SV->U D
 | .d (.int q a),.d (.int _ b)=>some (.int q (if b >a then b else a))
 |_,_=>none
def uc(P:Pz)(t:TypeId)(x:SV)(k:Wk):U (SV×Wk):=
 match P.underlying t,x with
 |some .string,.d (.str s)=>some (.d (.ptr k.H.length),{k with H:=k.H++[.iter s 0]})
 |some (.map _ _),.d .de=>some (.d (.ptr k.H.length),{k with H:=k.H++[.bY none]})
 |some (.map _ _),.d (.map o)=>match k.H[o]? with
  |some (.map _)=>some (.d (.ptr k.H.length),{k with H:=k.H++[.bY (some o)]})
  |_=>none
 |_,_=>none
def CZ(x:SV)(str:Bool)(k:Wk):U (SV×Wk):=
 match x with
 | .d (.ptr i)=>match k.H[i]?,str with
  |some (.iter s p),true=>
   if p<s.length then
    let r:=Utf8.decode ⟨s.toArray⟩ p
    some (.aS [.d (.bool true),.d (.i p),.d (.int .i32 r.1)],{k with H:=k.H.set i (.iter s (p+r.2))})
   else some (.aS [.d (.bool false)],k)
  |some (.bY none),false=>some (.aS [.d (.bool false)],k)
  |some (.bY (some m)),false=>match k.H[m]? with
   |some (.map [])=>some (.aS [.d (.bool false)],k)
   |_=>none
  |_,_=>none
 |_=>none
def mU(P:Pz)(t:TypeId):SV->U SV
 | .d x=>match P.underlying t with
  |some (.interface _)=>none
  |some _=>some (.d (.iface t x))
  |none=>none
 |_=>none
def rB(P:Pz)(u:TypeId)(a:Bool):SV->U SV
 | .d .bX=>match P.underlying u with
  |some (.interface _)=>none
  |some _=>if a then(dS P u).map λz=>.aS [.d z,.d (.bool false)]else none
  |none=>none
 | .d (.iface t x)=>match P.underlying u with
  |some (.interface _)=>none
  |some _=>if t=u then some (if a then .aS [.d x,.d (.bool true)]else .d x)else if a then(dS P u).map λz=>.aS [.d z,.d (.bool false)]else none
  |none=>none
 |_=>none
def isConst:Oz->Bool
 | .const _=>true
 |_=>false
def Pf:D->Bool
 | .cZ=>false
 |_=>true
mutual
def D.flat:D->Bool
 |.int _ _|.bool _|.str _=>true
 | .agg l=>D.flats l
 | .iface _ x=>x.flat
 |_=>false
def D.flats:List D->Bool
 | []=>true
 |x::r=>x.flat&&D.flats r
end
def lH(r:aj)(p:dR)(off:Nat)(xs:J D)(k:Wk):U Wk:=
 if xs=[]then some k else(k.get r).bind λc=>(c.at p).bind λb=>match b with
  | .own a=>if off+xs.length<=a.length/\dY 1 a=true/\fW a=true/\xs.all (λx=>x.nc==1)=true then(c.put p (.own (a.take off++xs.map .d++a.drop (off+xs.length)))).bind (k.set r)else none
  |_=>none
def ud:List T->Option (List D)
 | []=>some []
 | .d x::r=>if x.flat=true then(ud r).map (x::·)else none
 |_=>none
def aj.past:aj->Nat
 | .l n _=>n+1
 | .o _=>0
def qu(v:SV)(k:Wk):U (J T):=match v with
 | .aH r p b a=>(gc r.past (.aH r p b a) k).map (·.1)
 |.d (.sl _ l)|.clip _ l=>some (l.map .d)
 |.d .aJ|.ns _=>some []
 |_=>none
def nZ(P:Pz)(t:TypeId)(a b:SV)(k:Wk):U (SV×Wk):=
 match a with
 | .aH r p g d=>(elemOf P t).bind λe=>(qu b k).bind λc=>(ud c).bind λf=>
  if P.cellsOf e=1/\dY 1 c=true then(lH r p g (f.take (Nat.min f.length d)) k).map λk'=>(.d (.int .i64 ((Nat.min f.length d:Nat):Int)),k')else none
 |_=>none
def opE(P:Pz)(h:Hint)(dst:Nat)(ty:TypeId)(op:Op)(ρ:Oz->SV)(k:Wk):U (SV×Wk):=
 match op with
 | .move x=>some (ρ x,k)
 | .assign x=>ff dst (elemOf P ty).isSome (ρ x) k
 | .pick c a b=>match ρ c with | .d (.bool t)=>some (if t then ρ a else ρ b,k) |_=>none
 | .alloc e=>(dS P e).bind λz=>Gc h dst (T.cj z) k
 | .box e x=>(jD h.nv (ρ x) k).bind λ(t,k)=>if t.nc=P.cellsOf e then Gc h dst t k else none
 | .build t d=>(BU P t (d.toList.map λp=>(p.1,ρ p.2))).map (·,k)
 | .buildSlice t B d=>gd P h.nv dst (h.lits.contains dst) t B (d.toList.map λp=>(p.1,ρ p.2)) k
 | .load t (.global g)=>(h.gl g).bind λx=>if Pf x=true then(hJ P t (.rp true x.cells) k).map (·,k)else none
 | .load t a=>if h.lits.contains dst=true then(hJ P t (ρ a) k).bind λv=>t6 dst v k else(hJ P t (ρ a) k).map (·,k)
 | .store t a v=>(mT P h.nv t (ρ a) (ρ v) k).map (.dead,·)
 | .nilCheck x=>match ρ x with | .loc r p i o=>some (.loc r p i o,k) | .rp b w=>some (.rp b w,k) | .d (.ptr o)=>some (.d (.ptr o),k) | .d (.bR w)=>some (.d (.bR w),k) | .d (.fn (.func f) a c)=>some (.d (.fn (.func f) a c),k) |_=>none
 | .binOp op t x y _=>(gR P (isConst x || isConst y) op t (ρ x) (ρ y)).map λy=>(.d y,k)
 | .unOp op _ x=>(unE op (ρ x)).map λy=>(.d y,k)
 | .convert s t x=>(F7 P s t (ρ x)).map λy=>(.d y,k)
 | .makeFunc f a c=>(SV.bH (a.toList.map ρ)).bind λa=>(SV.bH (c.toList.map ρ)).map λc=>(.d (.fn f a c),k)
 | .makeMap _ none=>some (.d (.map k.H.length),{k with H:=k.H++[if h.lits.contains dst=true then .sset []else .map []]})
 | .makeMap t (some n)=>match mz P t,ρ n with |some _,.d (.int _ _)=>some (.d (.map k.H.length),{k with H:=k.H++[.map []]}) |_,_=>none
 | .makeSlice t l c=>Ga P dst t (ρ l) (ρ c) k
 | .slice t x C D E=>(kx P t (ρ x) (C.map ρ) (D.map ρ) (E.map ρ) k).map (·,k)
 | .fieldAddr t x f=>(eL P t (ρ x) f k).map (·,k)
 | .field t x f=>(F8 P t (ρ x) f).map (·,k)
 | .indexAddr t x i=>(gU P t (ρ x) (ρ i) k).map (·,k)
 | .index t x i=>(ub P t (ρ x) (ρ i)).map (·,k)
 | .lookup t m j q=>
  if h.lits.contains dst=true then(if q then none else Gb P dst t (ρ m) (ρ j) k)
  else if h.cA.contains dst=true then(if q then none else nY P t (ρ m) (ρ j) k)
  else(nA P t (ρ m) (ρ j) q k.H).map (·,k)
 |.mapUpdate t m j v|.insert t m j v=>(hD P h.nv t (ρ m) (ρ j) (ρ v) k).map (.dead,·)
 | .range t x=>uc P t (ρ x) k
 | .next x A=>CZ (ρ x) A k
 | .makeInterface t x=>(mU P t (ρ x)).map (·,k)
 | .typeAssert x _ u q=>(rB P u q (ρ x)).map (·,k)
 | .extract x n=>match ρ x with | .aS l=>(l[n]?).map (·,k) |_=>none
 | .call {callee:=.builtin .len,args,argTypes}=>match args.toList,argTypes.toList with
  | [x],[t]=>(F9 P t k.H (ρ x)).map λn=>(.d (.int .i64 n),k)
  |_,_=>none
 | .call {callee:=.builtin .min,args,argTypes:=_}=>match args.toList with
  | [x,y]=>(SW (ρ x) (ρ y)).map λn=>(.d n,k)
  |_=>none
 | .call {callee:=.builtin .max,args,argTypes:=_}=>match args.toList with
  | [x,y]=>(SX (ρ x) (ρ y)).map λn=>(.d n,k)
  |_=>none
 | .call {callee:=.builtin .copy,args,argTypes}=>match args.toList,argTypes.toList with
  | [x,y],[t,_]=>nZ P t (ρ x) (ρ y) k
  |_,_=>none
 | .call {callee:=.builtin .append,args,argTypes}=>match args.toList,argTypes.toList with
  | [x,y],[t,u]=>if t=u then iA P h.nv dst t (ρ x) (ρ y) k else none
  |_,_=>none
 |_=>none
mutual
def D.beq:D->D->Bool
 | .int k n,.int k' q=>decide (k=k')&&decide (n=q)
 | .bool b,.bool g=>decide (b=g)
 | .str s,.str m=>decide (s=m)
 | .aJ,.aJ=>true
 | .sl b l,.sl g e=>decide (b=g)&&D.cg l e
 | .agg l,.agg e=>D.cg l e
 | .cU,.cU=>true
 | .ptr o,.ptr d=>decide (o=d)
 | .de,.de=>true
 | .map o,.map d=>decide (o=d)
 | .cZ,.cZ=>true
 | .fn f a c,.fn h p c'=>decide (f=h)&&D.cg a p&&D.cg c c'
 | .bX,.bX=>true
 | .iface t x,.iface j u=>decide (t=j)&&D.beq x u
 | .bR l,.bR e=>D.cg l e
 | .yld o,.yld d=>decide (o=d)
 |_,_=>false
def D.cg:List D->List D->Bool
 | [],[]=>true
 |x::r,y::s=>D.beq x y&&D.cg r s
 |_,_=>false
end
mutual
theorem D.beq_eq:∀(x y:D),D.beq x y=true->x=y
 | .int k n,y,h=>by cases y <;>simp_all [D.beq]
 | .bool b,y,h=>by cases y <;>simp_all [D.beq]
 | .str s,y,h=>by cases y <;>simp_all [D.beq]
 | .aJ,y,h=>by grind [D.beq]
 | .sl b l,y,h=>by
  cases y <;>simp only[D.beq,xA,yD,xH]at h
  rw[h.1,D.bK l _ h.2]
 | .agg l,y,h=>by
  cases y <;>simp only[D.beq,xH]at h
  rw[D.bK l _ h]
 | .cU,y,h=>by grind [D.beq]
 | .ptr o,y,h=>by cases y <;>simp_all [D.beq]
 | .de,y,h=>by grind [D.beq]
 | .map o,y,h=>by cases y <;>simp_all [D.beq]
 | .cZ,y,h=>by grind [D.beq]
 | .fn f a c,y,h=>by
  cases y <;>simp only[D.beq,xA,yD,xH]at h
  rw[h.1.1,D.bK a _ h.1.2,D.bK c _ h.2]
 | .bX,y,h=>by grind [D.beq]
 | .iface t x,y,h=>by
  cases y <;>simp only[D.beq,xA,yD,xH]at h
  rw[h.1,D.beq_eq x _ h.2]
 | .bR l,y,h=>by
  cases y <;>simp only[D.beq,xH]at h
  rw[D.bK l _ h]
 | .yld o,y,h=>by cases y <;>simp_all [D.beq]
theorem D.bK:∀(l m:List D),D.cg l m=true->l=m
 | [],m,h=>by grind [D.cg]
 |x::r,m,h=>by
  cases m with
  |nil=>simp[D.cg]at h
  |cons y s=>
   simp only[D.cg,xA]at h
   rw[D.beq_eq x y h.1,D.bK r s h.2]
end
mutual
def T.beq:T->T->Bool
 | .d x,.d y=>D.beq x y
 |.own l,.own m|.agg l,.agg m=>T.cg l m
 | .dead,.dead=>true
 |_,_=>false
def T.cg:List T->List T->Bool
 | [],[]=>true
 |x::r,y::s=>T.beq x y&&T.cg r s
 |_,_=>false
end
mutual
theorem T.beq_eq:∀(x y:T),T.beq x y=true->x=y
 | .d x,y,h=>by
  cases y <;>simp only[T.beq,xH]at h
  rw[D.beq_eq x _ h]
 | .own l,y,h=>by
  cases y <;>simp only[T.beq,xH]at h
  rw[T.bK l _ h]
 | .agg l,y,h=>by
  cases y <;>simp only[T.beq,xH]at h
  rw[T.bK l _ h]
 | .dead,y,h=>by grind [T.beq]
theorem T.bK:∀(l m:List T),T.cg l m=true->l=m
 | [],m,h=>by grind [T.cg]
 |x::r,m,h=>by
  cases m with
  |nil=>simp[T.cg]at h
  |cons y s=>
   simp only[T.cg,xA]at h
   rw[T.beq_eq x y h.1,T.bK r s h.2]
end
mutual
def SV.beq:SV->SV->Bool
 | .d x,.d y=>D.beq x y
 | .aH r p o l,.aH c e f h=>decide (r=c)&&decide (p=e)&&decide (o=f)&&decide (l=h)
 | .loc r p i o,.loc c e g f=>decide (r=c)&&decide (p=e)&&decide (i=g)&&decide (o=f)
 |.rp b l,.rp a m|.clip b l,.clip a m=>decide (b=a)&&D.cg l m
 | .ns b,.ns a=>decide (b=a)
 |.agg l,.agg m|.aS l,.aS m=>SV.cg l m
 | .dead,.dead=>true
 |_,_=>false
def SV.cg:List SV->List SV->Bool
 | [],[]=>true
 |x::r,y::s=>SV.beq x y&&SV.cg r s
 |_,_=>false
end
mutual
theorem SV.beq_eq:∀(x y:SV),SV.beq x y=true->x=y
 | .d x,y,h=>by
  cases y <;>simp only[SV.beq,xH]at h
  rw[D.beq_eq x _ h]
 | .aH r p o l,y,h=>by cases y <;>simp_all [SV.beq]
 | .loc r p i o,y,h=>by cases y <;>simp_all [SV.beq]
 | .rp b l,y,h=>by
  cases y <;>simp only[SV.beq,xA,yD,xH]at h
  grind [D.bK]
 | .clip b l,y,h=>by
  cases y <;>simp only[SV.beq,xA,yD,xH]at h
  grind [D.bK]
 | .ns b,y,h=>by cases y <;>simp_all [SV.beq]
 | .agg l,y,h=>by
  cases y <;>simp only[SV.beq,xH]at h
  rw[SV.bK l _ h]
 | .aS l,y,h=>by
  cases y <;>simp only[SV.beq,xH]at h
  rw[SV.bK l _ h]
 | .dead,y,h=>by grind [SV.beq]
theorem SV.bK:∀(l m:List SV),SV.cg l m=true->l=m
 | [],m,h=>by grind [SV.cg]
 |x::r,m,h=>by
  cases m with
  |nil=>simp[SV.cg]at h
  |cons y s=>
   simp only[SV.cg,xA]at h
   rw[SV.beq_eq x y h.1,SV.bK r s h.2]
end
def BW{a:Type}(f:a->a->Bool):List a->List a->Bool
 | [],[]=>true
 |x::r,y::s=>f x y&&BW f r s
 |_,_=>false
theorem J0{a:Type}{f:a->a->Bool}(hf:∀x y,f x y=true->x=y):∀(l m:J a),BW f l m=true->l=m
 | [],m,h=>by grind [BW]
 |x::r,m,h=>by
  cases m with
  |nil=>simp[BW]at h
  |cons y s=>
   simp only[BW,xA]at h
   rw[hf x y h.1,J0 hf r s h.2]
def Ob.beq:Ob->Ob->Bool
 | .box x,.box y=>T.beq x y
 | .map l,.map m=>BW (λa b=>D.beq a.1 b.1&&T.beq a.2 b.2) l m
 | .iter s p,.iter e d=>decide (s=e)&&decide (p=d)
 | .bY m,.bY c=>decide (m=c)
 | .lock,.lock=>true
 |_,_=>false
theorem Ob.beq_eq(x y:Ob)(h:Ob.beq x y=true):x=y:=by
 cases x <;>cases y <;>simp only[Ob.beq,xA,yD,xH]at h
 .rw[T.beq_eq _ _ h]
 .grind [J0,D.beq_eq,T.beq_eq]
 .rw[h.1,h.2]
 .rw[h]
 .rfl
def St.beq(s s':St):Bool:=
 BW (λa b=>decide (a.1=b.1)&&SV.beq a.2 b.2) s.env s'.env&&BW (λa b=>decide (a.1=b.1)&&T.beq a.2 b.2) s.ct s'.ct&&BW Ob.beq s.H s'.H
theorem St.beq_eq(s s':St)(h:St.beq s s'=true):s=s':=by
 obtain⟨e,c,H⟩:=s;obtain⟨a,c',b⟩:=s'
 grind [St.beq,J0,SV.beq_eq,T.beq_eq,Ob.beq_eq]
structure bn where
 sn:Bool:=false
 lk:List Nat:=[]
def EM:Nat:=1099511627776
def fJ(nv:Nat)(v:SV)(k:Wk)(b:bn):U (D×Wk×bn):=
 match v with
 | .d x=>some (if EM<=nv then x else x.norm,k,b)
 | .clip t l=>some (.sl t l,k,b)
 | .ns _=>some (.sl false [],k,b)
 | .aH r p d a=>
  (k.get r).bind λc=>(c.at p).bind λf=>match f with
   | .own e=>
    if EM<=nv/\e.isEmpty=true then some (.sl false [],k,b)else
    match r,p with
    | .l n j,[]=>
     if nv<=n/\d=0/\a=e.length then(T.aZ false e).bind λl=>(k.set (.l n j) .dead).map λ(k:Wk)=>(.sl false l,k.tell (.cR (.l n j) [] l),b)
     else(T.aZ true e).map λl=>(.sl true (bz l d a),k,{b with sn:=true})
    | .l _ _,_=>(T.aZ true e).map λl=>(.sl true (bz l d a),k,{b with sn:=true})
    | .o n,_=>(T.aZ true e).map λl=>(.sl true (bz l d a),k,{sn:=true,lk:=n::b.lk})
   |_=>none
 |_=>none
def lD(nv:Nat):List SV->Wk->bn->Option (List D×Wk×bn)
 | [],k,b=>some ([],k,b)
 |v::r,k,b=>(fJ nv (aU k.tr v) k b).bind λ(x,k,b)=>(lD nv r k b).map λ(a,k,b)=>(x::a,k,b)
def wS(nv:Nat)(v:SV)(k:Wk)(b:bn):U (D×Wk×bn):=
 match v with
 | .agg l=>(lD nv l k b).map λ(a,k,b)=>(.agg a,k,b)
 |v=>fJ nv (aU k.tr v) k b
def gV(nv:Nat):List SV->Wk->bn->Option (List D×Wk×bn)
 | [],k,b=>some ([],k,b)
 |v::r,k,b=>(wS nv v k b).bind λ(x,k,b)=>(gV nv r k b).map λ(a,k,b)=>(x::a,k,b)
def gp(dst j:Nat)(t:T)(k:Wk):U (SV×Nat×Wk):=
 match t with
 | .d x=>some (.d x,j,k)
 | .own a=>some (.aH (.l dst j) [] 0 a.length,j+1,k.new dst j (.own a))
 |_=>none
def gf(dst:Nat):Nat->List T->Wk->Option (List SV×Nat×Wk)
 |j,[],k=>some ([],j,k)
 |j,t::r,k=>(gp dst j t k).bind λ(v,j,k)=>(gf dst j r k).map λ(a,j,k)=>(v::a,j,k)
def lz(dst j:Nat)(t:T)(k:Wk):U (SV×Nat×Wk):=
 match t with
 | .agg b=>(gf dst j b k).map λ(a,j,k)=>(.agg a,j,k)
 |t=>gp dst j t k
def io(dst:Nat):Nat->List T->Wk->Option (List SV×Wk)
 |_,[],k=>some ([],k)
 |j,t::r,k=>(lz dst j t k).bind λ(v,j,k)=>(io dst j r k).map λ(a,k)=>(v::a,k)
def pO(dst:Nat)(rs:J T)(k:Wk):U (SV×Wk):=
 (io dst 0 rs k).map λ(vs,k)=>(match vs with | [v]=>v |vs=>.aS vs,k)
abbrev dH:=FuncId->J D->J Ob->U (J T×J Ob)
def fQ(lk:J Nat)(H:J Ob):J Ob:=lk.foldl (λH n=>H.set n .lock) H
def jQ(a:J Ob)(lk:J Nat)(H:J Ob):J Ob:=lk.foldl (λH n=>match a[n]? with |some x=>H.set n x |none=>H) H
def ej:List Ob->List Ob->Bool
 | [],_=>true
 | .box c::r,.box c'::a=>c.nc==c'.nc&&ej r a
 |.map _::r,.map _::a|.iter _ _::r,.iter _ _::a|.bY _::r,.bY _::a|.frame .. ::r,.frame .. ::a|.lock::r,.lock::a|.row _::r,.row _::a|.sset _::r,.sset _::a=>ej r a
 |_,_=>false
mutual
def SV.cX:SV->Bool
 | .d x=>x.cX
 | .rp b a=> !b&&D.aY a
 | .clip b l=> !b&&D.aY l
 |.agg l|.aS l=>SV.aY l
 |_=>true
def SV.aY:List SV->Bool
 | []=>true
 |x::r=>x.cX&&SV.aY r
end
def gg:List Ob->Bool
 | []=>true
 | .box c::r=>c.cX&&gg r
 | .map a::r=>a.all (λe=>e.1.cX&&e.2.cX)&&gg r
 |.iter _ _::r|.bY _::r=>gg r
 | .frame _ _ _ _ b d::r=>b.all (λp=>p.2.cX)&&d.all (λp=>p.2.cX)&&gg r
 | .lock::r=>gg r
 | .row a::r=>T.aY a&&gg r
 | .sset _::r=>gg r
def fm(call:dH)(h:Hint)(dst:Nat)(f:FuncId)(ds:J D)(b:bn)(k:Wk):U (SV×Wk):=
 if h.aV.contains dst&&D.aQ 0 ds then
  (call f ds []).bind λ(a,c)=>if c.length=0/\(b.sn=true->T.aY a=true)then pO dst a k else none
 else if h.aV.contains dst then none
 else
  (call f ds (fQ b.lk k.H)).bind λ(a,c)=>
   if(b.sn=true->T.aY a=true/\gg c=true)/\ej (fQ b.lk k.H) c=true then pO dst a {k with H:=jQ k.H b.lk c,tr:=k.tr++[.bN]}else none
def BY(f:D->Option D):List D->Option (List D)
 | []=>some []
 |x::r=>(f x).bind λy=>(BY f r).map (y::·)
def roD(H:List Ob):Nat->D->Option D
 |0,_=>none
 |n+1,.ptr o=>match H[o]? with |some (.box c)=>(T.cR true c).bind λd=>(BY (roD H n) d.cells).map .bR |_=>none
 |n+1,.agg l=>(BY (roD H n) l).map .agg
 |_+1,x=>some x
def y7(H:J Ob):J Nat:=(List.range H.length).filter λn=>match H[n]? with |some a=> !gg [a] |none=>false
def gC(call:dH)(h:Hint)(dst:Nat)(f:FuncId)(ds:J D)(b:bn)(k:Wk):U (SV×Wk):=
 if h.ro.contains dst=true then(BY (roD k.H 4) ds).bind λa=>fm call h dst f (D.bl a) {sn:=true,lk:=List.range k.H.length++b.lk} k
 else if h.lkn.contains dst=true/\b.sn=true then fm call h dst f ds {b with lk:=b.lk++y7 k.H} k
 else fm call h dst f ds b k
def SV.bO:SV->Bool
 | .aS [.d _,.agg []]=>true
 |_=>false
def jY(r:SV×Wk):U (SV×Wk):=if r.1.bO=true then none else some r
def YB:Nat:=1099511627776
def AE(P:Pz)(g:FuncId):U String:=match P.funcs[g]? with
 |some a=>if a.body.isNone=true/\a.origin= "" then some a.name else none
 |none=>none
def S5(_:String)(_:J D):U D:=none
def dF(P:Pz)(call:dH)(h:Hint)(dst:Nat)(ty:TypeId)(op:Op)(ρ:Oz->SV)(k:Wk):U (SV×Wk):=
 match op with
 | .call {callee:=.value f,args, .. }=>
  match ρ f with
  | .d (.fn (.func g) first cap)=>if YB<=g then none else match AE P g with
   |some c=>(SV.bH (args.toList.map ρ)).bind λa=>(S5 c (first++a++cap)).map λy=>(.d y,k)
   |none=>(gV (h.nvAt dst) (args.toList.map ρ) k {}).bind λ(a,k,b)=>(gC call h dst g (canon b.sn (first++a++cap)) b k).bind jY
  | .d (.yld o)=>(gV (h.nvAt dst) (args.toList.map ρ) k {}).bind λ(a,k,b)=>(gC call h dst (YB+o) (canon b.sn a) b k).bind jY
  |_=>none
 |op=>opE P h dst ty op ρ k
def iu(ops:J Qz)(s:St)(o:Qz):U Bool:=
 match o.guard with
 |none=>some true
 |some (j,a)=>match (ops[j]?).bind (·.dst)with
  |some t=>match s.get t with
   | .d (.bool b)=>some (b==a)
   | .aS []=>some false
   |_=>none
  |none=>none
def St.fin(s:St)(dst:U Nat)(v:SV)(k:Wk):St:=
 {env:=match dst with |some d=>(d,v)::trs k.tr s.env |none=>trs k.tr s.env,ct:=k.ct,H:=k.H}
def St.wk(s:St):Wk:={ct:=s.ct,H:=s.H}
def n7(P:Pz)(call:dH)(h:Hint)(ops:J Qz)(o:Qz)(s:St):U St:=
 (iu ops s o).bind λw=>
  if w then(dF P call h (o.dst.getD 0) o.type o.op s.val s.wk).map λ(v,k)=>s.fin o.dst v k
  else some (s.fin o.dst (.aS []) s.wk)
def fo(P:Program)(call:dH)(h:Hint)(ops:List Oper):List Oper->St->Option St
 | [],s=>some s
 |o::r,s=>(n7 P call h ops o s).bind (fo P call h ops r)
def mvE(_:Pz)(_:dH)(_:Hint)(_:Nat)(_:FuncId)(_:J SV)(_:Wk):U (SV×Wk):=none
def w6(P:Pz)(t:TypeId)(nm:String):U FuncId:=
 (P.info? t).bind λi=>(i.methods.find? (·.name==nm)).bind λm=>match m.func,P.underlying t with
  |some (f,false),some (.struct _)=>if m.path.toList.isEmpty=true then some f else none
  |_,_=>none
def MA(P:Pz)(nm:String):SV->U (FuncId×D)
 | .d (.iface t y)=>(w6 P t nm).map λg=>(g,y)
 |_=>none
def hU(P:Pz)(call:dH)(h:Hint)(dst:Nat)(ty:TypeId)(op:Op)(ρ:Oz->SV)(k:Wk):U (U D×SV×Wk):=
 match op with
 | .panic x=>match ρ x with
  | .d (.iface t y)=>if y.flat=true then some (some (.iface t y),.dead,k)else none
  |_=>none
 | .call {callee:=.value f,args, .. }=>
  match ρ f with
  | .d (.fn (.func g) first cap)=>if YB<=g then none else
   if h.mv.contains dst=true then(if first.isEmpty&&cap.isEmpty then((mvE P call h dst g (args.toList.map ρ) k).bind jY).map λ(v,k)=>(none,v,k)else none)
   else(gV (h.nvAt dst) (args.toList.map ρ) k {}).bind λ(a,k,b)=>(gC call h dst g (canon b.sn (first++a++cap)) b k).bind λ(v,k)=>match v with
   | .aS [.d d,.agg []]=>if d.flat=true then some (some d,.dead,k)else none
   |v=>some (none,v,k)
  |_=>none
 | .call {callee:=.invoke x nm,args, .. }=>
  (MA P nm (ρ x)).bind λ(g,y)=>if YB<=g then none else(gV (h.nvAt dst) (args.toList.map ρ) k {}).bind λ(a,k,b)=>(gC call h dst g (canon b.sn (y::a)) b k).bind λ(v,k)=>match v with
   | .aS [.d d,.agg []]=>if d.flat=true then some (some d,.dead,k)else none
   |v=>some (none,v,k)
 |op=>(opE P h dst ty op ρ k).map λ(v,k)=>(none,v,k)
def gJ(P:Program)(call:dH)(h:Hint)(ops:List Oper):List Oper->St->Option (Option D×St)
 | [],s=>some (none,s)
 |o::r,s=>(iu ops s o).bind λw=>
  if w then(hU P call h (o.dst.getD 0) o.type o.op s.val s.wk).bind λ(t,v,k)=>match t with
   |some d=>some (some d,s.fin none .dead k)
   |none=>gJ P call h ops r (s.fin o.dst v k)
  else gJ P call h ops r (s.fin o.dst (.aS []) s.wk)
mutual
def SV.roots:SV->List (Nat×Nat)
 |.aH (.l n k) _ _ _|.loc (.l n k) _ _ _=>[(n,k)]
 |.agg l|.aS l=>SV.cr l
 |_=>[]
def SV.cr:List SV->List (Nat×Nat)
 | []=>[]
 |v::r=>v.roots++SV.cr r
end
def jZ:List (Nat×Nat)->List (Nat×Nat)
 | []=>[]
 |x::r=>if(jZ r).contains x then jZ r else x::jZ r
def pick(ct:List ((Nat×Nat)×T)):List (Nat×Nat)->List ((Nat×Nat)×T)
 | []=>[]
 |x::r=>match fc ct x with |some t=>(x,t)::pick ct r |none=>pick ct r
def prune(live:J Nat)(s:St):St:=
 let env:=live.map λt=>(t,s.get t)
 {env,ct:=pick s.ct (jZ (SV.cr (env.map (·.2)))),H:=s.H}
mutual
def SV.ba:SV->List aj
 |.aH r _ _ _|.loc r _ _ _=>[r]
 |.d (.ptr o)|.d (.map o)=>[.o o]
 |.agg l|.aS l=>SV.rtss l
 |_=>[]
def SV.rtss:List SV->List aj
 | []=>[]
 |v::r=>v.ba++SV.rtss r
end
mutual
def SV.aW:SV->List aj
 |.aH r _ _ _|.loc r _ _ _=>[r]
 |.agg l|.aS l=>SV.srtss l
 |_=>[]
def SV.srtss:List SV->List aj
 | []=>[]
 |v::r=>v.aW++SV.srtss r
end
def Tr.ba:Tr->J aj
 |.kill r _|.cI r _|.cR r _ _=>[r]
 | .dp a b=>[.l a.1 a.2,.l b.1 b.2]
 | .bN=>[]
def Tr.bM:Tr->Bool
 | .dp _ _=>true
 |_=>false
def Tr.aN:Tr->Bool
 | .bN=>true
 |_=>false
def Tr.cO(x:Tr)(l:J aj):J aj:=
 match x with
 | .dp a b=>if l.any (λr=>decide (r=.l a.1 a.2))then .l b.1 b.2::l else l
 |_=>l
def aj.cF:aj->Bool
 | .o _=>true
 |_=>false
def wo:Oz->U Nat
 | .tmp t=>some t
 |_=>none
def mV(o:Op):J Nat:=o.operands.toList.filterMap wo
def fY(h:Hint)(dst:Nat):Op->Bool
 | .load .. =>h.lits.contains dst
 | .move _ | .pick .. | .build .. | .nilCheck _ | .binOp .. | .unOp .. | .convert .. | .makeFunc .. | .slice .. | .fieldAddr .. | .field .. | .indexAddr .. | .index .. | .extract .. =>false
 | .lookup .. =>h.lits.contains dst || h.cA.contains dst
 |.call {callee:=.builtin .len, .. }|.call {callee:=.builtin .min, .. }|.call {callee:=.builtin .max, .. }=>false
 | .buildSlice .. => !h.lits.contains dst
 |_=>true
def hOf(h:Hint)(dst:Nat):Op->Bool
 |.alloc _|.box ..=>h.cA.contains dst
 | .assign _ | .buildSlice .. | .makeSlice .. | .store .. =>false
 |.call {callee:=.builtin .append, .. }|.call {callee:=.builtin .copy, .. }=>false
 | .call {callee:=.value _, .. }=> !h.aV.contains dst
 |_=>true
def y8:Op->Bool
 | .call {callee:=.value _, .. }=>false
 | .assign _=>false
 |_=>true
def reads:Op->Bool
 | .move _ | .pick .. | .build .. | .nilCheck _ | .binOp .. | .unOp .. | .convert .. | .makeFunc .. | .field .. | .index .. | .extract .. =>false
 |_=>true
def looks(ops:J Qz)(o:Qz):J Nat:=mV o.op++(match o.guard with |some (j,_)=>((ops[j]?).bind (·.dst)).toList |none=>[])
def wT(h:Hint)(dst:Nat):Op->Bool
 |.alloc _|.box ..=>h.cA.contains dst
 |.makeMap ..|.range ..|.next .. =>true
 | .call {callee:=.value _, .. }=> !h.aV.contains dst || h.ro.contains dst || h.lkn.contains dst
 |_=>false
structure Fp where
 sl:List Nat
 dst:Option Nat
 rd:List aj
 wr:List aj
 hr:Bool
 hw:Bool
 dp:Bool
 rx:Option (aj×dR×Nat×Nat×Nat)
 sx:List SV
 wx:Option (aj×dR)
 ox:List aj
abbrev pP:=J (Nat×J aj)
def eZ(hi:pP)(t:Nat):J aj:=(look hi t).getD []
def kE(s:St):pP:=s.env.map λp=>(p.1,p.2.aW)
def fh(P:Pz)(call:dH)(h:Hint)(ops:J Qz)(o:Qz)(s:St):U (Bool×SV×Wk):=
 (iu ops s o).bind λw=>if w then(dF P call h (o.dst.getD 0) o.type o.op s.val s.wk).map λ(v,k)=>(true,v,k)else some (false,.aS [],s.wk)
def ga(k k':Wk):J aj:=(k'.ct.take (k'.ct.length - k.ct.length)).map λp=>aj.l p.1.1 p.1.2
def iU:Op->Bool
 | .move (.tmp _)=>true
 |_=>false
def ue(d:Bool)(op:Op)(c:Oz->SV)(v:SV):U (aj×dR×Nat×Nat×Nat):=
 match op with
 | .load _ (.global _)=>none
 | .load _ a=>if d=true then none else match bD (c a),v with
  | .loc r p i b,.aH .. =>some (r,p,i,b,1)
  | .loc r p i b,.d (.agg _)=>none
  | .loc r p i b,.d _=>some (r,p,i,b,0)
  |_,_=>none
 | .fieldAddr .. =>match v with | .loc r p i b=>some (r,p,i,b,2) |_=>none
 |_=>none
def y9(op:Op)(a:Oz->SV):U (aj×dR):=
 match op with
 | .call {callee:=.builtin .append,args, .. }=>match args.toList with
  | [x,_]=>(match a x with | .aH r p _ _=>some (r,p) |_=>none)
  |_=>none
 |_=>none
def Tr.killAt(r:aj)(q:dR):Tr->Bool
 | .kill b a=>decide (b=r)&&decide (a=q)
 |_=>false
def S8(rx:U (aj×dR×Nat×Nat×Nat))(l:J SV):J SV:=match rx with |some _=>l |none=>[]
def Gd(wx:U (aj×dR))(tr:J Tr):J aj:=match wx with |some (r,q)=>(tr.filter λx=> !x.killAt r q).flatMap Tr.ba |none=>[]
def mA(h:Hint)(ops:J Qz)(o:Qz)(hi:pP)(s:St)(w:Bool)(v:SV)(k:Wk):Fp:=
 let a:=(looks ops o).flatMap λt=>(s.get t).ba
 let rd:=if iU o.op=true then []else(looks ops o).flatMap (eZ hi)++v.aW++(if reads o.op then a else [])
 let e:=w&&fY h (o.dst.getD 0) o.op
 let wr:=ga s.wk k++k.tr.flatMap Tr.ba
 {sl:=looks ops o,dst:=o.dst,rd,wr,hr:=(w&&wT h (o.dst.getD 0) o.op) || rd.any aj.cF || wr.any aj.cF || k.tr.any Tr.aN,hw:=e&&(hOf h (o.dst.getD 0) o.op || (y8 o.op&&a.any aj.cF) || k.tr.any Tr.aN),dp:=k.tr.any Tr.bM,rx:=if w=true then ue (fY h (o.dst.getD 0) o.op) o.op s.val v else none,sx:=S8 (if w=true then ue (fY h (o.dst.getD 0) o.op) o.op s.val v else none) (v::(looks ops o).map λt=>s.get t),wx:=if w=true then y9 o.op s.val else none,ox:=Gd (if w=true then y9 o.op s.val else none) k.tr}
def gh:List Tr->List aj->List aj
 | [],l=>l
 |x::r,l=>gh r (x.cO l)
def dV(hi:pP)(tr:J Tr)(d:U Nat)(L:J aj):pP:=
 let hi:=hi.map λp=>(p.1,gh tr p.2)
 match d with |some d=>(d,L)::hi |none=>hi
def fZ(o:Op)(hi:pP)(v:SV):J aj:=
 match o with
 | .move (.tmp t)=>eZ hi t
 |_=>v.aW
def MB(a b:J aj):Bool:=a.any λr=>b.any λq=>decide (q=r)
def rC(x y:Fp):Bool:=
 (match x.dst with |some d=> !y.sl.contains d&&y.dst !=some d |none=>true)&&
 (match y.dst with |some d=> !x.sl.contains d |none=>true)&&
 !MB x.wr y.rd&& !MB x.wr y.wr&& !MB y.wr x.rd&& !(x.hw&&(y.hr || y.hw))&& !(y.hw&&x.hr)&& !(x.dp&&y.dp)
def sepL(kd:Nat):dR->Nat->Nat->dR->Bool
 |_,_,_,[]=>false
 | [],i,a,(b,c)::q=>if b=i/\c=a then decide (kd=2) || (decide (kd=1)&& !q.isEmpty)else true
 |s::p,i,a,d::q=>if s=d then sepL kd p i a q else true
mutual
def SV.dv(r:aj)(q:dR):SV->Bool
 |.aH a p _ _|.loc a p _ _=>decide (r≠a) || (decide (q≠p)&& !decide (q.length<p.length))
 |.agg l|.aS l=>SV.unhurts r q l
 |_=>true
def SV.unhurts(r:aj)(q:dR):List SV->Bool
 | []=>true
 |v::l=>v.dv r q&&SV.unhurts r q l
end
def apartX(x y:Fp):Bool:=
 (match x.dst with |some d=> !y.sl.contains d&&y.dst !=some d |none=>true)&&
 (match y.dst with |some d=> !x.sl.contains d |none=>true)&& !y.dp&&
 (match x.rx,y.wx with
 |some (b,p,i,a,c),some (r,q)=>(decide (b≠r) || sepL c p i a q)&& !y.ox.contains b&&x.sx.all λu=>u.dv r q&& !MB y.ox u.aW
 |_,_=>false)
def apartFp(x y:Fp):Bool:=rC x y || apartX x y || apartX y x
abbrev Cf:=St×pP
def er(P:Pz)(call:dH)(h:Hint)(ops:J Qz)(o:Qz)(c:Cf):U (Cf×Fp):=
 (fh P call h ops o c.1).map λ(w,v,k)=>((c.1.fin o.dst v k,dV c.2 k.tr o.dst (fZ o.op c.2 v)),mA h ops o c.2 c.1 w v k)
def dX(P:Program)(call:dH)(h:Hint)(ops:List Oper):List Oper->Cf->Option (Cf×List Fp)
 | [],c=>some (c,[])
 |o::r,c=>(er P call h ops o c).bind λ(c',f)=>(dX P call h ops r c').map λ(a,b)=>(a,f::b)
def Q3(acc:J Nat)(o:Qz):Nat:=o.after.toList.foldl (λm e=>if Region.binds .any e then m ||| 2 ^ e.on ||| (acc[e.on]?).getD 0 else m) 0
def BZ:List Oper->List Nat->Option (List Nat)
 | [],a=>some a
 |o::r,a=>if o.after.toList.all λe=> !Region.binds .any e || decide (e.on<a.length)then BZ r (a++[Q3 a o])else none
def jt(b:Nat)(f:Fp):Nat->List Fp->Bool
 |_,[]=>true
 |j,g::a=>(b.testBit j || apartFp g f)&&jt b f (j+1) a
def rE(all:List Fp):Nat->List Nat->List Fp->Bool
 |i,b::a,f::c=>jt b f 0 (all.take i)&&rE all (i+1) a c
 |_,_,_=>true
def uf(ops:J Qz)(a:J Fp):Bool:=match BZ ops []with |some b=>rE a 0 b a |none=>false
inductive Ex where
 |normal
 |exit (id:Nat)
 |ret
 |cQ (d:D)
 deriving Inhabited
def Ex.block(id:Nat):Ex->Ex
 | .exit j=>if j=id then .normal else .exit j
 |e=>e
def mB(f:St->Option (Ex×St)):Nat->St->Option (Ex×St)
 |0,_=>none
 |n+1,s=>(f s).bind λ(e,a)=>match e with | .normal=>mB f n a |e=>some (e,a)
def IL(n:Nat)(ops:Array Qz):Bool:=ops.toList.all λo=>match o.dst with |some d=>decide (d<n) |none=>true
def ek(n:Nat):Code->Bool
 | .region _ d _=>IL n d
 |.seq a b|.cond _ a b=>ek n a&&ek n b
 |.block _ c|.loop c|.scope c=>ek n c
 | .rangeFunc _ e a b=>e.toList.all (λt=>decide (t<n))&&ek n a&&ek n b
 |_=>true
def kM:Code->List Nat
 | .region _ d _=>d.toList.filterMap (·.dst)
 |.seq a b|.cond _ a b=>kM a++kM b
 |.block _ c|.loop c|.scope c=>kM c
 |_=>[]
def SV.loose:SV->SV
 | .d x=>.d x
 | .aH (.l n j) p a b=>.aH (.l n j) p a b
 | .loc (.l n j) p i a=>.loc (.l n j) p i a
 |_=>.dead
def kX(call:dH)(h:Hint)(f:Oz)(d:J Nat)(a b:Code)(s:St):U (Ex×St):=
 if h.nest=true then none else
 match s.val f with
 | .d (.fn (.func g) first cap)=>
  if YB<=g then none else
  (call g (first++[.yld s.H.length]++cap) (s.H++[.frame h.self d a b (s.env.map λp=>(p.1,p.2.loose)) s.ct])).bind λ(e,c)=>
   match e,c[s.H.length]? with
   | [],some (.frame _ _ _ _ env ct)=>if c.length=s.H.length+1 then some (.normal,{env,ct,H:=c.set s.H.length .lock})else none
   |_,_=>none
 |_=>none
def leB(bs:J Nat)(u v:Nat):Bool:=decide (u=v) || ((bs[v]?).getD 0).testBit u
def mC(bs:List Nat):List (Nat×Nat)->List Nat->List Nat
 | [],L=>L
 |e::E,L=>(mC bs E L).filter (leB bs e.2) |>λA=>(mC bs E L).filter (λx=> !leB bs e.2 x)++A
def ug(bs:List Nat)(E:List (Nat×Nat)):List (Nat×Fp)->Bool
 | []=>true
 |p::r=>r.all (λq=>((bs[q.1]?).getD 0).testBit p.1 || apartFp p.2 q.2 || E.any (λe=>leB bs p.1 e.1&&leB bs e.2 q.1))&&ug bs E r
def j0(ops:J Qz)(L:J Nat):J Qz:=L.filterMap λi=>ops[i]?
def j3(P:Program)(call:dH)(h:Hint)(live:List Nat)(ops:List Oper)(bs:List Nat)(s:St):OT->List (Nat×Nat)->Option St
 | .leaf,E=>(dX P call h ops (j0 ops (mC bs E (List.range ops.length))) (s,kE s)).bind λ(c,f)=>if ug bs E ((mC bs E (List.range ops.length)).zip f)=true then some (prune live c.1)else none
 | .node i j a b,E=>if i≠j/\i<ops.length/\j<ops.length then(j3 P call h live ops bs s a ((i,j)::E)).bind λd=>(j3 P call h live ops bs s b ((j,i)::E)).bind λe=>if St.beq d e=true then some d else none else none
def aeu:J Qz->U (Nat×Nat×TypeId×Nat)
 | [a,b]=>match a.op,a.dst,a.guard,b.op,b.dst,b.guard with
  | .move (.tmp c),some d,none,.range g (.tmp f),some e,none=>if d=f then some (c,d,g,e)else none
  |_,_,_,_,_,_=>none
 |_=>none
def aev:J Qz->U (Nat×Nat×Nat)
 | [a,b]=>match a.op,a.dst,a.guard,b.op,b.dst,b.guard with
  | .next (.tmp d) false,some t,none,.extract (.tmp e) 0,some c,none=>if t=e then some (d,t,c)else none
  |_,_,_,_,_,_=>none
 |_=>none
def aew:J Qz->U (Nat×Nat×Nat×Nat)
 | [a,b,d]=>match a.op,a.dst,a.guard,b.op,b.dst,b.guard,d.op,d.dst,d.guard with
  | .entry (.tmp c),some e,none,.extract (.tmp h) 0,some x,none,.assign (.tmp g),some f,none=>if e=h/\x=g then some (c,e,x,f)else none
  |_,_,_,_,_,_,_,_,_=>none
 |_=>none
def aex:J Qz->U (Nat×Nat×Nat×Nat×TypeId)
 | [a,b,d]=>match a.op,a.dst,a.guard,b.op,b.dst,b.guard,d.op,d.dst,d.guard with
  | .move (.tmp c),some m,none,.move (.tmp f),some k,none,.mapUpdate h (.tmp e) (.tmp g) (.const (.bool true)),none,none=>if m=e/\k=g then some (c,m,f,k,h)else none
  |_,_,_,_,_,_,_,_,_=>none
 |_=>none
structure Cpy where
 src:Nat
 all:Nat
 mt:TypeId
 mt2:TypeId
 W:List Nat
def Ge:Code->Code->U Cpy
 | .region _ p false,.block x (.loop (.seq (.region _ q false) (.seq (.cond (.tmp c') .skip (.exit y)) (.block _ (.seq (.region _ o false) (.region _ s false))))))=>
  (aeu p.toList).bind λ(d,h,r,a)=>(aev q.toList).bind λ(j,t,c)=>(aew o.toList).bind λ(i,e,g,f)=>(aex s.toList).bind λ(b,m,n,k,l)=>
   if x=y/\c'=c/\j=a/\i=a/\n=f/\[h,a,t,c,e,g,f,m,k].Nodup/\b∉[h,a,t,c,e,g,f,m,k]/\d∉[h,a,t,c,e,g,f,m,k]then some ⟨d,b,r,l,[h,a,t,c,e,g,f,m,k]⟩else none
 |_,_=>none
def AF:List (D×T)->Option (List (List UInt8))
 | []=>some []
 |(.str k,_)::r=>(AF r).map (k::·)
 |_=>none
def MC(P:Pz)(p:Cpy)(s:St):U (Ex×St):=
 match s.get p.src,s.get p.all with
 | .d (.map q),.d (.map o)=>match s.H[q]?,s.H[o]? with
  |some (.map a),some (.sset b)=>if(mz P p.mt).isSome=true/\((mz P p.mt2).bind λx=>ja P x.1)=some 1 then(AF a).map λl=>(.normal,{env:=s.env.filter λe=> !p.W.contains e.1,ct:=s.ct,H:=s.H.set o (.sset (l++b))})else none
  |_,_=>none
 |_,_=>none
def ec(P:Program)(call:dH)(h:Hint)(g:Nat):Code->St->Option (Ex×St)
 | .skip,s=>some (.normal,s)
 | .region id i l,s=>
  if l then match h.swp id with |some t=>(BZ i.toList []).bind λm=>(j3 P call h (h.live id) i.toList m s t []).map λj=>(.normal,j) |none=>(dX P call h i.toList i.toList (s,kE s)).bind λ(c,n)=>if uf i.toList n then some (.normal,prune (h.live id) c.1)else none
  else if h.cQ.contains id then(gJ P call h i.toList i.toList s).map λ(t,j)=>match t with |some d=>(.cQ d,j) |none=>(.normal,prune (h.live id) j)
  else(fo P call h i.toList i.toList s).map λj=>(.normal,prune (h.live id) j)
 | .seq a b,s=>match Ge a b with
  |some p=>MC P p s
  |none=>(ec P call h g a s).bind λ(e,j)=>match e with | .normal=>ec P call h g b j |e=>some (e,j)
 | .cond c a b,s=>match s.val c with | .d (.bool t)=>if t then ec P call h g a s else ec P call h g b s |_=>none
 | .block id c,s=>(ec P call h g c s).map λ(e,j)=>(e.block id,j)
 | .loop c,s=>mB (ec P call h g c) g s
 | .exit id,s=>some (.exit id,s)
 | .scope c,s=>ec P call h g c s
 | .label _,s=>some (.normal,s)
 | .ret,s=>some (.ret,s)
 | .rangeFunc f k a b,s=>kX call h f k.toList a b s
 |_,_=>none
def Gf(P:Pz)(s:St):ResultVar->U SV
 | .tmp t=>some (s.get t)
 | .cell a t=>hJ P t (s.get a) s.wk
def kh(P:Program)(s:St):List ResultVar->Option (List SV)
 | []=>some []
 |r::a=>(Gf P s r).bind λv=>(kh P s a).map (v::·)
def kj:List SV->Wk->Option (List T×Wk)
 | [],k=>some ([],k)
 |v::r,k=>(fV 0 v k).bind λ(t,k)=>(kj r k).map λ(a,k)=>(t::a,k)
def J1(vs:J SV)(k:Wk):U (J T×Wk):=(kj vs.reverse k).map λ(a,k)=>(a.reverse,k)
def SV.bp:SV->U (aj×dR)
 | .aH r p _ _=>some (r,p)
 |_=>none
def wq(a b:SV):Bool:=match a.bp,b.bp with |some (r,p),some (q,s)=>decide (r=q)&&decide (p.length<s.length) |_,_=>false
def crossing:List SV->Bool
 | []=>false
 |a::r=>r.any (wq a) || crossing r
def nB(vs:J SV)(k:Wk):U (J T×Wk):=if crossing vs=true then J1 vs k else kj vs k
def lE(n0:Nat)(rs:J T)(H:J Ob):J Ob:=
 if H.length=n0 then H
 else if T.aQ n0 rs/\(H.take n0).all (·.low n0)then H.take n0 else H
def enter(ds:J D)(H:J Ob):St:={env:=ds.zipIdx.map λ(d,i)=>(i,.d d),ct:=[],H}
def settle(own:Bool)(a:J T):U (J T):=if own then some (a.map T.fresh)else(T.aZ false a).map λxs=>(canon false xs).map T.d
def fp:J T->Bool
 | [.d _,.agg []]=>true
 |_=>false
def jO(P:Pz)(own:Bool)(fn:Func)(n0:Nat)(r:Ex×St):U (J T×J Ob):=
 match r.1 with
 | .exit _=>none
 | .cQ d=>some ([.d d,.agg []],lE n0 [.d d] r.2.H)
 |_=>(kh P r.2 fn.results.toList).bind λb=>(nB b r.2.wk).bind λ(a,k)=>(settle own a).bind λa=>if fp a=true then none else some (a,lE n0 a k.H)
def iD:J D->Bool
 | [.sl _ []]=>true
 |_=>false
def B0(b:Bool)(H:J Ob):St:={env:=[(0,.ns b)],ct:=[],H}
def B1(es:J T)(ds:J D):St:={env:=(0,.aH (.l 0 0) [] 0 es.length)::ds.zipIdx.map λ(d,i)=>(i+1,.d d),ct:=[((0,0),.own es)],H:=[]}
def VL:J Ob->U (J T)
 | [.row a]=>some a
 |_=>none
def nC(H:J Ob):Bool:=H.all λ| .lock=>true |_=>false
def Q4(n:Nat)(c:Bool)(d e:U (J T×J Ob)):U (J T×J Ob):=
 match d,e with
 |some ([.d (.sl false [])],a),some ([.d (.sl false [])],b)=>if nC a=true/\nC b=true/\a.length=n/\b.length=n then some ([.d (.sl c [])],List.replicate n .lock)else none
 |some ([.own []],a),some ([.own []],b)=>if nC a=true/\nC b=true/\a.length=n/\b.length=n then some ([.own []],List.replicate n .lock)else none
 |_,_=>none
def acj(h:Hint):J D->Bool
 | [.sl b _]=>decide (h.nilt=2)&&b
 |_=>false
def rF(P:Pz)(call:dH)(hint:FuncId->Hint)(n:Nat)(o:Nat)(ds:J D)(H:J Ob):U (J T×J Ob):=
 match H[o]?,ds with
 |some (.frame g [p] a b env ct),[d]=>
  (ec P call {hint g with nest:=true} n a {env:=(p,.d d)::env,ct,H:=H.set o .lock}).bind λ(i,h)=>match i with
   | .normal=>(ec P call {hint g with nest:=true} n b h).bind λ(f,e)=>match f with
    | .normal=>match e.H[o]? with
     |some .lock=>
      let c:=((env.map (·.1)).filter λt=> !(p::kM a++kM b).contains t).map λt=>(t,(e.get t).loose)
      some ([.d (.bool true)],lE H.length [] (e.H.set o (.frame g [p] a b c (pick e.ct (jZ (SV.cr (c.map (·.2))))))))
     |_=>none
    |_=>none
   |_=>none
 |_,_=>none
def D.pin:D->Bool
 | .ptr _=>true
 |x=>x.flat
def rG:dH:=λ_ _ _=>none
def mW(P:Pz)(call:dH)(hint:FuncId->Hint)(n:Nat)(r:D)(g:FuncId)(ds:J D)(H:J Ob):U (J T×J Ob):=
 (P.funcs[g]?).bind λa=>a.body.bind λc=>
  match c with
  | .seq (.region id d false) b=>
   match d.toList with
   |o::l=>match o.op,o.dst,o.guard with
    | .call {callee:=.builtin .recover, .. },some t,none=>
     if ds.length=a.params.size+a.nfree/\ek a.ntmps c=true/\(a.name== "runtime.NumGoroutine")=false then
      (fo P rG (hint g) d.toList l {env:=(t,.d r)::(enter ds H).env,ct:=[],H}).bind λs=>(ec P call {hint g with nest:=true} n b (prune ((hint g).live id) s)).bind λ(e,s)=>match e with
       | .normal=>jO P (hint g).own a H.length (.normal,s)
       | .ret=>jO P (hint g).own a H.length (.ret,s)
       |_=>none
     else none
    |_,_,_=>none
   |_=>none
  |_=>none
def S9:Ex->U D
 |.normal|.ret=>some .bX
 | .cQ d=>some d
 |_=>none
def J2(P:Pz)(call:dH)(hint:FuncId->Hint)(n:Nat)(f:FuncId)(c:Code)(l:Nat)(s:St):U (Ex×St):=
 match c with
 | .seq (.region j h false) (.seq (.region i d false) b)=>
  (fo P call (hint f) h.toList h.toList s).bind λs=>match d.toList.getLast? with
   |some o=>match o.op,o.dst,o.guard with
    | .defer {callee:=.value x,args, .. },none,none=>
     (fo P call (hint f) d.toList d.toList.dropLast (prune ((hint f).live j) s)).bind λs=>match s.val x with
      | .d (.fn (.func g) [] a)=>
       if args.size=0/\a.all D.pin=true then
        (ec P call (hint f) n b (prune ((hint f).live i) s)).bind λ(e,s)=>(S9 e).bind λr=>
         ((fm (mW P call hint n r) {hint f with aV:=[]} l g (canon false a) {} s.wk).bind jY).map λ(_,k)=>(.ret,s.fin none .dead k)
       else none
      |_=>none
    |_,_,_=>none
   |_=>none
 |_=>none
def eT(P:Program)(hint:FuncId->Hint):Nat->dH
 |0,_,_,_=>none
 |n+1,f,b,H=>
  if YB<=f then rF P (eT P hint n) hint n (f - YB) b H else
  match (hint f).ext with
  |some F=>(F b).bind λd=>if fp d=true then none else some (d,H)
  |none=>
  (P.funcs[f]?).bind λa=>a.body.bind λc=>
   if b.length=a.params.size+a.nfree/\ek a.ntmps c=true/\(a.name== "runtime.NumGoroutine")=false then
    if(hint f).rcv=true then(J2 P (eT P hint n) hint n f c a.ntmps (enter b H)).bind (jO P (hint f).own a H.length)
    else if(decide ((hint f).nilt≠0)&&iD b)=true then
     Q4 H.length (acj (hint f) b) ((ec P (eT P hint n) (hint f) n c (B0 true H)).bind (jO P (hint f).own a H.length)) ((ec P (eT P hint n) (hint f) n c (B0 false H)).bind (jO P (hint f).own a H.length))
    else(ec P (eT P hint n) (hint f) n c (enter b H)).bind (jO P (hint f).own a H.length)
   else if b.length+1=a.params.size+a.nfree/\ek a.ntmps c=true/\(a.name== "runtime.NumGoroutine")=false then
    (VL H).bind λe=>(ec P (eT P hint n) (hint f) n c (B1 e b)).bind (jO P (hint f).own a 0)
   else none
def ajm(c:Bool)(t t':T):Prop:=(t=.d (.sl false [])/\t'=.d (.sl c []))\/(t=.own []/\t'=.own [])
theorem Gg{n:Nat}{c:Bool}{f d:U (J T×J Ob)}{r:J T×J Ob}(e:Q4 n c f d=some r):∃t t' a b,ajm c t t'/\f=some ([t],a)/\d=some ([t],b)/\nC a=true/\nC b=true/\a.length=n/\b.length=n/\r=([t'],List.replicate n .lock):=by
 unfold Q4 at e
 split at e
 .split at e
  .rename_i h
   simp only[xJ]at e
   exact⟨_,_,_,_,.inl ⟨rfl,rfl⟩,rfl,rfl,h.1,h.2.1,h.2.2.1,h.2.2.2,e.symm⟩
  .cases e
 .split at e
  .rename_i h
   simp only[xJ]at e
   exact⟨_,_,_,_,.inr ⟨rfl,rfl⟩,rfl,rfl,h.1,h.2.1,h.2.2.1,h.2.2.2,e.symm⟩
  .cases e
 .cases e
structure Cx where
 w:World
 pm:Bool->Nat->Prop
 nO:Nat
 ρ:Nat->Nat
def wU(d:D)(v:Vz):Prop:=match d with | .agg _=>∃a,v=.agg a |_=>v.oneCell'=true
mutual
def VC(c:Cx):D->List Value->Prop
 | .int k n,e=>e=[.int k n]
 | .bool b,e=>e=[.bool b]
 | .str s,e=>∃b:ByteArray,e=[.string b]/\b.data.toList=s
 | .aJ,e=>e=[.slice none 0 0]
 | .sl b l,e=>∃a g p,e=[.slice a g p]/\g=l.length/\g<=p/\(l≠[]->∃q i,a=some q/\q.spot=none/\c.pm b q.block/\0<i/\VE c l q 0 i)
 | .agg l,e=>aR c l e
 | .cU,e=>e=[.pointer none]
 | .ptr o,e=>o<c.nO/\e=[.pointer (some ⟨c.ρ o,0,none⟩)]
 | .de,e=>e=[.map none]
 | .map o,e=>o<c.nO/\e=[.map (some (c.ρ o))]
 | .cZ,e=>e=[.nilFunc]
 | .fn f a b,e=>∃w y:Array Value,e=[.func f w y]/\bf c a w.toList/\bf c b y.toList
 | .bX,e=>e=[.nilIface]
 | .iface t x,e=>∃v,e=[.iface t v]/\VC c x v.cells.toList/\wU x v
 | .yld o,e=>o<c.nO/\e=[.func (.yield (c.ρ o)) #[] #[]]
 | .bR l,e=>∃a h,e=[.pointer (some a)]/\a.spot=none/\c.pm true a.block/\(∀(j:Nat) (u:Value),h[j]? =some u->c.w.cell? (a.add j)=some u)/\aR c l h
def aR(c:Cx):List D->List Value->Prop
 | [],e=>e=[]
 |d::m,e=>∃v r,e=v::r/\VC c d [v]/\aR c m r
def bf(c:Cx):List D->List Value->Prop
 | [],h=>h=[]
 |d::m,h=>∃v r,h=v::r/\VC c d v.cells.toList/\wU d v/\bf c m r
def VE(c:Cx):List D->Addr->Nat->Nat->Prop
 | [],_,_,_=>True
 |d::m,a,o,i=>(∃e,e.length=i/\(∀j v,e[j]? =some v->c.w.cell? (a.add (o+j))=some v)/\VC c d e)/\VE c m a (o+i) i
end
def VV(c:Cx)(d:D)(v:Vz):Prop:=VC c d v.cells.toList/\wU d v
structure Ext(c c':Cx):Prop where
 pm:∀b g,c.pm b g->c'.pm b g/\c'.w.heap[g]? =c.w.heap[g]?
 nO:c.nO<=c'.nO
 ρ:∀o,o<c.nO->c'.ρ o=c.ρ o
theorem kF(a:Addr)(n:Nat):(a.add n).block=a.block:=by grind [Addr.add]
theorem fq(b o n:Nat):(⟨b,o,none⟩:Addr).add n=⟨b,o+n,none⟩:=by grind [Addr.add]
theorem qv{w w':Wz}{a:Addr}(h:w'.heap[a.block]? =w.heap[a.block]?):w'.cell? a=w.cell? a:=by simp[World.cell?,h]
mutual
theorem VC.ext{c c':Cx}(h:Ext c c'):∀(d:D) (cs:List Value),VC c d cs->VC c' d cs
 |.int _ _,_,e|.bool _,_,e|.str _,_,e|.aJ,_,e|.cU,_,e|.de,_,e|.cZ,_,e|.bX,_,e=>by simpa [VC]using e
 | .ptr o,cs,e=>by
  simp only[VC]at e |-
  exact⟨yA e.1 h.nO,by rw[h.ρ o e.1];exact e.2⟩
 | .map o,cs,e=>by
  simp only[VC]at e |-
  exact⟨yA e.1 h.nO,by rw[h.ρ o e.1];exact e.2⟩
 | .yld o,cs,e=>by
  simp only[VC]at e |-
  exact⟨yA e.1 h.nO,by rw[h.ρ o e.1];exact e.2⟩
 | .agg l,cs,e=>by have:=aR.ext h l cs e;grind [VC]
 | .sl b l,cs,e=>by
  simp only[VC]at e |-
  obtain⟨a,len,n,i,g,h3,h4⟩:=e
  refine⟨a,len,n,i,g,h3,λs=> ?_⟩
  obtain⟨p,k,h5,h6,h7,h8,h9⟩:=h4 s
  exact⟨p,k,h5,h6,(h.pm _ _ h7).1,h8,VE.ext h l p 0 k (h.pm _ _ h7).2 h9⟩
 | .fn f a b,cs,e=>by
  have:=bf.ext h a;have:=bf.ext h b;grind [VC]
 | .iface t x,cs,e=>by
  simp only[VC]at e |-
  obtain⟨v,i,g,h3⟩:=e
  exact⟨v,i,VC.ext h _ _ g,h3⟩
 | .bR l,cs,e=>by
  simp only[VC]at e |-
  obtain⟨a,q,i,g,h3,h4,h5⟩:=e
  refine⟨a,q,i,g,(h.pm _ _ h3).1,λj u y=> ?_,aR.ext h l q h5⟩
  rw[qv (w:=c.w) (by rw[kF];exact(h.pm _ _ h3).2)]
  grind
theorem aR.ext{c c':Cx}(h:Ext c c'):∀(l:List D) (cs:List Value),aR c l cs->aR c' l cs
 | [],_,e=>by grind [aR]
 |d::m,cs,e=>by
  have:=VC.ext h d;have:=aR.ext h m;grind [aR]
theorem bf.ext{c c':Cx}(h:Ext c c'):∀(l:List D) (cs:List Value),bf c l cs->bf c' l cs
 | [],_,e=>by grind [bf]
 |d::m,cs,e=>by
  simp only[bf]at e |-
  obtain⟨v,r,i,g,h3,h4⟩:=e
  exact⟨v,r,i,VC.ext h _ _ g,h3,bf.ext h m _ h4⟩
theorem VE.ext{c c':Cx}(h:Ext c c'):∀(l:List D) (a:Addr) (o k:Nat),c'.w.heap[a.block]? =c.w.heap[a.block]? ->VE c l a o k->VE c' l a o k
 | [],_,_,_,_,_=>by simp[VE]
 |d::m,a,o,k,z,e=>by
  have:=VC.ext h d;have:=VE.ext h m a;grind [VE,qv,kF]
end
theorem VV.ext{c c':Cx}(h:Ext c c'){d:D}{v:Vz}(hv:VV c d v):VV c' d v:=⟨VC.ext h _ _ hv.1,hv.2⟩
theorem aR.len{c:Cx}:∀(l:J D) (cs:J Vz),aR c l cs->cs.length=l.length
 | [],_,a=>by grind [aR]
 |d::e,cs,a=>by
  simp only[aR]at a
  obtain⟨v,r,b,f,h3⟩:=a;subst b;simp[aR.len e r h3]
theorem VC.len{c:Cx}(d:D)(cs:J Vz)(hv:VC c d cs):cs.length=d.nc:=by
 cases d with
 |agg l=>exact aR.len l cs hv
 |ptr o=>grind [VC,D.nc]
 |map o=>grind [VC,D.nc]
 |yld o=>grind [VC,D.nc]
 |str s=>obtain⟨b,h,_⟩:=hv;simp[h,D.nc]
 |sl b l=>obtain⟨a,len,e,h,_⟩:=hv;simp[h,D.nc]
 |fn f a b=>obtain⟨g,i,h,_⟩:=hv;simp[h,D.nc]
 |iface t x=>obtain⟨v,h,_⟩:=hv;simp[h,D.nc]
 |bR l=>obtain⟨a,j,h,_⟩:=hv;simp[h,D.nc]
 |_=>grind [VC,D.nc]
mutual
theorem VC.one{c:Cx}:∀(d:D) (v:Value),VC c d [v]->v.oneCell'=true
 | .agg l,v,e=>by have:=aR.one l [v] e v;grind
 |.int _ _,v,e|.bool _,v,e|.aJ,v,e|.cU,v,e|.de,v,e|.cZ,v,e|.bX,v,e|.ptr _,v,e|.map _,v,e|.yld _,v,e=>by grind [VC,Value.oneCell']
 | .str _,v,e=>by obtain⟨b,h,_⟩:=e;simp at h;simp[h,Value.oneCell']
 | .sl _ _,v,e=>by obtain⟨a,len,k,h,_⟩:=e;simp at h;simp[h,Value.oneCell']
 | .fn _ _ _,v,e=>by obtain⟨n,o,h,_⟩:=e;simp at h;simp[h,Value.oneCell']
 | .iface _ _,v,e=>by obtain⟨u,h,_⟩:=e;simp at h;simp[h,Value.oneCell']
 | .bR _,v,e=>by obtain⟨a,p,h,_⟩:=e;simp at h;simp[h,Value.oneCell']
theorem aR.one{c:Cx}:∀(l:List D) (f:List Value),aR c l f->∀v∈f,v.oneCell'=true
 | [],_,e=>by grind [aR]
 |d::j,f,e=>by
  simp only[aR]at e
  obtain⟨v,r,m,i,h3⟩:=e;subst m;intro u g
  obtain rfl |g:=List.mem_cons.1 g
  .exact VC.one d _ i
  .exact aR.one j r h3 u g
end
theorem VC.dt{c:Cx}(d:D)(cs:J Vz)(hv:VC c d cs):∀v∈cs,v.oneCell'=true:=by
 have a:=VC.len d cs hv
 cases d with
 |agg l=>exact aR.one l cs hv
 |_=>
  simp only[D.nc]at a
  match cs,a with
  | [u],_=>grind [VC.one]
theorem lI{v:Vz}(h:v.oneCell'=true):v.cells= #[v]:=by cases v <;>simp_all [Value.cells,Value.oneCell']
theorem VV.agg{c:Cx}{l:J D}{cs:Array Vz}(h:aR c l cs.toList):VV c (.agg l) (.agg cs):=⟨by grind [Value.cells,VC],cs,rfl⟩
theorem VV.one{c:Cx}{d:D}{v:Vz}(hv:VC c d [v])(ha:∀l,d≠ .agg l):VV c d v:=by
 have a:=VC.one d v hv
 refine⟨by grind [lI],?_⟩
 cases d with
 |agg l=>grind
 |_=>exact a
theorem VV.inv{c:Cx}{d:D}{v:Vz}(hv:VV c d v)(ha:∀l,d≠ .agg l):VC c d [v]:=by
 obtain⟨a,b⟩:=hv
 cases d with
 |agg l=>grind
 |_=>rwa [lI b]at a
theorem VV.cG{c:Cx}{l:J D}{v:Vz}(hv:VV c (.agg l) v):∃cs,v=.agg cs/\aR c l cs.toList:=by
 obtain⟨a,cs,rfl⟩:=hv
 grind [Value.cells,VC]
theorem VV.of_cells{c:Cx}{d:D}{cs:J Vz}(hv:VC c d cs)(ha:∀l,d≠ .agg l):∃v,cs=[v]/\VV c d v:=by
 have a:=VC.len d cs hv;have b:d.nc=1:=by cases d <;>first |rfl |grind
 rw[b]at a
 match cs,a with
 | [u],_=>grind [VV.one]
theorem aR.get{c:Cx}:∀(l:J D) (cs:J Vz),aR c l cs->∀(i:Nat) (x:D),l[i]? =some x->∃v,cs[i]? =some v/\VC c x [v]
 | [],_,_=>by simp
 |d::b,cs,a=>by
  simp only[aR]at a
  obtain⟨v,r,e,f,h3⟩:=a
  have:=aR.get b r h3;grind
theorem aR.bz{c:Cx}:∀(l:J D) (cs:J Vz),aR c l cs->∀o n,aR c (bz l o n) (bz cs o n)
 | [],cs,a=>by grind [aR,Go.Am.bz]
 |d::b,cs,a=>by
  have f:=a;simp only[aR]at a
  obtain⟨v,r,e,g,h3⟩:=a;subst e;intro o n
  cases o with
  |zero=>
   cases n with
   |zero=>simp[Go.Am.bz,aR]
   |succ n=>
    have:=aR.bz b r h3 0 n;grind [Go.Am.bz,aR]
  |succ o=>simpa [Go.Am.bz]using aR.bz b r h3 o n
theorem aR.append{c:Cx}:∀(l:J D) (cs:J Vz) (b:J D) (a:J Vz),aR c l cs->aR c b a->aR c (l++b) (cs++a)
 | [],_,_,_,e,f=>by grind [aR]
 |d::g,cs,b,a,e,f=>by
  simp only[aR]at e
  obtain⟨v,r,h,i,h3⟩:=e
  have:=aR.append g r b a h3 f;grind [aR]
theorem VE.get{c:Cx}:∀(l:J D) (a:Addr) (o b:Nat),VE c l a o b->∀(i:Nat) (x:D),l[i]? =some x->
  x.nc=b/\∃cs,(∀j v,cs[j]? =some v->c.w.cell? (a.add (o+i * b+j))=some v)/\VC c x cs
 | [],_,_,_,_=>by simp
 |d::g,a,o,b,e=>by
  simp only[VE]at e
  obtain⟨⟨cs,m,k,h3⟩,h4⟩:=e;intro i x f
  cases i with
  |zero=>grind [VC.len]
  |succ i=>
   simp at f;obtain⟨h5,h,h6,h7⟩:=VE.get g a (o+b) b h4 i x f
   grind
theorem IM:∀l:J D,(D.bl l).length=l.length
 | []=>rfl
 |x::l=>by simp[D.bl,IM l]
theorem B2{x:D}{v:Vz}(h:wU x v):wU x.bZ v:=by cases x <;>exact h
theorem VC.bt{c:Cx}{x:D}{cs:J Vz}(h:VC c x cs):VC c x.bt cs:=by
 cases x with
 |aJ=>grind [VC,D.bt]
 |_=>exact h
theorem aR.bt{c:Cx}:∀(l:J D) (cs:J Vz),aR c l cs->aR c (l.map D.bt) cs
 | [],cs,h=>h
 |d::b,cs,h=>by
  simp only[aR]at h
  obtain⟨v,r,rfl,a,h3⟩:=h
  exact⟨v,r,rfl,a.bt,aR.bt b r h3⟩
theorem VC.norm{c:Cx}{x:D}{cs:J Vz}(h:VC c x cs):VC c x.norm cs:=by
 cases x with
 |agg l=>grind [VC,D.norm,aR.bt]
 |_=>exact h.bt
theorem IN{x:D}{v:Vz}(h:wU x v):wU x.norm v:=by cases x <;>exact h
theorem VV.norm{c:Cx}{x:D}{v:Vz}(h:VV c x v):VV c x.norm v:=⟨h.1.norm,IN h.2⟩
mutual
theorem VC.bZ{c:Cx}(h:∀b,c.pm false b->c.pm true b):∀(d:D) (cs:List Value),VC c d cs->VC c d.bZ cs
 |.int _ _,_,g|.bool _,_,g|.str _,_,g|.aJ,_,g|.cU,_,g|.de,_,g|.cZ,_,g|.bX,_,g|.ptr _,_,g|.map _,_,g|.yld _,_,g=>g
 | .agg l,cs,g=>by have:=aR.bZ h l cs g;grind [VC,D.bZ]
 | .sl b l,cs,g=>by
  simp only[VC]at g
  simp only[D.bZ,VC];obtain⟨a,len,n,i,j,h3,h4⟩:=g
  refine⟨a,len,n,i,by grind [IM],h3,λq=> ?_⟩
  obtain⟨p,k,h5,h6,h7,h8,h9⟩:=h4 (λe=>by subst e;exact q rfl)
  exact⟨p,k,h5,h6,by cases b <;>first |exact h _ h7 |exact h7,h8,VE.bZ h l p 0 k h9⟩
 | .fn f a b,cs,g=>by
  have:=bf.bZ h a;have:=bf.bZ h b;grind [VC,D.bZ]
 | .iface t x,cs,g=>by
  simp only[VC]at g
  simp only[D.bZ,VC];obtain⟨v,i,j,h3⟩:=g
  exact⟨v,i,VC.bZ h _ _ j,B2 h3⟩
 | .bR l,cs,g=>by
  have:=aR.bZ h l;grind [VC,D.bZ]
theorem aR.bZ{c:Cx}(h:∀b,c.pm false b->c.pm true b):∀(l:List D) (cs:List Value),aR c l cs->aR c (D.bl l) cs
 | [],_,g=>g
 |d::m,cs,g=>by
  simp only[aR]at g
  obtain⟨v,r,i,j,h3⟩:=g
  exact⟨v,r,i,VC.bZ h d _ j,aR.bZ h m _ h3⟩
theorem bf.bZ{c:Cx}(h:∀b,c.pm false b->c.pm true b):∀(l:List D) (cs:List Value),bf c l cs->bf c (D.bl l) cs
 | [],_,g=>g
 |d::m,cs,g=>by
  simp only[bf]at g
  obtain⟨v,r,i,j,h3,h4⟩:=g
  exact⟨v,r,i,VC.bZ h d _ j,B2 h3,bf.bZ h m _ h4⟩
theorem VE.bZ{c:Cx}(h:∀b,c.pm false b->c.pm true b):∀(l:List D) (a:Addr) (o k:Nat),VE c l a o k->VE c (D.bl l) a o k
 | [],_,_,_,g=>g
 |d::m,a,o,k,g=>by
  simp only[VE]at g
  obtain⟨⟨cs,i,j,h3⟩,h4⟩:=g
  exact⟨⟨cs,i,j,VC.bZ h d cs h3⟩,VE.bZ h m a (o+k) k h4⟩
end
theorem bf.canon{c:Cx}(a:∀b,c.pm false b->c.pm true b){sn:Bool}{l:J D}{cs:J Vz}(h:bf c l cs):bf c (canon sn l) cs:=by
 grind [Go.Am.canon,bf.bZ]
mutual
def TC(c:Cx):T->List Value->List Nat->Prop
 | .d x,b,S=>S=[]/\VC c x b
 | .dead,b,S=>S=[]/\∃v,b=[v]/\v.oneCell'=true
 | .agg j,b,S=>a9 c j b S
 | .own i,b,S=>(∃a,b=[.slice a 0 0]/\i=[]/\S=[])\/
   ∃g d f e h S',b=[.slice (some ⟨g,0,none⟩) i.length d]/\S=g::S'/\c.w.heap[g]? =some (.cells f e (0,0))/\
    i.length<=d/\d<=maxLen/\d * h<=f.size/\0<i.length * h/\TE c i h (f.toList.take (i.length * h)) S'
def a9(c:Cx):List T->List Value->List Nat->Prop
 | [],b,S=>b=[]/\S=[]
 |t::j,b,S=>∃v r S1 k,b=v::r/\S=S1++k/\TC c t [v] S1/\a9 c j r k
def TE(c:Cx):List T->Nat->List Value->List Nat->Prop
 | [],_,b,S=>b=[]/\S=[]
 |t::j,h,b,S=>∃l m S1 k,b=l++m/\S=S1++k/\l.length=h/\TC c t l S1/\TE c j h m k
end
def Kept(c c':Cx)(S:J Nat):Prop:=∀g∈S,c'.w.heap[g]? =c.w.heap[g]?
theorem Kept.left{c c':Cx}{A B:J Nat}(h:Kept c c' (A++B)):Kept c c' A:=λg a=>h g (xL _ a)
theorem Kept.right{c c':Cx}{A B:J Nat}(h:Kept c c' (A++B)):Kept c c' B:=λg a=>h g (xR _ a)
mutual
theorem TC.ext{c c':Cx}(h:Ext c c'):∀(t:T) (cs:List Value) (S:List Nat),Kept c c' S->TC c t cs S->TC c' t cs S
 | .d x,cs,S,_,a=>by grind [TC,VC.ext]
 | .dead,cs,S,_,a=>by grind [TC]
 | .agg b,cs,S,hk,a=>by have:=a9.ext h b cs S hk a;grind [TC]
 | .own m,cs,S,hk,a=>by
  simp only[TC]at a |-
  obtain a |⟨g,k,j,e,d,S',i,f,h3,h4,h5,h6,h7,h8⟩:=a
  .exact .inl a
  .subst f
   exact .inr ⟨g,k,j,e,d,S',i,rfl,by rw[hk g (by simp)];exact h3,h4,h5,h6,h7,TE.ext h m d _ S' (λx p=>hk x (by simp[p])) h8⟩
theorem a9.ext{c c':Cx}(h:Ext c c'):∀(b:List T) (cs:List Value) (S:List Nat),Kept c c' S->a9 c b cs S->a9 c' b cs S
 | [],_,_,_,a=>by grind [a9]
 |t::b,cs,S,hk,a=>by
  simp only[a9]at a |-
  obtain⟨v,r,S1,l,i,f,h3,h4⟩:=a;subst f
  exact⟨v,r,S1,l,i,rfl,TC.ext h t _ _ hk.left h3,a9.ext h b _ _ hk.right h4⟩
theorem TE.ext{c c':Cx}(h:Ext c c'):∀(b:List T) (d:Nat) (cs:List Value) (S:List Nat),Kept c c' S->TE c b d cs S->TE c' b d cs S
 | [],_,_,_,_,a=>by grind [TE]
 |t::b,d,cs,S,hk,a=>by
  simp only[TE]at a |-
  obtain⟨o,n,S1,l,i,f,h3,h4,h5⟩:=a;subst f
  exact⟨o,n,S1,l,i,rfl,h3,TC.ext h t _ _ hk.left h4,TE.ext h b d _ _ hk.right h5⟩
end
theorem a9.len{c:Cx}:∀(a:J T) (cs:J Vz) (S:J Nat),a9 c a cs S->cs.length=a.length
 | [],_,_,b=>by grind [a9]
 |t::a,cs,S,b=>by
  simp only[a9]at b
  obtain⟨v,r,S1,e,d,f,h3,h4⟩:=b;subst d;simp[a9.len a r e h4]
theorem TC.len{c:Cx}(t:T)(cs:J Vz)(S:J Nat)(hv:TC c t cs S):cs.length=t.nc:=by
 cases t with
 |d x=>simp only[TC]at hv;exact VC.len x cs hv.2
 |dead=>obtain⟨_,v,h,_⟩:=hv;simp[h,T.nc]
 |agg i=>exact a9.len i cs S hv
 |own j=>rcases hv with⟨a,h,_⟩ |⟨g,f,b,e,k,S',h,_⟩ <;>simp[h,T.nc]
theorem TE.len{c:Cx}:∀(b:J T) (a:Nat) (cs:J Vz) (S:J Nat),TE c b a cs S->cs.length=b.length * a/\∀t∈b,t.nc=a
 | [],_,_,_,d=>by grind [TE]
 |t::b,a,cs,S,d=>by
  simp only[TE]at d
  obtain⟨i,e,S1,f,g,h,h3,h4,h5⟩:=d
  have:=TE.len b a e f h5;grind [TC.len]
mutual
theorem TC.dt{c:Cx}:∀(t:T) (cs:List Value) (S:List Nat),TC c t cs S->∀v∈cs,v.oneCell'=true
 | .d x,cs,S,b=>by grind [TC,VC.dt]
 | .dead,cs,S,b=>by obtain⟨_,v,h,i⟩:=b;grind
 | .agg d,cs,S,b=>by have:=a9.dt d cs S b;grind
 | .own n,cs,S,b=>by rcases b with⟨a,h,_⟩ |⟨g,k,j,e,o,S',h,_⟩ <;>simp[h,Value.oneCell']
theorem a9.dt{c:Cx}:∀(d:List T) (cs:List Value) (S:List Nat),a9 c d cs S->∀v∈cs,v.oneCell'=true
 | [],cs,S,b=>by grind [a9]
 |t::d,cs,S,b=>by
  simp only[a9]at b
  obtain⟨v,r,S1,l,i,m,h3,h4⟩:=b;subst i;intro u f
  obtain rfl |f:=List.mem_cons.1 f
  .exact TC.dt t _ _ h3 _ (by simp)
  .exact a9.dt d r l h4 u f
end
theorem TE.dt{c:Cx}:∀(d:J T) (e:Nat) (cs:J Vz) (S:J Nat),TE c d e cs S->∀v∈cs,v.oneCell'=true
 | [],_,cs,S,b=>by grind [TE]
 |t::d,e,cs,S,b=>by
  simp only[TE]at b
  obtain⟨j,f,S1,h,g,i,h3,h4,h5⟩:=b;subst g;intro u a
  obtain a |a:=List.mem_append.1 a
  .grind [TC.dt]
  .exact TE.dt d e f h h5 u a
theorem a9.append{c:Cx}:∀(a:J T) (cs:J Vz) (S:J Nat) (b:J T) (ds:J Vz) (R:J Nat),a9 c a cs S->a9 c b ds R->a9 c (a++b) (cs++ds) (S++R)
 | [],_,_,_,_,_,h,d=>by grind [a9]
 |t::e,cs,S,b,ds,R,h,d=>by
  simp only[a9]at h
  obtain⟨v,r,S1,f,i,g,h3,h4⟩:=h
  have:=a9.append e r f b ds R h4 d;grind [a9]
theorem a9.split{c:Cx}:∀(n:Nat) (a:J T) (cs:J Vz) (S:J Nat),a9 c a cs S->
  ∃S1 b,S=S1++b/\a9 c (a.take n) (cs.take n) S1/\a9 c (a.drop n) (cs.drop n) b
 |0,a,cs,S,h=>⟨[],S,rfl,by simp[a9],by simpa using h⟩
 |n+1,[],cs,S,h=>by grind [a9]
 |n+1,t::a,cs,S,h=>by
  simp only[a9]at h
  obtain⟨v,r,S1,b,d,e,h3,h4⟩:=h
  have:=a9.split n a r b h4;grind [a9]
theorem a9.get{c:Cx}{a:J T}{cs:J Vz}{S:J Nat}(h:a9 c a cs S){n:Nat}{t:T}(ht:a[n]? =some t):
  ∃v L St R,cs[n]? =some v/\S=L++St++R/\TC c t [v] St/\a9 c (a.take n) (cs.take n) L/\a9 c (a.drop (n+1)) (cs.drop (n+1)) R:=by
 obtain⟨A,B,g,d,h3⟩:=a9.split n a cs S h
 have hd:a.drop n=t::a.drop (n+1):=by
  obtain⟨b,e⟩:=List.getElem?_eq_some_iff.1 ht;rw[xW b,e]
 rw[hd]at h3
 simp only[a9]at h3
 obtain⟨v,r,S1,i,h4,h5,h6,h7⟩:=h3;subst g;subst h5;have f:cs.drop (n+1)=r:=by rw[<-List.tail_drop,h4];rfl
 refine⟨v,A,S1,i,?_,by simp,h6,d,by rw[f];exact h7⟩
 have:=congrArg (·[0]?) h4
 grind
theorem a9.of_d{c:Cx}:∀(l:J D) (cs:J Vz),aR c l cs->a9 c (l.map .d) cs []
 | [],cs,h=>by grind [aR,a9]
 |d::b,cs,h=>by
  simp only[aR]at h
  obtain⟨v,r,a,e,h3⟩:=h;subst a;simp only[eG,a9]
  exact⟨v,r,[],[],rfl,rfl,by grind [TC],a9.of_d b r h3⟩
theorem TC.cells{c:Cx}{t:T}{cs:J Vz}{S:J Nat}(h:TC c t cs S):a9 c t.cells cs S:=by
 have f:=TC.len t cs S h
 have b:t.nc=1->(∀v,cs=[v]->a9 c [t] [v] S):=λ_ v g=>by
  subst g;simp only[a9]
  grind
 have a:t.nc=1->a9 c [t] cs S:=λe=>by
  rw[e]at f
  match cs,f,b e with
  | [v],_,k=>exact k v rfl
 cases t with
 |agg i=>exact h
 |own j=>exact a rfl
 |dead=>exact a rfl
 |d x=>
  cases x with
  |agg l=>simp only[TC,VC]at h;obtain⟨rfl,h⟩:=h;exact a9.of_d l cs h
  |_=>exact a rfl
theorem T.pures_spec{c:Cx}:∀(a:J T) (ds:J D),T.bH a=some ds->∀(cs:J Vz) (S:J Nat),a9 c a cs S->S=[]/\aR c ds cs
 | [],ds,h=>by
  grind [T.bH,a9,aR]
 |t::a,ds,h=>by
  cases t with
  |d x=>
   simp only[T.bH,xM]at h
   obtain⟨r,f,e⟩:=h;subst e;intro cs S b;simp only[a9,TC]at b
   obtain⟨v,q,S1,g,h3,h4,⟨h5,h6⟩,h7⟩:=b
   have:=T.pures_spec a r f q g h7;grind [aR]
  |_=>simp[T.bH]at h
theorem TC.mk{c:Cx}{a:J T}{cs:J Vz}{S:J Nat}(h:a9 c a cs S):TC c (T.br a) cs S:=by
 grind [T.br,T.pures_spec,TC,VC]
theorem T.cC{t ct:T}{off:Nat}(h:t.cell off=some ct):t.cells[off]? =some ct:=by
 unfold T.cell at h
 split at h
 .exact h
 .grind [T.cells]
 grind [T.cells]
theorem TC.setCells{c:Cx}{t:T}{cs:J Vz}{S:J Nat}(h:TC c t cs S)(off n:Nat):
  ∃L M R,S=L++M++R/\∀(c':Cx) (vs:J T) (a:J Vz) (b:J Nat),Ext c c'->vs.length=n->a9 c' vs a b->Kept c c' (L++R)->
   TC c' (t.setCells off vs) (cs.take off++a++cs.drop (off+a.length)) (L++b++R):=by
 have g:=h.cells;obtain⟨L,B,j,i,h3⟩:=a9.split off t.cells cs S g;obtain⟨M,R,h4,_,h6⟩:=a9.split n (t.cells.drop off) (cs.drop off) B h3;subst j;subst h4
 refine⟨L,M,R,by simp,λc' vs a b e f d hk=> ?_⟩
 have k:=a9.len vs a b d;unfold T.setCells;refine TC.mk ?_;rw[oZ,oZ]at h6
 rw[k,f];exact a9.append _ _ _ _ _ _ (a9.append _ _ _ _ _ _ (a9.ext e _ _ _ hk.left i) d) (a9.ext e _ _ _ hk.right h6)
theorem TE.append{c:Cx}:∀(a:J T) (d:Nat) (cs:J Vz) (S:J Nat) (b:J T) (ds:J Vz) (R:J Nat),TE c a d cs S->TE c b d ds R->TE c (a++b) d (cs++ds) (S++R)
 | [],_,_,_,_,_,_,h,e=>by grind [TE]
 |t::g,d,cs,S,b,ds,R,h,e=>by
  simp only[TE]at h
  obtain⟨k,f,S1,i,l,j,h3,h4,h5⟩:=h
  have:=TE.append g d f i b ds R h5 e;grind [TE]
theorem TE.split{c:Cx}:∀(n:Nat) (b:J T) (a:Nat) (cs:J Vz) (S:J Nat),TE c b a cs S->
  ∃S1 d,S=S1++d/\TE c (b.take n) a (cs.take (n * a)) S1/\TE c (b.drop n) a (cs.drop (n * a)) d
 |0,b,a,cs,S,h=>⟨[],S,rfl,by simp[TE],by simpa using h⟩
 |n+1,[],a,cs,S,h=>by grind [TE]
 |n+1,t::b,a,cs,S,h=>by
  simp only[TE]at h
  obtain⟨i,g,S1,d,j,f,h3,h4,h5⟩:=h;obtain⟨A,B,h6,h7,h8⟩:=TE.split n b a g d h5;subst j;subst f;subst h6;have e:(n+1) * a=i.length+n * a:=by rw[iT,h3];omega
  refine⟨S1++A,B,by simp,?_,?_⟩
  .grind [TE]
  .rw[e,List.drop_length_add_append]
   grind
theorem TE.get{c:Cx}{b:J T}{a:Nat}{cs:J Vz}{S:J Nat}(h:TE c b a cs S){n:Nat}{t:T}(ht:b[n]? =some t):
  ∃d L St R,d.length=a/\cs=cs.take (n * a)++d++cs.drop (n * a+a)/\(cs.take (n * a)).length=n * a/\S=L++St++R/\TC c t d St/\TE c (b.take n) a (cs.take (n * a)) L/\TE c (b.drop (n+1)) a (cs.drop (n * a+a)) R:=by
 obtain⟨A,B,i,g,h3⟩:=TE.split n b a cs S h;have e:=(List.getElem?_eq_some_iff.1 ht).1
 have hd:b.drop n=t::b.drop (n+1):=by
  obtain⟨e,f⟩:=List.getElem?_eq_some_iff.1 ht;rw[xW e,f]
 grind [TE,oZ,List.drop_left,yP,TE.len]
theorem TE.put{c c':Cx}(hx:Ext c c'){b:J T}{a n:Nat}{cs d:J Vz}{L R St:J Nat}{t:T}(hn:n<b.length)(hl:TE c (b.take n) a (cs.take (n * a)) L)(hr:TE c (b.drop (n+1)) a (cs.drop (n * a+a)) R)
  (hk:Kept c c' (L++R)) (h1:d.length=a) (ht:TC c' t d St):TE c' (b.set n t) a (cs.take (n * a)++d++cs.drop (n * a+a)) (L++St++R):=by
 rw[List.set_eq_take_append_cons_drop,if_pos hn];have e:b.take n++t::b.drop (n+1)=(b.take n++[t])++b.drop (n+1):=by simp
 rw[e];refine TE.append _ _ _ _ _ _ _ (TE.append _ _ _ _ _ _ _ (TE.ext hx _ _ _ _ hk.left hl) ?_) (TE.ext hx _ _ _ _ hk.right hr);simp only[TE]
 grind
def aI(c:Cx):Value->T->dR->Value->Prop
 |h,_,[],j=>j=h
 |h,.own n,(i,b)::p,j=>∃g d f a e k m l,h=.slice (some ⟨g,0,none⟩) d f/\c.w.heap[g]? =some (.cells a e (0,0))/\n[i]? =some k/\k.cell b=some m/\a[i * k.nc+b]? =some l/\aI c l m p j
 |_,_,_::_,_=>False
theorem T.put_elem(e c':T)(off:Nat):e.aT off c'=e.setCells off [c']\/(e.nc=1/\(∀l,e≠ .agg l)/\(∀l,e≠ .d (.agg l))/\e.aT off c'=c'):=by
 cases e with
 |d y=>cases y <;>first |exact .inl rfl |exact .inr ⟨rfl,by simp,by simp,rfl⟩
 |agg l=>exact .inl rfl
 |own a=>exact .inr ⟨rfl,by simp,by simp,rfl⟩
 |dead=>exact .inr ⟨rfl,by simp,by simp,rfl⟩
def bg(es es':J T):Prop:=es'.length=es.length/\∀(i:Nat) (e:T),es[i]? =some e->∃a:T,es'[i]? =some a/\a.nc=e.nc
theorem bg.refl(es:J T):bg es es:=⟨rfl,λ_ e h=>⟨e,h,rfl⟩⟩
theorem T.cD(t:T):t.cells.length=t.nc:=by
 cases t with
 |d x=>cases x <;>simp[T.cells,T.nc,D.nc]
 |_=>simp[T.cells,T.nc]
theorem T.mkAgg_cells(a:J T):(T.br a).cells=a:=by
 unfold T.br;split
 .rename_i b hd
  have:∀(a:J T) (b:J D),T.bH a=some b->b.map T.d=a:=by
   intro a
   induction a with
   |nil=>grind [T.bH]
   |cons t r c=>
    intro b h
    cases t with
    |d x=>
     grind [T.bH,xM]
    |_=>simp[T.bH]at h
  grind [T.cells]
 .rfl
theorem T.mkAgg_cell(a:J T)(off:Nat):(T.br a).cell off=a[off]? :=by
 grind [T.mkAgg_cells,T.br,T.cells,T.cell]
theorem T.mkAgg_nc(a:J T):(T.br a).nc=a.length:=by rw[<-T.cD,T.mkAgg_cells]
theorem T.bW{e c:T}{off:Nat}(h:e.cell off=some c):off<e.nc:=by
 have:=T.cC h
 grind [T.cD]
theorem T.setCells_nc{e:T}{off:Nat}{vs:J T}(h:off+vs.length<=e.nc):(e.setCells off vs).nc=e.nc:=by
 grind [T.cD,T.setCells,T.mkAgg_nc]
theorem T.setCells_other{e:T}{off a:Nat}{vs:J T}{d:T}(h:off+vs.length<=e.nc)(hd:e.cells[a]? =some d)(b:a<off\/off+vs.length<=a):(e.setCells off vs).cell a=some d:=by
 grind [T.setCells,T.mkAgg_cell]
theorem T.dd{e c x:T}{off:Nat}(h:e.cell off=some x)(h1:c.nc=1):(e.aT off c).nc=e.nc:=by
 have a:=T.bW h
 obtain q |⟨b,_,_,q4⟩:=T.put_elem e c off
 .grind [T.setCells_nc]
 grind
theorem T.cJ{e c d x:T}{off a:Nat}(h:e.cell off=some x)(hd:e.cell a=some d)(f:a≠off):(e.aT off c).cell a=some d:=by
 have g:=T.bW h;have b:=T.bW hd
 obtain q |⟨j,i,q3,q4⟩:=T.put_elem e c off
 .grind [T.setCells_other,T.cC]
 .omega
theorem T.cS{e c x:T}{off:Nat}(h:e.cell off=some x)(h1:c.nc=1)(h2:∀l,c≠ .agg l)(h3:∀l,c≠ .d (.agg l)):(e.aT off c).cell off=some c:=by
 have a:=T.bW h;have b:=T.cD e
 obtain q |⟨g,f,q3,q4⟩:=T.put_elem e c off
 .rw[q]
  unfold T.setCells;rw[T.mkAgg_cell,xK,xN (by simp;omega)]
  grind
 .have:off=0:=by omega
  subst this;rw[q4]
  cases c with
  |agg l=>grind
  |d y=>cases y <;>first |exact absurd rfl (h3 _) |rfl
  |_=>rfl
theorem aI.uniq{c:Cx}:∀(p:dR) (t:T) (h a b:Vz),aI c h t p a->aI c h t p b->a=b
 | [],_,_,_,_,f,q=>by grind [aI]
 |(i,w)::p,t,h,a,b,f,q=>by
  cases t with
  |own N=>
   simp only[aI]at f q
   obtain⟨g,K,J,v,e,M,B,G,E,y,I,A,L,F⟩:=f;obtain⟨P,u,r,s,O,D,C,H,k,j,n,o,m,z⟩:=q;subst E;simp only[Value.slice.injEq,xJ,Addr.mk.injEq,and_true]at k
   obtain⟨k,_,_⟩:=k;subst k;rw[y]at j
   simp only[xJ,Obj.cells.injEq,and_true]at j
   obtain⟨j,_⟩:=j;subst j;rw[I]at n
   simp only[xJ]at n
   subst n;rw[A]at o
   simp only[xJ]at o
   subst o;rw[L]at m
   simp only[xJ]at m
   subst m;exact aI.uniq p B G a b F z
  |d x=>simp[aI]at f
  |agg l=>simp[aI]at f
  |dead=>simp[aI]at f
theorem aI.ext{c c':Cx}:∀(q:dR) (t:T) (h n:Vz) (S:J Nat),TC c t [h] S->Kept c c' S->aI c h t q n->aI c' h t q n
 | [],_,_,_,_,_,_,f=>f
 |(i,b)::q,t,h,n,S,R,hk,f=>by
  cases t with
  |own L=>
   simp only[aI]at f |-
   obtain⟨g,s,r,j,e,y,C,p,K,z,G,B,Z,M⟩:=f
   obtain⟨a,_,A,_⟩ |⟨g',w,D,e',m,S',o,A,h3,h4,h5,h6,h7,h8⟩:=R
   .grind
   .subst K
    simp only[xC,Value.slice.injEq,xJ,Addr.mk.injEq,and_true]at o
    obtain⟨o,_,_⟩:=o;subst o;rw[z]at h3
    simp only[xJ,Obj.cells.injEq,and_true]at h3
    obtain⟨h3,_⟩:=h3;subst h3;subst A;obtain⟨Q,L1,Se,R1,O,Y,W,X,E,k6,k7⟩:=TE.get h8 G;obtain⟨v,L2,I,R2,F,N,P,m4,m5⟩:=a9.get E.cells (T.cC B);have U:y.nc=m:=by rw[<-TC.len _ _ _ E,O]
    have k:b<Q.length:=(List.getElem?_eq_some_iff.1 F).1
    have u:(j.toList.take (L.length * m))[i * m+b]? =some v:=by
     rw[Y,xK,xN (by omega),W,show i * m+b - i * m=b by omega,xO k]
     exact F
    rw[xU]at u
    have H:p=v:=by
     split at u
     .grind
     .cases u
    subst H;subst X;subst N
    exact⟨g,s,r,j,e,y,C,p,rfl,by rw[hk g (by simp)];exact z,G,B,Z,aI.ext q C p n I P (λx V=>hk x (by simp[V])) M⟩
  |d x=>simp[aI]at f
  |agg l=>simp[aI]at f
  |dead=>simp[aI]at f
theorem a9.sub{c:Cx}{a:J T}{cs:J Vz}{S:J Nat}(h:a9 c a cs S){n:Nat}{t:T}(ht:a[n]? =some t):
  ∃v St,cs[n]? =some v/\TC c t [v] St/\∀z∈St,z∈S:=by
 grind [a9.get]
theorem TE.sub{c:Cx}{d:J T}{b:Nat}{cs:J Vz}{S:J Nat}(h:TE c d b cs S){n:Nat}{t y:T}{off:Nat}(ht:d[n]? =some t)(i:t.cell off=some y):
  ∃v St,cs[n * b+off]? =some v/\TC c y [v] St/\∀z∈St,z∈S:=by
 obtain⟨j,p,s,R1,q,l,k,u,g,m,o⟩:=TE.get h ht;obtain⟨v,St,e,f,h3⟩:=a9.sub g.cells (T.cC i);have a:off<j.length:=(List.getElem?_eq_some_iff.1 e).1
 refine⟨v,St,?_,f,λz r=>by grind⟩
 rw[l,xK,xN (by omega),k,show n * b+off - n * b=off by omega,xO a]
 exact e
theorem Q5{a:Array Vz}{n b i off:Nat}{d:J Vz}{v:Vz}(f:a.toList.take n=(a.toList.take n).take (i * b)++d++(a.toList.take n).drop (i * b+b))(g:((a.toList.take n).take (i * b)).length=i * b)(e:d[off]? =some v):
  a[i * b+off]? =some v:=by
 have c:off<d.length:=(List.getElem?_eq_some_iff.1 e).1
 have h:(a.toList.take n)[i * b+off]? =some v:=by
  rw[f,xK,xN (by omega),g,show i * b+off - i * b=off by omega,xO c]
  exact e
 grind
structure Focus(c:Cx)(t:T)(h:Value)(p:dR)(nd:T)(h':Value)(L Sn R:List Nat):Prop where
 node:aI c h t p h'
 tc:TC c nd [h'] Sn
 put:∀(c':Cx) (nd' t':T) (Sn':List Nat),Ext c c'->Kept c c' (L++R)->t.put p nd'=some t'->TC c' nd' [h'] Sn'->TC c' t' [h] (L++Sn'++R)
 oth:∀(c':Cx) (nd' t':T) (Q:dR->Prop),Kept c c' (L++R)->t.put p nd'=some t'->nd'.nc=1->
  (∀q es,Q q->nd.at q=some (.own es)->∃es',nd'.at q=some (.own es')/\bg es es'/\∀h1,aI c h' nd q h1->aI c' h' nd' q h1)->
  ∀q es,(∀q',q=p++q'->Q q')->t.at q=some (.own es)->∃es',t'.at q=some (.own es')/\bg es es'/\∀h1,aI c h t q h1->aI c' h t' q h1
theorem T.put_nc:∀(p:dR) (t nd a t':T),t.at p=some nd->t.put p a=some t'->t.nc=1->a.nc=1->t'.nc=1
 | [],_,_,_,_,_,b,_,h=>by grind [T.put]
 |(i,c)::p,t,nd,a,t',_,b,_,_=>by
  cases t with
  |own f=>
   simp only[T.put,xB,xM]at b
   obtain⟨e,_,g,_,c',_,rfl⟩:=b;rfl
  |_=>simp[T.put]at b
theorem TC.focus{c:Cx}:∀(p:dR) (t:T) (h:Vz) (S:J Nat) (nd:T),TC c t [h] S->t.at p=some nd->
  ∃h' L Sn R,S=L++Sn++R/\Focus c t h p nd h' L Sn R
 | [],t,h,S,nd,ht,m=>by
  simp only[T.at,xJ]at m
  subst m
  refine⟨h,[],S,[],by simp,rfl,ht,λc' D t' Sn' _ _ H hn=> ?_,λc' D t' Q _ H _ hb q P N=> ?_⟩
  .grind [T.put]
  grind [T.put]
 |(i,f)::p,t,h,S,nd,ht,m=>by
  cases t with
  |own P=>
   simp only[T.at,xB]at m
   obtain⟨B,he,ct,w,m⟩:=m;have hn:=(List.getElem?_eq_some_iff.1 he).1
   obtain⟨a,_,h2,_⟩ |⟨g,Z,o,e,F,S',K,h2,h3,h4,h5,h6,h7,h8⟩:=ht
   .grind
   .obtain⟨Y,L1,Se,R1,k1,k2,k3,k4,k5,k6,k7⟩:=TE.get h8 he
    obtain⟨v,L2,Sc,R2,m1,m2,m3,m4,m5⟩:=a9.get k5.cells (T.cC w);obtain⟨h',L3,Sn,R3,n2,df⟩:=TC.focus p ct v Sc nd m3 m;have ak:B.nc=F:=by rw[<-TC.len _ _ _ k5,k1]
    have ao:ct.nc=1:=by rw[<-TC.len _ _ _ m3];rfl
    have af:f<Y.length:=(List.getElem?_eq_some_iff.1 m1).1
    have e1:o[i * B.nc+f]? =some v:=by
     rw[ak]
     have e1:(o.toList.take (P.length * F))[i * F+f]? =some v:=by
      rw[k2,xK,xN (by omega),k3,show i * F+f - i * F=f by omega,xO af]
      exact m1
     rw[xU]at e1
     split at e1
     .simpa using e1
     .cases e1
    subst h2;subst k4;subst m2;subst n2;simp only[xC,and_true]at K
    refine⟨h',g::L1++L2++L3,Sn,R3++R2++R1,by simp,?_,df.tc,λc' D t' Sn' G hk H aL=> ?_,λc' D t' Q hk H W hb q I N r=> ?_⟩
    .simp only[aI]
     exact⟨g,P.length,Z,o,e,B,ct,v,K,h3,he,w,e1,df.node⟩
    .simp only[T.put,he,w,xS,xM]at H
     obtain⟨k,H,aa⟩:=H;subst aa;have n5:=df.put c' D k Sn' G (λx E=>hk x (by grind)) H aL
     have hg:c'.w.heap[g]? =some (.cells o e (0,0)):=by rw[hk g (by simp)];exact h3
     have ag:TC c' (B.aT f k) Y (L2++(L3++Sn'++R3)++R2):=by
      obtain q |⟨q1,q2,q3,q4⟩:=T.put_elem B k f
      .rw[q]
       unfold T.setCells;refine TC.mk ?_
       have ee:Y=Y.take f++[v]++Y.drop (f+1):=by
        obtain⟨hh,hv⟩:=List.getElem?_eq_some_iff.1 m1;rw[xK,List.singleton_append,<-hv,<-xW hh,yP]
       rw[ee];refine a9.append _ _ _ _ _ _ (a9.append _ _ _ _ _ _ (a9.ext G _ _ _ (λx E=>hk x (by simp[E])) m4) ?_) ?_
       .simp only[a9];exact⟨v,[],_,[],rfl,by simp,n5,rfl,rfl⟩
       .simp only[xZ,yN]
        exact a9.ext G _ _ _ (λx E=>hk x (by simp[E])) m5
      .rw[q4]
       have an:=TC.len _ _ _ k5;rw[q1]at an
       have ad:f=0:=by omega
       subst ad
       have aN:B.cells=[B]:=by
        cases B with
        |agg l=>grind
        |d y=>cases y <;>first |rfl |grind
        |_=>rfl
       match Y,an,m1 with
       | [u],_,m1=>
        grind [a9]
     simp only[TC];refine .inr ⟨g,Z,o,e,F,L1++(L2++(L3++Sn'++R3)++R2)++R1,by grind,by simp,hg,by grind,h5,h6,by grind,?_⟩
     rw[oY];rw[k2];exact TE.put G hn k6 k7 (λx E=>hk x (by grind)) k1 ag
    .simp only[T.put,he,w,xS,xM]at H
     obtain⟨k,H,aa⟩:=H;subst aa;have hg:c'.w.heap[g]? =some (.cells o e (0,0)):=by rw[hk g (by simp)];exact h3
     have ah:k.nc=1:=T.put_nc p ct nd D k m H ao W;have aW:(B.aT f k).nc=B.nc:=T.dd w ah
     have ai:∀(j:Nat) (x:T),P[j]? =some x->∃M:T,(P.set i (B.aT f k))[j]? =some M/\M.nc=x.nc/\(j≠i->M=x)/\(j=i->x=B/\M=B.aT f k):=by
      intro j x G
      by_cases hj:i=j
      .grind
      .grind
     cases q with
     |nil=>
      simp only[T.at,xJ,T.own.injEq]at r
      subst r
      refine⟨_,rfl,⟨by simp,λj x G=> ?_⟩,λK hh=>hh⟩
      grind
     |cons ab q=>
      obtain⟨a,b⟩:=ab;simp only[T.at,xB]at r
      obtain⟨x,G,y,O,r⟩:=r;obtain⟨M,a1,a2,a3,a4⟩:=ai a x G
      -- the cell by which the road goes on
      have U:∀y' s,M.cell b=some y'->y'.at q=some (.own s)->bg I s->
        (∀C N,o[a * x.nc+b]? =some C->aI c C y q N->aI c' C y' q N)->
        ∃s,(T.own (P.set i (B.aT f k))).at ((a,b)::q)=some (.own s)/\bg I s/\∀N,aI c h (T.own P) ((a,b)::q) N->aI c' h (T.own (P.set i (B.aT f k))) ((a,b)::q) N:=by
       intro y' s b1 b2 b3 b4
       refine⟨s,by grind [T.at],b3,λN hh=> ?_⟩
       simp only[aI]at hh |-
       obtain⟨g',aP,aQ,aS,e',ag,aM,C,d1,d2,d3,d4,d5,d6⟩:=hh;rw[K]at d1
       simp only[Value.slice.injEq,xJ,Addr.mk.injEq,and_true]at d1
       obtain⟨d1,_,_⟩:=d1;subst d1;rw[h3]at d2
       simp only[xJ,Obj.cells.injEq,and_true]at d2
       obtain⟨d2,_⟩:=d2;subst d2;rw[G]at d3
       simp only[xJ]at d3
       subst d3;rw[O]at d4
       simp only[xJ]at d4
       subst d4
       exact⟨g,P.length,Z,o,e,M,y',C,K,hg,a1,b1,by rw[a2];exact d5,b4 C N d5 d6⟩
      by_cases ha:a=i
      .obtain⟨ax,ay⟩:=a4 ha
       subst ax;subst ay;subst ha
       by_cases ac:b=f
       .subst ac
        rw[w]at O
        simp only[xJ]at O
        subst O;obtain⟨s,aZ,a6,aY⟩:=df.oth c' D k Q (λx E=>hk x (by grind)) H W hb q I (λq' av=>N q' (by rw[av];rfl)) r
        have a0:(x.aT b k).cell b=some k:=by
         by_cases aV:(∀l,k≠ .agg l)/\(∀l,k≠ .d (.agg l))
         .grind [T.cS]
         .exfalso
          cases q with
          |nil=>grind [T.at]
          |cons z q=>grind [T.at]
        grind
       .refine U y I (T.cJ w O ac) r (bg.refl _) λC K d5 d6=> ?_
        have aJ:=T.cC O;have a5:=T.bW O
        have X:∀A Sc',Y[b]? =some A->TC c y [A] Sc'->(∀z∈Sc',z∈L2\/z∈R2)->aI c' C y q K:=λA Sc' f1 f2 f3=>by
         have:C=A:=by
          rw[ak]at d5
          have:=Q5 k2 k3 f1
          rw[d5]at this
          simpa using this
         subst this;exact aI.ext q y C K Sc' f2 (λz hz=>hk z (by grind)) d6
        obtain aq |aH:=Nat.lt_or_gt_of_ne ac
        .obtain⟨A,St,V,g2,g3⟩:=a9.sub m4 (n:=b) (t:=y) (by grind)
         grind
        .obtain⟨A,St,V,g2,g3⟩:=a9.sub m5 (n:=b - (f+1)) (t:=y) (by rw[jA,show f+1+(b - (f+1))=b by omega];exact aJ)
         exact X A St (by rw[jA,show f+1+(b - (f+1))=b by omega]at V;exact V) g2 (λz hz=>.inr (g3 z hz))
      .have:=a3 ha
       subst this;refine U y I O r (bg.refl _) λC K d5 d6=> ?_
       have aC:M.nc=F:=(TE.len _ _ _ _ h8).2 M (yS G);have al:=(List.getElem?_eq_some_iff.1 G).1
       have X:∀A Sc',(o.toList.take (P.length * F))[a * F+b]? =some A->TC c y [A] Sc'->(∀z∈Sc',z∈L1\/z∈R1)->aI c' C y q K:=λA Sc' f1 f2 f3=>by
        have:C=A:=by
         rw[aC]at d5
         rw[xU]at f1
         split at f1
         .grind
         .cases f1
        subst this;exact aI.ext q y C K Sc' f2 (λz hz=>hk z (by grind)) d6
       obtain aq |aH:=Nat.lt_or_gt_of_ne ha
       .obtain⟨A,St,V,g2,g3⟩:=TE.sub k6 (n:=a) (t:=M) (by grind) O
        grind
       .obtain⟨A,St,V,g2,g3⟩:=TE.sub k7 (n:=a - (i+1)) (t:=M) (by rw[jA,show i+1+(a - (i+1))=a by omega];exact G) O
        refine X A St ?_ g2 (λz hz=>.inr (g3 z hz))
        rw[jA]at V
        have e2:i * F+F+((a - (i+1)) * F+b)=a * F+b:=by
         have:a=(a - (i+1))+i+1:=by omega
         conv=>rhs;rw[this]
         simp only[iT];omega
        rw[e2]at V
        exact V
  |d x=>simp[T.at]at m
  |agg l=>simp[T.at]at m
  |dead=>simp[T.at]at m
def All2{c d:Type}(R:c->d->Prop):List c->List d->Prop
 | [],l=>l=[]
 |a::e,l=>∃b r,l=b::r/\R a b/\All2 R e r
theorem All2.imp{d g:Type}{R e:d->g->Prop}:∀{c:J d} {l:J g},(∀a∈c,∀b,R a b->e a b)->All2 R c l->All2 e c l
 | [],_,_,h=>h
 |a::c,l,f,h=>by
  obtain⟨b,r,i,k,h3⟩:=h
  exact⟨b,r,i,f a (by simp) b k,All2.imp (λx j=>f x (by simp[j])) h3⟩
theorem All2.map{e c i:Type}{R:e->i->Prop}{j:c->i->Prop}(g:e->c):∀{d:J e} {l:J i},(∀a∈d,∀b,R a b->j (g a) b)->All2 R d l->All2 j (d.map g) l
 | [],_,_,h=>h
 |a::d,l,f,h=>by
  obtain⟨b,r,k,n,h3⟩:=h
  exact⟨b,r,k,f a (by simp) b n,All2.map g (λx m=>f x (by simp[m])) h3⟩
theorem All2.len{d e:Type}{R:d->e->Prop}:∀{c:J d} {l:J e},All2 R c l->l.length=c.length
 | [],_,h=>by rw[show _=[]from h];rfl
 |a::c,l,h=>by
  obtain⟨b,r,f,g,h3⟩:=h;simp[f,All2.len h3]
theorem All2.get{d e:Type}{R:d->e->Prop}:∀{c:J d} {l:J e},All2 R c l->∀{i:Nat} {a:d},c[i]? =some a->∃b,l[i]? =some b/\R a b
 | [],_,_,_,_,h=>by simp at h
 |a::c,l,h,i,x,g=>by
  obtain⟨b,r,f,j,h3⟩:=h;subst f
  cases i with
  |zero=>grind
  |succ i=>have:=All2.get h3 g;grind
theorem All2.mem{e f:Type}{R:e->f->Prop}:∀{c:J e} {l:J f},All2 R c l->∀a∈c,∃b∈l,R a b
 | [],_,_,a,h=>by simp at h
 |x::c,l,h,a,d=>by
  obtain⟨b,r,g,i,h3⟩:=h;subst g
  obtain rfl |d:=List.mem_cons.1 d
  .grind
  have:=All2.mem h3 a d;grind
theorem All2.append{e f:Type}{R:e->f->Prop}:∀{c bs:J e} {l m:J f},All2 R c l->All2 R bs m->All2 R (c++bs) (l++m)
 | [],_,_,_,h,d=>by rw[show _=[]from h];grind
 |a::c,bs,l,m,h,d=>by
  obtain⟨b,r,g,i,h3⟩:=h;subst g
  exact⟨b,r++m,rfl,i,All2.append h3 d⟩
theorem All2.bz{d e:Type}{R:d->e->Prop}:∀{c:J d} {l:J e},All2 R c l->∀o n,All2 R (Go.Am.bz c o n) (Go.Am.bz l o n)
 | [],l,h,o,n=>by grind [Go.Am.bz,All2]
 |a::c,l,h,o,n=>by
  obtain⟨b,r,f,g,h3⟩:=h;subst f
  cases o with
  |zero=>
   cases n with
   |zero=>simp[Go.Am.bz,All2]
   |succ n=>
    have:=All2.bz h3 0 n
    simp only[Go.Am.bz,jg,Eh]at this |-
    exact⟨b,_,rfl,g,this⟩
  |succ o=>simpa [Go.Am.bz]using All2.bz h3 o n
def Win(h:Vz)(es:J T)(off len:Nat)(v:Vz):Prop:=
 ∃a n c d b,h=.slice a n c/\v=.slice d len b/\len<=b/\(off=0->d=a/\b<=c)/\
  (0<len->∃g e,a=some ⟨g,0,none⟩/\es[off]? =some e/\d=some ⟨g,off * e.nc,none⟩)
def SB(c:Cx)(K:aj->U T)(hd:aj->Vz):SV->Vz->Prop
 | .d x,v=>VV c x v
 | .aH r p d h,v=>∃t f m,K r=some t/\t.at p=some (.own f)/\aI c (hd r) t p m/\d+h<=f.length/\Win m f d h v
 | .loc r p i d,v=>∃t f g n e k,K r=some t/\t.at p=some (.own f)/\aI c (hd r) t p (.slice (some ⟨g,0,none⟩) n e)/\f[i]? =some k/\d<k.nc/\
   v=.pointer (some ⟨g,i * k.nc+d,none⟩)
 | .rp b q,v=>∃a o,v=.pointer (some a)/\a.spot=none/\c.pm b a.block/\(∀j u,o[j]? =some u->c.w.cell? (a.add j)=some u)/\aR c q o
 | .clip b l,v=>VC c (.sl b l) [v]/\∃a,v=.slice a l.length l.length
 | .ns b,v=>∃a e,v=.slice a 0 e/\b=a.isNone
 |.agg _,_|.aS _,_=>False
 | .dead,_=>True
theorem Q6{c:Cx}{v:Vz}{b:Bool}(h:∃a cap,v=.slice a 0 cap/\b=a.isNone):VC c (.sl false []) [v]:=by
 grind [VC]
def CO(c:Cx)(K:aj->U T)(hd:aj->Vz):SV->Vz->Prop
 | .d x,v=>VC c x [v]
 |x,v=>SB c K hd x v
def S1(c:Cx)(K:aj->U T)(hd:aj->Vz):SV->Vz->Prop
 | .agg l,v=>∃a,v=.agg a/\All2 (CO c K hd) l a.toList
 |x,v=>SB c K hd x v
def SO(c:Cx)(K:aj->U T)(hd:aj->Vz):SV->Vz->Prop
 | .aS l,v=>∃a,v=.tuple a/\All2 (S1 c K hd) l a.toList
 |x,v=>S1 c K hd x v
def wV(c c':Cx)(K K':aj->U T)(hd hd':aj->Vz)(r:aj)(q:dR):Prop:=
 ∀t d,K r=some t->t.at q=some (.own d)->∃b a,K' r=some b/\b.at q=some (.own a)/\bg d a/\∀h,aI c (hd r) t q h->aI c' (hd' r) b q h
section
variable{c c':Cx}{K K':aj->U T}{hd hd':aj->Vz}
theorem SB.bS{r:aj}{p:dR}{off len:Nat}{v:Vz}(q:wV c c' K K' hd hd' r p)(h:SB c K hd (.aH r p off len) v):SB c' K' hd' (.aH r p off len) v:=by
 obtain⟨t,w,B,o,j,h3,h4,h5⟩:=h;obtain⟨A,d,k,E,f,C⟩:=q t w o j
 refine⟨A,d,B,k,E,C _ h3,by rw[f.1];exact h4,?_⟩
 obtain⟨a,n,e,m,b,z,x,y,l,s⟩:=h5
 refine⟨a,n,e,m,b,z,x,y,l,λD=> ?_⟩
 obtain⟨g,F,G,i,I⟩:=s D;obtain⟨u,J,H⟩:=f.2 _ _ i
 grind
theorem SB.bL{r:aj}{p:dR}{i off:Nat}{v:Vz}(s:wV c c' K K' hd hd' r p)(h:SB c K hd (.loc r p i off) v):SB c' K' hd' (.loc r p i off) v:=by
 obtain⟨t,q,g,n,b,x,o,k,h3,h4,h5,h6⟩:=h;obtain⟨f,a,w,u,l,m⟩:=s t q o k;obtain⟨d,j,e⟩:=l.2 _ _ h4
 exact⟨f,a,g,n,b,d,w,u,m _ h3,j,by rw[e];exact h5,by rw[e];exact h6⟩
theorem SB.bJ(hx:Ext c c'){u:SV}{v:Vz}(hb:∀r p off len,u≠ .aH r p off len)(hl:∀r p i off,u≠ .loc r p i off)(h:SB c K hd u v):SB c' K' hd' u v:=by
 cases u with
 |d x=>exact VV.ext hx h
 |aH r p off len=>grind
 |loc r p i off=>grind
 |rp b k=>
  obtain⟨a,g,f,e,h3,h4,h5⟩:=h
  refine⟨a,g,f,e,(hx.pm _ _ h3).1,λj u m=> ?_,aR.ext hx _ _ h5⟩
  rw[qv (w:=c.w) (by rw[kF];exact(hx.pm _ _ h3).2)]
  grind
 |clip b l=>exact⟨VC.ext hx _ _ h.1,h.2⟩
 |ns b=>exact h
 |agg l=>exact h
 |aS l=>exact h
 |dead=>trivial
theorem CO.of_SB{u:SV}{v:Vz}(h:SB c K hd u v)(ha:∀l,u≠ .d (.agg l)):CO c K hd u v:=by
 cases u with
 |d x=>exact VV.inv h (λl a=>ha l (by rw[a]))
 |_=>exact h
theorem CO.to_SB{u:SV}{v:Vz}(hu:∀y,u≠ .d y)(h:CO c K hd u v):SB c K hd u v:=by
 cases u with
 |d y=>grind
 |_=>exact h
theorem S1.to_SB{u:SV}{v:Vz}(hu:∀l,u≠ .agg l)(h:S1 c K hd u v):SB c K hd u v:=by
 cases u with
 |agg y=>grind
 |_=>exact h
theorem S1.of_SB{u:SV}{v:Vz}(hu:∀l,u≠ .agg l)(h:SB c K hd u v):S1 c K hd u v:=by
 cases u with
 |agg y=>grind
 |_=>exact h
theorem SO.to_S1{u:SV}{v:Vz}(hu:∀l,u≠ .aS l)(h:SO c K hd u v):S1 c K hd u v:=by
 cases u with
 |aS y=>grind
 |_=>exact h
theorem SO.of_S1{u:SV}{v:Vz}(hu:∀l,u≠ .aS l)(h:S1 c K hd u v):SO c K hd u v:=by
 cases u with
 |aS y=>grind
 |_=>exact h
theorem SO.step(x:Tr)(hx:Ext c c')(H:∀u v,(∀y,u≠ .d y)->SB c K hd u v->SB c' K' hd' (x.sv u) v)(p:∀u l,(∀y,u≠ .d y)->x.sv u≠ .d (.agg l)){u:SV}{v:Vz}(h:SO c K hd u v):SO c' K' hd' (x.sv u) v:=by
 have g:∀y,x.sv (.d y)=.d y:=λy=>by cases x <;>rfl
 have B:∀u v,SB c K hd u v->SB c' K' hd' (x.sv u) v:=λu v h=>by
  cases u with
  |d y=>rw[g];exact VV.ext hx h
  |_=>grind
 have t:∀u v,CO c K hd u v->CO c' K' hd' (x.sv u) v:=λu v h=>by
  by_cases s:∃y,u=.d y
  .obtain⟨y,rfl⟩:=s
   rw[g];exact VC.ext hx y _ h
  grind [CO.of_SB,CO.to_SB]
 have m:∀l,Tr.bG x l=l.map x.sv:=λl=>by induction l with
  |nil=>rfl
  |cons a r z=>simp[Tr.bG,z]
 have q:∀l,x.sv (.agg l)=.agg (l.map x.sv):=λl=>by rw[<-m];cases x <;>rfl
 have w:∀l,x.sv (.aS l)=.aS (l.map x.sv):=λl=>by rw[<-m];cases x <;>rfl
 have o:∀u l,(∀l,u≠ .agg l)->x.sv u≠ .agg l:=λu l f=>by
  cases u <;>simp_all [Tr.sv] <;>cases x <;>simp <;>(repeat' split) <;>simp
 have n:∀u l,(∀l,u≠ .aS l)->x.sv u≠ .aS l:=λu l f=>by
  cases u <;>simp_all [Tr.sv] <;>cases x <;>simp <;>(repeat' split) <;>simp
 have A:∀u v,S1 c K hd u v->S1 c' K' hd' (x.sv u) v:=λu v h=>by
  by_cases f:∃l,u=.agg l
  .obtain⟨l,rfl⟩:=f
   rw[q];obtain⟨i,k,j⟩:=h
   exact⟨i,k,j.map _ (λa _ b e=>t a b e)⟩
  grind [S1.of_SB,S1.to_SB]
 by_cases f:∃l,u=.aS l
 .obtain⟨l,rfl⟩:=f
  rw[w];obtain⟨i,k,j⟩:=h
  exact⟨i,k,j.map _ (λa _ b e=>A a b e)⟩
 grind [SO.of_S1,SO.to_S1]
theorem SO.aV(hx:Ext c c')(o:∀r q,wV c c' K K' hd hd' r q){u:SV}{v:Vz}(h:SO c K hd u v):SO c' K' hd' u v:=by
 have w:∀u v,SB c K hd u v->SB c' K' hd' u v:=λu v h=>by
  cases u with
  |aH r p k x=>exact SB.bS (o r p) h
  |loc r p i k=>exact SB.bL (o r p) h
  |_=>exact SB.bJ hx (by simp) (by simp) h
 have t:∀u v,CO c K hd u v->CO c' K' hd' u v:=λu v h=>by
  by_cases s:∃y,u=.d y
  .obtain⟨y,rfl⟩:=s
   exact VC.ext hx y _ h
  .have g:∀y,u≠ .d y:=λy e=>s ⟨y,e⟩
   have f:=w u v (CO.to_SB g h)
   cases u <;>first |grind |exact f
 have z:∀u v,S1 c K hd u v->S1 c' K' hd' u v:=λu v h=>by
  by_cases n:∃l,u=.agg l
  .obtain⟨l,rfl⟩:=n
   obtain⟨j,m,f⟩:=h;exact⟨j,m,f.imp (λa _ b d=>t a b d)⟩
  grind [S1.of_SB,S1.to_SB]
 by_cases n:∃l,u=.aS l
 .obtain⟨l,rfl⟩:=n
  obtain⟨j,m,f⟩:=h;exact⟨j,m,f.imp (λa _ b d=>z a b d)⟩
 grind [SO.of_S1,SO.to_S1]
theorem SO.kill(hx:Ext c c')(r:aj)(p:dR)(f:∀a q,(a=r->q≠p/\q.length<=p.length)->wV c c' K K' hd hd' a q){u:SV}{v:Vz}(h:SO c K hd u v):SO c' K' hd' ((Tr.kill r p).sv u) v:=by
 refine SO.step _ hx (λu v k h=> ?_) (λu l k=> ?_) h
 .cases u with
  |aH a q g m=>
   simp only[Tr.sv];split
   .split
    .trivial
    .split
     .trivial
     .exact SB.bS (f a q (λ_=>⟨‹_›,by omega⟩)) h
   .exact SB.bS (f a q (λe=>absurd e ‹_›)) h
  |loc a q i g=>
   simp only[Tr.sv];split
   .split
    .trivial
    .split
     .trivial
     .exact SB.bL (f a q (λ_=>⟨‹_›,by omega⟩)) h
   .exact SB.bL (f a q (λe=>absurd e ‹_›)) h
  |d y=>grind
  |agg l=>exact h.elim
  |aS l=>exact h.elim
  |rp b j=>exact SB.bJ (u:=.rp b j) hx (by simp) (by simp) h
  |clip b l=>exact SB.bJ (u:=.clip b l) hx (by simp) (by simp) h
  |ns b=>exact h
  |dead=>trivial
 .cases u <;>simp_all [Tr.sv] <;>(repeat' split) <;>simp
theorem SO.cI(hx:Ext c c')(r:aj)(n:Nat)(g:∀a q,(a=r->q.length<n)->wV c c' K K' hd hd' a q){u:SV}{v:Vz}(h:SO c K hd u v):SO c' K' hd' ((Tr.cI r n).sv u) v:=by
 refine SO.step _ hx (λu v m h=> ?_) (λu l m=> ?_) h
 .cases u with
  |aH a q f o=>
   simp only[Tr.sv];split
   .trivial
   .rename_i k;exact SB.bS (g a q (λe=>by grind)) h
  |loc a q i f=>
   simp only[Tr.sv];split
   .trivial
   .rename_i k;exact SB.bL (g a q (λe=>by grind)) h
  |d y=>grind
  |agg l=>exact h.elim
  |aS l=>exact h.elim
  |rp b j=>exact SB.bJ (u:=.rp b j) hx (by simp) (by simp) h
  |clip b l=>exact SB.bJ (u:=.clip b l) hx (by simp) (by simp) h
  |ns b=>exact h
  |dead=>trivial
 .cases u <;>simp_all [Tr.sv] <;>(repeat' split) <;>simp
theorem SO.cR(hx:Ext c c')(r:aj)(p:dR)(l:J D)(f:∀a q,(a=r->q≠p/\q.length<=p.length)->wV c c' K K' hd hd' a q)
  (hf:∀off len v,SB c K hd (.aH r p off len) v->VC c' (.sl false (Go.Am.bz l off len)) [v]) {u:SV} {v:Vz} (h:SO c K hd u v):SO c' K' hd' ((Tr.cR r p l).sv u) v:=by
 refine SO.step _ hx (λu v k h=> ?_) (λu l k=> ?_) h
 .cases u with
  |aH a q off len=>
   simp only[Tr.sv];split
   .split
    .rename_i m j;subst m;subst j;exact VV.one (hf off len v h) (by simp)
    .split
     .trivial
     .exact SB.bS (f a q (λ_=>⟨‹_›,by omega⟩)) h
   .exact SB.bS (f a q (λe=>absurd e ‹_›)) h
  |loc a q i off=>
   simp only[Tr.sv];split
   .split
    .trivial
    .split
     .trivial
     .exact SB.bL (f a q (λ_=>⟨‹_›,by omega⟩)) h
   .exact SB.bL (f a q (λe=>absurd e ‹_›)) h
  |d y=>grind
  |agg l=>exact h.elim
  |aS l=>exact h.elim
  |rp b g=>exact SB.bJ (u:=.rp b g) hx (by simp) (by simp) h
  |clip b l=>exact SB.bJ (u:=.clip b l) hx (by simp) (by simp) h
  |ns b=>exact h
  |dead=>trivial
 .cases u <;>simp_all [Tr.sv] <;>(repeat' split) <;>simp
theorem SO.dp(hx:Ext c c')(a b:Nat×Nat)(D:∀r q,r≠ .l a.1 a.2->wV c c' K K' hd hd' r q)
  (hr:∀q t es,K (.l a.1 a.2)=some t->t.at q=some (.own es)->∃t' es',K' (.l b.1 b.2)=some t'/\t'.at q=some (.own es')/\bg es es'/\∀h,aI c (hd (.l a.1 a.2)) t q h->aI c' (hd' (.l b.1 b.2)) t' q h) {u:SV} {v:Vz} (h:SO c K hd u v):SO c' K' hd' ((Tr.dp a b).sv u) v:=by
 refine SO.step _ hx (λu v J h=> ?_) (λu l J=> ?_) h
 .cases u with
  |aH A q o Q=>
   simp only[Tr.sv];split
   .rename_i e;subst e
    obtain⟨t,es,N,z,p,h3,h4,h5⟩:=h;obtain⟨t',es',s,B,m,x⟩:=hr q t es z p
    refine⟨t',es',N,s,B,x _ h3,by rw[m.1];exact h4,?_⟩
    obtain⟨a,n,f,O,j,M,I,L,P,F⟩:=h5
    refine⟨a,n,f,O,j,M,I,L,P,λR=> ?_⟩
    obtain⟨g,G,S,H,T⟩:=F R;obtain⟨k,C,w⟩:=m.2 _ _ H
    grind
   .exact SB.bS (D A q ‹_›) h
  |loc A q i o=>
   simp only[Tr.sv];split
   .rename_i e;subst e
    obtain⟨t,es,g,n,f,G,z,p,h3,h4,h5,h6⟩:=h;obtain⟨t',es',s,B,m,x⟩:=hr q t es z p;obtain⟨k,C,w⟩:=m.2 _ _ h4
    exact⟨t',es',g,n,f,k,s,B,x _ h3,C,by rw[w];exact h5,by rw[w];exact h6⟩
   .exact SB.bL (D A q ‹_›) h
  |d y=>grind
  |agg l=>exact h.elim
  |aS l=>exact h.elim
  |rp b E=>exact SB.bJ (u:=.rp b E) hx (by simp) (by simp) h
  |clip b l=>exact SB.bJ (u:=.clip b l) hx (by simp) (by simp) h
  |ns b=>exact h
  |dead=>trivial
 .cases u <;>simp_all [Tr.sv] <;>(repeat' split) <;>simp
theorem SO.bN(hx:Ext c c')(g:∀r q,(∀n,r=.o n->q=[])->wV c c' K K' hd hd' r q){u:SV}{v:Vz}(h:SO c K hd u v):SO c' K' hd' (Tr.bN.sv u) v:=by
 refine SO.step _ hx (λu v m h=> ?_) (λu l m=> ?_) h
 .cases u with
  |aH f q e p=>
   cases f with
   |o n=>simp only[Tr.sv];trivial
   |l n j=>simp only[Tr.sv];exact SB.bS (g _ q (by simp)) h
  |loc f q i e=>
   cases f with
   |o n=>
    cases q with
    |nil=>simp only[Tr.sv];exact SB.bL (g _ [] (by simp)) h
    |cons a q=>simp only[Tr.sv];trivial
   |l n j=>simp only[Tr.sv];exact SB.bL (g _ q (by simp)) h
  |d y=>grind
  |agg l=>exact h.elim
  |aS l=>exact h.elim
  |rp b k=>exact SB.bJ (u:=.rp b k) hx (by simp) (by simp) h
  |clip b l=>exact SB.bJ (u:=.clip b l) hx (by simp) (by simp) h
  |ns b=>exact h
  |dead=>trivial
 .cases u <;>simp_all [Tr.sv] <;>(repeat' split) <;>simp
end
def upd{a:Type}(S:aj->a)(r:aj)(x:a):aj->a:=λb=>if b=r then x else S b
@[simp] theorem eo{a:Type}(S:aj->a)(r:aj)(x:a):upd S r x r=x:=by simp[upd]
theorem dG{b:Type}(S:aj->b){r a:aj}(x:b)(h:a≠r):upd S r x a=S a:=by simp[upd,h]
def bT(S:aj->J Nat)(fl:J Nat)(b:Nat):Prop:=(∃r,b∈S r)\/b∈fl
structure Dis(S:aj->List Nat)(fl:List Nat):Prop where
 nd:∀r,(S r).Nodup
 ndF:fl.Nodup
 one:∀r r' b,b∈S r->b∈S r'->r=r'
 cq:∀r b,b∈S r->b∉fl
section
variable{S:aj->J Nat}{fl:J Nat}
theorem Dis.drop(h:Dis S fl){r:aj}{L M R:J Nat}(e:S r=L++M++R):Dis (upd S r (L++R)) fl:=by
 have c:∀r' b,b∈upd S r (L++R) r'->b∈S r':=λr' b d=>by
  by_cases a:r'=r
  .grind [eo]
  grind [dG]
 refine⟨λr'=> ?_,h.ndF,λj f b i g=>h.one j f b (c _ _ i) (c _ _ g),λr' b d=>h.cq r' b (c _ _ d)⟩
 by_cases a:r'=r
 .subst a
  rw[eo]
  have:=h.nd r'
  grind
 .rw[dG _ _ a];exact h.nd r'
theorem bT.drop{r:aj}{L M R:J Nat}(e:S r=L++M++R){b:Nat}(h:bT (upd S r (L++R)) fl b):bT S fl b:=by
 obtain⟨c,a⟩ |a:=h
 .left
  by_cases d:c=r
  .grind [eo]
  grind [dG]
 .exact .inr a
theorem Dis.detach(h:Dis S fl){r:aj}{L M R:J Nat}(e:S r=L++M++R):Dis (upd S r (L++R)) (M++fl):=by
 have hd:=h.drop e;have g:=h.nd r;rw[e]at g
 have j:∀b∈M,b∈S r:=λb c=>by rw[e];simp[c]
 refine⟨hd.nd,?_,hd.one,λr' b c d=> ?_⟩
 .rw[xT]
  simp only[xT]at g
  exact⟨g.1.2.1,h.ndF,λa k b c f=>h.cq r a (j a k) (f▸c)⟩
 .obtain d |d:=List.mem_append.1 d
  .by_cases i:r'=r
   .grind [eo]
   .rw[dG _ _ i]at c
    exact i (h.one r' r b c (j b d))
  .exact hd.cq r' b c d
theorem bT.detach{r:aj}{L M R:J Nat}(e:S r=L++M++R){b:Nat}:bT (upd S r (L++R)) (M++fl) b↔bT S fl b:=by
 constructor
 .rintro(h |a)
  .exact bT.drop e (.inl h)
  .obtain a |a:=List.mem_append.1 a
   .exact .inl ⟨r,by rw[e];simp[a]⟩
   .exact .inr a
 .rintro(⟨c,a⟩ |a)
  .by_cases d:c=r
   .subst d
    rw[e]at a
    simp only[xD]at a
    obtain (a |a) |a:=a
    .exact .inl ⟨c,by grind [eo]⟩
    .exact .inr (by simp[a])
    .exact .inl ⟨c,by grind [eo]⟩
   .exact .inl ⟨c,by grind [dG]⟩
  .exact .inr (by simp[a])
theorem Dis.attach{r:aj}{L M R:J Nat}(h:Dis S (M++fl))(e:S r=L++R):Dis (upd S r (L++M++R)) fl:=by
 have j:∀r' b,b∈upd S r (L++M++R) r'->b∈S r'\/(r'=r/\b∈M):=λr' b c=>by
  by_cases i:r'=r
  .grind [eo]
  grind [dG]
 have n:=h.ndF;rw[xT]at n
 refine⟨λr'=> ?_,n.2.1,λk g b m l=> ?_,λr' b c f=> ?_⟩
 .by_cases i:r'=r
  .subst i
   rw[eo];have m:=h.nd r';have l:∀b,b∈M->b∉S r':=λb c f=>h.cq r' b f (by simp[c])
   grind
  .rw[dG _ _ i];exact h.nd r'
 .rcases j k b m with a |⟨a,o⟩ <;>rcases j g b l with d |⟨d,p⟩
  .exact h.one k g b a d
  .exact absurd (by simp[p]) (h.cq k b a)
  .exact absurd (by simp[o]) (h.cq g b d)
  grind
 .obtain a |⟨a,o⟩:=j r' b c
  .exact h.cq r' b a (by simp[f])
  grind
theorem bT.attach{r:aj}{L M R:J Nat}(e:S r=L++R){b:Nat}:bT (upd S r (L++M++R)) fl b↔bT S (M++fl) b:=by
 constructor
 .rintro(⟨c,a⟩ |a)
  .by_cases d:c=r
   .subst d
    rw[eo]at a
    simp only[xD]at a
    obtain (a |a) |a:=a
    .exact .inl ⟨c,by rw[e];simp[a]⟩
    .exact .inr (by simp[a])
    .exact .inl ⟨c,by rw[e];simp[a]⟩
   .exact .inl ⟨c,by grind [dG]⟩
  .exact .inr (by simp[a])
 .rintro(⟨c,a⟩ |a)
  .by_cases d:c=r
   .subst d
    rw[e]at a
    refine .inl ⟨c,?_⟩
    grind [eo]
   .exact .inl ⟨c,by grind [dG]⟩
  .obtain a |a:=List.mem_append.1 a
   .exact .inl ⟨r,by grind [eo]⟩
   .exact .inr a
theorem Dis.float(h:Dis S fl){fl':J Nat}(hn:fl'.Nodup)(d:∀b∈fl',b∈fl):Dis S fl':=
 ⟨h.nd,hn,h.one,λr b c a=>h.cq r b c (d b a)⟩
theorem Dis.fresh(h:Dis S fl){g:Nat}(d:¬bT S fl g):Dis S (g::fl):=
 ⟨h.nd,List.nodup_cons.2 ⟨λa=>d (.inr a),h.ndF⟩,h.one,λr b c a=>by
  obtain rfl |a:=List.mem_cons.1 a
  .exact d (.inl ⟨r,c⟩)
  .exact h.cq r b c a⟩
end
structure Av where
 w0:World
 F:Bool->Nat->Prop
 O0:Nat->Prop
 n0:Nat
 ρ0:Nat->Nat
 mono:∀b,F true b->F false b
def am(A:Av)(nO:Nat)(ρ:Nat->Nat)(S:aj->J Nat)(fl:J Nat)(w:Wz):Cx:=
 {w,pm:=λt b=>¬bT S fl b/\¬A.F t b/\b<w.heap.size,nO,ρ}
theorem IP(A:Av)(nO:Nat)(ρ:Nat->Nat)(S:aj->J Nat)(fl:J Nat)(w:Wz):∀b,(am A nO ρ S fl w).pm false b->(am A nO ρ S fl w).pm true b:=λb h=>⟨h.1,λq=>h.2.1 (A.mono b q),h.2.2⟩
def qw(t:T)(v:Vz):Prop:=match t with | .d x=>wU x v | .agg _=>∃a,v=.agg a |_=>v.oneCell'=true
def RetAll(c:Cx):List T->List Value->List Nat->Prop
 | [],a,M=>a=[]/\M=[]
 |t::e,a,M=>∃v r d b,a=v::r/\M=d++b/\TC c t v.cells.toList d/\qw t v/\RetAll c e r b
theorem RetAll.imp{c c':Cx}:∀(a:J T) (vs:J Vz) (M:J Nat),(∀t∈a,∀cs M',(∀b∈M',b∈M)->TC c t cs M'->TC c' t cs M')->RetAll c a vs M->RetAll c' a vs M
 | [],_,_,_,d=>d
 |t::a,vs,M,f,d=>by
  obtain⟨v,r,i,g,j,rfl,h3,h4,h5⟩:=d
  exact⟨v,r,i,g,j,rfl,f t (by simp) _ _ (λb e=>xL _ e) h3,h4,RetAll.imp a r g (λt h cs M' k=>f t (by simp[h]) cs M' (λb e=>xR _ (k b e))) h5⟩
theorem RetAll.ext{c c':Cx}(h:Ext c c')(a:J T)(vs:J Vz)(M:J Nat)(hk:Kept c c' M)(hp:RetAll c a vs M):RetAll c' a vs M:=
 RetAll.imp a vs M (λt _ d e g i=>TC.ext h t d e (λb f=>hk b (g b f)) i) hp
abbrev J3(c:Cx)(e:D×T)(x:MapEntry):Prop:=VV c e.1 x.key
def Gh(ct:J ((Nat×Nat)×T)):J (Nat×Nat):=jZ (ct.map (·.1))
def VM(hd:Nat×Nat->Vz):aj->Vz
 | .l n j=>hd (n,j)
 | .o _=>undef
def FrOK(c:Cx)(M:J Nat)(env:J (Nat×SV))(ct:J ((Nat×Nat)×T))(tmps:Array Vz):Prop:=
 ∃(S:Nat×Nat->J Nat) (hd:Nat×Nat->Vz),M=(Gh ct).flatMap S/\(∀x t,fc ct x=some t->TC c t [hd x] (S x))/\
  (∀p∈env,p.2.loose=p.2)/\∀t,SB c (cont ct []) (VM hd) ((look env t).getD .dead) (tmps.getD t undef)
def Sz(n:Nat)(a:J Nat)(x y:Code):Prop:=(∀t∈a,t<n)/\ek n x=true/\ek n y=true
structure cY(en:Array MapEntry)(clock:Nat):Prop where
 lt:∀x∈en.toList,x.born<clock
 nd:(en.toList.map (·.born)).Nodup
theorem cY.nil:cY #[] 0:=⟨by simp,by simp⟩
theorem cY.push{en:Array MapEntry}{clock:Nat}(h:cY en clock)(k v:Vz):cY (en.push {key:=k,val:=v,born:=clock}) (clock+1):=by
 refine⟨λx c=> ?_,?_⟩
 .simp only[v9,xD,yQ]at c
  obtain c |rfl:=c
  .exact Nat.lt_succ_of_lt (h.lt x c)
  grind
 .simp only[v9,pM,eG,g9,xT,jC]
  refine⟨h.nd,by simp,?_⟩
  rintro a ⟨x,c,rfl⟩ b d rfl;simp only[yQ]at d
  have:=h.lt x c
  omega
theorem cY.same{en en':Array MapEntry}{clock:Nat}(h:cY en clock)(e:en'.toList.map (·.born)=en.toList.map (·.born)):cY en' clock:=by
 refine⟨λx b=> ?_,by rw[e];exact h.nd⟩
 have:x.born∈en.toList.map (·.born):=by rw[<-e];exact List.mem_map.2 ⟨x,b,rfl⟩
 obtain⟨y,c,a⟩:=List.mem_map.1 this;rw[<-a];exact h.lt y c
def MapAt(w:Wz)(b:Nat)(c:Array MapEntry)(a:Nat):Prop:=w.heap[b]? =some (.map c a)/\cY c a
theorem MapAt.same{w w':Wz}{b:Nat}{c:Array MapEntry}{a:Nat}(h:MapAt w b c a)(e:w'.heap[b]? =w.heap[b]?):MapAt w' b c a:=⟨e.trans h.1,h.2⟩
def SetOf(es:J (D×T))(ks:J (J UInt8)):Prop:=(∀p∈es,∃s∈ks,p=(.str s,.d (.bool true)))/\∀s∈ks,(D.str s,T.d (.bool true))∈es
def ObOK(c:Cx)(b:Nat)(M:J Nat):Ob->Prop
 | .map f=>∃e a,MapAt c.w b e a/\All2 (J3 c) f e.toList/\RetAll c (f.map (·.2)) (e.toList.map (·.val)) M
 | .iter s p=>M=[]/\∃y:ByteArray,c.w.heap[b]? =some (.stringIter y p)/\y.data.toList=s
 | .bY m=>M=[]/\(∀o,m=some o->o<c.nO)/\∃d g,c.w.heap[b]? =some (.mapIter (m.map c.ρ) d #[] g)
 | .row _=>False
 | .sset k=>∃f e a,MapAt c.w b e a/\All2 (J3 c) f e.toList/\RetAll c (f.map (·.2)) (e.toList.map (·.val)) M/\SetOf f k
 | .frame _ i x y h j=>∃r:Loop,c.w.heap[b]? =some (.loop r)/\r.state=.ready/\r.pending=none/\r.params.toList=i/\r.assign=x/\r.body=y/\FrOK c M h j r.tmps/\Sz r.tmps.size i x y
 |_=>True
theorem B3{a:Type}{ct:J ((Nat×Nat)×a)}{x:Nat×Nat}{t:a}(h:fc ct x=some t):(x,t)∈ct:=by
 induction ct with
 |nil=>cases h
 |cons p r b=>
  grind [fc]
theorem IQ{a:Type}{env:J (Nat×a)}{t:Nat}{v:a}(h:look env t=some v):(t,v)∈env:=by
 induction env with
 |nil=>cases h
 |cons p r b=>
  grind [look]
theorem nP{l:J (Nat×Nat)}{x:Nat×Nat}:x∈jZ l↔x∈l:=by
 induction l with
 |nil=>simp[jZ]
 |cons y r a=>
  grind [jZ]
theorem MD(l:J (Nat×Nat)):(jZ l).Nodup:=by
 induction l with
 |nil=>simp[jZ]
 |cons y r a=>
  grind [jZ]
theorem FrOK.imp{c c':Cx}{M:J Nat}{env:J (Nat×SV)}{ct:J ((Nat×Nat)×T)}{tmps:Array Vz}(h:FrOK c M env ct tmps)(hk:Kept c c' M)
  (hv:∀p∈env,∀x v,p.2=.d x->VV c x v->VV c' x v)
  (ht:∀p∈ct,∀cs M',(∀b∈M',b∈M)->TC c p.2 cs M'->TC c' p.2 cs M'):FrOK c' M env ct tmps:=by
 obtain⟨S,e,z,w,y,h3⟩:=h
 have B:∀x t,fc ct x=some t->∀b∈S x,b∈M:=λx t f b m=>by
  rw[z];exact List.mem_flatMap.2 ⟨x,nP.2 (List.mem_map.2 ⟨_,B3 f,rfl⟩),m⟩
 have a:∀r q,wV c c' (cont ct []) (cont ct []) (VM e) (VM e) r q:=λr q t E g D=>by
  refine⟨t,E,g,D,.refl _,λG C=> ?_⟩
  cases r with
  |l n j=>exact aI.ext q t _ G _ (w _ t g) (λb m=>hk b (B _ t g b m)) C
  |o n=>simp[cont]at g
 refine⟨S,e,z,λx t f=>ht _ (B3 f) _ _ (B x t f) (w x t f),y,λt=> ?_⟩
 have:=h3 t
 cases A:look env t with
 |none=>trivial
 |some u=>
  rw[A]at this
  simp only[gZ]at this |-
  have s:=IQ A;have F:=y _ s
  cases u with
  |d x=>exact hv _ s x _ rfl this
  |aH r p k H=>exact SB.bS (a r p) this
  |loc r p i k=>exact SB.bL (a r p) this
  |dead=>trivial
  |_=>simp[SV.loose]at F
theorem ObOK.ext{c c':Cx}(h:Ext c c'){b:Nat}{M:J Nat}{ob:Ob}(hb:c'.w.heap[b]? =c.w.heap[b]?)(hk:Kept c c' M)(ho:ObOK c b M ob):ObOK c' b M ob:=by
 cases ob with
 |map l=>
  obtain⟨k,j,d,a,h3⟩:=ho
  exact⟨k,j,d.same hb,a.imp (λ_ _ _ q=>VV.ext h q),RetAll.ext h _ _ _ hk h3⟩
 |iter s p=>
  obtain⟨d,y,a,h3⟩:=ho
  exact⟨d,y,hb.trans a,h3⟩
 |bY m=>
  obtain⟨d,a,f,i,h3⟩:=ho
  refine⟨d,λo e=>yA (a o e) h.nO,f,i,hb.trans (h3.trans ?_)⟩
  cases m with
  |none=>rfl
  |some o=>simp only[xQ,h.ρ o (a o rfl)]
 |frame g u x y n v=>
  obtain⟨r,d,a,h3,h4,h5,h6,h7⟩:=ho
  exact⟨r,hb.trans d,a,h3,h4,h5,h6,h7.1.imp hk (λ_ _ _ _ _ q=>VV.ext h q) (λ_ _ _ _ t q=>TC.ext h _ _ _ (λb hb=>hk b (t b hb)) q),h7.2⟩
 |sset w=>
  obtain⟨l,k,j,d,a,h3,h4⟩:=ho
  exact⟨l,k,j,d.same hb,a.imp (λ_ _ _ q=>VV.ext h q),RetAll.ext h _ _ _ hk h3,h4⟩
 |_=>trivial
def PlOK(c:Cx)(S:aj->J Nat)(ρ:Nat->Nat)(n:Nat)(ob:Ob):Prop:=∃M,S (.o n)=ρ n::M/\ObOK c (ρ n) M ob
theorem PlOK.ext{c c':Cx}(h:Ext c c'){S S':aj->J Nat}{ρ ρ':Nat->Nat}{n:Nat}{ob:Ob}(ho:PlOK c S ρ n ob)(e:∀b∈S (.o n),c'.w.heap[b]? =c.w.heap[b]?)(e1:S' (.o n)=S (.o n))(d:ρ' n=ρ n):PlOK c' S' ρ' n ob:=by
 obtain⟨M,a,g⟩:=ho
 refine⟨M,by rw[e1,a,d],?_⟩
 rw[d];exact g.ext h (e _ (by rw[a];simp)) (λb f=>e b (by rw[a];simp[f]))
def cH(w w':Wz):Prop:=∀(b:Nat) (r:Loop),w.heap[b]? =some (.loop r)->∃st a,w'.heap[b]? =some (.loop {r with state:=st,pending:=a})
theorem cH.refl(w:Wz):cH w w:=λ_ r h=>⟨r.state,r.pending,h⟩
theorem cH.trans{a b c:Wz}(x:cH a b)(y:cH b c):cH a c:=λi r h=>by
 obtain⟨g,k,f⟩:=x i r h;obtain⟨e,d,j⟩:=y i _ f
 grind
theorem cH.old{w w':Wz}(h:∀b,b<w.heap.size->w'.heap[b]? =w.heap[b]?):cH w w':=λb r a=>⟨r.state,r.pending,(h b (Array.getElem?_eq_some_iff.1 a).1).trans a⟩
theorem cH.other{w w':Wz}{g:Nat}(h:∀b,b≠g->w'.heap[b]? =w.heap[b]?)(c:∀r,w.heap[g]? ≠some (.loop r)):cH w w':=λb r a=>⟨r.state,r.pending,(h b (λe=>c r (e▸a))).trans a⟩
structure Fr(A:Av)(w:World):Prop where
 os:w.os=A.w0.os
 tape:w.tape=A.w0.tape
 output:w.output=A.w0.output
 size:A.w0.heap.size<=w.heap.size
 kept:∀b,b<A.w0.heap.size->¬A.O0 b->w.heap[b]? =A.w0.heap[b]?
 recs:cH A.w0 w
structure KR(A:Av)(ρ:Nat->Nat)(S:aj->List Nat)(hd:aj->Value)(fl:List Nat)(k:Wk)(ay:List (SV×Value))(w:World):Prop where
 cont:∀r t,k.get r=some t->TC (am A k.H.length ρ S fl w) t [hd r] (S r)
 gone:∀r,k.get r=none->(∀n ob,r=.o n->k.H[n]? =some ob->ob.plain=false)->S r=[]
 obj:∀n,hd (.o n)=.slice (some ⟨ρ n,0,none⟩) 1 1
 map:∀n ob,k.H[n]? =some ob->ob.plain=true->PlOK (am A k.H.length ρ S fl w) S ρ n ob
 bw:Dis S fl
 bU:∀b,bT S fl b->b<w.heap.size/\(∀t,¬A.F t b)/\(b<A.w0.heap.size->A.O0 b)
 ay:∀p∈ay,SO (am A k.H.length ρ S fl w) k.get hd (aU k.tr p.1) p.2
 fr:Fr A w
 Fold:∀t b,A.F t b->b<A.w0.heap.size
 cP:A.n0<=k.H.length/\∀o,o<A.n0->ρ o=A.ρ0 o
def GV(d:D)(vs:J Vz):Prop:=(Pf d=true->∀c,aR c d.cells vs)/\(Pf d=false->∃t p,vs=[.iface t p])
def GH(w:Wz)(g:Nat)(vs:J Vz):Prop:=∃t fr,w.heap[g]? =some (.cells vs.toArray t fr)
theorem GH.cell{w:Wz}{g:Nat}{vs:J Vz}(h:GH w g vs)(j:Nat):w.cell? ((⟨g,0,none⟩:Addr).add j)=vs[j]? :=by
 obtain⟨t,a,h⟩:=h
 grind [fq,World.cell?]
theorem GH.same{w w':Wz}{g:Nat}{vs:J Vz}(h:GH w g vs)(e:w'.heap[g]? =w.heap[g]?):GH w' g vs:=by
 obtain⟨t,a,h⟩:=h
 exact⟨t,a,e.trans h⟩
def GA(G:Nat->U D)(A:Av):Prop:=
 ∀g d,G g=some d->g<A.w0.heap.size/\¬A.O0 g/\(∀t,¬A.F t g)/\∃a:J Vz,GH A.w0 g a/\GV d a
theorem GA.now{G:Nat->U D}{A:Av}{ρ:Nat->Nat}{S:aj->J Nat}{hd:aj->Vz}{fl:J Nat}{k:Wk}{ay:J (SV×Vz)}{w:Wz}(hG:GA G A)(h:KR A ρ S hd fl k ay w){g:Nat}{d:D}(e:G g=some d):
  ¬bT S fl g/\g<w.heap.size/\w.heap[g]? =A.w0.heap[g]? :=by
 obtain⟨a,b,_,_⟩:=hG g d e
 exact⟨λc=>b ((h.bU g c).2.2 a),yA a h.fr.size,h.fr.kept g a b⟩
theorem GA.rp{G:Nat->U D}{A:Av}{ρ:Nat->Nat}{S:aj->J Nat}{hd:aj->Vz}{fl:J Nat}{k:Wk}{ay:J (SV×Vz)}{w:Wz}(hG:GA G A)(h:KR A ρ S hd fl k ay w){g:Nat}{d:D}(e:G g=some d)(ho:Pf d=true):
  SO (am A k.H.length ρ S fl w) k.get hd (.rp true d.cells) (.pointer (some ⟨g,0,none⟩)):=by
 obtain⟨b,f,q3⟩:=hG.now h e;obtain⟨_,_,h3,a,h4,h5⟩:=hG g d e
 refine⟨⟨g,0,none⟩,a,rfl,rfl,⟨b,h3 true,f⟩,λj u c=> ?_,h5.1 ho _⟩
 rw[<-c,<-(h4.same q3).cell j];rfl
structure WS(S:aj->List Nat)(fl:List Nat)(w:World)(S':aj->List Nat)(fl':List Nat)(w':World):Prop where
 os:w'.os=w.os
 tape:w'.tape=w.tape
 output:w'.output=w.output
 size:w.heap.size<=w'.heap.size
 same:∀b,b<w.heap.size->¬bT S fl b->w'.heap[b]? =w.heap[b]?
 own:∀b,bT S' fl' b->bT S fl b\/(w.heap.size<=b/\b<w'.heap.size)
 recs:cH w w'
section
variable{A:Av}{ρ ρ':Nat->Nat}{S S':aj->J Nat}{hd hd':aj->Vz}{fl fl':J Nat}{k k':Wk}{ay:J (SV×Vz)}{w w':Wz}
theorem WS.ext(s:WS S fl w S' fl' w'){nO c:Nat}(hn:nO<=c)(hr:∀o,o<nO->ρ' o=ρ o):Ext (am A nO ρ S fl w) (am A c ρ' S' fl' w'):=
 ⟨λt g a=>⟨⟨λd=>by rcases s.own g d with h |h;exact a.1 h;exact absurd a.2.2 (by omega),a.2.1,yA a.2.2 s.size⟩,s.same g a.2.2 a.1⟩,hn,hr⟩
theorem WS.bU(s:WS S fl w S' fl' w')(h:KR A ρ S hd fl k ay w):∀b,bT S' fl' b->b<w'.heap.size/\(∀t,¬A.F t b)/\(b<A.w0.heap.size->A.O0 b):=λb d=>by
 have f:=h.fr.size
 obtain a |⟨a,e⟩:=s.own b d
 .have:=h.bU b a;exact⟨yA this.1 s.size,this.2.1,this.2.2⟩
 .exact⟨e,λt c=>by have:=h.Fold t b c;omega,λh3=>by omega⟩
theorem WS.frm(s:WS S fl w S' fl' w')(h:KR A ρ S hd fl k ay w):Fr A w':=
 ⟨s.os.trans h.fr.os,s.tape.trans h.fr.tape,s.output.trans h.fr.output,fj h.fr.size s.size,λb a c=>by
  rw[s.same b (yA a h.fr.size) (λd=>c ((h.bU b d).2.2 a))];exact h.fr.kept b a c,h.fr.recs.trans s.recs⟩
theorem WS.stay(ho:∀b,bT S' fl' b->bT S fl b):WS S fl w S' fl' w:=⟨rfl,rfl,rfl,dC _,λ_ _ _=>rfl,λb hb=>.inl (ho b hb),.refl _⟩
theorem KR.hold(h:KR A ρ S hd fl k ay w){r:aj}(c':Cx)(hk:k'.get r=k.get r)(i:hd' r=hd r)(f:∀b∈S r,c'.w.heap[b]? =w.heap[b]?)(q:dR):
  wV (am A k.H.length ρ S fl w) c' k.get k'.get hd hd' r q:=λt g a e=>
 ⟨t,g,by rw[hk];exact a,e,bg.refl _,λd c=>by rw[i];exact aI.ext q t _ d _ (h.cont r t a) f c⟩
theorem ju{ct:J ((Nat×Nat)×T)}{n j:Nat}{t:T}{H:J Ob}{r:aj}:cont (((n,j),t)::ct) H r=if r=.l n j then some t else cont ct H r:=by
 cases r with
 |l a b=>
  grind [Go.Am.cont,fc]
 |o a=>simp[Go.Am.cont]
theorem Wk.c9{r:aj}{t:T}(d:k.set r t=some k')(ht:(∃c,k.get r=some c/\(∀n,r=.o n->True))):
  (∀e,k'.get e=if e=r then some t else k.get e)/\k'.H.length=k.H.length/\k'.tr=k.tr/\(∀(n:Nat) (ob:Ob),ob.plain=true->(k'.H[n]? =some ob↔k.H[n]? =some ob)):=by
 cases r with
 |l n j=>
  simp only[Wk.set,xJ]at d
  subst d
  exact⟨λe=>ju,rfl,rfl,λ_ _ _=>Iff.rfl⟩
 |o n=>
  obtain⟨c,i,_⟩:=ht;simp only[Wk.set]at d
  split at d
  .rename_i c' 
   simp only[xJ]at d
   subst d;simp only[Wk.get,Go.Am.cont]at i
   have f:∃c0,k.H[n]? =some (.box c0):=by
    revert i
    cases k.H[n]? with
    |none=>simp
    |some x=>cases x <;>simp
   obtain⟨c0,f⟩:=f;have g:=(List.getElem?_eq_some_iff.1 f).1
   refine⟨λe=> ?_,by simp,rfl,λm ob h=> ?_⟩
   .cases e with
    |l a b=>simp[Wk.get,Go.Am.cont]
    |o m=>
     grind [Wk.get,Go.Am.cont]
   .by_cases p:n=m
    .subst p;rw[yK g,f]
     constructor <;>intro q <;>simp only[xJ]at q <;>subst q <;>cases h
    grind
  .cases d
theorem KR.giveUp(h:KR A ρ S hd fl k ay w){r:aj}{t t' nd g:T}{p:dR}{Q:Vz}{L Sn R M:J Nat}(x:Tr)
  (hr:k.get r=some t) (P:S r=L++Sn++R) (hf:Focus (am A k.H.length ρ S fl w) t (hd r) p nd Q L Sn R)
  (hp:t.put p g=some t') (I:g.nc=1) (hs:k.set r t'=some k') (hM:M=Sn\/M=[])
  (K:TC (am A k.H.length ρ (upd S r (L++R)) (M++fl) w) g [Q] [])
  (hx:∀u v,(∀d q,(d=r->q≠p/\q.length<=p.length)->wV (am A k.H.length ρ S fl w) (am A k.H.length ρ (upd S r (L++R)) (M++fl) w) k.get k'.get hd hd d q)->
    SO (am A k.H.length ρ S fl w) k.get hd u v->SO (am A k.H.length ρ (upd S r (L++R)) (M++fl) w) k'.get hd (x.sv u) v):
  KR A ρ (upd S r (L++R)) hd (M++fl) (k'.tell x) ay w/\Ext (am A k.H.length ρ S fl w) (am A k.H.length ρ (upd S r (L++R)) (M++fl) w):=by
 obtain⟨g1,B,Z,N⟩:=Wk.c9 hs ⟨t,hr,λ_ _=>trivial⟩
 have z:∀b,bT (upd S r (L++R)) (M++fl) b->bT S fl b:=λb hb=>by
  grind [bT.detach,bT.drop]
 have O:WS S fl w (upd S r (L++R)) (M++fl) w:=WS.stay z;have ext:Ext (am A k.H.length ρ S fl w) (am A k.H.length ρ (upd S r (L++R)) (M++fl) w):=O.ext (dC _) (λ_ _=>rfl)
 have i:∀d,d≠r->k'.get d=k.get d:=λd c=>by grind
 have s:k'.get r=some t':=by rw[g1 r,if_pos rfl]
 have j:∀d,(k'.tell x).get d=k'.get d:=λ_=>rfl
 refine⟨⟨λd t0 l=> ?_,λd l C=> ?_,h.obj,λn ob C f=> ?_,?_,O.bU h,λX E=> ?_,h.fr,h.Fold,by rw[show(k'.tell x).H.length=k.H.length from B];exact h.cP⟩,ext⟩
 .have e:(k'.tell x).H.length=k.H.length:=B
  rw[e];rw[j]at l
  by_cases c:d=r
  .subst c
   rw[s]at l
   simp only[xJ]at l
   subst l;rw[eo]
   have:=hf.put _ g t' [] ext (λ_ _=>rfl) hp K
   grind
  .rw[i d c]at l
   rw[dG _ _ c];exact TC.ext ext _ _ _ (λ_ _=>rfl) (h.cont d t0 l)
 .rw[j]at l
  by_cases c:d=r
  .grind
  .rw[dG _ _ c]
   rw[i d c]at l
   exact h.gone d l (λn ob e m=>by
    cases f:ob.plain with
    |false=>rfl
    |true=>rw[<-f];exact C n ob e ((N n ob f).2 m))
 .have e:(k'.tell x).H.length=k.H.length:=B
  rw[e];have m:=(N n ob f).1 C
  have c:(aj.o n)≠r:=by
   rintro rfl
   cases ob <;>simp[Wk.get,Go.Am.cont,m,Ob.plain]at hr f
  exact(h.map n ob m f).ext ext (λ_ _=>rfl) (dG _ _ c) rfl
 .obtain rfl |rfl:=hM
  .exact h.bw.detach P
  .simpa using h.bw.drop P
 .have e:(k'.tell x).H.length=k.H.length:=B
  rw[e];have W:(k'.tell x).tr=k.tr++[x]:=by simp[Wk.tell,Z]
  rw[W]
  have V:∀(a:J Tr) (u:SV),aU (a++[x]) u=x.sv (aU a u):=λa=>by
   induction a with
   |nil=>intro u;rfl
   |cons y a ih=>grind [aU]
  rw[V];refine hx _ _ (λd q hq=> ?_) (h.ay X E)
  by_cases c:d=r
  .subst c
   obtain⟨q1,Y⟩:=hq rfl;intro t0 es G U;rw[hr]at G
   simp only[xJ]at G
   subst G
   obtain⟨aa,o1,o2,o3⟩:=hf.oth (am A k.H.length ρ (upd S d (L++R)) (M++fl) w) g t' (λ_=>False) (λ_ _=>rfl) hp I (λ_ _ hF=>hF.elim) q es (λq' D=>by
    subst D;simp only[xP]at Y
    grind) U
   grind
  .exact h.hold _ (i d c) rfl (λ_ _=>rfl) q
theorem WS.of(e:w'.os=w.os)(ht:w'.tape=w.tape)(ho:w'.output=w.output)(f:w.heap.size<=w'.heap.size){M M':J Nat}
  (same:∀b,b<w.heap.size->b∉M->w'.heap[b]? =w.heap[b]?) (d:∀b∈M',b∈M\/(w.heap.size<=b/\b<w'.heap.size)) (c:cH w w'):WS S (M++fl) w S (M'++fl) w':=
 ⟨e,ht,ho,f,λb a g=>same b a (λh=>g (.inr (by simp[h]))),λb a=>by
  obtain a |a:=a
  .exact .inl (.inl a)
  .obtain a |a:=List.mem_append.1 a
   .obtain q |q:=d b a
    .exact .inl (.inr (by simp[q]))
    grind
   .exact .inl (.inr (by simp[a])),c⟩
theorem KR.world(i:w'.os=w.os)(ht:w'.tape=w.tape)(ho:w'.output=w.output)(v:w.heap.size<=w'.heap.size)(g:cH w w'){M M':J Nat}(h:KR A ρ S hd (M++fl) k ay w)
  (c:∀b,b<w.heap.size->b∉M->w'.heap[b]? =w.heap[b]?) (e:∀b∈M',b∈M\/(w.heap.size<=b/\b<w'.heap.size)) (hn:M'.Nodup):
  KR A ρ S hd (M'++fl) k ay w'/\Ext (am A k.H.length ρ S (M++fl) w) (am A k.H.length ρ S (M'++fl) w'):=by
 have l:WS S (M++fl) w S (M'++fl) w':=WS.of i ht ho v c e g;have ext:Ext (am A k.H.length ρ S (M++fl) w) (am A k.H.length ρ S (M'++fl) w'):=l.ext (dC _) (λ_ _=>rfl)
 have a:∀r,∀b∈S r,w'.heap[b]? =w.heap[b]? :=λr b f=>c b (h.bU b (.inl ⟨r,f⟩)).1 (λs=>h.bw.cq r b f (by simp[s]))
 have y:=h.bw.ndF;rw[xT]at y
 have m:∀b∈M',b∉fl:=λb f d=>by
  obtain q |q:=e b f
  .grind
  .have:=(h.bU b (.inr (by simp[d]))).1;omega
 refine⟨⟨λr t ht=>TC.ext ext _ _ _ (a r) (h.cont r t ht),h.gone,h.obj,λn ob u j=> ?_,⟨h.bw.nd,?_,h.bw.one,λr b f d=> ?_⟩,l.bU h,λp x=> ?_,l.frm h,h.Fold,h.cP⟩,ext⟩
 .exact(h.map n ob u j).ext ext (a (.o n)) rfl rfl
 .grind
 .obtain d |d:=List.mem_append.1 d
  .obtain q |q:=e b d
   .exact h.bw.cq r b f (by simp[q])
   grind
  .exact h.bw.cq r b f (by simp[d])
 .exact SO.aV ext (λr q=>h.hold _ rfl rfl (a r) q) (h.ay p x)
theorem KR.du{n j:Nat}{t:T}{hv:Vz}{M:J Nat}(h:KR A ρ S hd (M++fl) k ay w)(ht:TC (am A k.H.length ρ S (M++fl) w) t [hv] M):
  KR A ρ (upd S (.l n j) M) (upd hd (.l n j) hv) fl (k.new n j t) ay w/\Ext (am A k.H.length ρ S (M++fl) w) (am A k.H.length ρ (upd S (.l n j) M) fl w):=by
 have G:S (.l n j)=[]++S (.l n j)++[]:=by simp
 have s:=h.bw.drop G;simp only[gj]at s
 have d:∀b,bT (upd (upd S (.l n j) []) (.l n j) ([]++M++[])) fl b->bT S (M++fl) b:=λb K=>by
  grind [bT.attach,upd,bT.drop]
 have D:upd (upd S (.l n j) []) (.l n j) ([]++M++[])=upd S (.l n j) M:=by
  funext r;simp only[upd,gG,gj];split <;>rfl
 have v:=Dis.attach (r:=.l n j) (L:=[]) (R:=[]) (M:=M) (fl:=fl) s (by simp)
 rw[D]at v d
 have l:WS S (M++fl) w (upd S (.l n j) M) fl w:=WS.stay d;have ext:Ext (am A k.H.length ρ S (M++fl) w) (am A k.H.length ρ (upd S (.l n j) M) fl w):=l.ext (dC _) (λ_ _=>rfl)
 have get:∀r,(k.new n j t).get r=if r=.l n j then some t else k.get r:=λr=>ju
 have f:∀r,r≠ .l n j->upd hd (.l n j) hv r=hd r:=λr g=>dG _ _ g
 refine⟨⟨λr t0 c=> ?_,λr c z=> ?_,λm=>by rw[f _ (by simp)];exact h.obj m,λm ob B i=> ?_,v,l.bU h,λp E=> ?_,h.fr,h.Fold,h.cP⟩,ext⟩
 .rw[get]at c
  split at c
  .rename_i e;subst e
   simp only[xJ]at c
   subst c;rw[eo,eo];exact TC.ext ext _ _ _ (λ_ _=>rfl) ht
  .rename_i e
   rw[f r e,dG _ _ e];exact TC.ext ext _ _ _ (λ_ _=>rfl) (h.cont r t0 c)
 .rw[get]at c
  split at c
  .cases c
  .rename_i e
   rw[dG _ _ e];exact h.gone r c z
 .exact(h.map m ob B i).ext ext (λ_ _=>rfl) (dG _ _ (by simp)) rfl
 .have C:aU (k.new n j t).tr p.1=(Tr.kill (.l n j) []).sv (aU k.tr p.1):=by
   have:∀(a:J Tr) (x:Tr) (u:SV),aU (a++[x]) u=x.sv (aU a u):=λa x u=>by
    induction a generalizing u with
    |nil=>rfl
    |cons y a I=>grind [aU]
   exact this _ _ _
  rw[C];refine SO.kill ext _ _ (λr q N=> ?_) (h.ay p E)
  by_cases g:r=.l n j
  .simp_all
  .exact h.hold _ (by rw[get,if_neg g]) (f r g) (λ_ _=>rfl) q
end
theorem VE.shift{c:Cx}{a e:Addr}:∀(l:J D) (o o' b:Nat),(∀j,e.add (o'+j)=a.add (o+j))->VE c l a o b->VE c l e o' b
 | [],_,_,_,_,_=>by simp[VE]
 |d::g,o,o',b,k,h=>by
  simp only[VE]at h |-
  obtain⟨⟨f,i,m,h3⟩,h4⟩:=h
  refine⟨⟨f,i,λj v n=>by grind,h3⟩,VE.shift g (o+b) (o'+b) b (λj=> ?_) h4⟩
  simp_all [wm]
theorem VE.drop{c:Cx}{a:Addr}:∀(n:Nat) (l:J D) (o b:Nat),VE c l a o b->VE c (l.drop n) a (o+n * b) b
 |0,l,o,b,h=>by simpa using h
 |n+1,[],o,b,h=>by simp[VE]
 |n+1,d::e,o,b,h=>by
  simp only[VE]at h
  have:=VE.drop n e (o+b) b h.2
  grind
theorem VE.take{c:Cx}{a:Addr}:∀(n:Nat) (l:J D) (o b:Nat),VE c l a o b->VE c (l.take n) a o b
 |0,l,o,b,_=>by simp[VE]
 |n+1,[],o,b,h=>by simp[VE]
 |n+1,d::e,o,b,h=>by
  simp only[VE,Eh]at h |-
  exact⟨h.1,VE.take n e (o+b) b h.2⟩
theorem VE.bz{c:Cx}{a:Addr}{l:J D}{o b:Nat}(h:VE c l a o b)(n m:Nat):VE c (Go.Am.bz l n m) a (o+n * b) b:=VE.take m _ _ b (VE.drop n l o b h)
theorem T.frzs_len(b:Bool):∀(a:J T) (ds:J D),T.aZ b a=some ds->ds.length=a.length
 | [],ds,h=>by grind [T.aZ]
 |t::a,ds,h=>by
  have:=T.frzs_len b a;grind [T.aZ,xB,xM]
def Pure(c c':Cx)(b:Bool)(S:J Nat):Prop:=∀g∈S,c'.pm b g/\c'.w.heap[g]? =c.w.heap[g]?
theorem Pure.left{c c':Cx}{b:Bool}{X Y:J Nat}(h:Pure c c' b (X++Y)):Pure c c' b X:=λg a=>h g (xL _ a)
theorem Pure.right{c c':Cx}{b:Bool}{X Y:J Nat}(h:Pure c c' b (X++Y)):Pure c c' b Y:=λg a=>h g (xR _ a)
mutual
theorem T.frz_ok{c c':Cx}(hx:Ext c c')(b:Bool):∀(t:T) (x:D) (cs:List Value) (S:List Nat),T.cR b t=some x->Pure c c' b S->TC c t cs S->VC c' x cs
 | .d y,x,cs,S,h,_,f=>by
  simp only[T.cR,xJ]at h
  subst h;simp only[TC]at f
  exact VC.ext hx _ _ f.2.norm
 | .agg i,x,cs,S,h,k,f=>by
  have:=T.frzs_cells hx b i;grind [T.cR,xM,TC,VC]
 | .own C,x,cs,S,h,k,f=>by
  simp only[T.cR,xM]at h
  obtain⟨l,s,rfl⟩:=h;have w:=T.frzs_len b C l s
  obtain⟨a,p,u,_⟩ |⟨g,E,I,e,n,S',p,u,A,z,H,R,J,Q⟩:=f
  .grind [VC]
  .subst u
   have K:=k g (by simp)
   simp only[VC]
   refine⟨some ⟨g,0,none⟩,C.length,E,p,w.symm,z,λP=>⟨⟨g,0,none⟩,n,rfl,rfl,K.1,Ei J,?_⟩⟩
   refine T.frzs_elems hx b C l n _ S' s (λy M=>k y (by simp[M])) Q ⟨g,0,none⟩ 0 (λj v G=> ?_)
   grind [fq,World.cell?]
 | .dead,x,cs,S,h,_,_=>by simp[T.cR]at h
theorem T.frzs_cells{c c':Cx}(hx:Ext c c')(b:Bool):∀(i:List T) (m:List D) (cs:List Value) (S:List Nat),T.aZ b i=some m->Pure c c' b S->a9 c i cs S->aR c' m cs
 | [],m,cs,S,h,_,f=>by
  grind [T.aZ,a9,aR]
 |t::i,m,cs,S,h,k,f=>by
  simp only[T.aZ,xB,xM]at h
  obtain⟨x,s,r,B,rfl⟩:=h;simp only[a9]at f
  obtain⟨v,q,S1,F,p,u,A,z⟩:=f;subst u;simp only[aR]
  exact⟨v,q,p,T.frz_ok hx b t x _ S1 s k.left A,T.frzs_cells hx b i r q F B k.right z⟩
theorem T.frzs_elems{c c':Cx}(hx:Ext c c')(b:Bool):∀(i:List T) (m:List D) (n:Nat) (cs:List Value) (S:List Nat),T.aZ b i=some m->Pure c c' b S->TE c i n cs S->
  ∀(a:Addr) (o:Nat),(∀j v,cs[j]? =some v->c'.w.cell? (a.add (o+j))=some v)->VE c' m a o n
 | [],m,n,cs,S,h,_,_=>by
  grind [T.aZ,VE]
 |t::i,m,n,cs,S,h,k,f=>by
  simp only[T.aZ,xB,xM]at h
  obtain⟨x,s,r,B,rfl⟩:=h;simp only[TE]at f
  obtain⟨N,L,S1,F,p,u,A,z,H⟩:=f;subst p;subst u;intro a o O;simp only[VE]
  refine⟨⟨N,A,λj v G=>O j v (by grind),T.frz_ok hx b t x _ S1 s k.left z⟩,
   T.frzs_elems hx b i r n L F B k.right H a (o+n) (λj v G=> ?_)⟩
  simp_all [xN,wm]
end
theorem Ej{c c':Cx}(hx:Ext c c'){b:Bool}{es:J T}{l:J D}{q v:Vz}{Sn:J Nat}(hf:T.aZ b es=some l)(hp:Pure c c' b Sn)(ht:TC c (.own es) [q] Sn){off len:Nat}(C:off+len<=es.length)(hw:Win q es off len v):
  VC c' (.sl b (bz l off len)) [v]:=by
 have r:=T.frzs_len b es l hf;obtain⟨a,n,M,N,h,K,G,I,V,x⟩:=hw;subst G;have m:(bz l off len).length=len:=by simp only[bz,yR,we];omega
 simp only[VC]
 refine⟨N,len,h,rfl,m.symm,I,λO=> ?_⟩
 have o:0<len:=by
  obtain p |p:=AB len
  .grind
  .exact p
 obtain⟨g,i,F,z,L⟩:=x o
 obtain⟨P,d,t,_⟩ |⟨X,s,w,e,f,S',d,t,U,W,S,Q,B,u⟩:=ht
 .grind
 .subst t;subst F
  simp only[xC,and_true]at d
  rw[K]at d
  simp only[Value.slice.injEq,xJ,Addr.mk.injEq,and_true]at d
  obtain⟨d,_,_⟩:=d;subst d;have k:i.nc=f:=(TE.len _ _ _ _ u).2 i (yS z);have E:=hp g (by simp)
  refine⟨⟨g,off * i.nc,none⟩,f,L,rfl,E.1,Ei B,?_⟩
  have A:VE c' l ⟨g,0,none⟩ 0 f:=T.frzs_elems hx b es l f _ S' hf (λy H=>hp y (by simp[H])) u ⟨g,0,none⟩ 0 (λj v R=>by
   grind [fq,World.cell?])
  refine VE.shift _ (0+off * f) 0 f (λj=> ?_) (A.bz off len)
  rw[fq,fq,k]
  simp
theorem Win.whole{c:Cx}{es:J T}{j v:Vz}{Sn:J Nat}(hw:Win j es 0 es.length v)(ht:TC c (.own es) [j] Sn):TC c (.own es) [v] Sn:=by
 obtain⟨a,n,o,t,b,m,u,y,s,B⟩:=hw;obtain⟨q,l⟩:=s rfl;subst u;subst q
 obtain⟨A,d,i,h⟩ |⟨g,k,f,e,z,S',d,i,h,C,w,p,r,x⟩:=ht
 .subst i;subst h
  rw[m]at d
  simp only[xC,Value.slice.injEq,and_true]at d
  obtain⟨rfl,_,rfl⟩:=d
  have:b=0:=by omega
  subst this;exact .inl ⟨t,rfl,rfl,rfl⟩
 .rw[m]at d
  simp only[xC,Value.slice.injEq,and_true]at d
  obtain⟨rfl,_,rfl⟩:=d;exact .inr ⟨g,b,f,e,z,S',rfl,i,h,y,fj l w,fj (jf _ l) p,r,x⟩
section
variable{A:Av}{ρ:Nat->Nat}{S:aj->J Nat}{hd:aj->Vz}{fl:J Nat}{k k':Wk}{ay:J (SV×Vz)}{w:Wz}{nv:Nat}
theorem rH(a:J Tr)(x:Tr)(u:SV):aU (a++[x]) u=x.sv (aU a u):=by
 induction a generalizing u with
 |nil=>rfl
 |cons y a b=>grind [aU]
theorem KR.takeOut(h:KR A ρ S hd fl k ay w){r:aj}{t t':T}{p:dR}{es:J T}{c:Vz}{L Sn R:J Nat}
  (hr:k.get r=some t) (d:S r=L++Sn++R) (hf:Focus (am A k.H.length ρ S fl w) t (hd r) p (.own es) c L Sn R)
  (hp:t.put p .dead=some t') (e:k.set r t'=some k'):
  KR A ρ (upd S r (L++R)) hd (Sn++fl) (k'.tell (.kill r p)) ay w/\Ext (am A k.H.length ρ S fl w) (am A k.H.length ρ (upd S r (L++R)) (Sn++fl) w):=by
 have a:Ext (am A k.H.length ρ S fl w) (am A k.H.length ρ (upd S r (L++R)) (Sn++fl) w):=(WS.stay (λb i=>(bT.detach d).1 i)).ext (dC _) (λ_ _=>rfl)
 exact h.giveUp (.kill r p) hr d hf hp rfl e (.inl rfl) (by simp only[TC];exact⟨trivial,c,rfl,TC.dt _ _ _ hf.tc _ (by simp)⟩) (λu v g f=>SO.kill a r p g f)
theorem KR.freeze(h:KR A ρ S hd fl k ay w){r:aj}{t t' q:T}{p:dR}{es:J T}{l:J D}{y:Vz}{L Sn R:J Nat}
  (hr:k.get r=some t) (I:S r=L++Sn++R) (hf:Focus (am A k.H.length ρ S fl w) t (hd r) p (.own es) y L Sn R) (z:t.at p=some (.own es)) (hl:T.aZ false es=some l)
  (x:q=.dead\/q=.d (.sl false l)) (hp:t.put p q=some t') (U:k.set r t'=some k'):
  KR A ρ (upd S r (L++R)) hd fl (k'.tell (.cR r p l)) ay w/\Ext (am A k.H.length ρ S fl w) (am A k.H.length ρ (upd S r (L++R)) fl w)/\
   Pure (am A k.H.length ρ S fl w) (am A k.H.length ρ (upd S r (L++R)) fl w) false Sn:=by
 have d:Ext (am A k.H.length ρ S fl w) (am A k.H.length ρ (upd S r (L++R)) fl w):=(WS.stay (λb e=>bT.drop I e)).ext (dC _) (λ_ _=>rfl)
 have j:∀b∈Sn,b∈S r:=λb e=>by rw[I];simp[e]
 have a:Pure (am A k.H.length ρ S fl w) (am A k.H.length ρ (upd S r (L++R)) fl w) false Sn:=λg B=>by
  have e:=h.bU g (.inl ⟨r,j g B⟩)
  refine⟨⟨λf=> ?_,e.2.1 _,e.1⟩,rfl⟩
  obtain⟨G,f⟩ |f:=f
  .by_cases i:G=r
   .subst i
    rw[eo]at f
    have:=h.bw.nd G
    grind
   .rw[dG _ _ i]at f
    exact i (h.bw.one G r g f (j g B))
  .exact h.bw.cq r g (j g B) f
 have K:∀s m v,SB (am A k.H.length ρ S fl w) k.get hd (.aH r p s m) v->VC (am A k.H.length ρ (upd S r (L++R)) fl w) (.sl false (bz l s m)) [v]:=λs m v e=>by
  obtain⟨t0,O,N,C,E,b3,b4,b5⟩:=e;rw[hr]at C
  simp only[xJ]at C
  subst C;rw[z]at E
  simp only[xJ,T.own.injEq]at E
  subst E
  have:N=y:=aI.uniq p t (hd r) N y b3 hf.node
  subst this;exact Ej d hl a hf.tc b4 b5
 have:=h.giveUp (M:=[]) (.cR r p l) hr I hf hp (by rcases x with rfl |rfl <;>rfl) U (.inr rfl) (by
  obtain rfl |rfl:=x
  .simp only[TC];exact⟨trivial,y,rfl,TC.dt _ _ _ hf.tc _ (by simp)⟩
  .simp only[TC]
   exact⟨trivial,T.frz_ok (c:=am A k.H.length ρ S fl w) d false (.own es) _ _ Sn (by simp[T.cR,hl]) a hf.tc⟩) (λu v P Q=>SO.cR d r p l P K Q)
 grind
theorem Pg{S:aj->J Nat}{fl fl':J Nat}(h:∀b,b∈fl↔b∈fl')(nO:Nat):am A nO ρ S fl w=am A nO ρ S fl' w:=by
 grind [am,bT]
theorem KR.perm(h:KR A ρ S hd fl k ay w){fl':J Nat}(hp:fl.Perm fl'):KR A ρ S hd fl' k ay w/\am A k.H.length ρ S fl w=am A k.H.length ρ S fl' w:=by
 have c:∀b,b∈fl↔b∈fl':=λb=>hp.mem_iff
 have e:=Pg (A:=A) (ρ:=ρ) (w:=w) (S:=S) c k.H.length;have g:∀b,bT S fl' b->bT S fl b:=λb a=>a.imp id (c b).2
 refine⟨⟨λr t i=>by rw[<-e];exact h.cont r t i,h.gone,h.obj,λn ob f d=>by rw[<-e];exact h.map n ob f d,h.bw.float (hp.nodup_iff.1 h.bw.ndF) (λb a=>(c b).2 a),λb a=>h.bU b (g b a),λp hp=>by rw[<-e];exact h.ay p hp,h.fr,h.Fold,h.cP⟩,e⟩
theorem KR.letGo(h:KR A ρ S hd fl k ay w){fl':J Nat}(hn:fl'.Nodup)(e:∀b∈fl',b∈fl):KR A ρ S hd fl' k ay w/\Ext (am A k.H.length ρ S fl w) (am A k.H.length ρ S fl' w):=by
 have a:Ext (am A k.H.length ρ S fl w) (am A k.H.length ρ S fl' w):=(WS.stay (λb c=>c.imp id (e b))).ext (dC _) (λ_ _=>rfl)
 refine⟨⟨λr t i=>TC.ext a _ _ _ (λ_ _=>rfl) (h.cont r t i),h.gone,h.obj,λn ob g d=>(h.map n ob g d).ext a (λ_ _=>rfl) rfl rfl,h.bw.float hn e,λb c=>h.bU b (c.imp id (e b)),λp f=> ?_,h.fr,h.Fold,h.cP⟩,a⟩
 .exact SO.aV a (λr q=>h.hold _ rfl rfl (λ_ _=>rfl) q) (h.ay p f)
theorem uh{r:aj}{t:T}(a:k.set r t=some k'):k'.H.length=k.H.length:=by
 cases r with
 |l n j=>grind [Wk.set]
 |o n=>
  simp only[Wk.set]at a
  split at a
  .grind
  .cases a
theorem Gi(h:KR A ρ S hd fl k ay w){v:SV}{val:Vz}{t:T}(hv:SB (am A k.H.length ρ S fl w) k.get hd v val)(W:∀y,v≠ .d y)(e:dO nv v k=some (t,k')):
  ∃S' M,KR A ρ S' hd (M++fl) k' ay w/\Ext (am A k.H.length ρ S fl w) (am A k'.H.length ρ S' (M++fl) w)/\TC (am A k'.H.length ρ S' (M++fl) w) t [val] M/\k'.H.length=k.H.length:=by
 cases v with
 |d y=>grind
 |clip b l=>
  simp only[dO,xJ,pJ]at e
  obtain⟨rfl,rfl⟩:=e
  exact⟨S,[],by simpa using h,by simpa using(⟨λ_ _ B=>⟨B,rfl⟩,dC _,λ_ _=>rfl⟩:Ext _ _),by simp only[TC,gG];exact⟨trivial,hv.1⟩,rfl⟩
 |ns b=>
  simp only[dO,xJ,pJ]at e
  obtain⟨rfl,rfl⟩:=e
  exact⟨S,[],by simpa using h,by simpa using(⟨λ_ _ B=>⟨B,rfl⟩,dC _,λ_ _=>rfl⟩:Ext _ _),by simp only[TC,gG];exact⟨trivial,Q6 hv⟩,rfl⟩
 |aH r p z u=>
  obtain⟨t0,H,N,o,i,b3,b4,b5⟩:=hv;obtain⟨I,L,Q,R,F,m⟩:=TC.focus p t0 (hd r) (S r) (.own H) (h.cont r t0 o) i;have U:I=N:=aI.uniq p t0 (hd r) I N m.node b3;subst U;simp only[dO,o,i,xS]at e
  -- a c row
  have c:∀(f:T) (g:Wk) (l:J D) (t1:T),T.aZ false H=some l->(f=.dead\/f=.d (.sl false l))->t0.put p f=some t1->k.set r t1=some g->
    (T.d (.sl false (bz l z u)),g.tell (.cR r p l))=(t,k')->
    ∃S' M,KR A ρ S' hd (M++fl) k' ay w/\Ext (am A k.H.length ρ S fl w) (am A k'.H.length ρ S' (M++fl) w)/\TC (am A k'.H.length ρ S' (M++fl) w) t [val] M/\k'.H.length=k.H.length:=by
   intro f g l t1 s x E K G;simp only[pJ]at G
   obtain⟨rfl,rfl⟩:=G;obtain⟨C,q,P⟩:=h.freeze o F m i s x E K;have O:(g.tell (.cR r p l)).H.length=k.H.length:=uh (k':=g) K
   refine⟨_,[],by simpa using C,by grind,?_,O⟩
   rw[O];simp only[TC,gG]
   exact⟨trivial,Ej q s P m.tc b4 b5⟩
  split at e
  .rename_i n j
   split at e
   .rename_i V
    obtain⟨_,rfl,rfl⟩:=V;simp only[T.at,xJ]at i
    subst i;simp only[Wk.set,xQ,xJ,pJ]at e
    obtain⟨rfl,rfl⟩:=e;obtain⟨C,q⟩:=h.takeOut (k':={k with ct:=((n,j),.dead)::k.ct}) (t':=.dead) o F m rfl rfl
    refine⟨_,Q,C,q,?_,rfl⟩
    exact b5.whole (TC.ext q _ _ _ (λ_ _=>rfl) m.tc)
   .simp only[xB,xM]at e
    obtain⟨l,s,g,x,E⟩:=e;exact c .dead g l .dead s (.inl rfl) rfl x E
  grind [xB,xM]
 |agg l=>exact hv.elim
 |aS l=>exact hv.elim
 |_=>simp[dO]at e
theorem Gj:∀(l:J SV) (vs:J Vz) (x:J T) (k k':Wk) (S:aj->J Nat) (fl:J Nat),KR A ρ S hd fl k ay w->
  (∀k0 s d,KR A ρ s hd d k0 ay w->k0.H.length=k.H.length->All2 (λu v=>CO (am A k0.H.length ρ s d w) k0.get hd (aU k0.tr u) v) l vs)->gH nv l k=some (x,k')->
  ∃S' M,KR A ρ S' hd (M++fl) k' ay w/\Ext (am A k.H.length ρ S fl w) (am A k'.H.length ρ S' (M++fl) w)/\a9 (am A k'.H.length ρ S' (M++fl) w) x vs M/\k'.H.length=k.H.length
 | [],vs,x,k,k',S,fl,h,a,e=>by
  simp only[gH,xJ,pJ]at e
  obtain⟨rfl,rfl⟩:=e
  have:=a k S fl h rfl
  rw[show vs=[]from this]
  exact⟨S,[],by simpa using h,by simpa using(⟨λ_ _ j=>⟨j,rfl⟩,dC _,λ_ _=>rfl⟩:Ext _ _),by simp[a9],rfl⟩
 |u::l,vs,x,k,k',S,fl,h,a,e=>by
  simp only[gH,xB,xM]at e
  obtain⟨⟨t,m⟩,z,⟨D,X⟩,O,G⟩:=e;simp only[pJ]at G
  obtain⟨rfl,rfl⟩:=G;obtain⟨v,r,rfl,B,_⟩:=a k S fl h rfl
  have p:∃S1 c,KR A ρ S1 hd (c++fl) m ay w/\Ext (am A k.H.length ρ S fl w) (am A m.H.length ρ S1 (c++fl) w)/\TC (am A m.H.length ρ S1 (c++fl) w) t [v] c/\m.H.length=k.H.length:=by
   by_cases K:∃y,aU k.tr u=.d y
   .obtain⟨y,F⟩:=K
    rw[F]at z B
    simp only[dO,xJ,pJ]at z
    obtain⟨rfl,rfl⟩:=z
    exact⟨S,[],by simpa using h,by simpa using(⟨λ_ _ j=>⟨j,rfl⟩,dC _,λ_ _=>rfl⟩:Ext _ _),by simp only[TC,gG];exact⟨trivial,B⟩,rfl⟩
   .have i:∀y,aU k.tr u≠ .d y:=λy F=>K ⟨y,F⟩
    exact Gi h (CO.to_SB i B) i z
  obtain⟨S1,c,P,L,U,I⟩:=p
  obtain⟨Y,n,V,q,N,R⟩:=Gj l r D m X S1 (c++fl) P (λk0 s d Q W=>by
   obtain⟨b,r',H,_,q3⟩:=a k0 s d Q (W.trans I)
   grind) O
  have f:(n++(c++fl)).Perm ((c++n)++fl):=by
   rw[xK];exact Ef n c fl
  obtain⟨E,C⟩:=V.perm f;rw[C]at q N
  refine⟨Y,c++n,E,⟨λb g j=> ?_,fj L.nO q.nO,λo Z=>rfl⟩,?_,R.trans I⟩
  .have H:=L.pm b g j
   have q2:=q.pm b g H.1
   grind
  .simp only[a9]
   exact⟨v,r,c,n,rfl,rfl,TC.ext q _ _ _ (λ_ _=>rfl) U,N⟩
theorem Ek(a:J Tr)(l:J SV):aU a (.agg l)=.agg (l.map (aU a)):=by
 induction a generalizing l with
 |nil=>simp[aU]
 |cons x a b=>
  have c:∀l,Tr.bG x l=l.map x.sv:=λl=>by
   induction l with
   |nil=>rfl
   |cons a r b=>simp[Tr.bG,b]
  have:x.sv (.agg l)=.agg (l.map x.sv):=by rw[<-c];cases x <;>rfl
  simp_all [aU]
theorem ack(a:J Tr)(y:D):aU a (.d y)=.d y:=by
 induction a with
 |nil=>rfl
 |cons x a b=>
  have:x.sv (.d y)=.d y:=by cases x <;>rfl
  grind [aU]
theorem All2.of_map{e c f:Type}{R:c->f->Prop}(g:e->c):∀{d:J e} {l:J f},All2 R (d.map g) l->All2 (λa b=>R (g a) b) d l
 | [],_,h=>h
 |a::d,l,h=>by
  obtain⟨b,r,j,i,h3⟩:=h
  exact⟨b,r,j,i,All2.of_map g h3⟩
theorem nQ(h:KR A ρ S hd fl k ay w){v:SV}{val:Vz}{t:T}(r:(v,val)∈ay)(e:fV nv v k=some (t,k')):
  ∃S' M,KR A ρ S' hd (M++fl) k' ay w/\Ext (am A k.H.length ρ S fl w) (am A k'.H.length ρ S' (M++fl) w)/\TC (am A k'.H.length ρ S' (M++fl) w) t val.cells.toList M/\k'.H.length=k.H.length:=by
 have m:=h.ay (v,val) r
 by_cases f:∃l,v=.agg l
 .obtain⟨l,rfl⟩:=f
  simp only[fV,xM]at e
  obtain⟨⟨F,C⟩,H,s⟩:=e;simp only[pJ]at s
  obtain⟨rfl,rfl⟩:=s
  have p:∀c j a,KR A ρ j hd a c ay w->∃b,val=.agg b/\All2 (λu v=>CO (am A c.H.length ρ j a w) c.get hd (aU c.tr u) v) l b.toList:=λc j a x=>by
   have:=x.ay _ r
   simp only[Ek]at this
   obtain⟨b,G,z⟩:=this
   exact⟨b,G,z.of_map⟩
  obtain⟨b,rfl,_⟩:=p k S fl h
  obtain⟨S',M,K,D,E,B⟩:=Gj (nv:=nv) l b.toList F k C S fl h (λc j a x d=>by
   grind) H
  exact⟨S',M,K,D,TC.mk E,B⟩
 .have g:∀l,v≠ .agg l:=λl d=>f ⟨l,d⟩
  have o:dO nv (aU k.tr v) k=some (t,k'):=by
   revert e g
   cases v <;>intro e g <;>first |exact e |grind
  simp only at m
  by_cases hd':∃y,aU k.tr v=.d y
  .obtain⟨y,q⟩:=hd'
   rw[q]at o m
   simp only[dO,xJ,pJ]at o
   obtain⟨rfl,rfl⟩:=o
   exact⟨S,[],by simpa using h,by simpa using(⟨λ_ _ J=>⟨J,rfl⟩,dC _,λ_ _=>rfl⟩:Ext _ _),by simp only[TC,gG];exact⟨trivial,m.1⟩,rfl⟩
  .have I:∀y,aU k.tr v≠ .d y:=λy q=>hd' ⟨y,q⟩
   by_cases n:∃l,aU k.tr v=.aS l
   .grind [dO]
   .by_cases i:∃l,aU k.tr v=.agg l
    .grind [dO]
    .have L:=S1.to_SB (λl d=>i ⟨l,d⟩) (SO.to_S1 (λl d=>n ⟨l,d⟩) m)
     grind [Gi,lI,TC.dt]
end
theorem Gk{c:Cx}{x:D}{cs:J Vz}(h:VC c x cs):TC c (T.ofD1 x) cs []:=by
 cases x <;>first |grind [T.ofD1,TC] |skip
 simp only[VC]at h
 exact .inl ⟨none,h,rfl,rfl⟩
theorem IR{c:Cx}:∀(l:J D) (cs:J Vz),aR c l cs->a9 c (l.map T.ofD1) cs []
 | [],cs,h=>by grind [aR,a9]
 |d::b,cs,h=>by
  simp only[aR]at h
  obtain⟨v,r,rfl,a,h3⟩:=h;simp only[eG,a9]
  exact⟨v,r,[],[],rfl,rfl,Gk a,IR b r h3⟩
theorem Ph{c:Cx}{z:D}{cs:J Vz}(h:VC c z cs):TC c (T.cj z) cs []:=by
 unfold T.cj;split
 .grind [VC,IR,TC]
 .exact Gk h
theorem Ta{c:Cx}{t:T}{cs:J Vz}{M:J Nat}(h:TC c t cs M):TC c (T.fresh1 t) cs M:=by
 cases t with
 |d x=>simp only[TC]at h;obtain⟨rfl,h⟩:=h;exact Gk h
 |_=>exact h
theorem Gl{c:Cx}:∀(l:J T) (cs:J Vz) (M:J Nat),a9 c l cs M->a9 c (l.map T.fresh1) cs M
 | [],cs,M,h=>h
 |t::b,cs,M,h=>by
  simp only[a9]at h
  obtain⟨v,r,S1,d,rfl,rfl,e,a⟩:=h
  have:=Gl b r d a;grind [a9,Ta]
theorem ME{c:Cx}{t:T}{cs:J Vz}{M:J Nat}(h:TC c t cs M):TC c (T.fresh t) cs M:=by
 cases t with
 |d x=>simp only[TC]at h;obtain⟨rfl,h⟩:=h;exact Ph h
 |agg l=>grind [TC,T.fresh,Gl]
 |_=>exact h
theorem Gm{A:Av}{ρ:Nat->Nat}{S:aj->J Nat}{hd:aj->Vz}{fl:J Nat}{k k':Wk}{ay:J (SV×Vz)}{w:Wz}{nv:Nat}(h:KR A ρ S hd fl k ay w){v:SV}{val:Vz}{t:T}(a:(v,val)∈ay)(e:jD nv v k=some (t,k')):
  ∃S' M,KR A ρ S' hd (M++fl) k' ay w/\Ext (am A k.H.length ρ S fl w) (am A k'.H.length ρ S' (M++fl) w)/\TC (am A k'.H.length ρ S' (M++fl) w) t val.cells.toList M/\k'.H.length=k.H.length:=by
 grind [jD,xM,nQ,ME]
theorem za{P:Pz}{t:TypeId}{d:TypeDesc}(h:P.underlying t=some d):∃i,P.info? t=some i:=by
 grind [Program.underlying]
theorem Pi{P:Pz}{t:TypeId}{d:TypeDesc}(h:P.underlying t=some d)(w:Wz):(sizeOf t).run P w=.ok (P.cellsOf t) w:=by
 obtain⟨i,a⟩:=za h;simp[sizeOf,typeInfo,a,Program.cellsOf]
theorem qx{P:Pz}{t:TypeId}{b:Bool}(h:oR P t=some b)(w:Wz):(isAgg t).run P w=.ok b w/\(sizeOf t).run P w=.ok (P.cellsOf t) w:=by
 unfold oR at h
 cases a:P.underlying t with
 |none=>grind
 |some d=>
  rw[a]at h
  refine⟨?_,Pi a w⟩
  simp only[isAgg,Sem.run_bind,run_underlying a,Result.andThen_ok]
  cases d <;>simp_all
theorem mX{P:Pz}{t:TypeId}{w:Wz}{a:Addr}{cs:J Vz}(h:oR P t=some true)(hn:cs.length=P.cellsOf t)(hc:∀j u,cs[j]? =some u->w.cell? (a.add j)=some u):
  (loadVar t a).run P w=.ok (.agg cs.toArray) w:=by
 obtain⟨c,b⟩:=qx h w;have h3:=run_loadCells_list (P:=P) w a cs hc
 simp_all [loadVar]
theorem tE{P:Pz}{t:TypeId}{w:Wz}{a:Addr}{v:Vz}(h:oR P t=some false)(hc:w.cell? a=some v):
  (loadVar t a).run P w=.ok v w:=by
 simp_all [qx,loadVar]
theorem T.at_append:∀(p q:dR) (t:T),t.at (p++q)=(t.at p).bind (·.at q)
 | [],q,t=>rfl
 |(i,a)::p,q,t=>by
  cases t with
  |own b=>
   simp only[l6,T.at,xX]
   have:=T.at_append p q;grind
  |_=>simp[T.at]
theorem aI.append{c:Cx}:∀(p q:dR) (t nd:T) (h h1 h2:Vz),t.at p=some nd->aI c h t p h1->aI c h1 nd q h2->aI c h t (p++q) h2
 | [],q,t,nd,h,h1,h2,a,b,j=>by
  grind [T.at,aI]
 |(i,m)::p,q,t,nd,h,h1,h2,a,b,j=>by
  cases t with
  |own z=>
   simp only[T.at,xB]at a
   obtain⟨A,n,c0,l,a⟩:=a;simp only[l6,aI]at b |-
   obtain⟨g,u,s,k,e,v,x,r,y,w,f,d,B,o⟩:=b;rw[n]at f
   simp only[xJ]at f
   subst f;rw[l]at d
   simp only[xJ]at d
   subst d
   have:=aI.append p q c0 nd r h1 h2 a o j;grind
  |_=>simp[T.at]at a
section
variable{P:Pz}{A:Av}{ρ:Nat->Nat}{S:aj->J Nat}{hd:aj->Vz}{fl:J Nat}{k k':Wk}{ay:J (SV×Vz)}{w:Wz}
structure Place(c:Cx)(t:T)(h:Value)(Sr:List Nat)(p:dR)(i off:Nat)(v:Value)(es:List T)(el:T)(g cap:Nat)(cur:Array Value)(e:TypeId)(sz:Nat)(c1:List Value)(L Sn R L1 Se R1:List Nat):Prop where
 df:Focus c t h p (.own es) (.slice (some ⟨g,0,none⟩) es.length cap) L Sn R
 hS:Sr=L++Sn++R
 hSn:Sn=g::(L1++Se++R1)
 hel:es[i]? =some el
 hoff:off<el.nc
 hv:v=.pointer (some ⟨g,i * sz+off,none⟩)
 hg:c.w.heap[g]? =some (.cells cur e (0,0))
 hle:es.length<=cap
 cK:cap<=maxLen
 hcur:cap * sz<=cur.size
 bP:0<sz
 hnc:el.nc=sz
 hc1:c1.length=sz
 hcs:cur.toList.take (es.length * sz)=(cur.toList.take (es.length * sz)).take (i * sz)++c1++(cur.toList.take (es.length * sz)).drop (i * sz+sz)
 hci:((cur.toList.take (es.length * sz)).take (i * sz)).length=i * sz
 hte:TC c el c1 Se
 hL1:TE c (es.take i) sz ((cur.toList.take (es.length * sz)).take (i * sz)) L1
 hR1:TE c (es.drop (i+1)) sz ((cur.toList.take (es.length * sz)).drop (i * sz+sz)) R1
theorem Gn{c:Cx}{K:aj->U T}{r:aj}{p:dR}{i off:Nat}{v:Vz}{S:aj->J Nat}(hc:∀t,K r=some t->TC c t [hd r] (S r))(h:SB c K hd (.loc r p i off) v):
  ∃t es f g cap b e j l L Sn R L1 m R1,K r=some t/\t.at p=some (.own es)/\Place c t (hd r) (S r) p i off v es f g cap b e j l L Sn R L1 m R1:=by
 obtain⟨t,es,g,n,cap,f,x,s,h3,h4,h5,h6⟩:=h;obtain⟨E,L,Sn,R,O,k⟩:=TC.focus p t (hd r) (S r) (.own es) (hc t x) s;have N:E=.slice (some ⟨g,0,none⟩) n cap:=aI.uniq p t (hd r) _ _ k.node h3;subst N
 obtain⟨a,_,y,_⟩ |⟨Q,q,b,e,j,S',u,y,H,I,D,z,A,P⟩:=k.tc
 .grind
 .simp only[xC,Value.slice.injEq,xJ,Addr.mk.injEq,and_true]at u
  obtain⟨rfl,rfl,rfl⟩:=u;obtain⟨l,L1,m,R1,w,C,F,M,o,B,G⟩:=TE.get P h4;have d:f.nc=j:=by rw[<-TC.len _ _ _ o,w]
  exact⟨t,es,f,g,cap,b,e,j,l,L,Sn,R,L1,m,R1,x,s,⟨k,O,by rw[y,M],h4,h5,by rw[h6,d],H,I,D,z,Ei A,d,w,C,F,o,B,G⟩⟩
theorem Place.cell{c:Cx}{t:T}{h:Vz}{Sr:J Nat}{p:dR}{i off:Nat}{v:Vz}{es:J T}{el:T}{g cap:Nat}{cur:Array Vz}{e:TypeId}{sz:Nat}{c1:J Vz}{L Sn R L1 Se R1:J Nat}
  (a:Place c t h Sr p i off v es el g cap cur e sz c1 L Sn R L1 Se R1) {j:Nat} {u:Vz} (b:c1[j]? =some u):cur[i * sz+j]? =some u/\c.w.cell? ⟨g,i * sz+j,none⟩=some u:=by
 have:=Q5 a.hcs a.hci b
 exact⟨this,by simp[World.cell?,a.hg,this]⟩
theorem D.sv1_ok{x:D}{sv:SV}(h:x.sv1=some sv):sv=.d x/\∀l,x≠ .agg l:=by
 cases x <;>simp_all [D.sv1]
theorem T.cells_cell{t ct:T}{off:Nat}(h:t.cells[off]? =some ct):t.cell off=some ct:=by
 have a:t.cells=[t]->(∀l,t≠ .agg l)->(∀l,t≠ .d (.agg l))->t.cell off=some ct:=λb e g=>by
  rw[b]at h
  cases off with
  |zero=>
   simp only[yE,xJ]at h
   subst h
   cases t with
   |agg l=>grind
   |d x=>cases x <;>first |rfl |grind
   |_=>rfl
  |succ n=>simp at h
 cases t with
 |agg f=>grind [T.cells,T.cell]
 |d x=>cases x <;>first |(exact a rfl (by simp) (by simp)) |grind [T.cells,T.cell]
 |own c=>exact a rfl (by simp) (by simp)
 |dead=>exact a rfl (by simp) (by simp)
theorem IS{c:Cx}{K:aj->U T}{r:aj}{t:T}{p:dR}{i off:Nat}{v:Vz}{es:J T}{y ct:T}{g cap:Nat}{s:Array Vz}{e:TypeId}{I:Nat}{B:J Vz}{L Sn R L1 N R1:J Nat}{M:J Nat}
  (H:K r=some t) (q:t.at p=some (.own es)) {o:Nat} (m:Place c t (hd r) M p i o v es y g cap s e I B L Sn R L1 N R1) (w:y.cells[off]? =some ct) {sv:SV} (b:im r p i off ct=some sv):
  ∃u,B[off]? =some u/\CO c K hd sv u/\u.oneCell'=true:=by
 obtain⟨u,Z,Q,P,E,m2,z,X,m5⟩:=a9.get m.hte.cells w
 refine⟨u,E,?_,TC.dt _ _ _ z u (by simp)⟩
 cases ct with
 |d x=>
  simp only[TC]at z
  obtain⟨rfl,_⟩:=D.sv1_ok b;exact z.2
 |own h=>
  simp only[im,xJ]at b
  subst b;have f:y.cell off=some (.own h):=T.cells_cell w
  have n:aI c (.slice (some ⟨g,0,none⟩) es.length cap) (.own es) [(i,off)] u:=by
   simp only[aI]
   exact⟨g,es.length,cap,s,e,y,.own h,u,rfl,m.hg,m.hel,f,by rw[m.hnc];exact(m.cell E).1,rfl⟩
  refine⟨t,h,u,H,by rw[T.at_append,q];simp[T.at,m.hel,f],aI.append p _ t _ _ _ _ q m.df.node n,by omega,?_⟩
  obtain⟨a,k,F,_⟩ |⟨Y,j,A,S,G,S',k,F,W,O,V,k6,k7,k8⟩:=z
  .simp only[xC,and_true]at k
   subst F
   exact⟨a,0,0,a,0,k,by simpa using k,dC _,λ_=>⟨rfl,dC _⟩,λC=>by simp at C⟩
  .simp only[xC,and_true]at k
   refine⟨_,h.length,j,_,j,k,k,O,λ_=>⟨rfl,dC _⟩,λC=> ?_⟩
   grind
 |agg l=>simp[im]at b
 |dead=>simp[im]at b
theorem Gp{c:Cx}{K:aj->U T}{r:aj}{t:T}{p:dR}{i o:Nat}{v:Vz}{es:J T}{l:T}{g cap:Nat}{k:Array Vz}{e:TypeId}{A:Nat}{f:J Vz}{L Sn R L1 F R1:J Nat}{B:J Nat}
  (m:K r=some t) (a:t.at p=some (.own es)) (q:Place c t (hd r) B p i o v es l g cap k e A f L Sn R L1 F R1):∀(cs:J T) (off:Nat) (d:J SV),(∀(j:Nat) (x:T),cs[j]? =some x->l.cells[off+j]? =some x)->kg r p i off cs=some d->
  All2 (CO c K hd) d (bz f off cs.length)
 | [],off,d,_,h=>by
  grind [kg,bz,All2]
 |y::cs,off,d,n,h=>by
  simp only[kg,xB,xM]at h
  obtain⟨H,z,b,s,rfl⟩:=h;obtain⟨u,E,C,_⟩:=IS m a q (by simpa using n 0 y rfl) z
  have G:=Gp m a q cs (off+1) b (λj x D=>by have:=n (j+1) x (by simpa using D);grind) s
  have w:=(List.getElem?_eq_some_iff.1 E).1
  refine⟨u,bz f (off+1) cs.length,?_,C,G⟩
  grind [bz,xW]
theorem SV.pures_ok{c:Cx}{K:aj->U T}:∀(l:J SV) (ds:J D) (vs:J Vz),SV.bH l=some ds->All2 (CO c K hd) l vs->aR c ds vs
 | [],ds,vs,h,a=>by
  simp only[SV.bH,xJ]at h
  subst h;rw[show vs=[]from a]
  simp[aR]
 |u::l,ds,vs,h,a=>by
  cases u with
  |d x=>
   simp only[SV.bH,xM]at h
   obtain⟨r,b,rfl⟩:=h;obtain⟨v,q,rfl,e,h3⟩:=a;simp only[aR]
   exact⟨v,q,rfl,e,SV.pures_ok l r q b h3⟩
  |_=>simp[SV.bH]at h
theorem SV.mkAgg_ok{c:Cx}{K:aj->U T}{l:J SV}{vs:J Vz}(h:All2 (CO c K hd) l vs):SO c K hd (SV.br l) (.agg vs.toArray):=by
 unfold SV.br;split
 .rename_i b a
  exact VV.agg (by grind [SV.pures_ok])
 .exact⟨_,rfl,by simpa using h⟩
theorem AG(h:KR A ρ S hd fl k ay w){u:SV}{v:Vz}(hu:SO (am A k.H.length ρ S fl w) k.get hd u v){r:aj}{p:dR}{i off:Nat}{t0:T}(hl:bD u=.loc r p i off)(hc:k.get r=some t0):SB (am A k.H.length ρ S fl w) k.get hd (.loc r p i off) v:=by
 by_cases q:∃n,u=.d (.ptr n)
 .obtain⟨n,rfl⟩:=q
  simp only[bD,SV.loc.injEq]at hl
  obtain⟨rfl,rfl,rfl,rfl⟩:=hl
  have s:∃c,k.H[n]? =some (.box c)/\t0=.own [c]:=by
   simp only[Wk.get,cont]at hc
   cases m:k.H[n]? with
   |none=>grind
   |some x=>
    grind
  obtain⟨c,m,rfl⟩:=s;have o:VC (am A k.H.length ρ S fl w) (.ptr n) [v]:=VV.inv hu (by simp)
  simp only[VC,xC,and_true]at o
  have b:0<c.nc:=by
   obtain⟨a,_,g,_⟩ |⟨F,f,j,e,H,S',C,g,D,E,B,y,z,t⟩:=h.cont _ _ hc
   .cases g
   .rw[(TE.len _ _ _ _ t).2 c (by simp)];grind
  refine⟨.own [c],[c],ρ n,1,1,c,hc,rfl,by rw[h.obj];rfl,rfl,b,by grind [am]⟩
 .by_cases G:∃l,u=.d (.bR l)
  .grind [bD]
  have:bD u=u:=by
   cases u with
   |d x=>cases x <;>first |rfl |grind |grind
   |_=>rfl
  rw[this]at hl
  subst hl;exact hu
theorem Gq{c:Cx}{K:aj->U T}{u:SV}{v:Vz}{b:Bool}{cs:J D}(hl:bD u=.rp b cs)(hu:SO c K hd u v):SB c K hd (.rp b cs) v:=by
 cases u with
 |d x=>
  cases x with
  |bR a=>
   simp only[bD,SV.rp.injEq]at hl
   obtain⟨rfl,rfl⟩:=hl;have e:VC c (.bR a) [v]:=VV.inv hu (by simp)
   simp only[VC,xC,and_true]at e
   exact e
  |_=>simp[bD]at hl
 |rp f a=>
  simp only[bD]at hl
  rw[<-hl];exact hu
 |_=>simp[bD]at hl
theorem ky{a:Type}(l:J a)(o n:Nat)(h:o+n<=l.length):(bz l o n).length=n:=by grind [bz]
theorem El{a:Type}{l:J a}{o n j:Nat}{x:a}(h:(bz l o n)[j]? =some x):l[o+j]? =some x:=by
 grind [bz]
theorem AH(h:KR A ρ S hd fl k ay w){t:TypeId}{u sv:SV}{v:Vz}(hu:SO (am A k.H.length ρ S fl w) k.get hd u v)(e:hJ P t u k=some sv):
  ∃val,(Instr.loadAt t v).run P w=.ok val w/\SO (am A k.H.length ρ S fl w) k.get hd sv val:=by
 unfold hJ at e
 split at e
 .rename_i r p i f O
  simp only[xB]at e
  obtain⟨t0,C,nd,q,e⟩:=e
  split at e
  .rename_i es
   simp only[xB]at e
   obtain⟨el,H,I,c,e⟩:=e;obtain⟨t1,ab,ac,g,ad,aa,ty,sz,B,L,Sn,R,L1,Se,R1,F,G,o⟩:=Gn (λt=>h.cont r t) (AG h hu O C)
   rw[C]at F
   simp only[xJ]at F
   subst F;rw[q]at G
   simp only[xJ,T.own.injEq]at G
   subst G
   have:=o.hel
   rw[H]at this
   simp only[xJ]at this
   subst this;have hv:=o.hv;subst hv;simp only[Instr.loadAt,Instr.sureAddr,Sem.run_bind,Sem.run_pure,Result.andThen_ok]
   have V:∀(n:Nat) (j:Nat) (x:Vz),(bz B f n)[j]? =some x->w.cell? ((⟨g,i * sz+f,none⟩:Addr).add j)=some x:=λn j x J=>by
    rw[fq,wm]
    exact(o.cell (El J)).2
   cases I with
   |true=>
    simp only[if_true]at e
    split at e
    .rename_i l
     split at e
     .rename_i s
      simp only[xJ]at e
      subst e;have z:=o.hte;simp only[TC,VC]at z
      have m:=aR.len _ _ z.2
      refine⟨_,mX (cs:=bz B f (P.cellsOf t)) c (ky _ _ _ (by omega)) (V _),?_⟩
      exact VV.agg (by grind [aR.bz])
     .cases e
    .rename_i cs
     split at e
     .rename_i s
      simp only[xM]at e
      obtain⟨bG,e1,rfl⟩:=e;have m:=a9.len _ _ _ (show a9 _ cs B Se from o.hte)
      have U:=Gp (K:=k.get) C q o _ f bG (λj x J=>by
       grind [El,T.cells]) e1
      rw[ky cs _ _ (by omega)]at U
      exact⟨_,mX (cs:=bz B f (P.cellsOf t)) c (ky _ _ _ (by omega)) (V _),SV.mkAgg_ok U⟩
     .cases e
    .cases e
   |false=>
    simp only[xH,if_false,xB]at e
    obtain⟨X,M,e⟩:=e;obtain⟨x,W,E,m3⟩:=IS (K:=k.get) C q o (T.cC M) e
    refine⟨x,tE c (o.cell W).2,?_⟩
    cases X with
    |d y=>
     obtain⟨rfl,N⟩:=D.sv1_ok e;exact VV.one E N
    |own Z=>simp only[im,xJ]at e;subst e;exact E
    |agg l=>simp[im]at e
    |dead=>simp[im]at e
  .cases e
 .rename_i b cs O
  replace hu:=Gq O hu
  simp only[xB]at e
  obtain⟨I,c,e⟩:=e;obtain⟨a,Q,rfl,h2,h3,h4,h5⟩:=hu;have m:=aR.len _ _ h5;simp only[Instr.loadAt,Instr.sureAddr,Sem.run_bind,Sem.run_pure,Result.andThen_ok]
  cases I with
  |true=>
   simp only[if_true]at e
   split at e
   .rename_i s
    simp only[xJ]at e
    subst e
    refine⟨_,mX (cs:=Q.take (P.cellsOf t)) c (by simp;omega) (λj x J=>h4 j x ?_),?_⟩
    .grind
    .have:=aR.bz cs Q h5 0 (P.cellsOf t)
     simp only[bz,jg]at this
     exact VV.agg (by simpa using this)
   .cases e
  |false=>
   simp only[xH,if_false,xB]at e
   obtain⟨x,Y,e⟩:=e;obtain⟨rfl,N⟩:=D.sv1_ok e;obtain⟨y,W,E⟩:=aR.get cs Q h5 0 x Y
   exact⟨y,tE c (by grind [Addr.add,am]),VV.one E N⟩
 .cases e
theorem VN{a ct:T}{b:Nat}{q:dR}{es:J T}(h1:a.cell b=some ct)(h2:ct.at q=some (.own es)):tB a=true:=by
 have:∃l,ct=.own l:=by
  cases ct with
  |own l=>exact⟨l,rfl⟩
  |d x=>cases q <;>simp[T.at]at h2
  |agg l=>cases q <;>simp[T.at]at h2
  |dead=>cases q <;>simp[T.at]at h2
 obtain⟨l,rfl⟩:=this
 cases a with
 |own e=>rfl
 |agg c=>
  simp only[T.cell]at h1
  simp only[tB,List.any_eq_true]
  exact⟨_,yS h1,rfl⟩
 |d x=>cases x <;>simp[T.cell]at h1
 |dead=>simp[T.cell]at h1
theorem MF{X b vs:J Vz}{a c off N:Nat}(g:X.take N=(X.take N).take a++b++(X.take N).drop (a+c))(ha:((X.take N).take a).length=a)(h1:b.length=c)(hf:off+vs.length<=c):
  (X.take (a+off)++vs++X.drop (a+off+vs.length)).take N=(X.take N).take a++(b.take off++vs++b.drop (off+vs.length))++(X.take N).drop (a+c):=by
 have d:=congrArg List.length g;simp only[xP,yR,we]at d ha
 have f:∀j,j<c->b[j]? =X[a+j]? :=λj i=>by
  have l:(X.take N)[a+j]? =b[j]? :=by
   rw[g,xK,xN (by simp;omega)]
   simp only[yR];rw[show a+j - min a (min N X.length)=j by omega,xO (by omega)]
  grind
 apply rm;intro j
 by_cases k:j<a
 .grind
 .by_cases h:j<a+c
  .have e:((X.take N).take a++(b.take off++vs++b.drop (off+vs.length))++(X.take N).drop (a+c))[j]? =(b.take off++vs++b.drop (off+vs.length))[j - a]? :=by
    rw[xK,xN (by simp;omega)]
    simp only[yR];rw[show j - min a (min N X.length)=j - a by omega,xO (by simp;omega)]
   rw[e,xU,if_pos (by omega)]
   by_cases h3:j<a+off
   .rw[xK,xO (by simp;omega),xK,xO (by simp;omega)]
    simp only[xU];rw[if_pos h3,if_pos (by omega),f _ (by omega)]
    congr 1;omega
   .by_cases h4:j<a+off+vs.length
    .rw[xK,xN (by simp;omega),xO (by simp;omega),xK,xN (by simp;omega),xO (by simp;omega)]
     congr 1;simp;omega
    .rw[xN (by simp;omega),xN (by simp;omega)]
     simp only[xP,yR,jA];rw[f _ (by omega)]
     congr 1;omega
  .have e:((X.take N).take a++(b.take off++vs++b.drop (off+vs.length))++(X.take N).drop (a+c))[j]? =(X.take N)[j]? :=by
    rw[xN (by simp;omega),jA]
    congr 1;simp;omega
   rw[e,xU,xU];split
   .rw[xN (by simp;omega),jA]
    congr 1;simp;omega
   .rfl
theorem kY(w:Wz)(g b:Nat)(cs:Array Vz)(h:b≠g):(w.setRow g cs).heap[b]? =w.heap[b]? :=by
 grind [World.setRow]
theorem KR.write{r:aj}{t t':T}{p:dR}{i off:Nat}{v:Vz}{es:J T}{Z el':T}{g cap:Nat}{m:Array Vz}{ty:TypeId}{c:Nat}{c1 vs:J Vz}{L Sn R L1 Se R1:J Nat}{M:J Nat}{o:Nat}
  (h:KR A ρ S hd (M++fl) k ay w) (hr:k.get r=some t) (al:t.at p=some (.own es)) (l:Place (am A k.H.length ρ S (M++fl) w) t (hd r) (S r) p i o v es Z g cap m ty c c1 L Sn R L1 Se R1)
  (hf:off+vs.length<=c) (a7:el'.nc=Z.nc) (hp:t.put p (.own (es.set i el'))=some t') (hs:k.set r t'=some k') {La Mb Rc:J Nat} (ao:Se=La++Mb++Rc)
  (aq:∀c',Ext (am A k.H.length ρ S (M++fl) w) c'->Kept (am A k.H.length ρ S (M++fl) w) c' (La++M++Rc)->TC c' el' (c1.take off++vs++c1.drop (off+vs.length)) (La++M++Rc)):
  let w':=w.setRow g (m.toList.take (i * c+off)++vs++m.toList.drop (i * c+off+vs.length)).toArray
  let s:=if tB Z then k'.tell (.cI r (p.length+1))else k'
  ∃S',KR A ρ S' hd fl s ay w'/\Ext (am A k.H.length ρ S (M++fl) w) (am A k.H.length ρ S' fl w'):=by
 intro w' s;obtain⟨g1,g2,g3,g4⟩:=Wk.c9 hs ⟨t,hr,λ_ _=>trivial⟩
 have G:=l.hS;rw[l.hSn,ao]at G
 have e1:S r=(L++g::(L1++La))++Mb++(Rc++R1++R):=by rw[G];simp
 have d1:=h.bw.drop e1;have d2:=Dis.attach (r:=r) (L:=L++g::(L1++La)) (M:=M) (R:=Rc++R1++R) (fl:=fl) d1 (by simp)
 have e2:upd (upd S r ((L++g::(L1++La))++(Rc++R1++R))) r ((L++g::(L1++La))++M++(Rc++R1++R))=upd S r ((L++g::(L1++La))++M++(Rc++R1++R)):=by
  funext x;simp only[upd];split <;>rfl
 rw[e2]at d2
 have ag:∀b,bT (upd S r ((L++g::(L1++La))++M++(Rc++R1++R))) fl b->bT S (M++fl) b:=λb C=>by
  rw[<-e2]at C
  exact bT.drop e1 ((bT.attach (r:=r) (L:=L++g::(L1++La)) (M:=M) (R:=Rc++R1++R) (by simp)).1 C)
 have Q:g∈S r:=by rw[G];simp
 have B:∀b,b≠g->w'.heap[b]? =w.heap[b]? :=λb C=>kY w g b _ C
 have ws:WS S (M++fl) w (upd S r ((L++g::(L1++La))++M++(Rc++R1++R))) fl w':=
  ⟨rfl,rfl,rfl,by simp[w'],λb _ hn=>B b (λe=>hn (.inl ⟨r,e▸Q⟩)),λb C=>.inl (ag b C),cH.other (g:=g) B (λr=>by rw[show w.heap[g]? =_ from l.hg];simp)⟩
 have ext:Ext (am A k.H.length ρ S (M++fl) w) (am A k.H.length ρ (upd S r ((L++g::(L1++La))++M++(Rc++R1++R))) fl w'):=ws.ext (dC _) (λ_ _=>rfl)
 have aN:=h.bw.nd r;rw[G]at aN
 have K:∀b,b∈L\/b∈L1\/b∈La\/b∈Mb\/b∈Rc\/b∈R1\/b∈R->b≠g:=λb C e=>by
  grind
 have a3:∀b,b∈M->b≠g:=λb C e=>h.bw.cq r g Q (by grind)
 have ai:w'.heap[g]? =some (.cells (m.toList.take (i * c+off)++vs++m.toList.drop (i * c+off+vs.length)).toArray ty (0,0)):=setRow_heap w g m _ ty _ l.hg;have il:=(List.getElem?_eq_some_iff.1 l.hel).1;have aJ:es.length * c<=m.size:=fj (jf _ l.hle) l.hcur
 have a5:i * c+c<=es.length * c:=by
  have:(i+1) * c<=es.length * c:=jf _ il
  rwa [iT,Nat.one_mul]at this
 have D:∀b∈L++R,w'.heap[b]? =w.heap[b]? :=λb C=>B b (K b (by grind))
 have X:TC (am A k.H.length ρ (upd S r ((L++g::(L1++La))++M++(Rc++R1++R))) fl w') (.own (es.set i el')) [.slice (some ⟨g,0,none⟩) es.length cap] (g::(L1++(La++M++Rc)++R1)):=by
  simp only[TC];refine .inr ⟨g,cap,_,ty,c,L1++(La++M++Rc)++R1,by grind,rfl,ai,by rw[oY];exact l.hle,l.cK,?_,by rw[oY];exact Nat.mul_pos (by omega) l.bP,?_⟩
  .simp only[List.size_toArray,xP,yR,we,yF]
   have:=l.hcur
   omega
  .rw[oY]
   have:=MF (vs:=vs) (off:=off) l.hcs l.hci l.hc1 hf
   simp only at this |-
   rw[this];refine TE.put ext il l.hL1 l.hR1 (λb C=>B b (K b (by grind))) ?_ (aq _ ext (λb C=>B b ?_))
   .simp only[xP,yR,we,l.hc1];omega
   grind
 have V:=l.df.put _ _ t' _ ext D hp X;have eS:L++g::(L1++(La++M++Rc)++R1)++R=(L++g::(L1++La))++M++(Rc++R1++R):=by simp
 rw[eS]at V
 have get:∀f,s.get f=if f=r then some t' else k.get f:=λf=>by
  show s.get f=_;rw[<-g1];simp only[s];split <;>rfl
 have hH:s.H=k'.H:=by simp only[s];split <;>rfl
 have u:∀f,f≠r->∀b∈S f,w'.heap[b]? =w.heap[b]? :=λf d b C=>B b (λe=>d (h.bw.one f r b C (e▸Q)))
 have hold:∀f q,(f=r->tB Z=true->q.length<p.length+1)->wV (am A k.H.length ρ S (M++fl) w) (am A k.H.length ρ (upd S r ((L++g::(L1++La))++M++(Rc++R1++R))) fl w') k.get s.get hd hd f q:=λf q hq=>by
  by_cases d:f=r
  .subst d
   intro t0 aL b1 b2;rw[hr]at b1
   simp only[xJ]at b1
   subst b1
   obtain⟨a4,o1,o2,o3⟩:=l.df.oth (am A k.H.length ρ (upd S f ((L++g::(L1++La))++M++(Rc++R1++R))) fl w') (.own (es.set i el')) t' (λU=>∀b x,U≠(i,b)::x) D hp rfl (λU aM hQ ha=>by
    cases U with
    |nil=>
     simp only[T.at,xJ,T.own.injEq]at ha
     subst ha
     refine⟨_,rfl,⟨by simp,λj x P=> ?_⟩,λ_ hh=>hh⟩
     by_cases hj:i=j
     .subst hj
      rw[l.hel]at P
      grind
     grind
    |cons ab U=>
     obtain⟨a,b⟩:=ab;have N:a≠i:=λe=>hQ b U (by rw[e])
     simp only[T.at,xB]at ha
     obtain⟨x,P,y,hy,ha⟩:=ha;have aC:(es.set i el')[a]? =some x:=by rw[rj (Ne.symm N)];exact P
     refine⟨aM,by grind [T.at],bg.refl _,λh1 hh=> ?_⟩
     simp only[aI]at hh |-
     obtain⟨g',ad,af,aS,e',a2,ct,cv,n1,n2,n3,n4,n5,n6⟩:=hh;simp only[Value.slice.injEq,xJ,Addr.mk.injEq,and_true]at n1
     obtain⟨n1,_,_⟩:=n1;subst n1;have aH:=l.hg;rw[aH]at n2
     simp only[xJ,Obj.cells.injEq,and_true]at n2
     obtain⟨n2,_⟩:=n2;subst n2;rw[P]at n3
     simp only[xJ]at n3
     subst n3;rw[hy]at n4
     simp only[xJ]at n4
     subst n4
     have av:x.nc=c:=by
      obtain⟨_,_,k2,_⟩ |⟨g0,aT,aQ,e0,a0,S0,k1,k2,k3,k4,k5,k6,k7,k8⟩:=l.df.tc
      .grind
      .have:=(TE.len _ _ _ _ k8).2
       rw[this x (yS P),<-this Z (yS l.hel),l.hnc]
     have aZ:=T.bW hy;have aW:=(List.getElem?_eq_some_iff.1 P).1
     have E:a * c+b<i * c+off\/i * c+off+vs.length<=a * c+b:=by
      obtain aa |ac:=Nat.lt_or_gt_of_ne N
      .left
       have:(a+1) * c<=i * c:=jf _ aa
       grind
      .right
       have:(i+1) * c<=a * c:=jf _ ac
       grind
     have aP:(m.toList.take (i * c+off)++vs++m.toList.drop (i * c+off+vs.length))[a * c+b]? =m[a * c+b]? :=by
      obtain q |q:=E
      .grind [xO]
      .rw[xN (by simp;omega),jA]
       simp only[xP,yR,yF];rw[show i * c+off+vs.length+(a * c+b - (min (i * c+off) m.size+vs.length))=a * c+b by omega]
       simp
     rw[av]at n5
     obtain⟨W,St,f1,f2,f3⟩:∃W St,m[a * c+b]? =some W/\TC (am A k.H.length ρ S (M++fl) w) y [W] St/\∀z∈St,z∈L1\/z∈R1:=by
      obtain aa |ac:=Nat.lt_or_gt_of_ne N
      .obtain⟨W,St,f1,f2,f3⟩:=TE.sub l.hL1 (n:=a) (t:=x) (by grind) hy
       refine⟨W,St,?_,f2,λz hz=>.inl (f3 z hz)⟩
       grind
      .obtain⟨W,St,f1,f2,f3⟩:=TE.sub l.hR1 (n:=a - (i+1)) (t:=x) (by rw[jA,show i+1+(a - (i+1))=a by omega];exact P) hy
       refine⟨W,St,?_,f2,λz hz=>.inr (f3 z hz)⟩
       rw[jA]at f1
       have e3:i * c+c+((a - (i+1)) * c+b)=a * c+b:=by
        have:a=(a - (i+1))+i+1:=by omega
        conv=>rhs;rw[this]
        simp only[iT];omega
       simp_all [xU]
     rw[n5]at f1
     simp only[xJ]at f1
     subst f1
     exact⟨g,ad,af,_,ty,x,y,cv,by simp_all,ai,aC,hy,by grind,aI.ext U y cv h1 St f2 (λz hz=>B z (K z (by grind))) n6⟩) q aL (λU an=>by
    subst an;intro b x ax;subst ax;rw[T.at_append,al]at b2
    simp only[xS,T.at,l.hel,xB]at b2
    obtain⟨ct,a1,a6⟩:=b2
    grind [VN]) b2
   grind
  .exact h.hold _ (by grind) rfl (u f d) q
 refine⟨_,⟨λf t0 I=> ?_,λf I hm=> ?_,h.obj,λn ob he O=> ?_,d2,ws.bU h,λpr ah=> ?_,ws.frm h,h.Fold,by rw[hH,g2];exact h.cP⟩,ext⟩
 .rw[hH,g2]
  rw[get]at I
  by_cases d:f=r
  .grind [eo]
  .rw[if_neg d]at I
   rw[dG _ _ d];exact TC.ext ext _ _ _ (u f d) (h.cont f t0 I)
 .rw[get]at I
  by_cases d:f=r
  .grind
  .rw[if_neg d]at I
   rw[dG _ _ d]
   exact h.gone f I (λn ob e aY=>by
    grind)
 .rw[hH]at he |-
  rw[g2];have ak:=(g4 n ob O).1 he
  have d:(aj.o n)≠r:=by
   rintro rfl
   cases ob <;>simp[Wk.get,Go.Am.cont,ak,Ob.plain]at hr O
  exact(h.map n ob ak O).ext ext (u _ d) (dG _ _ d) rfl
 .rw[hH,g2]
  by_cases Y:tB Z=true
  .have e3:aU s.tr pr.1=(Tr.cI r (p.length+1)).sv (aU k.tr pr.1):=by
    simp only[s,Y,if_true,Wk.tell,g3];exact rH _ _ _
   rw[e3];exact SO.cI ext r (p.length+1) (λf q hq=>hold f q (λe _=>hq e)) (h.ay pr ah)
  .have e3:s.tr=k.tr:=by simp only[s,if_neg Y,g3]
   rw[e3];exact SO.aV ext (λf q=>hold f q (λ_ I=>absurd I Y)) (h.ay pr ah)
theorem Tb(h:KR A ρ S hd fl k ay w){nv:Nat}{t:TypeId}{a v:SV}{av vv:Vz}(ha:(a,av)∈ay)(hv:(v,vv)∈ay)(e:mT P nv t a v k=some k'):
  ∃w' S',(Instr.storeAt t av vv).run P w=.ok () w'/\KR A ρ S' hd fl k' ay w'/\k'.H.length=k.H.length:=by
 simp only[mT,xB]at e
 obtain⟨⟨x,k1⟩,e1,d⟩:=e;obtain⟨S1,M,E,g2,V,Y⟩:=Gm h hv e1;have o:=E.ay (a,av) ha;simp only at d o
 split at d
 .rename_i r p i off hl
  split at d
  .rename_i J
   obtain⟨J,aa⟩:=J;simp only[xB]at d
   obtain⟨t0,F,nd,u,d⟩:=d
   split at d
   .rename_i es
    simp only[xB]at d
    obtain⟨el,O,d⟩:=d;obtain⟨t1,ac,ad,g,ab,m,ty,s,Z,L,Sn,R,L1,Se,R1,H,U,l⟩:=Gn (λt=>E.cont r t) (AG E o hl F)
    rw[F]at H
    simp only[xJ]at H
    subst H;rw[u]at U
    simp only[xJ,T.own.injEq]at U
    subst U
    have:=l.hel
    rw[O]at this
    simp only[xJ]at this
    subst this
    split at d
    .rename_i D
     simp only[xB,xM]at d
     obtain⟨c',j,k2,f,hk⟩:=d;have z:vv.cells.toList.length=x.nc:=TC.len _ _ _ V;have hf:off+vv.cells.toList.length<=s:=by rw[z,<-l.hnc];exact D
     have N:=l.hv
     have n:i * s+off+vv.cells.toList.length<=m.size:=by
      have il:=(List.getElem?_eq_some_iff.1 l.hel).1;have h1:es.length * s<=m.size:=fj (jf _ l.hle) l.hcur;have h2:(i+1) * s<=es.length * s:=jf _ il;rw[iT,Nat.one_mul]at h2
      omega
     have q:(Instr.storeAt t av vv).run P w=.ok () (w.setRow g (m.toList.take (i * s+off)++vv.cells.toList++m.toList.drop (i * s+off+vv.cells.toList.length)).toArray):=by
      have G:∃B,P.info? t=some B:=by
       cases G:P.info? t with
       |none=>grind [Program.cellsOf]
       |some B=>grind
      obtain⟨B,G⟩:=G;have X:(sizeOf t).run P w=.ok (P.cellsOf t) w:=by simp[sizeOf,typeInfo,G,Program.cellsOf]
      have Q:=run_storeCells_at P g (i * s+off) ty vv.cells.toList 0 m w l.hg (by simpa using n) (TC.dt _ _ _ V)
      subst N;simp only[Instr.storeAt,Instr.sureAddr,Sem.run_bind,Sem.run_pure,Result.andThen_ok,storeVar,X];have W:¬(vv.cells.size≠P.cellsOf t):=by rw[<-yF,z,J];simp
      simp only[W,if_false]
      simpa using Q
     have C:k'=if tB el then k2.tell (.cI r (p.length+1))else k2:=hk.symm
     by_cases c:off=0/\x.nc=el.nc
     .rw[if_pos c]at j
      obtain⟨rfl,c⟩:=c
      obtain⟨S',I,w2⟩:=KR.write (vs:=vv.cells.toList) (off:=0) E F u l hf c j f (La:=[]) (Mb:=Se) (Rc:=[]) (by simp) (λc' K y=>by
       have e0:Z.take 0++vv.cells.toList++Z.drop (0+vv.cells.toList.length)=vv.cells.toList:=by
        rw[List.drop_of_length_le (by rw[l.hc1,z,c,l.hnc];omega)];simp
       grind [TC.ext])
      subst C
      refine⟨_,S',q,I,?_⟩
      rw[<-Y,<-uh f]
      split <;>rfl
     .rw[if_neg c]at j
      obtain⟨La,Mb,Rc,m1,m2⟩:=TC.setCells l.hte off x.nc;obtain⟨S',I,w2⟩:=KR.write (vs:=vv.cells.toList) (off:=off) E F u l hf (T.setCells_nc (by grind [T.cD])) j f m1 (λc' K y=>m2 c' _ _ M K (T.cD x) (TC.cells (TC.ext K _ _ _ (λb hb=>y b (by simp[hb])) V)) (λb hb=>y b (by grind)))
      subst C
      refine⟨_,S',q,I,?_⟩
      rw[<-Y,<-uh f]
      split <;>rfl
    .cases d
   .cases d
  .cases d
 .cases d
end
end Go.Am
namespace Go.Am
open Go Go.RowKit
section
variable{P:Pz}{A:Av}{ρ:Nat->Nat}{S:aj->J Nat}{hd:aj->Vz}{fl:J Nat}{k k':Wk}{ay:J (SV×Vz)}{w:Wz}
theorem KR.alloc{M:J Nat}(h:KR A ρ S hd (M++fl) k ay w)(o:Obj):KR A ρ S hd ((w.heap.size::M)++fl) k ay (w.alloc o)/\Ext (am A k.H.length ρ S (M++fl) w) (am A k.H.length ρ S ((w.heap.size::M)++fl) (w.alloc o)):=by
 have c:=h.bw.ndF;rw[xT]at c
 refine KR.world (w:=w) (w':=w.alloc o) rfl rfl rfl (by simp) (.old λb a=>Below.heap_alloc w o b a) h (λb a _=>Below.heap_alloc w o b a) (λb a=> ?_) ?_
 .obtain rfl |a:=List.mem_cons.1 a
  .simp_all
  grind
 .exact List.nodup_cons.2 ⟨λd=>absurd (h.bU w.heap.size (.inr (xL _ d))).1 (Nat.lt_irrefl _),c.1⟩
theorem KR.drew(h:KR A ρ S hd fl k ay w):KR A ρ S hd fl k ay w.drew/\Ext (am A k.H.length ρ S fl w) (am A k.H.length ρ S fl w.drew):=by
 have:=KR.world (w:=w) (w':=w.drew) (M:=[]) (M':=[]) rfl rfl rfl (dC _) (.old λ_ _=>rfl) (by simpa using h) (λ_ _ _=>rfl) (by simp) (by simp)
 grind
theorem zb{ob:Ob}(r:aj):({k with H:=k.H++[ob]}:Wk).get r=if r=.o k.H.length then(match ob with | .box x=>some (.own [x]) |_=>none)else k.get r:=by
 cases r with
 |l n j=>simp[Wk.get,Go.Am.cont]
 |o n=>
  grind [Wk.get,Go.Am.cont]
theorem KR.newOb{N:J Nat}(h:KR A ρ S hd (N++fl) k ay w)(ob:Ob)(g:Nat)(hb:∀x,ob=.box x->TC (am A k.H.length ρ S (N++fl) w) (.own [x]) [.slice (some ⟨g,0,none⟩) 1 1] N)
  (I:ob.plain=true->∃M,N=g::M/\ObOK (am A k.H.length ρ S (N++fl) w) g M ob) (hl:ob≠ .lock):
  KR A (λo=>if o=k.H.length then g else ρ o) (upd S (.o k.H.length) N) (upd hd (.o k.H.length) (.slice (some ⟨g,0,none⟩) 1 1)) fl {k with H:=k.H++[ob]} ay w/\
   Ext (am A k.H.length ρ S (N++fl) w) (am A (k.H.length+1) (λo=>if o=k.H.length then g else ρ o) (upd S (.o k.H.length) N) fl w):=by
 have i:k.get (.o k.H.length)=none:=by simp[Wk.get,Go.Am.cont]
 have j:S (.o k.H.length)=[]:=h.gone _ i (λn C e f=>by
  grind)
 have E:=Dis.attach (r:=.o k.H.length) (L:=[]) (R:=[]) (M:=N) (fl:=fl) h.bw (by simpa using j)
 simp only[gG,gj]at E
 have l:∀b,bT (upd S (.o k.H.length) N) fl b->bT S (N++fl) b:=λb hb=>by
  have:=(bT.attach (S:=S) (r:=.o k.H.length) (L:=[]) (R:=[]) (M:=N) (fl:=fl) (b:=b) (by simpa using j)).1 (by simpa using hb)
  exact this
 have G:WS S (N++fl) w (upd S (.o k.H.length) N) fl w:=WS.stay l;have ext:Ext (am A k.H.length ρ S (N++fl) w) (am A (k.H.length+1) (λo=>if o=k.H.length then g else ρ o) (upd S (.o k.H.length) N) fl w):=G.ext (by omega) (λo U=>by grind)
 have d:({k with H:=k.H++[ob]}:Wk).H.length=k.H.length+1:=by simp
 refine⟨⟨λr t0 c=> ?_,λr c D=> ?_,λm=> ?_,λm B f u=> ?_,E,G.bU h,λp K=> ?_,h.fr,h.Fold,?_⟩,ext⟩
 .rw[d]
  rw[zb]at c
  split at c
  .rename_i e;subst e
   rw[eo,eo]
   split at c
   .rename_i x
    simp only[xJ]at c
    subst c;exact TC.ext ext _ _ _ (λ_ _=>rfl) (hb x rfl)
   .cases c
  .rename_i e
   rw[dG _ _ e,dG _ _ e];exact TC.ext ext _ _ _ (λ_ _=>rfl) (h.cont r t0 c)
 .rw[zb]at c
  split at c
  .rename_i e;subst e
   exfalso
   cases ob with
   |box x=>cases c
   |lock=>exact hl rfl
   |map C=>grind [Ob.plain]
   |iter s p=>grind [Ob.plain]
   |bY m=>grind [Ob.plain]
   |frame X T x y Q V=>grind [Ob.plain]
   |row C=>grind [Ob.plain]
   |sset Z=>grind [Ob.plain]
  .rename_i e
   rw[dG _ _ e];refine h.gone r c (λn ob P f=>D n ob P ?_)
   grind
 .by_cases a:m=k.H.length
  .grind [eo]
  .rw[dG _ _ (by simpa using a),if_neg a];exact h.obj m
 .rw[d]
  by_cases a:m=k.H.length
  .subst a
   simp only[xN (dC _),rz,yE,xJ]at f
   subst f;obtain⟨M,W,O⟩:=I u;have v:(λo=>if o=k.H.length then g else ρ o) k.H.length=g:=if_pos rfl
   refine⟨M,by grind [eo],?_⟩
   rw[v];exact O.ext ext rfl (λ_ _=>rfl)
  .have z:m<k.H.length:=by
    have:=(List.getElem?_eq_some_iff.1 f).1
    simp at this;omega
   simp only at f;rw[xO z]at f
   exact(h.map m B f u).ext ext (λ_ _=>rfl) (dG _ _ (by simpa using a)) (if_neg a)
 .rw[d]
  refine SO.aV ext (λr q=> ?_) (h.ay p K)
  by_cases v:r=.o k.H.length
  .subst v
   intro t C Y _
   grind
  .exact h.hold _ (by grind [zb]) (dG _ _ v) (λ_ _=>rfl) q
 .have:=h.cP
  grind
theorem x_{c:Cx}{t:T}{cs:J Vz}{M:J Nat}{g:Nat}{ty:TypeId}(ht:TC c t cs M)(b:c.w.heap[g]? =some (.cells cs.toArray ty (0,0)))(h0:0<t.nc):TC c (.own [t]) [.slice (some ⟨g,0,none⟩) 1 1] (g::M):=by
 have a:=TC.len _ _ _ ht;simp only[TC];refine .inr ⟨g,1,cs.toArray,ty,t.nc,M,rfl,rfl,b,dC _,by decide,by simp[a],by simpa using h0,?_⟩
 simp only[TE]
 grind [gy]
theorem Q7{h:Hint}{dst:Nat}{x:T}{M:J Nat}{cs:Array Vz}{ty:TypeId}{sv:SV}(hk:KR A ρ S hd (M++fl) k ay w)(ht:TC (am A k.H.length ρ S (M++fl) w) x cs.toList M)(e:Gc h dst x k=some (sv,k')):
  ∃ρ' S' hd',KR A ρ' S' hd' fl k' ay (w.alloc (.cells cs ty))/\SO (am A k'.H.length ρ' S' fl (w.alloc (.cells cs ty))) k'.get hd' sv (.pointer (some ⟨w.heap.size,0,none⟩)):=by
 unfold Gc at e
 split at e
 .cases e
 .rename_i l
  obtain⟨d,m⟩:=hk.alloc (.cells cs ty);have o:=TC.ext m _ _ _ (λb c=>Below.heap_alloc w _ b (hk.bU b (.inr (by simp[c]))).1) ht
  have c:=x_ (g:=w.heap.size) (ty:=ty) o (by simpa [am]using heap_alloc_new w _) (by omega)
  split at e
  .simp only[xJ,pJ]at e
   obtain⟨rfl,rfl⟩:=e;obtain⟨a,i⟩:=d.newOb (.box x) w.heap.size (λy p=>by grind) (λf=>by cases f) (by simp)
   refine⟨_,_,_,a,?_⟩
   refine VV.one ?_ (by simp)
   grind [VC,am]
  .simp only[xJ,pJ]at e
   obtain⟨rfl,rfl⟩:=e;obtain⟨a,i⟩:=d.du (n:=dst) (j:=0) c
   refine⟨ρ,_,_,a,?_⟩
   exact⟨.own [x],[x],w.heap.size,1,1,x,by simp[Wk.get,Wk.new,Go.Am.cont,fc],rfl,by simp[aI],rfl,by omega,by simp⟩
theorem IT{c:Cx}{v:Vz}{x:D}(h:D.ofCell v=some x):VC c x [v]/\∀l,x≠ .agg l:=by
 unfold D.ofCell at h
 grind [VC]
theorem Gr{c:Cx}:∀(vs:J Vz) (l:J D),vs.mapM D.ofCell=some l->aR c l vs
 | [],l,h=>by grind [aR]
 |v::vs,l,h=>by
  simp only[List.mapM_cons,Option.pure_def,Option.bind_eq_bind,xB,xJ]at h
  obtain⟨x,a,r,b,rfl⟩:=h;simp only[aR]
  exact⟨v,vs,rfl,(IT a).1,Gr vs r b⟩
theorem mD{c:Cx}{v:Vz}{x:D}(h:D.ofVal v=some x):VV c x v:=by
 unfold D.ofVal at h
 split at h
 .grind [xM,VV.agg,Gr]
 grind [IT,VV.one]
theorem lJ{t:TypeId}{z:D}(h:dS P t=some z):∃i a,P.info? t=some i/\i.zero=some a/\D.ofVal a=some z/\∀w:Wz,(zeroValue t).run P w=.ok a w:=by
 simp only[dS,xB]at h
 obtain⟨a,⟨i,b,c⟩,h3⟩:=h
 simp_all [zeroValue,typeInfo]
theorem MG{c:Cx}:∀(l:J D) (cs:J Vz),aR c l cs->a9 c (l.map T.ofD1) cs []
 | [],cs,h=>by grind [aR,a9]
 |d::b,cs,h=>by
  simp only[aR]at h
  obtain⟨v,r,rfl,a,h3⟩:=h;simp only[eG,a9]
  refine⟨v,r,[],[],rfl,rfl,?_,MG b r h3⟩
  cases d <;>first |grind [T.ofD1,TC] |skip
  simp only[VC]at a
  exact .inl ⟨none,a,rfl,rfl⟩
theorem B4{c:Cx}{z:D}{cs:J Vz}(h:VC c z cs):TC c (T.cj z) cs []:=by
 unfold T.cj;split
 .grind [VC,MG,TC]
 .cases z <;>first |grind [T.ofD1,TC] |skip
  simp only[VC]at h
  exact .inl ⟨none,h,rfl,rfl⟩
theorem Tc:maxLen=9223372036854775807:=rfl
theorem B5{n:Nat}(h:n<=9223372036854775807):n<=maxLen:=by rw[Tc];exact h
theorem Gs{c:Cx}{t:T}{b:J Vz}{a:Nat}(ht:TC c t b [])(hz:b.length=a):∀(n:Nat) (cs:J Vz),cs.length=n * a->(∀j,j<n * a->cs[j]? =b[j % a]?)->TE c (List.replicate n t) a cs []
 |0,cs,d,_=>by
  grind [TE]
 |n+1,cs,d,f=>by
  simp only[List.replicate_succ,TE];have e:(n+1) * a=a+n * a:=by rw[iT];omega
  rw[e]at d f
  refine⟨cs.take a,cs.drop a,[],[],(yP _ _).symm,rfl,by simp;omega,?_,Gs ht hz n _ (by simp;omega) (λj g=> ?_)⟩
  .have:cs.take a=b:=by
    apply rm;intro j;rw[xU];split
    .grind [Nat.mod_eq_of_lt]
    .grind
   rw[this];exact ht
  simp_all
theorem w7(z:Array Vz)(n j:Nat)(a:j<n)(hz:0<z.size):(madeCells z n).toList[j]? =z.toList[j % z.size]? :=by
 grind [Nat.mod_lt,madeCells]
theorem VO{c:Cx}{t:T}{z:Array Vz}{g:Nat}{ty:TypeId}{n m:Nat}(ht:TC c t z.toList [])(hz:0<z.size)(d:0<n)(a:n<=m)(b:m<=maxLen)(e:c.w.heap[g]? =some (.cells (madeCells z (m * z.size)) ty (0,0))):
  TC c (.own (List.replicate n t)) [.slice (some ⟨g,0,none⟩) n m] [g]:=by
 simp only[TC];refine .inr ⟨g,m,_,ty,z.size,[],by simp,rfl,e,by simpa using a,b,by simp[size_madeCells],by simp_all,?_⟩
 grind [jf,Gs,size_madeCells,w7]
theorem AI{dst:Nat}{es:J T}{hv:Vz}{c:Cx}{hd':aj->Vz}{k0:Wk}{M:J Nat}(ht:TC c (.own es) [hv] M)(k:hd' (.l dst 0)=hv):SO c (k0.new dst 0 (.own es)).get hd' (.aH (.l dst 0) [] 0 es.length) hv:=by
 refine⟨.own es,es,hv,by simp[Wk.get,Wk.new,Go.Am.cont,fc],rfl,by simp[aI,k],by omega,?_⟩
 obtain⟨a,d,g,_⟩ |⟨j,b,e,n,h,S',d,g,p,i,o,l,m,q⟩:=ht
 .simp only[xC,and_true]at d
  subst g
  exact⟨a,0,0,a,0,d,by simpa using d,dC _,λ_=>⟨rfl,dC _⟩,λf=>by simp at f⟩
 .simp only[xC,and_true]at d
  refine⟨_,es.length,b,_,b,d,d,i,λ_=>⟨rfl,dC _⟩,λf=> ?_⟩
  exact⟨j,es[0],rfl,by simp,by simp⟩
theorem VP{dst:Nat}{t:TypeId}{l c:SV}{lv u:Vz}{sv:SV}(h:KR A ρ S hd fl k ay w)(hl:SO (am A k.H.length ρ S fl w) k.get hd l lv)(hc:SO (am A k.H.length ρ S fl w) k.get hd c u)
  (e:Ga P dst t l c k=some (sv,k')):∃v w' ρ' S' hd',(Instr.makeSlice t lv u).run P w=.ok v w'/\KR A ρ' S' hd' fl k' ay w'/\SO (am A k'.H.length ρ' S' fl w') k'.get hd' sv v:=by
 unfold Ga at e
 split at e
 .rename_i I n H m
  simp only[xB]at e
  obtain⟨ty,D,z,O,e⟩:=e
  split at e
  .rename_i hh
   obtain⟨X,Y,J,F,a4,a5,Q⟩:=hh;simp only[xJ,pJ]at e
   obtain⟨rfl,rfl⟩:=e;obtain⟨i,p,x,b2,b3,_⟩:=lJ O
   have V:P.underlying t=some (.slice ty):=by
    unfold elemOf at D
    split at D
    .grind
    .cases D
   have y:lv=.int I n:=by simpa [VC]using VV.inv hl (by simp)
   have C:u=.int H m:=by simpa [VC]using VV.inv hc (by simp)
   subst y;subst C;have a:P.cellsOf ty=i.size:=by simp[Program.cellsOf,x]
   have o:P.bytesOf ty=i.bytes:=by simp[Program.bytesOf,x]
   rw[o]at F
   have s:=run_make (P:=P) w t ty i p V x b2 I H n m X Y F a4;have q:=mD (c:=am A k.H.length ρ S ([w.heap.size]++fl) (w.alloc (.cells (madeCells p.cells (m.toNat * i.size)) ty))) b3;have B:p.cells.size=i.size:=by rw[<-yF,VC.len _ _ q.1,Q,a]
   obtain⟨G,g2⟩:=KR.alloc (M:=[]) (by simpa using h) (.cells (madeCells p.cells (m.toNat * i.size)) ty)
   have r:0<p.cells.size:=by rw[B,<-a];exact a5
   have f:∃N,(N=[w.heap.size]\/N=[])/\TC (am A k.H.length ρ S ([w.heap.size]++fl) (w.alloc (.cells (madeCells p.cells (m.toNat * i.size)) ty))) (.own (List.replicate n.toNat (T.cj z))) [.slice (some ⟨w.heap.size,0,none⟩) n.toNat m.toNat] N:=by
    by_cases E:n=0
    .have K:=J E
     subst E;subst K
     exact⟨[],.inr rfl,.inl ⟨some ⟨w.heap.size,0,none⟩,rfl,rfl,rfl⟩⟩
    .exact⟨_,.inl rfl,VO (n:=n.toNat) (m:=m.toNat) (g:=w.heap.size) (ty:=ty) (B4 q.1) r (by omega) (by omega) (B5 (by omega)) (by grind [am,heap_alloc_new])⟩
   obtain⟨N,hN,f⟩:=f;have R:=G.bw.ndF;obtain⟨Z,W⟩:=G.letGo (fl':=N++fl) (by grind) (λb hb=>by grind)
   have d:=TC.ext W _ _ _ (λ_ _=>rfl) f
   obtain⟨U,L⟩:=Z.du (n:=dst) (j:=0) d
   refine⟨_,_,ρ,_,_,s,U,?_⟩
   have:=AI (dst:=dst) (k0:=k) (hd':=upd hd (.l dst 0) (.slice (some ⟨w.heap.size,0,none⟩) n.toNat m.toNat)) (TC.ext L _ _ _ (λ_ _=>rfl) d) (by simp)
   rw[List.length_replicate]at this
   exact this
  .cases e
 .cases e
end
end Go.Am
