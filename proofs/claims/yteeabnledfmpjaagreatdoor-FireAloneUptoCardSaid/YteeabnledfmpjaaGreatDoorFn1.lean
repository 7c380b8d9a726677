/- A part of the proof: texts of mine, merged by a program (wip/dev/merge.py). -/
import Derived.Calls
import Derived.Orders
import Derived.WalkKit
import Derived.Lib.Bytealg
set_option linter.unusedSimpArgs false
set_option linter.unusedVariables false
theorem xB:type_of% @Option.bind_eq_some_iff:= @Option.bind_eq_some_iff
theorem xM:type_of% @Option.map_eq_some_iff:= @Option.map_eq_some_iff
theorem xJ:type_of% @Option.some.injEq:= @Option.some.injEq
theorem pJ:type_of% @Prod.mk.injEq:= @Prod.mk.injEq
theorem xG:type_of% @List.getElem?_eq_getElem:= @List.getElem?_eq_getElem
theorem xS:type_of% @Option.bind_some:= @Option.bind_some
theorem xA:type_of% @Bool.and_eq_true:= @Bool.and_eq_true
theorem xC:type_of% @List.cons.injEq:= @List.cons.injEq
theorem xD:type_of% @List.mem_append:= @List.mem_append
theorem xF:type_of% @Option.map_eq_bind:= @Option.map_eq_bind
theorem xH:type_of% @Bool.false_eq_true:= @Bool.false_eq_true
theorem xK:type_of% @List.append_assoc:= @List.append_assoc
theorem xL:type_of% @List.mem_append_left:= @List.mem_append_left
theorem xR:type_of% @List.mem_append_right:= @List.mem_append_right
theorem xN:type_of% @List.getElem?_append_right:= @List.getElem?_append_right
theorem xO:type_of% @List.getElem?_append_left:= @List.getElem?_append_left
theorem xP:type_of% @List.length_append:= @List.length_append
theorem xQ:type_of% @Option.map_some:= @Option.map_some
theorem xT:type_of% @List.nodup_append:= @List.nodup_append
theorem xU:type_of% @List.getElem?_take:= @List.getElem?_take
theorem xV:type_of% @Int.toNat_natCast:= @Int.toNat_natCast
theorem xW:type_of% @List.drop_eq_getElem_cons:= @List.drop_eq_getElem_cons
theorem xX:type_of% @Option.bind_assoc:= @Option.bind_assoc
theorem xY:type_of% @List.mem_cons:= @List.mem_cons
theorem xZ:type_of% @List.length_cons:= @List.length_cons
theorem yA:type_of% @Nat.lt_of_lt_of_le:= @Nat.lt_of_lt_of_le
theorem yB:type_of% @Array.getD_eq_getD_getElem? := @Array.getD_eq_getD_getElem?
theorem yD:type_of% @decide_eq_true_eq:= @decide_eq_true_eq
theorem yE:type_of% @List.getElem?_cons_zero:= @List.getElem?_cons_zero
theorem yF:type_of% @Array.length_toList:= @Array.length_toList
theorem yG:type_of% @List.any_eq_false:= @List.any_eq_false
theorem yI:type_of% @List.length_eq_one_iff:= @List.length_eq_one_iff
theorem yJ:type_of% @Option.isNone_iff_eq_none:= @Option.isNone_iff_eq_none
theorem yK:type_of% @List.getElem?_set_self:= @List.getElem?_set_self
theorem yL:type_of% @List.eq_nil_of_length_eq_zero:= @List.eq_nil_of_length_eq_zero
theorem yM:type_of% @Array.getElem?_toList:= @Array.getElem?_toList
theorem yN:type_of% @List.length_nil:= @List.length_nil
theorem yO:type_of% @List.getElem?_append:= @List.getElem?_append
theorem yP:type_of% @List.take_append_drop:= @List.take_append_drop
theorem yQ:type_of% @List.mem_singleton:= @List.mem_singleton
theorem yR:type_of% @List.length_take:= @List.length_take
theorem yS:type_of% @List.mem_of_getElem? := @List.mem_of_getElem?
theorem dB:type_of% @Nat.le_refl:=@Nat.le_refl
theorem pE:type_of% @List.map_append:=@List.map_append
theorem ez:type_of% @Int.natCast_zero:=@Int.natCast_zero
theorem eO:type_of% @List.getElem_mem:=@List.getElem_mem
theorem gr:type_of% @List.take_of_length_le:=@List.take_of_length_le
theorem F2:type_of% @List.map_take:=@List.map_take
theorem eJ:type_of% @List.map_cons:=@List.map_cons
theorem OW:type_of% @List.map_drop:=@List.map_drop
theorem BR:type_of% @List.map_set:=@List.map_set
theorem ff:type_of% @Nat.le_trans:=@Nat.le_trans
theorem gC:type_of% @Option.getD_some:=@Option.getD_some
theorem eD:type_of% @Nat.zero_le:=@Nat.zero_le
theorem gf:type_of% @List.append_nil:=@List.append_nil
theorem gD:type_of% @List.nil_append:=@List.nil_append
theorem fp:type_of% @Nat.zero_add:=@Nat.zero_add
theorem i5:type_of% @Nat.mul_le_mul_right:=@Nat.mul_le_mul_right
theorem hJ:type_of% @List.take_length:=@List.take_length
theorem io:type_of% @List.all_eq_true:=@List.all_eq_true
theorem jq:type_of% @List.getElem?_drop:=@List.getElem?_drop
theorem iq:type_of% @Bool.or_eq_true:=@Bool.or_eq_true
theorem gF:type_of% @Nat.lt_or_ge:=@Nat.lt_or_ge
theorem lL:type_of% @List.getElem?_eq_none:=@List.getElem?_eq_none
theorem oK:type_of% @List.getElem?_cons_succ:=@List.getElem?_cons_succ
theorem oL:type_of% @Classical.byContradiction:=@Classical.byContradiction
theorem i6:type_of% @List.drop_zero:=@List.drop_zero
theorem ir:type_of% @List.map_nil:=@List.map_nil
theorem lM:type_of% @List.map_congr_left:=@List.map_congr_left
theorem jr:type_of% @List.take_zero:=@List.take_zero
theorem mY:type_of% @List.range_eq_range':=@List.range_eq_range'
theorem lN:type_of% @List.cons_append:=@List.cons_append
theorem kE:type_of% @Nat.le_max_right:=@Nat.le_max_right
theorem kF:type_of% @Option.elim_none:=@Option.elim_none
theorem mZ:type_of% @List.getElem_of_mem:=@List.getElem_of_mem
theorem qX:type_of% @Nat.add_sub_cancel_left:=@Nat.add_sub_cancel_left
theorem lO:type_of% @List.length_map:=@List.length_map
theorem lP:type_of% @Array.toList_inj:=@Array.toList_inj
theorem iN:type_of% @Nat.add_mul:=@Nat.add_mul
theorem lQ:type_of% @Nat.le_max_left:=@Nat.le_max_left
theorem qY:type_of% @Bool.or_eq_false_iff:=@Bool.or_eq_false_iff
theorem qZ:type_of% @Array.mem_toList_iff:=@Array.mem_toList_iff
theorem kG:type_of% @List.all_cons:=@List.all_cons
theorem j0:type_of% @List.mem_map:=@List.mem_map
theorem j3:type_of% @List.map_map:=@List.map_map
theorem Ea:type_of% @Array.getElem?_setIfInBounds_ne:=@Array.getElem?_setIfInBounds_ne
theorem vV:type_of% @Option.or_eq_none_iff:=@Option.or_eq_none_iff
theorem oM:type_of% @Option.elim_some:=@Option.elim_some
theorem kH:type_of% @Nat.add_zero:=@Nat.add_zero
theorem vW:type_of% @List.getElem?_set_ne:=@List.getElem?_set_ne
theorem m8:type_of% @Option.none_or:=@Option.none_or
theorem q8:type_of% @Bool.not_eq_true':=@Bool.not_eq_true'
theorem oN:type_of% @List.length_set:=@List.length_set
theorem oO:type_of% @Nat.min_eq_left:=@Nat.min_eq_left
theorem Eb:type_of% @List.perm_append_comm_assoc:=@List.perm_append_comm_assoc
theorem lR:type_of% @Nat.le_of_lt:=@Nat.le_of_lt
theorem m9:type_of% @Bool.true_and:=@Bool.true_and
theorem rc:type_of% @Nat.le_add_right:=@Nat.le_add_right
theorem oP:type_of% @List.drop_drop:=@List.drop_drop
theorem Ec:type_of% @List.getD_eq_getElem?_getD:=@List.getD_eq_getElem?_getD
theorem vX:type_of% @Array.toList_push:=@Array.toList_push
theorem Ao:type_of% @List.mem_of_mem_take:=@List.mem_of_mem_take
theorem Ap:type_of% @List.mem_cons_of_mem:=@List.mem_cons_of_mem
theorem vY:type_of% @Function.comp_def:=@Function.comp_def
theorem oQ:type_of% @Int.lt_irrefl:=@Int.lt_irrefl
theorem Ed:type_of% @List.take_succ_cons:=@List.take_succ_cons
theorem Ee:type_of% @Nat.pos_of_mul_pos_left:=@Nat.pos_of_mul_pos_left
theorem vZ:type_of% @List.length_drop:=@List.length_drop
theorem v7:type_of% @List.range'_succ:=@List.range'_succ
theorem v8:type_of% @List.drop_length:=@List.drop_length
theorem na:type_of% @Nat.le_succ:=@Nat.le_succ
theorem Aq:type_of% @Nat.eq_zero_or_pos:=@Nat.eq_zero_or_pos
theorem Ar:type_of% @Option.isSome_some:=@Option.isSome_some
theorem As:type_of% @List.ext_getElem?:=@List.ext_getElem?
theorem re:type_of% @Nat.sub_self:=@Nat.sub_self
theorem v9:type_of% @Nat.add_assoc:=@Nat.add_assoc
theorem kI:type_of% @Prod.ext:=@Prod.ext
namespace Go.Am
open Go
abbrev J.{u}:=List.{u}
abbrev U.{u}:=Option.{u}
abbrev Pz:=Program
abbrev Vz:=Value
abbrev Wz:=World
abbrev Oz:=Operand
abbrev Qz:=Oper
inductive D where
 |int (k:IntKind) (n:Int)
 |bool (b:Bool)
 |str (s:List UInt8)
 |aJ
 |sl (b:Bool) (l:List D)
 |agg (l:List D)
 |cQ
 |ptr (o:Nat)
 |df
 |map (o:Nat)
 |cX
 |fn (f:Fn) (first cap:List D)
 |bW
 |iface (t:TypeId) (x:D)
 |bQ (cs:List D)
 |yld (o:Nat)
 deriving Inhabited
inductive T where
 |d (x:D)
 |own (es:List T)
 |agg (cs:List T)
 |dead
 deriving Inhabited
abbrev dP:=J (Nat×Nat)
inductive aj where
 |l (n k:Nat)
 |o (n:Nat)
 deriving DecidableEq,Inhabited
inductive SV where
 |d (x:D)
 |aG (r:aj) (p:dP) (off len:Nat)
 |loc (r:aj) (p:dP) (i off:Nat)
 |rp (b:Bool) (cs:List D)
 |clip (b:Bool) (l:List D)
 |ns (b:Bool)
 |agg (l:List SV)
 |aS (l:List SV)
 |dead
 deriving Inhabited
inductive Ob where
 |box (c:T)
 |map (es:List (D×T))
 |iter (s:List UInt8) (p:Nat)
 |bY (m:Option Nat)
 |frame (g:FuncId) (ps:List Nat) (a b:Code) (env:List (Nat×SV)) (ct:List ((Nat×Nat)×T))
 |lock
 |row (es:List T)
 |sset (ks:List (List UInt8))
 deriving Inhabited
structure St where
 env:List (Nat×SV)
 ct:List ((Nat×Nat)×T)
 H:List Ob
inductive OT where
 |leaf
 |node (i j:Nat) (a b:OT)
structure Hint where
 nv:Nat
 cB:List Nat:=[]
 aV:List Nat:=[]
 lits:List Nat:=[]
 own:Bool:=false
 live:Nat->List Nat
 nilt:Nat:=0
 ro:List Nat:=[]
 gl:Nat->Option D:=λ_=>none
 cO:List Nat:=[]
 rcv:Bool:=false
 nest:Bool:=false
 emp:List Nat:=[]
 self:Nat:=0
 ext:Option (List D->Option (List T)):=none
 lkn:List Nat:=[]
 swp:Nat->Option OT:=λ_=>none
 mv:List Nat:=[]
def Hint.nvAt(h:Hint)(dst:Nat):Nat:=if h.emp.contains dst=true then 1099511627776 else h.nv
abbrev D.i(n:Int):D:=.int .i64 n
def D.nc:D->Nat
 | .agg l=>l.length
 |_=>1
def D.cells:D->J D
 | .agg l=>l
 |x=>[x]
def T.cells:T->J T
 | .d (.agg l)=>l.map .d
 | .agg a=>a
 |x=>[x]
def T.nc:T->Nat
 | .d x=>x.nc
 | .agg a=>a.length
 |_=>1
def T.cell(t:T)(off:Nat):U T:=
 match t with
 | .agg a=>a[off]?
 | .d (.agg l)=>(l[off]?).map .d
 |x=>if off=0 then some x else none
def T.bG:List T->Option (List D)
 | []=>some []
 | .d x::r=>(T.bG r).map (x::·)
 |_::_=>none
def T.bt(l:J T):T:=match T.bG l with |some a=>.d (.agg a) |none=>.agg l
def T.setCells(t:T)(off:Nat)(vs:J T):T:=T.bt (t.cells.take off++vs++t.cells.drop (off+vs.length))
def T.aT(e:T)(off:Nat)(c:T):T:=
 match e with
 |.d (.agg _)|.agg _=>e.setCells off [c]
 |_=>c
def T.at:T->dP->Option T
 |t,[]=>some t
 | .own b,(i,a)::p=>(b[i]?).bind λe=>(e.cell a).bind λc=>c.at p
 |_,_::_=>none
def T.put:T->dP->T->Option T
 |_,[],x=>some x
 | .own b,(i,a)::p,x=>(b[i]?).bind λe=>(e.cell a).bind λc=>(c.put p x).map λc'=>
   .own (b.set i (e.aT a c'))
 |_,_::_,_=>none
def D.br:D->D
 | .aJ=>.sl false []
 |x=>x
def D.norm:D->D
 | .agg l=>.agg (l.map D.br)
 |x=>x.br
mutual
def T.cP(b:Bool):T->Option D
 | .d x=>some x.norm
 | .own a=>(T.aY b a).map (.sl b)
 | .agg c=>(T.aY b c).map .agg
 | .dead=>none
def T.aY(b:Bool):List T->Option (List D)
 | []=>some []
 |t::r=>(T.cP b t).bind λx=>(T.aY b r).map (x::·)
end
mutual
def D.cW:D->Bool
 | .sl b l=> !b&&D.aZ l
 | .agg l=>D.aZ l
 | .fn _ a c=>D.aZ a&&D.aZ c
 | .iface _ x=>x.cW
 | .bQ _=>false
 |_=>true
def D.aZ:List D->Bool
 | []=>true
 |x::r=>x.cW&&D.aZ r
end
mutual
def T.cW:T->Bool
 | .d x=>x.cW
 | .own a=>T.aZ a
 | .agg b=>T.aZ b
 | .dead=>true
def T.aZ:List T->Bool
 | []=>true
 |x::r=>x.cW&&T.aZ r
end
mutual
def D.bX:D->D
 | .sl _ l=>.sl true (D.bl l)
 | .agg l=>.agg (D.bl l)
 | .fn f a c=>.fn f (D.bl a) (D.bl c)
 | .iface t x=>.iface t x.bX
 | .bQ l=>.bQ (D.bl l)
 |x=>x
def D.bl:List D->List D
 | []=>[]
 |x::r=>x.bX::D.bl r
end
def canon(sn:Bool)(l:J D):J D:=if sn=false/\D.aZ l=true then l else D.bl l
mutual
def D.low(n:Nat):D->Bool
 |.ptr o|.map o=>o<n
 |.sl _ l|.agg l=>D.aQ n l
 | .fn _ a c=>D.aQ n a&&D.aQ n c
 | .iface _ x=>x.low n
 | .bQ l=>D.aQ n l
 | .yld o=>o<n
 |_=>true
def D.aQ(n:Nat):List D->Bool
 | []=>true
 |x::r=>x.low n&&D.aQ n r
end
mutual
def T.low(n:Nat):T->Bool
 | .d x=>x.low n
 | .own a=>T.aQ n a
 | .agg b=>T.aQ n b
 | .dead=>true
def T.aQ(n:Nat):List T->Bool
 | []=>true
 |x::r=>x.low n&&T.aQ n r
end
mutual
def SV.low(n:Nat):SV->Bool
 | .d x=>x.low n
 |.aG (.o o) _ _ _|.loc (.o o) _ _ _=>o<n
 | .rp _ a=>D.aQ n a
 | .clip _ l=>D.aQ n l
 |.agg l|.aS l=>SV.aQ n l
 |_=>true
def SV.aQ(n:Nat):List SV->Bool
 | []=>true
 |x::r=>x.low n&&SV.aQ n r
end
def Ob.low(n:Nat):Ob->Bool
 | .box c=>c.low n
 | .map a=>a.all λe=>e.1.low n&&e.2.low n
 | .iter _ _=>true
 | .bY m=>match m with |some o=>o<n |none=>true
 | .frame _ _ _ _ b d=>b.all (λp=>p.2.low n)&&d.all λp=>p.2.low n
 | .lock=>true
 | .row a=>T.aQ n a
 | .sset _=>true
def Ob.plain:Ob->Bool
 |.map _|.iter _ _|.bY _|.frame ..|.row _|.sset _=>true
 |_=>false
def D.ofCell:Vz->U D
 | .bool b=>some (.bool b)
 | .int k n=>some (.int k n)
 | .string s=>some (.str s.data.toList)
 | .pointer none=>some .cQ
 | .slice none 0 0=>some .aJ
 | .map none=>some .df
 | .nilFunc=>some .cX
 | .nilIface=>some .bW
 |_=>none
def D.ofVal:Vz->U D
 | .agg a=>(a.toList.mapM D.ofCell).map .agg
 |v=>D.ofCell v
def T.ofD1:D->T
 | .aJ=>.own []
 |x=>.d x
def T.cj:D->T
 | .agg l=>if l.any (λx=>match x with | .aJ=>true |_=>false)then .agg (l.map T.ofD1)else .d (.agg l)
 |x=>T.ofD1 x
def SV.cells:SV->J SV
 | .d (.agg l)=>l.map .d
 | .agg l=>l
 | .aS _=>[.dead]
 |x=>[x]
def SV.nc:SV->Nat
 | .d x=>x.nc
 | .agg l=>l.length
 |_=>1
def SV.bG:List SV->Option (List D)
 | []=>some []
 | .d x::r=>(SV.bG r).map (x::·)
 |_::_=>none
def SV.bt(l:J SV):SV:=match SV.bG l with |some a=>.d (.agg a) |none=>.agg l
def oE(P:Pz)(t:TypeId):U Bool:=match P.underlying t with |some (.struct _) |some (.array _ _)=>some true |some _=>some false |none=>none
def elemOf(P:Pz)(t:TypeId):U TypeId:=match P.underlying t with |some (.slice e)=>some e |_=>none
def dx(P:Pz)(t:TypeId)(f:Nat):U (Nat×Nat×Bool):=
 match P.underlying t with
 |some (.struct b)=>(b[f]?).bind λx=>(oE P x.type).map λa=>(x.offset,P.cellsOf x.type,a)
 |_=>none
def dQ(P:Pz)(t:TypeId):U D:=((P.info? t).bind (·.zero)).bind D.ofVal
inductive Tr where
 |kill (r:aj) (p:dP)
 |cG (r:aj) (n:Nat)
 |cP (r:aj) (p:dP) (l:List D)
 |dm (a b:Nat×Nat)
 |bL
mutual
def Tr.sv(x:Tr):SV->SV
 | .aG r p c d=>
  match x with
  | .kill e f=>if r=e then(if p=f then .dead else if f.length<p.length then .dead else .aG r p c d)else .aG r p c d
  | .cG e n=>if r=e/\n<=p.length then .dead else .aG r p c d
  | .cP e f l=>if r=e then(if p=f then .d (.sl false ((l.drop c).take d))else if f.length<p.length then .dead else .aG r p c d)else .aG r p c d
  | .dm a b=>if r=.l a.1 a.2 then .aG (.l b.1 b.2) p c d else .aG r p c d
  | .bL=>match r with | .o _=>.dead |_=>.aG r p c d
 | .loc r p i c=>
  match x with
  | .kill e f=>if r=e then(if p=f then .dead else if f.length<p.length then .dead else .loc r p i c)else .loc r p i c
  | .cG e n=>if r=e/\n<=p.length then .dead else .loc r p i c
  | .cP e f _=>if r=e then(if p=f then .dead else if f.length<p.length then .dead else .loc r p i c)else .loc r p i c
  | .dm a b=>if r=.l a.1 a.2 then .loc (.l b.1 b.2) p i c else .loc r p i c
  | .bL=>match r,p with | .o _,_::_=>.dead |_,_=>.loc r p i c
 | .agg l=>.agg (Tr.bF x l)
 | .aS l=>.aS (Tr.bF x l)
 |v=>v
def Tr.bF(x:Tr):List SV->List SV
 | []=>[]
 |v::r=>x.sv v::Tr.bF x r
end
def Tr.env(x:Tr)(e:J (Nat×SV)):J (Nat×SV):=e.map λp=>(p.1,x.sv p.2)
def trs:List Tr->List (Nat×SV)->List (Nat×SV)
 | [],e=>e
 |x::r,e=>trs r (x.env e)
def look{a:Type}(l:List (Nat×a))(t:Nat):Option a:=
 match l with
 | []=>none
 |(k,v)::r=>if k=t then some v else look r t
def eZ{a:Type}(l:List ((Nat×Nat)×a))(t:Nat×Nat):Option a:=
 match l with
 | []=>none
 |(k,v)::r=>if k=t then some v else eZ r t
def St.get(s:St)(t:Nat):SV:=(look s.env t).getD .dead
def Mg:Oz->SV
 | .const v=>match D.ofVal v with |some x=>.d x |none=>.dead
 | .func f=>.d (.fn (.func f) [] [])
 |_=>.dead
def St.val(s:St):Oz->SV
 | .tmp t=>s.get t
 |x=>Mg x
def cont(ct:J ((Nat×Nat)×T))(H:J Ob):aj->U T
 | .l n k=>eZ ct (n,k)
 | .o n=>match H[n]? with |some (.box c)=>some (.own [c]) |_=>none
structure Wk where
 ct:List ((Nat×Nat)×T)
 H:List Ob
 tr:List Tr:=[]
def Wk.get(k:Wk)(r:aj):U T:=cont k.ct k.H r
def Wk.set(k:Wk)(r:aj)(t:T):Option Wk:=
 match r with
 | .l n j=>some {k with ct:=((n,j),t)::k.ct}
 | .o n=>match t with
  | .own [c]=>some {k with H:=k.H.set n (.box c)}
  |_=>none
def Wk.tell(k:Wk)(x:Tr):Wk:={k with tr:=k.tr++[x]}
def Wk.new(k:Wk)(n j:Nat)(t:T):Wk:={k with ct:=((n,j),t)::k.ct,tr:=k.tr++[.kill (.l n j) []]}
def bw{a:Type}(l:J a)(off len:Nat):J a:=(l.drop off).take len
def dL(nv:Nat)(v:SV)(k:Wk):U (T×Wk):=
 match v with
 | .d x=>some (.d x,k)
 | .clip b l=>some (.d (.sl b l),k)
 | .ns _=>some (.d (.sl false []),k)
 | .aG r p a d=>
  (k.get r).bind λc=>(c.at p).bind λf=>
   match f with
   | .own e=>
    match r,p with
    | .l n j,[]=>
     if nv<=n/\a=0/\d=e.length then(k.set (.l n j) .dead).map λ(k:Wk)=>(.own e,k.tell (.kill (.l n j) []))
     else(T.aY false e).bind λl=>(k.set r .dead).map λ(k:Wk)=>(.d (.sl false (bw l a d)),k.tell (.cP r [] l))
    |r,p=>(T.aY false e).bind λl=>(c.put p (.d (.sl false l))).bind λc'=>(k.set r c').map λ(k:Wk)=>(.d (.sl false (bw l a d)),k.tell (.cP r p l))
   |_=>none
 |_=>none
def aU:List Tr->SV->SV
 | [],v=>v
 |x::r,v=>aU r (x.sv v)
def gG(nv:Nat):List SV->Wk->Option (List T×Wk)
 | [],k=>some ([],k)
 |v::r,k=>(dL nv (aU k.tr v) k).bind λ(t,k)=>(gG nv r k).map λ(a,k)=>(t::a,k)
def fR(nv:Nat)(v:SV)(k:Wk):U (T×Wk):=
 match v with
 | .agg l=>(gG nv l k).map λ(a,k)=>(T.bt a,k)
 |v=>dL nv (aU k.tr v) k
def D.sv1:D->U SV
 | .agg _=>none
 |x=>some (.d x)
def ib(r:aj)(p:dP)(i off:Nat):T->U SV
 | .d x=>x.sv1
 | .own a=>some (.aG r (p++[(i,off)]) 0 a.length)
 |_=>none
def j4(r:aj)(p:dP)(i:Nat):Nat->List T->Option (List SV)
 |_,[]=>some []
 |a,c::b=>(ib r p i a c).bind λv=>(j4 r p i (a+1) b).map (v::·)
def bD:SV->SV
 | .d (.ptr o)=>.loc (.o o) [] 0 0
 | .d (.bQ a)=>.rp true a
 |v=>v
def gY(P:Pz)(t:TypeId)(v:SV)(k:Wk):U SV:=
 match bD v with
 | .loc r p i a=>
  (k.get r).bind λc=>(c.at p).bind λg=>
   match g with
   | .own f=>(f[i]?).bind λe=>(oE P t).bind λd=>
    if d then
     match e with
     | .d (.agg l)=>if a+P.cellsOf t<=l.length then some (.d (.agg (bw l a (P.cellsOf t))))else none
     | .agg b=>if a+P.cellsOf t<=b.length then(j4 r p i a (bw b a (P.cellsOf t))).map SV.bt else none
     |_=>none
    else(e.cell a).bind (ib r p i a)
   |_=>none
 | .rp _ b=>(oE P t).bind λd=>
  if d then(if P.cellsOf t<=b.length then some (.d (.agg (b.take (P.cellsOf t))))else none)
  else(b[0]?).bind D.sv1
 |_=>none
def tW(dst:Nat)(v:SV)(k:Wk):U (SV×Wk):=
 match v with
 | .aG r p 0 a=>
  (k.get r).bind λc=>(c.at p).bind λd=>match d with
   | .own b=>if a=b.length/\p≠[]then(c.put p .dead).bind λc'=>(k.set r c').map λ(k:Wk)=>(.aG (.l dst 0) [] 0 a,(k.tell (.kill r p)).new dst 0 (.own b))else none
   |_=>none
 |_=>none
def tm:T->Bool
 | .own _=>true
 | .agg a=>a.any λc=>match c with | .own _=>true |_=>false
 |_=>false
def T.fresh1:T->T
 | .d x=>T.ofD1 x
 |t=>t
def T.fresh:T->T
 | .d x=>T.cj x
 | .agg a=>.agg (a.map T.fresh1)
 |t=>t
def js(nv:Nat)(v:SV)(k:Wk):U (T×Wk):=(fR nv v k).map λp=>(p.1.fresh,p.2)
def mG(P:Pz)(nv:Nat)(t:TypeId)(a v:SV)(k:Wk):U Wk:=
 (js nv v k).bind λ(x,k)=>
 match bD (aU k.tr a)with
 | .loc r p i b=>
  if x.nc=P.cellsOf t/\0<x.nc then
   (k.get r).bind λc=>(c.at p).bind λf=>
    match f with
    | .own d=>(d[i]?).bind λe=>
     if b+x.nc<=e.nc then
      (c.put p (.own (d.set i (if b=0/\x.nc=e.nc then x else e.setCells b x.cells)))).bind λc'=>
       (k.set r c').map λ(k:Wk)=>if tm e then k.tell (.cG r (p.length+1))else k
     else none
    |_=>none
  else none
 |_=>none
def me(op:BinOp)(k:IntKind)(x y:Int):U D:=
 match op with
 | .add=>some (.int k (k.wrap (x+y)))
 | .sub=>some (.int k (k.wrap (x - y)))
 | .mul=>some (.int k (k.wrap (x * y)))
 | .quo=>if y=0 then none else some (.int k (k.wrap (x.tdiv y)))
 | .rem=>if y=0 then none else some (.int k (x.tmod y))
 | .and=>some (.int k (k.wrap (BitVec.ofInt k.bits x&&&BitVec.ofInt k.bits y).toNat))
 | .or=>some (.int k (k.wrap (BitVec.ofInt k.bits x ||| BitVec.ofInt k.bits y).toNat))
 | .xor=>some (.int k (k.wrap (BitVec.ofInt k.bits x ^^^ BitVec.ofInt k.bits y).toNat))
 | .andNot=>some (.int k (k.wrap (BitVec.ofInt k.bits x&&&~~~ BitVec.ofInt k.bits y).toNat))
 | .eql=>some (.bool (x==y))
 | .neq=>some (.bool (x !=y))
 | .lss=>some (.bool (decide (x<y)))
 | .leq=>some (.bool (decide (x<=y)))
 | .gtr=>some (.bool (decide (x >y)))
 | .geq=>some (.bool (decide (x>=y)))
 |_=>none
def QG(op:BinOp)(k:IntKind)(x y:Int):U D:=
 if y<0 then none else
 match op with
 | .shl=>some (.int k (k.wrap (x * 2 ^ (min y.toNat k.bits))))
 | .shr=>some (.int k (x.fdiv (2 ^ (min y.toNat k.bits))))
 |_=>none
def QH(op:BinOp)(x y:J UInt8):U D:=
 match op with
 | .add=>if x.length+y.length<=9223372036854775807 then some (.str (x++y))else none
 | .eql=>some (.bool (x==y))
 | .neq=>some (.bool (!(x==y)))
 | .lss=>some (.bool (Op.bytesLess x y))
 | .leq=>some (.bool (Op.bytesLess x y || x==y))
 | .gtr=>some (.bool (!(Op.bytesLess x y || x==y)))
 | .geq=>some (.bool (!Op.bytesLess x y))
 |_=>none
def iX(P:Pz)(t:TypeId):U Nat:=match P.underlying t with |some (.int _)=>some 0 |some .string=>some 1 |some .bool=>some 2 |_=>none
def eqK:Nat->D->D->U Bool
 |0,.int k a,.int k' b=>if k=k' then some (a==b)else none
 |1,.str a,.str b|2,.bool a,.bool b=>some (a==b)
 |_,_,_=>none
def tT:List Nat->List D->List D->Option Bool
 | [],[],[]=>some true
 |n::c,a::r,b::q=>(eqK n a b).bind λx=>(tT c r q).map (x&&·)
 |_,_,_=>none
def tX(P:Program):Nat->List Field->Option (List Nat)
 |_,[]=>some []
 |i,f::r=>if f.offset=i/\f.name≠ "_" then(iX P f.type).bind λn=>(tX P (i+1) r).map (n::·)else none
def rf(P:Pz)(t:TypeId):U (J Nat):=
 match P.underlying t with
 |some (.struct a)=>if P.stoodInHeld t=false/\P.eqGuardType P.depth t=false then tX P 0 a.toList else none
 |_=>none
def tY(P:Pz)(cst:Bool)(t:TypeId):D->SV->U Bool
 | .aJ,v=>match P.underlying t with
  |some (.slice _)=>(match v with | .d .aJ=>some true | .d (.sl _ (_::_))=>some false | .clip _ (_::_)=>some false | .ns b=>some b | .aG _ _ _ (_+1)=>some false |_=>none)
  |_=>none
 | .cQ,v=>match P.underlying t with
  |some (.pointer _)=>(match v with | .d .cQ=>some true | .d (.ptr _)=>some false | .d (.bQ _)=>some false | .loc .. =>some false | .rp .. =>some false |_=>none)
  |_=>none
 | .df,v=>match P.underlying t with
  |some (.map _ _)=>(match v with | .d .df=>some true | .d (.map _)=>some false |_=>none)
  |_=>none
 | .cX,v=>match P.underlying t with
  |some (.func _ _ _)=>(match v with | .d .cX=>some true | .d (.fn ..)=>some false |_=>none)
  |_=>none
 | .bW,v=>match P.underlying t with
  |some (.interface _)=>(match v with | .d .bW=>if cst then some true else none | .d (.iface ..)=>some false |_=>none)
  |_=>none
 |_,_=>none
def eqV(P:Pz)(cst:Bool)(t:TypeId)(x y:SV):U Bool:=
 match x,y with
 | .d (.bool a),.d (.bool b)=>match P.underlying t with |some .bool=>some (a==b) |_=>none
 | .d (.agg a),.d (.agg b)=>(rf P t).bind λc=>tT c a b
 |x,.d y=>match tY P cst t y x with
  |some b=>some b
  |none=>match x with | .d x=>tY P cst t x (.d y) |_=>none
 | .d x,y=>tY P cst t x y
 |_,_=>none
def gO(P:Pz)(cst:Bool)(op:BinOp)(t:TypeId)(x y:SV):U D:=
 match x,y with
 | .d (.int k a),.d (.int k' b)=>
  match op with
  | .shl | .shr=>QG op k a b
  |op=>if k=k' then me op k a b else none
 | .d (.str a),.d (.str b)=>QH op a b
 |x,y=>
  match op with
  | .eql=>(eqV P cst t x y).map .bool
  | .neq=>(eqV P cst t x y).map λb=>.bool (!b)
  |_=>none
def unE(op:UnOp):SV->U D
 | .d (.bool b)=>match op with | .not=>some (.bool (!b)) |_=>none
 | .d (.int k n)=>match op with | .neg=>me .sub k 0 n | .xor=>me .xor k (if k.signed then -1 else k.max) n |_=>none
 |_=>none
def F3(P:Pz)(a dst:TypeId):SV->U D
 | .d (.int _ n)=>match P.underlying a,P.underlying dst with
  |some _,some (.int k)=>some (.int k (k.wrap n))
  |_,_=>none
 |_=>none
def oR(k:Wk)(r:aj)(p:dP)(i off:Nat):Bool:=
 match (k.get r).bind (·.at p)with
 |some (.own a)=>(match a[i]? with |some e=>decide (off<e.nc) |none=>false)
 |_=>false
def gR(P:Pz)(t:TypeId)(x i:SV)(k:Wk):U SV:=
 match i with
 | .d (.int _ n)=>
  match P.underlying t with
  |some (.slice e)=>
   match x with
   |.d (.sl b l)|.clip b l=>if 0<=n then(l[n.toNat]?).bind λy=>if y.nc=P.cellsOf e then some (.rp b y.cells)else none else none
   | .aG r p a d=>
    if 0<=n/\n<d then
     (k.get r).bind λc=>(c.at p).bind λh=>match h with
      | .own g=>(g[a+n.toNat]?).bind λy=>if y.nc=P.cellsOf e then some (.loc r p (a+n.toNat) 0)else none
      |_=>none
    else none
   |_=>none
  |some (.array d e)=>
   match bD x with
   | .loc r p j a=>if 0<=n/\n<d/\(P.info? e).isSome/\oR k r p j (a+n.toNat * P.cellsOf e)then some (.loc r p j (a+n.toNat * P.cellsOf e))else none
   | .rp b f=>if 0<=n/\n<d/\(P.info? e).isSome then some (.rp b (f.drop (n.toNat * P.cellsOf e)))else none
   |_=>none
  |_=>none
 |_=>none
def eE(P:Pz)(t:TypeId)(x:SV)(f:Nat)(k:Wk):U SV:=
 (dx P t f).bind λ(o,n,_)=>
  if 0<n then
   match bD x with
   | .loc r p i a=>if oR k r p i (a+o)then some (.loc r p i (a+o))else none
   | .rp b c=>some (.rp b (c.drop o))
   |_=>none
  else none
def cell1:SV->U SV
 | .d (.agg _)=>none
 |x=>some x
def ab1(cs:J SV)(off n:Nat)(a:Bool):U SV:=
 if a then(if off+n<=cs.length then some (SV.bt (bw cs off n))else none)else(cs[off]?).bind cell1
def F4(P:Pz)(t:TypeId)(x:SV)(f:Nat):U SV:=
 (dx P t f).bind λ(o,n,a)=>
  match x with
  | .d (.agg l)=>if a then(if o+n<=l.length then some (.d (.agg (bw l o n)))else none)else(l[o]?).bind D.sv1
  | .agg l=>ab1 l o n a
  |_=>none
def tZ(P:Pz)(t:TypeId)(x i:SV):U SV:=
 match i with
 | .d (.int _ n)=>
  match x with
  | .d (.str s)=>match P.underlying t with
   |some .string=>if 0<=n then(s[n.toNat]?).map λb=>.d (.int .u8 b.toNat)else none
   |_=>none
  | .d (.agg l)=>match P.underlying t with
   |some (.array a e)=>if 0<=n/\n<a/\0<P.cellsOf e then
     (oE P e).bind λc=>(if c then(if n.toNat * P.cellsOf e+P.cellsOf e<=l.length then some (.d (.agg (bw l (n.toNat * P.cellsOf e) (P.cellsOf e))))else none)else(l[n.toNat * P.cellsOf e]?).bind D.sv1)else none
   |_=>none
  |_=>none
 |_=>none
def eU:U SV->Nat->U Nat
 |none,d=>some d
 |some (.d (.int _ n)),_=>if 0<=n then some n.toNat else none
 |_,_=>none
def headD(n:Nat):J D->Bool
 | []=>true
 |x::_=>x.nc==n
def IC(n:Nat):J T->Bool
 | []=>true
 |x::_=>x.nc==n
def tn(n:Nat)(r:aj)(p:dP)(o m:Nat)(k:Wk):Bool:=
 match (k.get r).bind λc=>c.at p with
 |some (.own a)=>IC n (bw a o m)
 |_=>false
def kh(P:Pz)(t:TypeId)(x:SV)(lo hi f:U SV)(k:Wk):U SV:=
 match x with
 | .d (.str s)=>match P.underlying t,f with
  |some .string,none=>(eU lo 0).bind λl=>(eU hi s.length).bind λh=>if l<=h/\h<=s.length then some (.d (.str (bw s l (h - l))))else none
  |_,_=>none
 | .d (.sl b d)=>match P.underlying t,f with
  |some (.slice e),none=>(eU lo 0).bind λl=>(eU hi d.length).bind λh=>if l<=h/\h<=d.length/\(P.info? e).isSome/\headD (P.cellsOf e) (bw d l (h - l))then some (.d (.sl b (bw d l (h - l))))else none
  |some (.slice e),some m=>(eU lo 0).bind λl=>(eU hi d.length).bind λh=>(eU (some m) 0).bind λm=>
    if l<=h/\h=m/\h<=d.length/\hi.isSome/\(P.info? e).isSome/\headD (P.cellsOf e) (bw d l (h - l))then some (.clip b (bw d l (h - l)))else none
  |_,_=>none
 | .d .aJ=>match P.underlying t,f with
  |some (.slice e),none=>(eU lo 0).bind λl=>(eU hi 0).bind λh=>if l=0/\h=0/\(P.info? e).isSome then some (.d .aJ)else none
  |some (.slice e),some m=>(eU lo 0).bind λl=>(eU hi 0).bind λh=>(eU (some m) 0).bind λm=>if l=0/\h=0/\m=0/\hi.isSome/\(P.info? e).isSome then some (.d .aJ)else none
  |_,_=>none
 | .aG r p a c=>match P.underlying t,f with
  |some (.slice e),none=>(eU lo 0).bind λl=>(eU hi c).bind λh=>if l<=h/\h<=c/\(P.info? e).isSome/\tn (P.cellsOf e) r p (a+l) (h - l) k then some (.aG r p (a+l) (h - l))else none
  |some (.slice e),some m=>(eU lo 0).bind λl=>(eU hi c).bind λh=>(eU (some m) 0).bind λm=>
    if l<=h/\h<=m/\m<=c/\hi.isSome/\(P.info? e).isSome/\tn (P.cellsOf e) r p (a+l) (h - l) k then some (.aG r p (a+l) (h - l))else none
  |_,_=>none
 |_=>none
def F5(P:Pz)(t:TypeId)(H:J Ob):SV->U Int
 | .d (.str s)=>match P.underlying t with |some .string=>some s.length |_=>none
 | .d .aJ=>match P.underlying t with |some (.slice _)=>some 0 |_=>none
 |.d (.sl _ l)|.clip _ l=>match P.underlying t with |some (.slice _)=>some l.length |_=>none
 | .ns _=>match P.underlying t with |some (.slice _)=>some 0 |_=>none
 | .aG _ _ _ a=>match P.underlying t with |some (.slice _)=>some a |_=>none
 | .d .df=>match P.underlying t with |some (.map _ _)=>some 0 |_=>none
 | .d (.map o)=>match P.underlying t,H[o]? with |some (.map _ _),some (.map b)=>some b.length |_,_=>none
 |_=>none
def fS:List T->Bool
 | []=>true
 | .d _::r=>fS r
 |_::_=>false
def fY(nv:Nat)(v:SV)(k:Wk):U (J T×Wk):=
 match v with
 | .d .aJ=>some ([],k)
 |.d (.sl _ l)|.clip _ l=>some (l.map .d,k)
 | .ns _=>some ([],k)
 | .aG r p a b=>
  (k.get r).bind λc=>(c.at p).bind λe=>match e with
   | .own d=>
    match r,p with
    | .l n j,[]=>if nv<=n/\a=0/\b=d.length then(k.set (.l n j) .dead).map λ(k:Wk)=>(d,k.tell (.kill (.l n j) []))
     else if fS (bw d a b)then some (bw d a b,k)else none
    |_,_=>if fS (bw d a b)then some (bw d a b,k)else none
   |_=>none
 |_=>none
def dW(n:Nat)(l:J T):Bool:=l.all λt=>t.nc==n
def QI(len:Nat)(es a:J T):Bool:=decide (len≠0) || es.isEmpty || !a.isEmpty
def qn(n:Nat)(b:J T)(v:SV)(k:Wk):U (J T×Wk):=
 match v with
 |.d .aJ|.clip _ []=>some ([],k)
 | .aG r p e a=>
  if e=0 then
   (k.get r).bind λc=>(c.at p).bind λf=>match f with
    | .own d=>if a<=d.length/\dW n d/\QI a d b then(c.put p .dead).bind λc'=>(k.set r c').map λ(k:Wk)=>(d.take a,k.tell (.kill r p))else none
    |_=>none
  else none
 |_=>none
def iu(P:Pz)(nv dst:Nat)(t:TypeId)(s x:SV)(k:Wk):U (SV×Wk):=
 (elemOf P t).bind λe=>(dQ P e).bind λz=>(fY nv x k).bind λ(a,k)=>
  if 0<P.cellsOf e/\dW (P.cellsOf e) a/\z.nc=P.cellsOf e then
   (qn (P.cellsOf e) a (aU k.tr s) k).bind λ(b,k)=>
    if(b.length+a.length) * P.bytesOf e<=140737488355328/\b.length+a.length<=9223372036854775807 then
     some (.aG (.l dst 0) [] 0 (b++a).length,k.new dst 0 (.own (b++a)))
    else none
  else none
def F6(P:Pz)(dst:Nat)(t:TypeId)(l c:SV)(k:Wk):U (SV×Wk):=
 match l,c with
 | .d (.int _ n),.d (.int _ m)=>
  (elemOf P t).bind λe=>(dQ P e).bind λz=>
   if 0<=n/\n<=m/\(n=0->m=0)/\(P.bytesOf e:Int) * m<=281474976710656/\m<=9223372036854775807/\0<P.cellsOf e/\z.nc=P.cellsOf e then
    some (.aG (.l dst 0) [] 0 n.toNat,k.new dst 0 (.own (List.replicate n.toNat (T.cj z))))
   else none
 |_,_=>none
def tp(l:List T):List (Nat×T)->Option (List T)
 | []=>some l
 |(i,t)::r=>if i<l.length then tp (l.set i t) r else none
def gg(nv:Nat):List (Nat×SV)->Wk->Option (List (Nat×T)×Wk)
 | [],k=>some ([],k)
 |(i,v)::r,k=>(fR nv v k).bind λ(t,k)=>(gg nv r k).map λ(a,k)=>((i,t)::a,k)
def isD:SV->Bool
 | .d _=>true
 |_=>false
def fZ(P:Pz)(nv dst:Nat)(b:Bool)(t:TypeId)(len:Nat)(a:J (Nat×SV))(k:Wk):U (SV×Wk):=
 (elemOf P t).bind λe=>(dQ P e).bind λz=>(gg nv a k).bind λ(d,k)=>
  if 0<P.cellsOf e/\d.all (λp=>p.2.nc==P.cellsOf e)/\len * P.cellsOf e<=16777216/\z.nc=P.cellsOf e then
   (tp (List.replicate len (T.cj z)) d).bind λc=>
    if b then(if a.all (λp=>isD p.2)then(T.aY false c).map λf=>(.d (.sl false f),k)else none)
    else some (.aG (.l dst 0) [] 0 len,k.new dst 0 (.own c))
  else none
def SV.solid:SV->Bool
 |.dead|.aS _=>false
 |_=>true
def dX(P:Pz)(t:TypeId):U (Nat ⊕ J (Nat×Nat)):=
 match P.underlying t with
 |some (.struct a)=>(a.toList.mapM λf=>(P.info? f.type).map λi=>(f.offset,i.size)).map .inr
 |some (.array _ e)=>(P.info? e).map λi=>.inl i.size
 |_=>none
def wb:Nat ⊕ J (Nat×Nat)->Nat->U (Nat×Nat)
 | .inl n,i=>some (i * n,n)
 | .inr l,i=>l[i]?
def Au(b:Nat ⊕ List (Nat×Nat)):List SV->List (Nat×SV)->Option (List SV)
 |a,[]=>some a
 |a,(i,v)::r=>(wb b i).bind λ(o,n)=>if v.solid/\v.nc=n/\o+n<=a.length then Au b (a.take o++v.cells++a.drop (o+n)) r else none
def BT(P:Pz)(t:TypeId)(a:J (Nat×SV)):U SV:=
 match dQ P t with
 |some (.agg z)=>(dX P t).bind λb=>(Au b (z.map .d) a).map SV.bt
 |_=>none
def ew(P:Pz)(kt:TypeId)(x y:D):U Bool:=
 match x,y with
 | .agg a,.agg b=>(rf P kt).bind λc=>tT c a b
 |x,y=>(iX P kt).bind λn=>eqK n x y
def jO(eq:D->D->Option Bool)(key:D):List (D×T)->Option (Option T)
 | []=>some none
 |e::r=>(eq key e.1).bind λb=>if b then some (some e.2)else jO eq key r
def qo(eq:D->D->Option Bool)(key:D)(v:T):List (D×T)->Option (List (D×T))
 | []=>some [(key,v)]
 |e::r=>(eq key e.1).bind λb=>if b then some ((key,v)::r)else(qo eq key v r).map (e::·)
def Mh(ks:J (J UInt8)):D->U (U T)
 | .str s=>some (if ks.contains s=true then some (.d (.bool true))else none)
 |_=>none
def BU(ks:J (J UInt8))(kd y:D):U (J (J UInt8)):=
 match kd,y with
 | .str s,.bool true=>some (s::ks)
 |_,_=>none
def mf(P:Pz)(t:TypeId):U (TypeId×TypeId):=match P.underlying t with |some (.map a e)=>some (a,e) |_=>none
def nb(P:Pz)(t:TypeId)(m key:SV)(f:Bool)(H:J Ob):U SV:=
 (mf P t).bind λ(c,e)=>
  match key with
  | .d a=>
   if(ew P c a a).isSome then
   (match m with
   | .d .df=>some none
   | .d (.map o)=>match H[o]? with |some (.map g)=>jO (ew P c) a g |some (.sset d)=>Mh d a |_=>none
   |_=>none).bind λr=>(dQ P e).bind λz=>
    (match r with |some (.d x)=>some (x,true) |some _=>none |none=>some (z,false)).map λ(x,b)=>if f then .aS [.d x,.d (.bool b)]else .d x
   else none
  |_=>none
def gX(P:Pz)(nv:Nat)(t:TypeId)(m key v:SV)(k:Wk):U Wk:=
 (mf P t).bind λ(d,_)=>
  match m,key with
  | .d (.map o),.d b=>if(ew P d b b).isSome then(fR nv v k).bind λ(x,k)=>match x,k.H[o]? with
   | .d y,some (.map a)=>(qo (ew P d) b (.d y) a).map λa=>{k with H:=k.H.set o (.map a)}
   | .own l,some (.map a)=>(qo (ew P d) b (.own l) a).map λa=>{k with H:=k.H.set o (.map a)}
   | .d y,some (.sset c)=>(BU c b y).map λc=>{k with H:=k.H.set o (.sset c)}
   |_,_=>none
   else none
  |_,_=>none
def F7(_:Pz)(_:Nat)(_:TypeId)(_ _:SV)(_:Wk):U (SV×Wk):=none
def q!:List (D×T)->Option (List (D×T))
 | []=>some []
 |e::r=>(T.cP false e.2).bind λx=>(q! r).map ((e.1,.d x)::·)
def atr:SV->U SV
 | .d x=>some (.d x.norm)
 |_=>none
def nN(_:Pz)(_:TypeId)(_ _:SV)(_:Wk):U (SV×Wk):=none
def F8(h:Hint)(dst:Nat)(x:T)(k:Wk):U (SV×Wk):=
 if x.nc=0 then none
 else if h.cB.contains dst then some (.d (.ptr k.H.length),{k with H:=k.H++[.box x]})
 else some (.loc (.l dst 0) [] 0 0,k.new dst 0 (.own [x]))
def fb(dst:Nat)(slice:Bool)(v:SV)(k:Wk):U (SV×Wk):=
 match v with
 | .d .aJ=>if slice then some (.aG (.l dst 0) [] 0 0,k.new dst 0 (.own []))else some (.d .aJ,k)
 | .aG (.l n j) [] 0 a=>
  if(n,j)=(dst,0)then some (.aG (.l n j) [] 0 a,k)else
  (k.get (.l n j)).bind λc=>match c with
   | .own b=>
    if a=b.length then some (.aG (.l dst 0) [] 0 a,({k with ct:=((n,j),.dead)::k.ct}.new dst 0 c).tell (.dm (n,j) (dst,0)))
    else some (.aG (.l n j) [] 0 a,k)
   |_=>none
 |v=>some (v,k)
def Sj:SV->SV->U D
 | .d (.int q a),.d (.int _ b)=>some (.int q (if b<a then b else a))
 |_,_=>none
def Sk:SV->SV->U D
 | .d (.int q a),.d (.int _ b)=>some (.int q (if b >a then b else a))
 |_,_=>none
def t5(P:Pz)(t:TypeId)(x:SV)(k:Wk):U (SV×Wk):=
 match P.underlying t,x with
 |some .string,.d (.str s)=>some (.d (.ptr k.H.length),{k with H:=k.H++[.iter s 0]})
 |some (.map _ _),.d .df=>some (.d (.ptr k.H.length),{k with H:=k.H++[.bY none]})
 |some (.map _ _),.d (.map o)=>match k.H[o]? with
  |some (.map _)=>some (.d (.ptr k.H.length),{k with H:=k.H++[.bY (some o)]})
  |_=>none
 |_,_=>none
def CZ(x:SV)(str:Bool)(k:Wk):U (SV×Wk):=
 match x with
 | .d (.ptr i)=>match k.H[i]?,str with
  |some (.iter s p),true=>
   if p<s.length then
    let r:=Utf8.decode ⟨s.toArray⟩ p
    some (.aS [.d (.bool true),.d (.i p),.d (.int .i32 r.1)],{k with H:=k.H.set i (.iter s (p+r.2))})
   else some (.aS [.d (.bool false)],k)
  |some (.bY none),false=>some (.aS [.d (.bool false)],k)
  |some (.bY (some m)),false=>match k.H[m]? with
   |some (.map [])=>some (.aS [.d (.bool false)],k)
   |_=>none
  |_,_=>none
 |_=>none
def mH(P:Pz)(t:TypeId):SV->U SV
 | .d x=>match P.underlying t with
  |some (.interface _)=>none
  |some _=>some (.d (.iface t x))
  |none=>none
 |_=>none
def rh(P:Pz)(u:TypeId)(a:Bool):SV->U SV
 | .d .bW=>match P.underlying u with
  |some (.interface _)=>none
  |some _=>if a then(dQ P u).map λz=>.aS [.d z,.d (.bool false)]else none
  |none=>none
 | .d (.iface t x)=>match P.underlying u with
  |some (.interface _)=>none
  |some _=>if t=u then some (if a then .aS [.d x,.d (.bool true)]else .d x)else if a then(dQ P u).map λz=>.aS [.d z,.d (.bool false)]else none
  |none=>none
 |_=>none
def isConst:Oz->Bool
 | .const _=>true
 |_=>false
def OX:D->Bool
 | .cX=>false
 |_=>true
mutual
def D.flat:D->Bool
 |.int _ _|.bool _|.str _=>true
 | .agg l=>D.flats l
 | .iface _ x=>x.flat
 |_=>false
def D.flats:List D->Bool
 | []=>true
 |x::r=>x.flat&&D.flats r
end
def lx(r:aj)(p:dP)(off:Nat)(xs:J D)(k:Wk):U Wk:=
 if xs=[]then some k else(k.get r).bind λc=>(c.at p).bind λb=>match b with
  | .own a=>if off+xs.length<=a.length/\dW 1 a=true/\fS a=true/\xs.all (λx=>x.nc==1)=true then(c.put p (.own (a.take off++xs.map .d++a.drop (off+xs.length)))).bind (k.set r)else none
  |_=>none
def t6:List T->Option (List D)
 | []=>some []
 | .d x::r=>if x.flat=true then(t6 r).map (x::·)else none
 |_=>none
def aj.past:aj->Nat
 | .l n _=>n+1
 | .o _=>0
def qp(v:SV)(k:Wk):U (J T):=match v with
 | .aG r p a b=>(fY r.past (.aG r p a b) k).map (·.1)
 |.d (.sl _ l)|.clip _ l=>some (l.map .d)
 |.d .aJ|.ns _=>some []
 |_=>none
def nP(P:Pz)(t:TypeId)(a b:SV)(k:Wk):U (SV×Wk):=
 match a with
 | .aG r p f d=>(elemOf P t).bind λe=>(qp b k).bind λc=>(t6 c).bind λg=>
  if P.cellsOf e=1/\dW 1 c=true then(lx r p f (g.take (Nat.min g.length d)) k).map λk'=>(.d (.int .i64 ((Nat.min g.length d:Nat):Int)),k')else none
 |_=>none
def opE(P:Pz)(h:Hint)(dst:Nat)(ty:TypeId)(op:Op)(ρ:Oz->SV)(k:Wk):U (SV×Wk):=
 match op with
 | .move x=>some (ρ x,k)
 | .assign x=>fb dst (elemOf P ty).isSome (ρ x) k
 | .pick c a b=>match ρ c with | .d (.bool t)=>some (if t then ρ a else ρ b,k) |_=>none
 | .alloc e=>(dQ P e).bind λz=>F8 h dst (T.cj z) k
 | .box e x=>(js h.nv (ρ x) k).bind λ(t,k)=>if t.nc=P.cellsOf e then F8 h dst t k else none
 | .build t d=>(BT P t (d.toList.map λp=>(p.1,ρ p.2))).map (·,k)
 | .buildSlice t A d=>fZ P h.nv dst (h.lits.contains dst) t A (d.toList.map λp=>(p.1,ρ p.2)) k
 | .load t (.global g)=>(h.gl g).bind λx=>if OX x=true then(gY P t (.rp true x.cells) k).map (·,k)else none
 | .load t a=>if h.lits.contains dst=true then(gY P t (ρ a) k).bind λv=>tW dst v k else(gY P t (ρ a) k).map (·,k)
 | .store t a v=>(mG P h.nv t (ρ a) (ρ v) k).map (.dead,·)
 | .nilCheck x=>match ρ x with | .loc r p i o=>some (.loc r p i o,k) | .rp b w=>some (.rp b w,k) | .d (.ptr o)=>some (.d (.ptr o),k) | .d (.bQ w)=>some (.d (.bQ w),k) | .d (.fn (.func f) a c)=>some (.d (.fn (.func f) a c),k) |_=>none
 | .binOp op t x y _=>(gO P (isConst x || isConst y) op t (ρ x) (ρ y)).map λy=>(.d y,k)
 | .unOp op _ x=>(unE op (ρ x)).map λy=>(.d y,k)
 | .convert s t x=>(F3 P s t (ρ x)).map λy=>(.d y,k)
 | .makeFunc f a c=>(SV.bG (a.toList.map ρ)).bind λa=>(SV.bG (c.toList.map ρ)).map λc=>(.d (.fn f a c),k)
 | .makeMap _ none=>some (.d (.map k.H.length),{k with H:=k.H++[if h.lits.contains dst=true then .sset []else .map []]})
 | .makeMap t (some n)=>match mf P t,ρ n with |some _,.d (.int _ _)=>some (.d (.map k.H.length),{k with H:=k.H++[.map []]}) |_,_=>none
 | .makeSlice t l c=>F6 P dst t (ρ l) (ρ c) k
 | .slice t x E D C=>(kh P t (ρ x) (E.map ρ) (D.map ρ) (C.map ρ) k).map (·,k)
 | .fieldAddr t x f=>(eE P t (ρ x) f k).map (·,k)
 | .field t x f=>(F4 P t (ρ x) f).map (·,k)
 | .indexAddr t x i=>(gR P t (ρ x) (ρ i) k).map (·,k)
 | .index t x i=>(tZ P t (ρ x) (ρ i)).map (·,k)
 | .lookup t m j q=>
  if h.lits.contains dst=true then(if q then none else F7 P dst t (ρ m) (ρ j) k)
  else if h.cB.contains dst=true then(if q then none else nN P t (ρ m) (ρ j) k)
  else(nb P t (ρ m) (ρ j) q k.H).map (·,k)
 |.mapUpdate t m j v|.insert t m j v=>(gX P h.nv t (ρ m) (ρ j) (ρ v) k).map (.dead,·)
 | .range t x=>t5 P t (ρ x) k
 | .next x B=>CZ (ρ x) B k
 | .makeInterface t x=>(mH P t (ρ x)).map (·,k)
 | .typeAssert x _ u q=>(rh P u q (ρ x)).map (·,k)
 | .extract x n=>match ρ x with | .aS l=>(l[n]?).map (·,k) |_=>none
 | .call {callee:=.builtin .len,args,argTypes}=>match args.toList,argTypes.toList with
  | [x],[t]=>(F5 P t k.H (ρ x)).map λn=>(.d (.int .i64 n),k)
  |_,_=>none
 | .call {callee:=.builtin .min,args,argTypes:=_}=>match args.toList with
  | [x,y]=>(Sj (ρ x) (ρ y)).map λn=>(.d n,k)
  |_=>none
 | .call {callee:=.builtin .max,args,argTypes:=_}=>match args.toList with
  | [x,y]=>(Sk (ρ x) (ρ y)).map λn=>(.d n,k)
  |_=>none
 | .call {callee:=.builtin .copy,args,argTypes}=>match args.toList,argTypes.toList with
  | [x,y],[t,_]=>nP P t (ρ x) (ρ y) k
  |_,_=>none
 | .call {callee:=.builtin .append,args,argTypes}=>match args.toList,argTypes.toList with
  | [x,y],[t,u]=>if t=u then iu P h.nv dst t (ρ x) (ρ y) k else none
  |_,_=>none
 |_=>none
mutual
def D.beq:D->D->Bool
 | .int k n,.int k' h=>decide (k=k')&&decide (n=h)
 | .bool b,.bool g=>decide (b=g)
 | .str s,.str p=>decide (s=p)
 | .aJ,.aJ=>true
 | .sl b l,.sl g d=>decide (b=g)&&D.cf l d
 | .agg l,.agg d=>D.cf l d
 | .cQ,.cQ=>true
 | .ptr o,.ptr e=>decide (o=e)
 | .df,.df=>true
 | .map o,.map e=>decide (o=e)
 | .cX,.cX=>true
 | .fn f a c,.fn m u c'=>decide (f=m)&&D.cf a u&&D.cf c c'
 | .bW,.bW=>true
 | .iface t x,.iface q j=>decide (t=q)&&D.beq x j
 | .bQ l,.bQ d=>D.cf l d
 | .yld o,.yld e=>decide (o=e)
 |_,_=>false
def D.cf:List D->List D->Bool
 | [],[]=>true
 |x::r,y::s=>D.beq x y&&D.cf r s
 |_,_=>false
end
mutual
theorem D.beq_eq:∀(x y:D),D.beq x y=true->x=y
 | .int k n,y,h=>by cases y <;>simp_all [D.beq]
 | .bool b,y,h=>by cases y <;>simp_all [D.beq]
 | .str s,y,h=>by cases y <;>simp_all [D.beq]
 | .aJ,y,h=>by grind [D.beq]
 | .sl b l,y,h=>by
  cases y <;>simp only[D.beq,xA,yD,xH]at h
  rw[h.1,D.bJ l _ h.2]
 | .agg l,y,h=>by
  cases y <;>simp only[D.beq,xH]at h
  rw[D.bJ l _ h]
 | .cQ,y,h=>by grind [D.beq]
 | .ptr o,y,h=>by cases y <;>simp_all [D.beq]
 | .df,y,h=>by grind [D.beq]
 | .map o,y,h=>by cases y <;>simp_all [D.beq]
 | .cX,y,h=>by grind [D.beq]
 | .fn f a c,y,h=>by
  cases y <;>simp only[D.beq,xA,yD,xH]at h
  rw[h.1.1,D.bJ a _ h.1.2,D.bJ c _ h.2]
 | .bW,y,h=>by grind [D.beq]
 | .iface t x,y,h=>by
  cases y <;>simp only[D.beq,xA,yD,xH]at h
  rw[h.1,D.beq_eq x _ h.2]
 | .bQ l,y,h=>by
  cases y <;>simp only[D.beq,xH]at h
  rw[D.bJ l _ h]
 | .yld o,y,h=>by cases y <;>simp_all [D.beq]
theorem D.bJ:∀(l m:List D),D.cf l m=true->l=m
 | [],m,h=>by grind [D.cf]
 |x::r,m,h=>by
  cases m with
  |nil=>simp[D.cf]at h
  |cons y s=>
   simp only[D.cf,xA]at h
   rw[D.beq_eq x y h.1,D.bJ r s h.2]
end
mutual
def T.beq:T->T->Bool
 | .d x,.d y=>D.beq x y
 |.own l,.own m|.agg l,.agg m=>T.cf l m
 | .dead,.dead=>true
 |_,_=>false
def T.cf:List T->List T->Bool
 | [],[]=>true
 |x::r,y::s=>T.beq x y&&T.cf r s
 |_,_=>false
end
mutual
theorem T.beq_eq:∀(x y:T),T.beq x y=true->x=y
 | .d x,y,h=>by
  cases y <;>simp only[T.beq,xH]at h
  rw[D.beq_eq x _ h]
 | .own l,y,h=>by
  cases y <;>simp only[T.beq,xH]at h
  rw[T.bJ l _ h]
 | .agg l,y,h=>by
  cases y <;>simp only[T.beq,xH]at h
  rw[T.bJ l _ h]
 | .dead,y,h=>by grind [T.beq]
theorem T.bJ:∀(l m:List T),T.cf l m=true->l=m
 | [],m,h=>by grind [T.cf]
 |x::r,m,h=>by
  cases m with
  |nil=>simp[T.cf]at h
  |cons y s=>
   simp only[T.cf,xA]at h
   rw[T.beq_eq x y h.1,T.bJ r s h.2]
end
mutual
def SV.beq:SV->SV->Bool
 | .d x,.d y=>D.beq x y
 | .aG r p o l,.aG e f c g=>decide (r=e)&&decide (p=f)&&decide (o=c)&&decide (l=g)
 | .loc r p i o,.loc e f h c=>decide (r=e)&&decide (p=f)&&decide (i=h)&&decide (o=c)
 |.rp b l,.rp a m|.clip b l,.clip a m=>decide (b=a)&&D.cf l m
 | .ns b,.ns a=>decide (b=a)
 |.agg l,.agg m|.aS l,.aS m=>SV.cf l m
 | .dead,.dead=>true
 |_,_=>false
def SV.cf:List SV->List SV->Bool
 | [],[]=>true
 |x::r,y::s=>SV.beq x y&&SV.cf r s
 |_,_=>false
end
mutual
theorem SV.beq_eq:∀(x y:SV),SV.beq x y=true->x=y
 | .d x,y,h=>by
  cases y <;>simp only[SV.beq,xH]at h
  rw[D.beq_eq x _ h]
 | .aG r p o l,y,h=>by cases y <;>simp_all [SV.beq]
 | .loc r p i o,y,h=>by cases y <;>simp_all [SV.beq]
 | .rp b l,y,h=>by
  cases y <;>simp only[SV.beq,xA,yD,xH]at h
  grind [D.bJ]
 | .clip b l,y,h=>by
  cases y <;>simp only[SV.beq,xA,yD,xH]at h
  grind [D.bJ]
 | .ns b,y,h=>by cases y <;>simp_all [SV.beq]
 | .agg l,y,h=>by
  cases y <;>simp only[SV.beq,xH]at h
  rw[SV.bJ l _ h]
 | .aS l,y,h=>by
  cases y <;>simp only[SV.beq,xH]at h
  rw[SV.bJ l _ h]
 | .dead,y,h=>by grind [SV.beq]
theorem SV.bJ:∀(l m:List SV),SV.cf l m=true->l=m
 | [],m,h=>by grind [SV.cf]
 |x::r,m,h=>by
  cases m with
  |nil=>simp[SV.cf]at h
  |cons y s=>
   simp only[SV.cf,xA]at h
   rw[SV.beq_eq x y h.1,SV.bJ r s h.2]
end
def BV{a:Type}(f:a->a->Bool):List a->List a->Bool
 | [],[]=>true
 |x::r,y::s=>f x y&&BV f r s
 |_,_=>false
theorem JP{a:Type}{f:a->a->Bool}(hf:∀x y,f x y=true->x=y):∀(l m:J a),BV f l m=true->l=m
 | [],m,h=>by grind [BV]
 |x::r,m,h=>by
  cases m with
  |nil=>simp[BV]at h
  |cons y s=>
   simp only[BV,xA]at h
   rw[hf x y h.1,JP hf r s h.2]
def Ob.beq:Ob->Ob->Bool
 | .box x,.box y=>T.beq x y
 | .map l,.map m=>BV (λa b=>D.beq a.1 b.1&&T.beq a.2 b.2) l m
 | .iter s p,.iter e d=>decide (s=e)&&decide (p=d)
 | .bY m,.bY c=>decide (m=c)
 | .lock,.lock=>true
 |_,_=>false
theorem Ob.beq_eq(x y:Ob)(h:Ob.beq x y=true):x=y:=by
 cases x <;>cases y <;>simp only[Ob.beq,xA,yD,xH]at h
 .rw[T.beq_eq _ _ h]
 .grind [JP,D.beq_eq,T.beq_eq]
 .rw[h.1,h.2]
 .rw[h]
 .rfl
def St.beq(s s':St):Bool:=
 BV (λa b=>decide (a.1=b.1)&&SV.beq a.2 b.2) s.env s'.env&&BV (λa b=>decide (a.1=b.1)&&T.beq a.2 b.2) s.ct s'.ct&&BV Ob.beq s.H s'.H
theorem St.beq_eq(s s':St)(h:St.beq s s'=true):s=s':=by
 obtain⟨e,c,H⟩:=s;obtain⟨b,c',a⟩:=s'
 grind [St.beq,JP,SV.beq_eq,T.beq_eq,Ob.beq_eq]
structure bq where
 sn:Bool:=false
 lk:List Nat:=[]
def EM:Nat:=1099511627776
def fE(nv:Nat)(v:SV)(k:Wk)(b:bq):U (D×Wk×bq):=
 match v with
 | .d x=>some (if EM<=nv then x else x.norm,k,b)
 | .clip t l=>some (.sl t l,k,b)
 | .ns _=>some (.sl false [],k,b)
 | .aG r p a d=>
  (k.get r).bind λc=>(c.at p).bind λf=>match f with
   | .own e=>
    if EM<=nv/\e.isEmpty=true then some (.sl false [],k,b)else
    match r,p with
    | .l n j,[]=>
     if nv<=n/\a=0/\d=e.length then(T.aY false e).bind λl=>(k.set (.l n j) .dead).map λ(k:Wk)=>(.sl false l,k.tell (.cP (.l n j) [] l),b)
     else(T.aY true e).map λl=>(.sl true (bw l a d),k,{b with sn:=true})
    | .l _ _,_=>(T.aY true e).map λl=>(.sl true (bw l a d),k,{b with sn:=true})
    | .o n,_=>(T.aY true e).map λl=>(.sl true (bw l a d),k,{sn:=true,lk:=n::b.lk})
   |_=>none
 |_=>none
def lr(nv:Nat):List SV->Wk->bq->Option (List D×Wk×bq)
 | [],k,b=>some ([],k,b)
 |v::r,k,b=>(fE nv (aU k.tr v) k b).bind λ(x,k,b)=>(lr nv r k b).map λ(a,k,b)=>(x::a,k,b)
def wK(nv:Nat)(v:SV)(k:Wk)(b:bq):U (D×Wk×bq):=
 match v with
 | .agg l=>(lr nv l k b).map λ(a,k,b)=>(.agg a,k,b)
 |v=>fE nv (aU k.tr v) k b
def gS(nv:Nat):List SV->Wk->bq->Option (List D×Wk×bq)
 | [],k,b=>some ([],k,b)
 |v::r,k,b=>(wK nv v k b).bind λ(x,k,b)=>(gS nv r k b).map λ(a,k,b)=>(x::a,k,b)
def gh(dst j:Nat)(t:T)(k:Wk):U (SV×Nat×Wk):=
 match t with
 | .d x=>some (.d x,j,k)
 | .own a=>some (.aG (.l dst j) [] 0 a.length,j+1,k.new dst j (.own a))
 |_=>none
def ga(dst:Nat):Nat->List T->Wk->Option (List SV×Nat×Wk)
 |j,[],k=>some ([],j,k)
 |j,t::r,k=>(gh dst j t k).bind λ(v,j,k)=>(ga dst j r k).map λ(a,j,k)=>(v::a,j,k)
def ln(dst j:Nat)(t:T)(k:Wk):U (SV×Nat×Wk):=
 match t with
 | .agg a=>(ga dst j a k).map λ(b,j,k)=>(.agg b,j,k)
 |t=>gh dst j t k
def ic(dst:Nat):Nat->List T->Wk->Option (List SV×Wk)
 |_,[],k=>some ([],k)
 |j,t::r,k=>(ln dst j t k).bind λ(v,j,k)=>(ic dst j r k).map λ(a,k)=>(v::a,k)
def pF(dst:Nat)(rs:J T)(k:Wk):U (SV×Wk):=
 (ic dst 0 rs k).map λ(vs,k)=>(match vs with | [v]=>v |vs=>.aS vs,k)
abbrev dF:=FuncId->J D->J Ob->U (J T×J Ob)
def fN(lk:J Nat)(H:J Ob):J Ob:=lk.foldl (λH n=>H.set n .lock) H
def jG(a:J Ob)(lk:J Nat)(H:J Ob):J Ob:=lk.foldl (λH n=>match a[n]? with |some x=>H.set n x |none=>H) H
def ec:List Ob->List Ob->Bool
 | [],_=>true
 | .box c::r,.box c'::a=>c.nc==c'.nc&&ec r a
 |.map _::r,.map _::a|.iter _ _::r,.iter _ _::a|.bY _::r,.bY _::a|.frame .. ::r,.frame .. ::a|.lock::r,.lock::a|.row _::r,.row _::a|.sset _::r,.sset _::a=>ec r a
 |_,_=>false
mutual
def SV.cW:SV->Bool
 | .d x=>x.cW
 | .rp b a=> !b&&D.aZ a
 | .clip b l=> !b&&D.aZ l
 |.agg l|.aS l=>SV.aZ l
 |_=>true
def SV.aZ:List SV->Bool
 | []=>true
 |x::r=>x.cW&&SV.aZ r
end
def gb:List Ob->Bool
 | []=>true
 | .box c::r=>c.cW&&gb r
 | .map a::r=>a.all (λe=>e.1.cW&&e.2.cW)&&gb r
 |.iter _ _::r|.bY _::r=>gb r
 | .frame _ _ _ _ b d::r=>b.all (λp=>p.2.cW)&&d.all (λp=>p.2.cW)&&gb r
 | .lock::r=>gb r
 | .row a::r=>T.aZ a&&gb r
 | .sset _::r=>gb r
def fg(call:dF)(h:Hint)(dst:Nat)(f:FuncId)(ds:J D)(b:bq)(k:Wk):U (SV×Wk):=
 if h.aV.contains dst&&D.aQ 0 ds then
  (call f ds []).bind λ(c,a)=>if a.length=0/\(b.sn=true->T.aZ c=true)then pF dst c k else none
 else if h.aV.contains dst then none
 else
  (call f ds (fN b.lk k.H)).bind λ(c,a)=>
   if(b.sn=true->T.aZ c=true/\gb a=true)/\ec (fN b.lk k.H) a=true then pF dst c {k with H:=jG k.H b.lk a,tr:=k.tr++[.bL]}else none
def BW(f:D->Option D):List D->Option (List D)
 | []=>some []
 |x::r=>(f x).bind λy=>(BW f r).map (y::·)
def roD(H:List Ob):Nat->D->Option D
 |0,_=>none
 |n+1,.ptr o=>match H[o]? with |some (.box c)=>(T.cP true c).bind λd=>(BW (roD H n) d.cells).map .bQ |_=>none
 |n+1,.agg l=>(BW (roD H n) l).map .agg
 |_+1,x=>some x
def yW(H:J Ob):J Nat:=(List.range H.length).filter λn=>match H[n]? with |some a=> !gb [a] |none=>false
def gy(call:dF)(h:Hint)(dst:Nat)(f:FuncId)(ds:J D)(b:bq)(k:Wk):U (SV×Wk):=
 if h.ro.contains dst=true then(BW (roD k.H 4) ds).bind λa=>fg call h dst f (D.bl a) {sn:=true,lk:=List.range k.H.length++b.lk} k
 else if h.lkn.contains dst=true/\b.sn=true then fg call h dst f ds {b with lk:=b.lk++yW k.H} k
 else fg call h dst f ds b k
def SV.bN:SV->Bool
 | .aS [.d _,.agg []]=>true
 |_=>false
def jP(r:SV×Wk):U (SV×Wk):=if r.1.bN=true then none else some r
def YB:Nat:=1099511627776
def Aw(P:Pz)(g:FuncId):U String:=match P.funcs[g]? with
 |some a=>if a.body.isNone=true/\a.origin= "" then some a.name else none
 |none=>none
def Sl(_:String)(_:J D):U D:=none
def dD(P:Pz)(call:dF)(h:Hint)(dst:Nat)(ty:TypeId)(op:Op)(ρ:Oz->SV)(k:Wk):U (SV×Wk):=
 match op with
 | .call {callee:=.value f,args, .. }=>
  match ρ f with
  | .d (.fn (.func g) first cap)=>if YB<=g then none else match Aw P g with
   |some c=>(SV.bG (args.toList.map ρ)).bind λa=>(Sl c (first++a++cap)).map λy=>(.d y,k)
   |none=>(gS (h.nvAt dst) (args.toList.map ρ) k {}).bind λ(a,k,b)=>(gy call h dst g (canon b.sn (first++a++cap)) b k).bind jP
  | .d (.yld o)=>(gS (h.nvAt dst) (args.toList.map ρ) k {}).bind λ(a,k,b)=>(gy call h dst (YB+o) (canon b.sn a) b k).bind jP
  |_=>none
 |op=>opE P h dst ty op ρ k
def ik(ops:J Qz)(s:St)(o:Qz):U Bool:=
 match o.guard with
 |none=>some true
 |some (j,a)=>match (ops[j]?).bind (·.dst)with
  |some t=>match s.get t with
   | .d (.bool b)=>some (b==a)
   | .aS []=>some false
   |_=>none
  |none=>none
def St.fin(s:St)(dst:U Nat)(v:SV)(k:Wk):St:=
 {env:=match dst with |some d=>(d,v)::trs k.tr s.env |none=>trs k.tr s.env,ct:=k.ct,H:=k.H}
def St.wk(s:St):Wk:={ct:=s.ct,H:=s.H}
def nQ(P:Pz)(call:dF)(h:Hint)(ops:J Qz)(o:Qz)(s:St):U St:=
 (ik ops s o).bind λw=>
  if w then(dD P call h (o.dst.getD 0) o.type o.op s.val s.wk).map λ(v,k)=>s.fin o.dst v k
  else some (s.fin o.dst (.aS []) s.wk)
def fh(P:Program)(call:dF)(h:Hint)(ops:List Oper):List Oper->St->Option St
 | [],s=>some s
 |o::r,s=>(nQ P call h ops o s).bind (fh P call h ops r)
def mvE(_:Pz)(_:dF)(_:Hint)(_:Nat)(_:FuncId)(_:J SV)(_:Wk):U (SV×Wk):=none
def wS(P:Pz)(t:TypeId)(nm:String):U FuncId:=
 (P.info? t).bind λi=>(i.methods.find? (·.name==nm)).bind λm=>match m.func,P.underlying t with
  |some (f,false),some (.struct _)=>if m.path.toList.isEmpty=true then some f else none
  |_,_=>none
def Mj(P:Pz)(nm:String):SV->U (FuncId×D)
 | .d (.iface t y)=>(wS P t nm).map λg=>(g,y)
 |_=>none
def gZ(P:Pz)(call:dF)(h:Hint)(dst:Nat)(ty:TypeId)(op:Op)(ρ:Oz->SV)(k:Wk):U (U D×SV×Wk):=
 match op with
 | .panic x=>match ρ x with
  | .d (.iface t y)=>if y.flat=true then some (some (.iface t y),.dead,k)else none
  |_=>none
 | .call {callee:=.value f,args, .. }=>
  match ρ f with
  | .d (.fn (.func g) first cap)=>if YB<=g then none else
   if h.mv.contains dst=true then(if first.isEmpty&&cap.isEmpty then((mvE P call h dst g (args.toList.map ρ) k).bind jP).map λ(v,k)=>(none,v,k)else none)
   else(gS (h.nvAt dst) (args.toList.map ρ) k {}).bind λ(a,k,b)=>(gy call h dst g (canon b.sn (first++a++cap)) b k).bind λ(v,k)=>match v with
   | .aS [.d d,.agg []]=>if d.flat=true then some (some d,.dead,k)else none
   |v=>some (none,v,k)
  |_=>none
 | .call {callee:=.invoke x nm,args, .. }=>
  (Mj P nm (ρ x)).bind λ(g,y)=>if YB<=g then none else(gS (h.nvAt dst) (args.toList.map ρ) k {}).bind λ(a,k,b)=>(gy call h dst g (canon b.sn (y::a)) b k).bind λ(v,k)=>match v with
   | .aS [.d d,.agg []]=>if d.flat=true then some (some d,.dead,k)else none
   |v=>some (none,v,k)
 |op=>(opE P h dst ty op ρ k).map λ(v,k)=>(none,v,k)
def gH(P:Program)(call:dF)(h:Hint)(ops:List Oper):List Oper->St->Option (Option D×St)
 | [],s=>some (none,s)
 |o::r,s=>(ik ops s o).bind λw=>
  if w then(gZ P call h (o.dst.getD 0) o.type o.op s.val s.wk).bind λ(t,v,k)=>match t with
   |some d=>some (some d,s.fin none .dead k)
   |none=>gH P call h ops r (s.fin o.dst v k)
  else gH P call h ops r (s.fin o.dst (.aS []) s.wk)
mutual
def SV.roots:SV->List (Nat×Nat)
 |.aG (.l n k) _ _ _|.loc (.l n k) _ _ _=>[(n,k)]
 |.agg l|.aS l=>SV.cg l
 |_=>[]
def SV.cg:List SV->List (Nat×Nat)
 | []=>[]
 |v::r=>v.roots++SV.cg r
end
def jQ:List (Nat×Nat)->List (Nat×Nat)
 | []=>[]
 |x::r=>if(jQ r).contains x then jQ r else x::jQ r
def pick(ct:List ((Nat×Nat)×T)):List (Nat×Nat)->List ((Nat×Nat)×T)
 | []=>[]
 |x::r=>match eZ ct x with |some t=>(x,t)::pick ct r |none=>pick ct r
def prune(live:J Nat)(s:St):St:=
 let env:=live.map λt=>(t,s.get t)
 {env,ct:=pick s.ct (jQ (SV.cg (env.map (·.2)))),H:=s.H}
mutual
def SV.ba:SV->List aj
 |.aG r _ _ _|.loc r _ _ _=>[r]
 |.d (.ptr o)|.d (.map o)=>[.o o]
 |.agg l|.aS l=>SV.rtss l
 |_=>[]
def SV.rtss:List SV->List aj
 | []=>[]
 |v::r=>v.ba++SV.rtss r
end
mutual
def SV.aX:SV->List aj
 |.aG r _ _ _|.loc r _ _ _=>[r]
 |.agg l|.aS l=>SV.srtss l
 |_=>[]
def SV.srtss:List SV->List aj
 | []=>[]
 |v::r=>v.aX++SV.srtss r
end
def Tr.ba:Tr->J aj
 |.kill r _|.cG r _|.cP r _ _=>[r]
 | .dm a b=>[.l a.1 a.2,.l b.1 b.2]
 | .bL=>[]
def Tr.bK:Tr->Bool
 | .dm _ _=>true
 |_=>false
def Tr.aN:Tr->Bool
 | .bL=>true
 |_=>false
def Tr.cK(x:Tr)(l:J aj):J aj:=
 match x with
 | .dm a b=>if l.any (λr=>decide (r=.l a.1 a.2))then .l b.1 b.2::l else l
 |_=>l
def aj.cD:aj->Bool
 | .o _=>true
 |_=>false
def we:Oz->U Nat
 | .tmp t=>some t
 |_=>none
def mI(o:Op):J Nat:=o.operands.toList.filterMap we
def fU(h:Hint)(dst:Nat):Op->Bool
 | .load .. =>h.lits.contains dst
 | .move _ | .pick .. | .build .. | .nilCheck _ | .binOp .. | .unOp .. | .convert .. | .makeFunc .. | .slice .. | .fieldAddr .. | .field .. | .indexAddr .. | .index .. | .extract .. =>false
 | .lookup .. =>h.lits.contains dst || h.cB.contains dst
 |.call {callee:=.builtin .len, .. }|.call {callee:=.builtin .min, .. }|.call {callee:=.builtin .max, .. }=>false
 | .buildSlice .. => !h.lits.contains dst
 |_=>true
def hOf(h:Hint)(dst:Nat):Op->Bool
 |.alloc _|.box ..=>h.cB.contains dst
 | .assign _ | .buildSlice .. | .makeSlice .. | .store .. =>false
 |.call {callee:=.builtin .append, .. }|.call {callee:=.builtin .copy, .. }=>false
 | .call {callee:=.value _, .. }=> !h.aV.contains dst
 |_=>true
def yX:Op->Bool
 | .call {callee:=.value _, .. }=>false
 | .assign _=>false
 |_=>true
def reads:Op->Bool
 | .move _ | .pick .. | .build .. | .nilCheck _ | .binOp .. | .unOp .. | .convert .. | .makeFunc .. | .field .. | .index .. | .extract .. =>false
 |_=>true
def looks(ops:J Qz)(o:Qz):J Nat:=mI o.op++(match o.guard with |some (j,_)=>((ops[j]?).bind (·.dst)).toList |none=>[])
def wL(h:Hint)(dst:Nat):Op->Bool
 |.alloc _|.box ..=>h.cB.contains dst
 |.makeMap ..|.range ..|.next .. =>true
 | .call {callee:=.value _, .. }=> !h.aV.contains dst || h.ro.contains dst || h.lkn.contains dst
 |_=>false
structure Fp where
 sl:List Nat
 dst:Option Nat
 rd:List aj
 wr:List aj
 hr:Bool
 hw:Bool
 dm:Bool
 rx:Option (aj×dP×Nat×Nat×Nat)
 sx:List SV
 wx:Option (aj×dP)
 ox:List aj
abbrev pG:=J (Nat×J aj)
def eV(hi:pG)(t:Nat):J aj:=(look hi t).getD []
def ku(s:St):pG:=s.env.map λp=>(p.1,p.2.aX)
def fe(P:Pz)(call:dF)(h:Hint)(ops:J Qz)(o:Qz)(s:St):U (Bool×SV×Wk):=
 (ik ops s o).bind λw=>if w then(dD P call h (o.dst.getD 0) o.type o.op s.val s.wk).map λ(v,k)=>(true,v,k)else some (false,.aS [],s.wk)
def fW(k k':Wk):J aj:=(k'.ct.take (k'.ct.length - k.ct.length)).map λp=>aj.l p.1.1 p.1.2
def iO:Op->Bool
 | .move (.tmp _)=>true
 |_=>false
def t8(c:Bool)(op:Op)(d:Oz->SV)(v:SV):U (aj×dP×Nat×Nat×Nat):=
 match op with
 | .load _ (.global _)=>none
 | .load _ a=>if c=true then none else match bD (d a),v with
  | .loc r p i b,.aG .. =>some (r,p,i,b,1)
  | .loc r p i b,.d (.agg _)=>none
  | .loc r p i b,.d _=>some (r,p,i,b,0)
  |_,_=>none
 | .fieldAddr .. =>match v with | .loc r p i b=>some (r,p,i,b,2) |_=>none
 |_=>none
def yY(op:Op)(a:Oz->SV):U (aj×dP):=
 match op with
 | .call {callee:=.builtin .append,args, .. }=>match args.toList with
  | [x,_]=>(match a x with | .aG r p _ _=>some (r,p) |_=>none)
  |_=>none
 |_=>none
def Tr.killAt(r:aj)(q:dP):Tr->Bool
 | .kill b a=>decide (b=r)&&decide (a=q)
 |_=>false
def So(rx:U (aj×dP×Nat×Nat×Nat))(l:J SV):J SV:=match rx with |some _=>l |none=>[]
def F9(wx:U (aj×dP))(tr:J Tr):J aj:=match wx with |some (r,q)=>(tr.filter λx=> !x.killAt r q).flatMap Tr.ba |none=>[]
def mg(h:Hint)(ops:J Qz)(o:Qz)(hi:pG)(s:St)(w:Bool)(v:SV)(k:Wk):Fp:=
 let a:=(looks ops o).flatMap λt=>(s.get t).ba
 let rd:=if iO o.op=true then []else(looks ops o).flatMap (eV hi)++v.aX++(if reads o.op then a else [])
 let e:=w&&fU h (o.dst.getD 0) o.op
 let wr:=fW s.wk k++k.tr.flatMap Tr.ba
 {sl:=looks ops o,dst:=o.dst,rd,wr,hr:=(w&&wL h (o.dst.getD 0) o.op) || rd.any aj.cD || wr.any aj.cD || k.tr.any Tr.aN,hw:=e&&(hOf h (o.dst.getD 0) o.op || (yX o.op&&a.any aj.cD) || k.tr.any Tr.aN),dm:=k.tr.any Tr.bK,rx:=if w=true then t8 (fU h (o.dst.getD 0) o.op) o.op s.val v else none,sx:=So (if w=true then t8 (fU h (o.dst.getD 0) o.op) o.op s.val v else none) (v::(looks ops o).map λt=>s.get t),wx:=if w=true then yY o.op s.val else none,ox:=F9 (if w=true then yY o.op s.val else none) k.tr}
def gc:List Tr->List aj->List aj
 | [],l=>l
 |x::r,l=>gc r (x.cK l)
def dT(hi:pG)(tr:J Tr)(d:U Nat)(L:J aj):pG:=
 let hi:=hi.map λp=>(p.1,gc tr p.2)
 match d with |some d=>(d,L)::hi |none=>hi
def fV(o:Op)(hi:pG)(v:SV):J aj:=
 match o with
 | .move (.tmp t)=>eV hi t
 |_=>v.aX
def Ml(a b:J aj):Bool:=a.any λr=>b.any λq=>decide (q=r)
def ri(x y:Fp):Bool:=
 (match x.dst with |some d=> !y.sl.contains d&&y.dst !=some d |none=>true)&&
 (match y.dst with |some d=> !x.sl.contains d |none=>true)&&
 !Ml x.wr y.rd&& !Ml x.wr y.wr&& !Ml y.wr x.rd&& !(x.hw&&(y.hr || y.hw))&& !(y.hw&&x.hr)&& !(x.dm&&y.dm)
def sepL(kd:Nat):dP->Nat->Nat->dP->Bool
 |_,_,_,[]=>false
 | [],i,a,(c,b)::q=>if c=i/\b=a then decide (kd=2) || (decide (kd=1)&& !q.isEmpty)else true
 |s::p,i,a,d::q=>if s=d then sepL kd p i a q else true
mutual
def SV.dv(r:aj)(q:dP):SV->Bool
 |.aG a p _ _|.loc a p _ _=>decide (r≠a) || (decide (q≠p)&& !decide (q.length<p.length))
 |.agg l|.aS l=>SV.unhurts r q l
 |_=>true
def SV.unhurts(r:aj)(q:dP):List SV->Bool
 | []=>true
 |v::l=>v.dv r q&&SV.unhurts r q l
end
def apartX(x y:Fp):Bool:=
 (match x.dst with |some d=> !y.sl.contains d&&y.dst !=some d |none=>true)&&
 (match y.dst with |some d=> !x.sl.contains d |none=>true)&& !y.dm&&
 (match x.rx,y.wx with
 |some (b,p,i,a,c),some (r,q)=>(decide (b≠r) || sepL c p i a q)&& !y.ox.contains b&&x.sx.all λu=>u.dv r q&& !Ml y.ox u.aX
 |_,_=>false)
def apartFp(x y:Fp):Bool:=ri x y || apartX x y || apartX y x
abbrev Cf:=St×pG
def ek(P:Pz)(call:dF)(h:Hint)(ops:J Qz)(o:Qz)(c:Cf):U (Cf×Fp):=
 (fe P call h ops o c.1).map λ(w,v,k)=>((c.1.fin o.dst v k,dT c.2 k.tr o.dst (fV o.op c.2 v)),mg h ops o c.2 c.1 w v k)
def dV(P:Program)(call:dF)(h:Hint)(ops:List Oper):List Oper->Cf->Option (Cf×List Fp)
 | [],c=>some (c,[])
 |o::r,c=>(ek P call h ops o c).bind λ(c',f)=>(dV P call h ops r c').map λ(a,b)=>(a,f::b)
def QJ(acc:J Nat)(o:Qz):Nat:=o.after.toList.foldl (λm e=>if Region.binds .any e then m ||| 2 ^ e.on ||| (acc[e.on]?).getD 0 else m) 0
def BY:List Oper->List Nat->Option (List Nat)
 | [],a=>some a
 |o::r,a=>if o.after.toList.all λe=> !Region.binds .any e || decide (e.on<a.length)then BY r (a++[QJ a o])else none
def jl(b:Nat)(f:Fp):Nat->List Fp->Bool
 |_,[]=>true
 |j,g::a=>(b.testBit j || apartFp g f)&&jl b f (j+1) a
def rj(all:List Fp):Nat->List Nat->List Fp->Bool
 |i,b::a,f::c=>jl b f 0 (all.take i)&&rj all (i+1) a c
 |_,_,_=>true
def ua(ops:J Qz)(a:J Fp):Bool:=match BY ops []with |some b=>rj a 0 b a |none=>false
inductive Ex where
 |normal
 |exit (id:Nat)
 |ret
 |cO (d:D)
 deriving Inhabited
def Ex.block(id:Nat):Ex->Ex
 | .exit j=>if j=id then .normal else .exit j
 |e=>e
def mh(f:St->Option (Ex×St)):Nat->St->Option (Ex×St)
 |0,_=>none
 |n+1,s=>(f s).bind λ(e,a)=>match e with | .normal=>mh f n a |e=>some (e,a)
def ID(n:Nat)(ops:Array Qz):Bool:=ops.toList.all λo=>match o.dst with |some d=>decide (d<n) |none=>true
def ef(n:Nat):Code->Bool
 | .region _ d _=>ID n d
 |.seq a b|.cond _ a b=>ef n a&&ef n b
 |.block _ c|.loop c|.scope c=>ef n c
 | .rangeFunc _ e a b=>e.toList.all (λt=>decide (t<n))&&ef n a&&ef n b
 |_=>true
def kB:Code->List Nat
 | .region _ d _=>d.toList.filterMap (·.dst)
 |.seq a b|.cond _ a b=>kB a++kB b
 |.block _ c|.loop c|.scope c=>kB c
 |_=>[]
def SV.loose:SV->SV
 | .d x=>.d x
 | .aG (.l n j) p a b=>.aG (.l n j) p a b
 | .loc (.l n j) p i a=>.loc (.l n j) p i a
 |_=>.dead
def kJ(call:dF)(h:Hint)(f:Oz)(e:J Nat)(a b:Code)(s:St):U (Ex×St):=
 if h.nest=true then none else
 match s.val f with
 | .d (.fn (.func g) first cap)=>
  if YB<=g then none else
  (call g (first++[.yld s.H.length]++cap) (s.H++[.frame h.self e a b (s.env.map λp=>(p.1,p.2.loose)) s.ct])).bind λ(d,c)=>
   match d,c[s.H.length]? with
   | [],some (.frame _ _ _ _ env ct)=>if c.length=s.H.length+1 then some (.normal,{env,ct,H:=c.set s.H.length .lock})else none
   |_,_=>none
 |_=>none
def leB(bs:J Nat)(u v:Nat):Bool:=decide (u=v) || ((bs[v]?).getD 0).testBit u
def mi(bs:List Nat):List (Nat×Nat)->List Nat->List Nat
 | [],L=>L
 |e::E,L=>(mi bs E L).filter (leB bs e.2) |>λA=>(mi bs E L).filter (λx=> !leB bs e.2 x)++A
def ub(bs:List Nat)(E:List (Nat×Nat)):List (Nat×Fp)->Bool
 | []=>true
 |p::r=>r.all (λq=>((bs[q.1]?).getD 0).testBit p.1 || apartFp p.2 q.2 || E.any (λe=>leB bs p.1 e.1&&leB bs e.2 q.1))&&ub bs E r
def jR(ops:J Qz)(L:J Nat):J Qz:=L.filterMap λi=>ops[i]?
def jS(P:Program)(call:dF)(h:Hint)(live:List Nat)(ops:List Oper)(bs:List Nat)(s:St):OT->List (Nat×Nat)->Option St
 | .leaf,E=>(dV P call h ops (jR ops (mi bs E (List.range ops.length))) (s,ku s)).bind λ(c,e)=>if ub bs E ((mi bs E (List.range ops.length)).zip e)=true then some (prune live c.1)else none
 | .node i j a b,E=>if i≠j/\i<ops.length/\j<ops.length then(jS P call h live ops bs s a ((i,j)::E)).bind λd=>(jS P call h live ops bs s b ((j,i)::E)).bind λf=>if St.beq d f=true then some d else none else none
def aed:J Qz->U (Nat×Nat×TypeId×Nat)
 | [a,b]=>match a.op,a.dst,a.guard,b.op,b.dst,b.guard with
  | .move (.tmp c),some d,none,.range e (.tmp g),some f,none=>if d=g then some (c,d,e,f)else none
  |_,_,_,_,_,_=>none
 |_=>none
def aee:J Qz->U (Nat×Nat×Nat)
 | [a,b]=>match a.op,a.dst,a.guard,b.op,b.dst,b.guard with
  | .next (.tmp d) false,some t,none,.extract (.tmp e) 0,some c,none=>if t=e then some (d,t,c)else none
  |_,_,_,_,_,_=>none
 |_=>none
def aef:J Qz->U (Nat×Nat×Nat×Nat)
 | [a,b,d]=>match a.op,a.dst,a.guard,b.op,b.dst,b.guard,d.op,d.dst,d.guard with
  | .entry (.tmp c),some e,none,.extract (.tmp f) 0,some x,none,.assign (.tmp g),some h,none=>if e=f/\x=g then some (c,e,x,h)else none
  |_,_,_,_,_,_,_,_,_=>none
 |_=>none
def aeg:J Qz->U (Nat×Nat×Nat×Nat×TypeId)
 | [a,b,d]=>match a.op,a.dst,a.guard,b.op,b.dst,b.guard,d.op,d.dst,d.guard with
  | .move (.tmp c),some m,none,.move (.tmp h),some k,none,.mapUpdate f (.tmp e) (.tmp g) (.const (.bool true)),none,none=>if m=e/\k=g then some (c,m,h,k,f)else none
  |_,_,_,_,_,_,_,_,_=>none
 |_=>none
structure Cpy where
 src:Nat
 all:Nat
 mt:TypeId
 mt2:TypeId
 W:List Nat
def Ga:Code->Code->U Cpy
 | .region _ s false,.block x (.loop (.seq (.region _ q false) (.seq (.cond (.tmp c') .skip (.exit y)) (.block _ (.seq (.region _ o false) (.region _ r false))))))=>
  (aed s.toList).bind λ(d,g,p,a)=>(aee q.toList).bind λ(l,t,c)=>(aef o.toList).bind λ(n,e,h,f)=>(aeg r.toList).bind λ(b,m,i,k,j)=>
   if x=y/\c'=c/\l=a/\n=a/\i=f/\[g,a,t,c,e,h,f,m,k].Nodup/\b∉[g,a,t,c,e,h,f,m,k]/\d∉[g,a,t,c,e,h,f,m,k]then some ⟨d,b,p,j,[g,a,t,c,e,h,f,m,k]⟩else none
 |_,_=>none
def Ax:List (D×T)->Option (List (List UInt8))
 | []=>some []
 |(.str k,_)::r=>(Ax r).map (k::·)
 |_=>none
def Mm(P:Pz)(p:Cpy)(s:St):U (Ex×St):=
 match s.get p.src,s.get p.all with
 | .d (.map q),.d (.map o)=>match s.H[q]?,s.H[o]? with
  |some (.map a),some (.sset b)=>if(mf P p.mt).isSome=true/\((mf P p.mt2).bind λx=>iX P x.1)=some 1 then(Ax a).map λl=>(.normal,{env:=s.env.filter λe=> !p.W.contains e.1,ct:=s.ct,H:=s.H.set o (.sset (l++b))})else none
  |_,_=>none
 |_,_=>none
def dZ(P:Program)(call:dF)(h:Hint)(g:Nat):Code->St->Option (Ex×St)
 | .skip,s=>some (.normal,s)
 | .region id i n,s=>
  if n then match h.swp id with |some t=>(BY i.toList []).bind λl=>(jS P call h (h.live id) i.toList l s t []).map λj=>(.normal,j) |none=>(dV P call h i.toList i.toList (s,ku s)).bind λ(c,k)=>if ua i.toList k then some (.normal,prune (h.live id) c.1)else none
  else if h.cO.contains id then(gH P call h i.toList i.toList s).map λ(t,j)=>match t with |some d=>(.cO d,j) |none=>(.normal,prune (h.live id) j)
  else(fh P call h i.toList i.toList s).map λj=>(.normal,prune (h.live id) j)
 | .seq a b,s=>match Ga a b with
  |some p=>Mm P p s
  |none=>(dZ P call h g a s).bind λ(e,j)=>match e with | .normal=>dZ P call h g b j |e=>some (e,j)
 | .cond c a b,s=>match s.val c with | .d (.bool t)=>if t then dZ P call h g a s else dZ P call h g b s |_=>none
 | .block id c,s=>(dZ P call h g c s).map λ(e,j)=>(e.block id,j)
 | .loop c,s=>mh (dZ P call h g c) g s
 | .exit id,s=>some (.exit id,s)
 | .scope c,s=>dZ P call h g c s
 | .label _,s=>some (.normal,s)
 | .ret,s=>some (.ret,s)
 | .rangeFunc f m a b,s=>kJ call h f m.toList a b s
 |_,_=>none
def Gb(P:Pz)(s:St):ResultVar->U SV
 | .tmp t=>some (s.get t)
 | .cell a t=>gY P t (s.get a) s.wk
def j5(P:Program)(s:St):List ResultVar->Option (List SV)
 | []=>some []
 |r::a=>(Gb P s r).bind λv=>(j5 P s a).map (v::·)
def j6:List SV->Wk->Option (List T×Wk)
 | [],k=>some ([],k)
 |v::r,k=>(fR 0 v k).bind λ(t,k)=>(j6 r k).map λ(a,k)=>(t::a,k)
def JQ(vs:J SV)(k:Wk):U (J T×Wk):=(j6 vs.reverse k).map λ(a,k)=>(a.reverse,k)
def SV.bp:SV->U (aj×dP)
 | .aG r p _ _=>some (r,p)
 |_=>none
def wg(a b:SV):Bool:=match a.bp,b.bp with |some (r,p),some (q,s)=>decide (r=q)&&decide (p.length<s.length) |_,_=>false
def crossing:List SV->Bool
 | []=>false
 |a::r=>r.any (wg a) || crossing r
def nf(vs:J SV)(k:Wk):U (J T×Wk):=if crossing vs=true then JQ vs k else j6 vs k
def lu(n0:Nat)(rs:J T)(H:J Ob):J Ob:=
 if H.length=n0 then H
 else if T.aQ n0 rs/\(H.take n0).all (·.low n0)then H.take n0 else H
def enter(ds:J D)(H:J Ob):St:={env:=ds.zipIdx.map λ(d,i)=>(i,.d d),ct:=[],H}
def settle(own:Bool)(a:J T):U (J T):=if own then some (a.map T.fresh)else(T.aY false a).map λxs=>(canon false xs).map T.d
def fj:J T->Bool
 | [.d _,.agg []]=>true
 |_=>false
def jD(P:Pz)(own:Bool)(fn:Func)(n0:Nat)(r:Ex×St):U (J T×J Ob):=
 match r.1 with
 | .exit _=>none
 | .cO d=>some ([.d d,.agg []],lu n0 [.d d] r.2.H)
 |_=>(j5 P r.2 fn.results.toList).bind λb=>(nf b r.2.wk).bind λ(a,k)=>(settle own a).bind λa=>if fj a=true then none else some (a,lu n0 a k.H)
def iz:J D->Bool
 | [.sl _ []]=>true
 |_=>false
def BZ(b:Bool)(H:J Ob):St:={env:=[(0,.ns b)],ct:=[],H}
def B0(es:J T)(ds:J D):St:={env:=(0,.aG (.l 0 0) [] 0 es.length)::ds.zipIdx.map λ(d,i)=>(i+1,.d d),ct:=[((0,0),.own es)],H:=[]}
def Vq:J Ob->U (J T)
 | [.row a]=>some a
 |_=>none
def ng(H:J Ob):Bool:=H.all λ| .lock=>true |_=>false
def QK(n:Nat)(c:Bool)(d e:U (J T×J Ob)):U (J T×J Ob):=
 match d,e with
 |some ([.d (.sl false [])],b),some ([.d (.sl false [])],a)=>if ng b=true/\ng a=true/\b.length=n/\a.length=n then some ([.d (.sl c [])],List.replicate n .lock)else none
 |some ([.own []],b),some ([.own []],a)=>if ng b=true/\ng a=true/\b.length=n/\a.length=n then some ([.own []],List.replicate n .lock)else none
 |_,_=>none
def ab2(h:Hint):J D->Bool
 | [.sl b _]=>decide (h.nilt=2)&&b
 |_=>false
def rk(P:Pz)(call:dF)(hint:FuncId->Hint)(n:Nat)(o:Nat)(ds:J D)(H:J Ob):U (J T×J Ob):=
 match H[o]?,ds with
 |some (.frame g [p] a b env ct),[d]=>
  (dZ P call {hint g with nest:=true} n a {env:=(p,.d d)::env,ct,H:=H.set o .lock}).bind λ(i,f)=>match i with
   | .normal=>(dZ P call {hint g with nest:=true} n b f).bind λ(h,e)=>match h with
    | .normal=>match e.H[o]? with
     |some .lock=>
      let c:=((env.map (·.1)).filter λt=> !(p::kB a++kB b).contains t).map λt=>(t,(e.get t).loose)
      some ([.d (.bool true)],lu H.length [] (e.H.set o (.frame g [p] a b c (pick e.ct (jQ (SV.cg (c.map (·.2))))))))
     |_=>none
    |_=>none
   |_=>none
 |_,_=>none
def D.pin:D->Bool
 | .ptr _=>true
 |x=>x.flat
def rl:dF:=λ_ _ _=>none
def mJ(P:Pz)(call:dF)(hint:FuncId->Hint)(n:Nat)(r:D)(g:FuncId)(ds:J D)(H:J Ob):U (J T×J Ob):=
 (P.funcs[g]?).bind λa=>a.body.bind λc=>
  match c with
  | .seq (.region id b false) d=>
   match b.toList with
   |o::l=>match o.op,o.dst,o.guard with
    | .call {callee:=.builtin .recover, .. },some t,none=>
     if ds.length=a.params.size+a.nfree/\ef a.ntmps c=true/\(a.name== "runtime.NumGoroutine")=false then
      (fh P rl (hint g) b.toList l {env:=(t,.d r)::(enter ds H).env,ct:=[],H}).bind λs=>(dZ P call {hint g with nest:=true} n d (prune ((hint g).live id) s)).bind λ(e,s)=>match e with
       | .normal=>jD P (hint g).own a H.length (.normal,s)
       | .ret=>jD P (hint g).own a H.length (.ret,s)
       |_=>none
     else none
    |_,_,_=>none
   |_=>none
  |_=>none
def Sp:Ex->U D
 |.normal|.ret=>some .bW
 | .cO d=>some d
 |_=>none
def JR(P:Pz)(call:dF)(hint:FuncId->Hint)(n:Nat)(f:FuncId)(c:Code)(l:Nat)(s:St):U (Ex×St):=
 match c with
 | .seq (.region j h false) (.seq (.region i d false) b)=>
  (fh P call (hint f) h.toList h.toList s).bind λs=>match d.toList.getLast? with
   |some o=>match o.op,o.dst,o.guard with
    | .defer {callee:=.value x,args, .. },none,none=>
     (fh P call (hint f) d.toList d.toList.dropLast (prune ((hint f).live j) s)).bind λs=>match s.val x with
      | .d (.fn (.func g) [] a)=>
       if args.size=0/\a.all D.pin=true then
        (dZ P call (hint f) n b (prune ((hint f).live i) s)).bind λ(e,s)=>(Sp e).bind λr=>
         ((fg (mJ P call hint n r) {hint f with aV:=[]} l g (canon false a) {} s.wk).bind jP).map λ(_,k)=>(.ret,s.fin none .dead k)
       else none
      |_=>none
    |_,_,_=>none
   |_=>none
 |_=>none
def eN(P:Program)(hint:FuncId->Hint):Nat->dF
 |0,_,_,_=>none
 |n+1,f,b,H=>
  if YB<=f then rk P (eN P hint n) hint n (f - YB) b H else
  match (hint f).ext with
  |some F=>(F b).bind λd=>if fj d=true then none else some (d,H)
  |none=>
  (P.funcs[f]?).bind λa=>a.body.bind λc=>
   if b.length=a.params.size+a.nfree/\ef a.ntmps c=true/\(a.name== "runtime.NumGoroutine")=false then
    if(hint f).rcv=true then(JR P (eN P hint n) hint n f c a.ntmps (enter b H)).bind (jD P (hint f).own a H.length)
    else if(decide ((hint f).nilt≠0)&&iz b)=true then
     QK H.length (ab2 (hint f) b) ((dZ P (eN P hint n) (hint f) n c (BZ true H)).bind (jD P (hint f).own a H.length)) ((dZ P (eN P hint n) (hint f) n c (BZ false H)).bind (jD P (hint f).own a H.length))
    else(dZ P (eN P hint n) (hint f) n c (enter b H)).bind (jD P (hint f).own a H.length)
   else if b.length+1=a.params.size+a.nfree/\ef a.ntmps c=true/\(a.name== "runtime.NumGoroutine")=false then
    (Vq H).bind λe=>(dZ P (eN P hint n) (hint f) n c (B0 e b)).bind (jD P (hint f).own a 0)
   else none
def ai5(c:Bool)(t t':T):Prop:=(t=.d (.sl false [])/\t'=.d (.sl c []))\/(t=.own []/\t'=.own [])
theorem Gc{n:Nat}{c:Bool}{d f:U (J T×J Ob)}{r:J T×J Ob}(e:QK n c d f=some r):∃t t' b a,ai5 c t t'/\d=some ([t],b)/\f=some ([t],a)/\ng b=true/\ng a=true/\b.length=n/\a.length=n/\r=([t'],List.replicate n .lock):=by
 unfold QK at e
 split at e
 .split at e
  .rename_i h
   simp only[xJ]at e
   exact⟨_,_,_,_,.inl ⟨rfl,rfl⟩,rfl,rfl,h.1,h.2.1,h.2.2.1,h.2.2.2,e.symm⟩
  .cases e
 .split at e
  .rename_i h
   simp only[xJ]at e
   exact⟨_,_,_,_,.inr ⟨rfl,rfl⟩,rfl,rfl,h.1,h.2.1,h.2.2.1,h.2.2.2,e.symm⟩
  .cases e
 .cases e
structure Cx where
 w:World
 pm:Bool->Nat->Prop
 nO:Nat
 ρ:Nat->Nat
def wM(d:D)(v:Vz):Prop:=match d with | .agg _=>∃a,v=.agg a |_=>v.oneCell'=true
mutual
def VC(c:Cx):D->List Value->Prop
 | .int k n,e=>e=[.int k n]
 | .bool b,e=>e=[.bool b]
 | .str s,e=>∃b:ByteArray,e=[.string b]/\b.data.toList=s
 | .aJ,e=>e=[.slice none 0 0]
 | .sl b l,e=>∃a g p,e=[.slice a g p]/\g=l.length/\g<=p/\(l≠[]->∃q h,a=some q/\q.spot=none/\c.pm b q.block/\0<h/\VE c l q 0 h)
 | .agg l,e=>aR c l e
 | .cQ,e=>e=[.pointer none]
 | .ptr o,e=>o<c.nO/\e=[.pointer (some ⟨c.ρ o,0,none⟩)]
 | .df,e=>e=[.map none]
 | .map o,e=>o<c.nO/\e=[.map (some (c.ρ o))]
 | .cX,e=>e=[.nilFunc]
 | .fn f a b,e=>∃w y:Array Value,e=[.func f w y]/\bf c a w.toList/\bf c b y.toList
 | .bW,e=>e=[.nilIface]
 | .iface t x,e=>∃v,e=[.iface t v]/\VC c x v.cells.toList/\wM x v
 | .yld o,e=>o<c.nO/\e=[.func (.yield (c.ρ o)) #[] #[]]
 | .bQ l,e=>∃a i,e=[.pointer (some a)]/\a.spot=none/\c.pm true a.block/\(∀(j:Nat) (u:Value),i[j]? =some u->c.w.cell? (a.add j)=some u)/\aR c l i
def aR(c:Cx):List D->List Value->Prop
 | [],e=>e=[]
 |d::m,e=>∃v r,e=v::r/\VC c d [v]/\aR c m r
def bf(c:Cx):List D->List Value->Prop
 | [],i=>i=[]
 |d::m,i=>∃v r,i=v::r/\VC c d v.cells.toList/\wM d v/\bf c m r
def VE(c:Cx):List D->Addr->Nat->Nat->Prop
 | [],_,_,_=>True
 |d::m,a,o,h=>(∃e,e.length=h/\(∀j v,e[j]? =some v->c.w.cell? (a.add (o+j))=some v)/\VC c d e)/\VE c m a (o+h) h
end
def VV(c:Cx)(d:D)(v:Vz):Prop:=VC c d v.cells.toList/\wM d v
structure Ext(c c':Cx):Prop where
 pm:∀b g,c.pm b g->c'.pm b g/\c'.w.heap[g]? =c.w.heap[g]?
 nO:c.nO<=c'.nO
 ρ:∀o,o<c.nO->c'.ρ o=c.ρ o
theorem kw(a:Addr)(n:Nat):(a.add n).block=a.block:=by grind [Addr.add]
theorem fm(b o n:Nat):(⟨b,o,none⟩:Addr).add n=⟨b,o+n,none⟩:=by grind [Addr.add]
theorem qq{w w':Wz}{a:Addr}(h:w'.heap[a.block]? =w.heap[a.block]?):w'.cell? a=w.cell? a:=by simp[World.cell?,h]
mutual
theorem VC.ext{c c':Cx}(h:Ext c c'):∀(d:D) (cs:List Value),VC c d cs->VC c' d cs
 |.int _ _,_,e|.bool _,_,e|.str _,_,e|.aJ,_,e|.cQ,_,e|.df,_,e|.cX,_,e|.bW,_,e=>by simpa [VC]using e
 | .ptr o,cs,e=>by
  simp only[VC]at e |-
  exact⟨yA e.1 h.nO,by rw[h.ρ o e.1];exact e.2⟩
 | .map o,cs,e=>by
  simp only[VC]at e |-
  exact⟨yA e.1 h.nO,by rw[h.ρ o e.1];exact e.2⟩
 | .yld o,cs,e=>by
  simp only[VC]at e |-
  exact⟨yA e.1 h.nO,by rw[h.ρ o e.1];exact e.2⟩
 | .agg l,cs,e=>by have:=aR.ext h l cs e;grind [VC]
 | .sl b l,cs,e=>by
  simp only[VC]at e |-
  obtain⟨a,len,n,g,i,h3,h4⟩:=e
  refine⟨a,len,n,g,i,h3,λs=> ?_⟩
  obtain⟨p,k,h5,h6,h7,y,h9⟩:=h4 s
  exact⟨p,k,h5,h6,(h.pm _ _ h7).1,y,VE.ext h l p 0 k (h.pm _ _ h7).2 h9⟩
 | .fn f a b,cs,e=>by
  have:=bf.ext h a;have:=bf.ext h b;grind [VC]
 | .iface t x,cs,e=>by
  simp only[VC]at e |-
  obtain⟨v,g,i,h3⟩:=e
  exact⟨v,g,VC.ext h _ _ i,h3⟩
 | .bQ l,cs,e=>by
  simp only[VC]at e |-
  obtain⟨a,q,g,i,h3,h4,h5⟩:=e
  refine⟨a,q,g,i,(h.pm _ _ h3).1,λj u A=> ?_,aR.ext h l q h5⟩
  rw[qq (w:=c.w) (by rw[kw];exact(h.pm _ _ h3).2)]
  grind
theorem aR.ext{c c':Cx}(h:Ext c c'):∀(l:List D) (cs:List Value),aR c l cs->aR c' l cs
 | [],_,e=>by grind [aR]
 |d::m,cs,e=>by
  have:=VC.ext h d;have:=aR.ext h m;grind [aR]
theorem bf.ext{c c':Cx}(h:Ext c c'):∀(l:List D) (cs:List Value),bf c l cs->bf c' l cs
 | [],_,e=>by grind [bf]
 |d::m,cs,e=>by
  simp only[bf]at e |-
  obtain⟨v,r,g,i,h3,h4⟩:=e
  exact⟨v,r,g,VC.ext h _ _ i,h3,bf.ext h m _ h4⟩
theorem VE.ext{c c':Cx}(h:Ext c c'):∀(l:List D) (a:Addr) (o k:Nat),c'.w.heap[a.block]? =c.w.heap[a.block]? ->VE c l a o k->VE c' l a o k
 | [],_,_,_,_,_=>by simp[VE]
 |d::m,a,o,k,z,e=>by
  have:=VC.ext h d;have:=VE.ext h m a;grind [VE,qq,kw]
end
theorem VV.ext{c c':Cx}(h:Ext c c'){d:D}{v:Vz}(hv:VV c d v):VV c' d v:=⟨VC.ext h _ _ hv.1,hv.2⟩
theorem aR.len{c:Cx}:∀(l:J D) (cs:J Vz),aR c l cs->cs.length=l.length
 | [],_,a=>by grind [aR]
 |d::b,cs,a=>by
  simp only[aR]at a
  obtain⟨v,r,e,f,h3⟩:=a;subst e;simp[aR.len b r h3]
theorem VC.len{c:Cx}(d:D)(cs:J Vz)(hv:VC c d cs):cs.length=d.nc:=by
 cases d with
 |agg l=>exact aR.len l cs hv
 |ptr o=>grind [VC,D.nc]
 |map o=>grind [VC,D.nc]
 |yld o=>grind [VC,D.nc]
 |str s=>obtain⟨b,h,_⟩:=hv;simp[h,D.nc]
 |sl b l=>obtain⟨a,len,e,h,_⟩:=hv;simp[h,D.nc]
 |fn f a b=>obtain⟨g,i,h,_⟩:=hv;simp[h,D.nc]
 |iface t x=>obtain⟨v,h,_⟩:=hv;simp[h,D.nc]
 |bQ l=>obtain⟨a,j,h,_⟩:=hv;simp[h,D.nc]
 |_=>grind [VC,D.nc]
mutual
theorem VC.one{c:Cx}:∀(d:D) (v:Value),VC c d [v]->v.oneCell'=true
 | .agg l,v,e=>by have:=aR.one l [v] e v;grind
 |.int _ _,v,e|.bool _,v,e|.aJ,v,e|.cQ,v,e|.df,v,e|.cX,v,e|.bW,v,e|.ptr _,v,e|.map _,v,e|.yld _,v,e=>by grind [VC,Value.oneCell']
 | .str _,v,e=>by obtain⟨b,h,_⟩:=e;simp at h;simp[h,Value.oneCell']
 | .sl _ _,v,e=>by obtain⟨a,len,k,h,_⟩:=e;simp at h;simp[h,Value.oneCell']
 | .fn _ _ _,v,e=>by obtain⟨n,o,h,_⟩:=e;simp at h;simp[h,Value.oneCell']
 | .iface _ _,v,e=>by obtain⟨u,h,_⟩:=e;simp at h;simp[h,Value.oneCell']
 | .bQ _,v,e=>by obtain⟨a,p,h,_⟩:=e;simp at h;simp[h,Value.oneCell']
theorem aR.one{c:Cx}:∀(l:List D) (f:List Value),aR c l f->∀v∈f,v.oneCell'=true
 | [],_,e=>by grind [aR]
 |d::j,f,e=>by
  simp only[aR]at e
  obtain⟨v,r,i,m,h3⟩:=e;subst i;intro u g
  obtain rfl |g:=List.mem_cons.1 g
  .exact VC.one d _ m
  .exact aR.one j r h3 u g
end
theorem VC.dq{c:Cx}(d:D)(cs:J Vz)(hv:VC c d cs):∀v∈cs,v.oneCell'=true:=by
 have a:=VC.len d cs hv
 cases d with
 |agg l=>exact aR.one l cs hv
 |_=>
  simp only[D.nc]at a
  match cs,a with
  | [u],_=>grind [VC.one]
theorem ly{v:Vz}(h:v.oneCell'=true):v.cells= #[v]:=by cases v <;>simp_all [Value.cells,Value.oneCell']
theorem VV.agg{c:Cx}{l:J D}{cs:Array Vz}(h:aR c l cs.toList):VV c (.agg l) (.agg cs):=⟨by grind [Value.cells,VC],cs,rfl⟩
theorem VV.one{c:Cx}{d:D}{v:Vz}(hv:VC c d [v])(ha:∀l,d≠ .agg l):VV c d v:=by
 have a:=VC.one d v hv
 refine⟨by grind [ly],?_⟩
 cases d with
 |agg l=>grind
 |_=>exact a
theorem VV.inv{c:Cx}{d:D}{v:Vz}(hv:VV c d v)(ha:∀l,d≠ .agg l):VC c d [v]:=by
 obtain⟨a,b⟩:=hv
 cases d with
 |agg l=>grind
 |_=>rwa [ly b]at a
theorem VV.cE{c:Cx}{l:J D}{v:Vz}(hv:VV c (.agg l) v):∃cs,v=.agg cs/\aR c l cs.toList:=by
 obtain⟨a,cs,rfl⟩:=hv
 grind [Value.cells,VC]
theorem VV.of_cells{c:Cx}{d:D}{cs:J Vz}(hv:VC c d cs)(ha:∀l,d≠ .agg l):∃v,cs=[v]/\VV c d v:=by
 have a:=VC.len d cs hv;have b:d.nc=1:=by cases d <;>first |rfl |grind
 rw[b]at a
 match cs,a with
 | [u],_=>grind [VV.one]
theorem aR.get{c:Cx}:∀(l:J D) (cs:J Vz),aR c l cs->∀(i:Nat) (x:D),l[i]? =some x->∃v,cs[i]? =some v/\VC c x [v]
 | [],_,_=>by simp
 |d::b,cs,a=>by
  simp only[aR]at a
  obtain⟨v,r,e,f,h3⟩:=a
  have:=aR.get b r h3;grind
theorem aR.bw{c:Cx}:∀(l:J D) (cs:J Vz),aR c l cs->∀o n,aR c (bw l o n) (bw cs o n)
 | [],cs,a=>by grind [aR,Go.Am.bw]
 |d::b,cs,a=>by
  have f:=a;simp only[aR]at a
  obtain⟨v,r,e,g,h3⟩:=a;subst e;intro o n
  cases o with
  |zero=>
   cases n with
   |zero=>simp[Go.Am.bw,aR]
   |succ n=>
    have:=aR.bw b r h3 0 n;grind [Go.Am.bw,aR]
  |succ o=>simpa [Go.Am.bw]using aR.bw b r h3 o n
theorem aR.append{c:Cx}:∀(l:J D) (cs:J Vz) (b:J D) (a:J Vz),aR c l cs->aR c b a->aR c (l++b) (cs++a)
 | [],_,_,_,e,f=>by grind [aR]
 |d::g,cs,b,a,e,f=>by
  simp only[aR]at e
  obtain⟨v,r,h,i,h3⟩:=e
  have:=aR.append g r b a h3 f;grind [aR]
theorem VE.get{c:Cx}:∀(l:J D) (a:Addr) (o b:Nat),VE c l a o b->∀(i:Nat) (x:D),l[i]? =some x->
  x.nc=b/\∃cs,(∀j v,cs[j]? =some v->c.w.cell? (a.add (o+i * b+j))=some v)/\VC c x cs
 | [],_,_,_,_=>by simp
 |d::g,a,o,b,e=>by
  simp only[VE]at e
  obtain⟨⟨cs,k,m,h3⟩,h4⟩:=e;intro i x f
  cases i with
  |zero=>grind [VC.len]
  |succ i=>
   simp at f;obtain⟨h5,h,h6,h7⟩:=VE.get g a (o+b) b h4 i x f
   grind
theorem IE:∀l:J D,(D.bl l).length=l.length
 | []=>rfl
 |x::l=>by simp[D.bl,IE l]
theorem B1{x:D}{v:Vz}(h:wM x v):wM x.bX v:=by cases x <;>exact h
theorem VC.br{c:Cx}{x:D}{cs:J Vz}(h:VC c x cs):VC c x.br cs:=by
 cases x with
 |aJ=>grind [VC,D.br]
 |_=>exact h
theorem aR.br{c:Cx}:∀(l:J D) (cs:J Vz),aR c l cs->aR c (l.map D.br) cs
 | [],cs,h=>h
 |d::a,cs,h=>by
  simp only[aR]at h
  obtain⟨v,r,rfl,b,h3⟩:=h
  exact⟨v,r,rfl,b.br,aR.br a r h3⟩
theorem VC.norm{c:Cx}{x:D}{cs:J Vz}(h:VC c x cs):VC c x.norm cs:=by
 cases x with
 |agg l=>grind [VC,D.norm,aR.br]
 |_=>exact h.br
theorem IF{x:D}{v:Vz}(h:wM x v):wM x.norm v:=by cases x <;>exact h
theorem VV.norm{c:Cx}{x:D}{v:Vz}(h:VV c x v):VV c x.norm v:=⟨h.1.norm,IF h.2⟩
mutual
theorem VC.bX{c:Cx}(h:∀b,c.pm false b->c.pm true b):∀(d:D) (cs:List Value),VC c d cs->VC c d.bX cs
 |.int _ _,_,g|.bool _,_,g|.str _,_,g|.aJ,_,g|.cQ,_,g|.df,_,g|.cX,_,g|.bW,_,g|.ptr _,_,g|.map _,_,g|.yld _,_,g=>g
 | .agg l,cs,g=>by have:=aR.bX h l cs g;grind [VC,D.bX]
 | .sl b l,cs,g=>by
  simp only[VC]at g
  simp only[D.bX,VC];obtain⟨a,len,n,i,k,h3,h4⟩:=g
  refine⟨a,len,n,i,by grind [IE],h3,λq=> ?_⟩
  obtain⟨p,j,h5,h6,h7,s,h9⟩:=h4 (λe=>by subst e;exact q rfl)
  exact⟨p,j,h5,h6,by cases b <;>first |exact h _ h7 |exact h7,s,VE.bX h l p 0 j h9⟩
 | .fn f a b,cs,g=>by
  have:=bf.bX h a;have:=bf.bX h b;grind [VC,D.bX]
 | .iface t x,cs,g=>by
  simp only[VC]at g
  simp only[D.bX,VC];obtain⟨v,i,k,h3⟩:=g
  exact⟨v,i,VC.bX h _ _ k,B1 h3⟩
 | .bQ l,cs,g=>by
  have:=aR.bX h l;grind [VC,D.bX]
theorem aR.bX{c:Cx}(h:∀b,c.pm false b->c.pm true b):∀(l:List D) (cs:List Value),aR c l cs->aR c (D.bl l) cs
 | [],_,g=>g
 |d::m,cs,g=>by
  simp only[aR]at g
  obtain⟨v,r,i,k,h3⟩:=g
  exact⟨v,r,i,VC.bX h d _ k,aR.bX h m _ h3⟩
theorem bf.bX{c:Cx}(h:∀b,c.pm false b->c.pm true b):∀(l:List D) (cs:List Value),bf c l cs->bf c (D.bl l) cs
 | [],_,g=>g
 |d::m,cs,g=>by
  simp only[bf]at g
  obtain⟨v,r,i,k,h3,h4⟩:=g
  exact⟨v,r,i,VC.bX h d _ k,B1 h3,bf.bX h m _ h4⟩
theorem VE.bX{c:Cx}(h:∀b,c.pm false b->c.pm true b):∀(l:List D) (a:Addr) (o j:Nat),VE c l a o j->VE c (D.bl l) a o j
 | [],_,_,_,g=>g
 |d::m,a,o,j,g=>by
  simp only[VE]at g
  obtain⟨⟨cs,i,k,h3⟩,h4⟩:=g
  exact⟨⟨cs,i,k,VC.bX h d cs h3⟩,VE.bX h m a (o+j) j h4⟩
end
theorem bf.canon{c:Cx}(a:∀b,c.pm false b->c.pm true b){sn:Bool}{l:J D}{cs:J Vz}(h:bf c l cs):bf c (canon sn l) cs:=by
 grind [Go.Am.canon,bf.bX]
mutual
def TC(c:Cx):T->List Value->List Nat->Prop
 | .d x,b,S=>S=[]/\VC c x b
 | .dead,b,S=>S=[]/\∃v,b=[v]/\v.oneCell'=true
 | .agg k,b,S=>a9 c k b S
 | .own i,b,S=>(∃a,b=[.slice a 0 0]/\i=[]/\S=[])\/
   ∃g d f e h S',b=[.slice (some ⟨g,0,none⟩) i.length d]/\S=g::S'/\c.w.heap[g]? =some (.cells f e (0,0))/\
    i.length<=d/\d<=maxLen/\d * h<=f.size/\0<i.length * h/\TE c i h (f.toList.take (i.length * h)) S'
def a9(c:Cx):List T->List Value->List Nat->Prop
 | [],b,S=>b=[]/\S=[]
 |t::k,b,S=>∃v r S1 j,b=v::r/\S=S1++j/\TC c t [v] S1/\a9 c k r j
def TE(c:Cx):List T->Nat->List Value->List Nat->Prop
 | [],_,b,S=>b=[]/\S=[]
 |t::k,h,b,S=>∃l m S1 j,b=l++m/\S=S1++j/\l.length=h/\TC c t l S1/\TE c k h m j
end
def Kept(c c':Cx)(S:J Nat):Prop:=∀g∈S,c'.w.heap[g]? =c.w.heap[g]?
theorem Kept.left{c c':Cx}{A B:J Nat}(h:Kept c c' (A++B)):Kept c c' A:=λg a=>h g (xL _ a)
theorem Kept.right{c c':Cx}{A B:J Nat}(h:Kept c c' (A++B)):Kept c c' B:=λg a=>h g (xR _ a)
mutual
theorem TC.ext{c c':Cx}(h:Ext c c'):∀(t:T) (cs:List Value) (S:List Nat),Kept c c' S->TC c t cs S->TC c' t cs S
 | .d x,cs,S,_,a=>by grind [TC,VC.ext]
 | .dead,cs,S,_,a=>by grind [TC]
 | .agg b,cs,S,hk,a=>by have:=a9.ext h b cs S hk a;grind [TC]
 | .own m,cs,S,hk,a=>by
  simp only[TC]at a |-
  obtain a |⟨g,l,j,e,d,S',f,i,h3,h4,h5,h6,h7,p⟩:=a
  .exact .inl a
  .subst i
   exact .inr ⟨g,l,j,e,d,S',f,rfl,by rw[hk g (by simp)];exact h3,h4,h5,h6,h7,TE.ext h m d _ S' (λx n=>hk x (by simp[n])) p⟩
theorem a9.ext{c c':Cx}(h:Ext c c'):∀(b:List T) (cs:List Value) (S:List Nat),Kept c c' S->a9 c b cs S->a9 c' b cs S
 | [],_,_,_,a=>by grind [a9]
 |t::b,cs,S,hk,a=>by
  simp only[a9]at a |-
  obtain⟨v,r,S1,k,f,i,h3,h4⟩:=a;subst i
  exact⟨v,r,S1,k,f,rfl,TC.ext h t _ _ hk.left h3,a9.ext h b _ _ hk.right h4⟩
theorem TE.ext{c c':Cx}(h:Ext c c'):∀(b:List T) (d:Nat) (cs:List Value) (S:List Nat),Kept c c' S->TE c b d cs S->TE c' b d cs S
 | [],_,_,_,_,a=>by grind [TE]
 |t::b,d,cs,S,hk,a=>by
  simp only[TE]at a |-
  obtain⟨o,q,S1,k,f,i,h3,h4,h5⟩:=a;subst i
  exact⟨o,q,S1,k,f,rfl,h3,TC.ext h t _ _ hk.left h4,TE.ext h b d _ _ hk.right h5⟩
end
theorem a9.len{c:Cx}:∀(a:J T) (cs:J Vz) (S:J Nat),a9 c a cs S->cs.length=a.length
 | [],_,_,b=>by grind [a9]
 |t::a,cs,S,b=>by
  simp only[a9]at b
  obtain⟨v,r,S1,e,d,f,h3,h4⟩:=b;subst d;simp[a9.len a r e h4]
theorem TC.len{c:Cx}(t:T)(cs:J Vz)(S:J Nat)(hv:TC c t cs S):cs.length=t.nc:=by
 cases t with
 |d x=>simp only[TC]at hv;exact VC.len x cs hv.2
 |dead=>obtain⟨_,v,h,_⟩:=hv;simp[h,T.nc]
 |agg i=>exact a9.len i cs S hv
 |own k=>rcases hv with⟨a,h,_⟩ |⟨g,f,b,e,j,S',h,_⟩ <;>simp[h,T.nc]
theorem TE.len{c:Cx}:∀(b:J T) (a:Nat) (cs:J Vz) (S:J Nat),TE c b a cs S->cs.length=b.length * a/\∀t∈b,t.nc=a
 | [],_,_,_,d=>by grind [TE]
 |t::b,a,cs,S,d=>by
  simp only[TE]at d
  obtain⟨i,f,S1,e,g,h,h3,h4,h5⟩:=d
  have:=TE.len b a f e h5;grind [TC.len]
mutual
theorem TC.dq{c:Cx}:∀(t:T) (cs:List Value) (S:List Nat),TC c t cs S->∀v∈cs,v.oneCell'=true
 | .d x,cs,S,b=>by grind [TC,VC.dq]
 | .dead,cs,S,b=>by obtain⟨_,v,h,i⟩:=b;grind
 | .agg d,cs,S,b=>by have:=a9.dq d cs S b;grind
 | .own n,cs,S,b=>by rcases b with⟨a,h,_⟩ |⟨g,l,j,e,m,S',h,_⟩ <;>simp[h,Value.oneCell']
theorem a9.dq{c:Cx}:∀(d:List T) (cs:List Value) (S:List Nat),a9 c d cs S->∀v∈cs,v.oneCell'=true
 | [],cs,S,b=>by grind [a9]
 |t::d,cs,S,b=>by
  simp only[a9]at b
  obtain⟨v,r,S1,k,i,o,h3,h4⟩:=b;subst i;intro u f
  obtain rfl |f:=List.mem_cons.1 f
  .exact TC.dq t _ _ h3 _ (by simp)
  .exact a9.dq d r k h4 u f
end
theorem TE.dq{c:Cx}:∀(e:J T) (b:Nat) (cs:J Vz) (S:J Nat),TE c e b cs S->∀v∈cs,v.oneCell'=true
 | [],_,cs,S,d=>by grind [TE]
 |t::e,b,cs,S,d=>by
  simp only[TE]at d
  obtain⟨i,h,S1,g,f,j,h3,h4,h5⟩:=d;subst f;intro u a
  obtain a |a:=List.mem_append.1 a
  .grind [TC.dq]
  .exact TE.dq e b h g h5 u a
theorem a9.append{c:Cx}:∀(a:J T) (cs:J Vz) (S:J Nat) (b:J T) (ds:J Vz) (R:J Nat),a9 c a cs S->a9 c b ds R->a9 c (a++b) (cs++ds) (S++R)
 | [],_,_,_,_,_,h,d=>by grind [a9]
 |t::f,cs,S,b,ds,R,h,d=>by
  simp only[a9]at h
  obtain⟨v,r,S1,e,g,i,h3,h4⟩:=h
  have:=a9.append f r e b ds R h4 d;grind [a9]
theorem a9.split{c:Cx}:∀(n:Nat) (a:J T) (cs:J Vz) (S:J Nat),a9 c a cs S->
  ∃S1 b,S=S1++b/\a9 c (a.take n) (cs.take n) S1/\a9 c (a.drop n) (cs.drop n) b
 |0,a,cs,S,h=>⟨[],S,rfl,by simp[a9],by simpa using h⟩
 |n+1,[],cs,S,h=>by grind [a9]
 |n+1,t::a,cs,S,h=>by
  simp only[a9]at h
  obtain⟨v,r,S1,b,d,e,h3,h4⟩:=h
  have:=a9.split n a r b h4;grind [a9]
theorem a9.get{c:Cx}{a:J T}{cs:J Vz}{S:J Nat}(h:a9 c a cs S){n:Nat}{t:T}(ht:a[n]? =some t):
  ∃v L St R,cs[n]? =some v/\S=L++St++R/\TC c t [v] St/\a9 c (a.take n) (cs.take n) L/\a9 c (a.drop (n+1)) (cs.drop (n+1)) R:=by
 obtain⟨A,B,b,i,h3⟩:=a9.split n a cs S h
 have hd:a.drop n=t::a.drop (n+1):=by
  obtain⟨e,f⟩:=List.getElem?_eq_some_iff.1 ht;rw[xW e,f]
 rw[hd]at h3
 simp only[a9]at h3
 obtain⟨v,r,S1,d,h4,h5,h6,h7⟩:=h3;subst b;subst h5;have g:cs.drop (n+1)=r:=by rw[<-List.tail_drop,h4];rfl
 refine⟨v,A,S1,d,?_,by simp,h6,i,by rw[g];exact h7⟩
 have:=congrArg (·[0]?) h4
 grind
theorem a9.of_d{c:Cx}:∀(l:J D) (cs:J Vz),aR c l cs->a9 c (l.map .d) cs []
 | [],cs,h=>by grind [aR,a9]
 |d::a,cs,h=>by
  simp only[aR]at h
  obtain⟨v,r,b,e,h3⟩:=h;subst b;simp only[eJ,a9]
  exact⟨v,r,[],[],rfl,rfl,by grind [TC],a9.of_d a r h3⟩
theorem TC.cells{c:Cx}{t:T}{cs:J Vz}{S:J Nat}(h:TC c t cs S):a9 c t.cells cs S:=by
 have f:=TC.len t cs S h
 have b:t.nc=1->(∀v,cs=[v]->a9 c [t] [v] S):=λ_ v g=>by
  subst g;simp only[a9]
  grind
 have a:t.nc=1->a9 c [t] cs S:=λe=>by
  rw[e]at f
  match cs,f,b e with
  | [v],_,k=>exact k v rfl
 cases t with
 |agg j=>exact h
 |own i=>exact a rfl
 |dead=>exact a rfl
 |d x=>
  cases x with
  |agg l=>simp only[TC,VC]at h;obtain⟨rfl,h⟩:=h;exact a9.of_d l cs h
  |_=>exact a rfl
theorem T.pures_spec{c:Cx}:∀(a:J T) (ds:J D),T.bG a=some ds->∀(cs:J Vz) (S:J Nat),a9 c a cs S->S=[]/\aR c ds cs
 | [],ds,h=>by
  grind [T.bG,a9,aR]
 |t::a,ds,h=>by
  cases t with
  |d x=>
   simp only[T.bG,xM]at h
   obtain⟨r,e,g⟩:=h;subst g;intro cs S b;simp only[a9,TC]at b
   obtain⟨v,q,S1,f,h3,h4,⟨h5,h6⟩,h7⟩:=b
   have:=T.pures_spec a r e q f h7;grind [aR]
  |_=>simp[T.bG]at h
theorem TC.mk{c:Cx}{a:J T}{cs:J Vz}{S:J Nat}(h:a9 c a cs S):TC c (T.bt a) cs S:=by
 grind [T.bt,T.pures_spec,TC,VC]
theorem T.cz{t ct:T}{off:Nat}(h:t.cell off=some ct):t.cells[off]? =some ct:=by
 unfold T.cell at h
 split at h
 .exact h
 .grind [T.cells]
 grind [T.cells]
theorem TC.setCells{c:Cx}{t:T}{cs:J Vz}{S:J Nat}(h:TC c t cs S)(off n:Nat):
  ∃L M R,S=L++M++R/\∀(c':Cx) (vs:J T) (a:J Vz) (b:J Nat),Ext c c'->vs.length=n->a9 c' vs a b->Kept c c' (L++R)->
   TC c' (t.setCells off vs) (cs.take off++a++cs.drop (off+a.length)) (L++b++R):=by
 have j:=h.cells;obtain⟨L,B,f,k,h3⟩:=a9.split off t.cells cs S j;obtain⟨M,R,h4,_,h6⟩:=a9.split n (t.cells.drop off) (cs.drop off) B h3;subst f;subst h4
 refine⟨L,M,R,by simp,λc' vs a b e i d hk=> ?_⟩
 have g:=a9.len vs a b d;unfold T.setCells;refine TC.mk ?_;rw[oP,oP]at h6
 rw[g,i];exact a9.append _ _ _ _ _ _ (a9.append _ _ _ _ _ _ (a9.ext e _ _ _ hk.left k) d) (a9.ext e _ _ _ hk.right h6)
theorem TE.append{c:Cx}:∀(a:J T) (d:Nat) (cs:J Vz) (S:J Nat) (b:J T) (ds:J Vz) (R:J Nat),TE c a d cs S->TE c b d ds R->TE c (a++b) d (cs++ds) (S++R)
 | [],_,_,_,_,_,_,h,e=>by grind [TE]
 |t::i,d,cs,S,b,ds,R,h,e=>by
  simp only[TE]at h
  obtain⟨j,g,S1,f,k,l,h3,h4,h5⟩:=h
  have:=TE.append i d g f b ds R h5 e;grind [TE]
theorem TE.split{c:Cx}:∀(n:Nat) (b:J T) (a:Nat) (cs:J Vz) (S:J Nat),TE c b a cs S->
  ∃S1 d,S=S1++d/\TE c (b.take n) a (cs.take (n * a)) S1/\TE c (b.drop n) a (cs.drop (n * a)) d
 |0,b,a,cs,S,h=>⟨[],S,rfl,by simp[TE],by simpa using h⟩
 |n+1,[],a,cs,S,h=>by grind [TE]
 |n+1,t::b,a,cs,S,h=>by
  simp only[TE]at h
  obtain⟨f,j,S1,d,g,i,h3,h4,h5⟩:=h;obtain⟨A,B,h6,h7,k⟩:=TE.split n b a j d h5;subst g;subst i;subst h6;have e:(n+1) * a=f.length+n * a:=by rw[iN,h3];omega
  refine⟨S1++A,B,by simp,?_,?_⟩
  .grind [TE]
  .rw[e,List.drop_length_add_append]
   grind
theorem TE.get{c:Cx}{b:J T}{a:Nat}{cs:J Vz}{S:J Nat}(h:TE c b a cs S){n:Nat}{t:T}(ht:b[n]? =some t):
  ∃d L St R,d.length=a/\cs=cs.take (n * a)++d++cs.drop (n * a+a)/\(cs.take (n * a)).length=n * a/\S=L++St++R/\TC c t d St/\TE c (b.take n) a (cs.take (n * a)) L/\TE c (b.drop (n+1)) a (cs.drop (n * a+a)) R:=by
 obtain⟨A,B,g,i,h3⟩:=TE.split n b a cs S h;have e:=(List.getElem?_eq_some_iff.1 ht).1
 have hd:b.drop n=t::b.drop (n+1):=by
  obtain⟨e,f⟩:=List.getElem?_eq_some_iff.1 ht;rw[xW e,f]
 grind [TE,oP,List.drop_left,yP,TE.len]
theorem TE.put{c c':Cx}(hx:Ext c c'){b:J T}{a n:Nat}{cs d:J Vz}{L R St:J Nat}{t:T}(hn:n<b.length)(hl:TE c (b.take n) a (cs.take (n * a)) L)(hr:TE c (b.drop (n+1)) a (cs.drop (n * a+a)) R)
  (hk:Kept c c' (L++R)) (h1:d.length=a) (ht:TC c' t d St):TE c' (b.set n t) a (cs.take (n * a)++d++cs.drop (n * a+a)) (L++St++R):=by
 rw[List.set_eq_take_append_cons_drop,if_pos hn];have e:b.take n++t::b.drop (n+1)=(b.take n++[t])++b.drop (n+1):=by simp
 rw[e];refine TE.append _ _ _ _ _ _ _ (TE.append _ _ _ _ _ _ _ (TE.ext hx _ _ _ _ hk.left hl) ?_) (TE.ext hx _ _ _ _ hk.right hr);simp only[TE]
 grind
def aI(c:Cx):Value->T->dP->Value->Prop
 |h,_,[],d=>d=h
 |h,.own n,(i,b)::p,d=>∃g k j a e f l m,h=.slice (some ⟨g,0,none⟩) k j/\c.w.heap[g]? =some (.cells a e (0,0))/\n[i]? =some f/\f.cell b=some l/\a[i * f.nc+b]? =some m/\aI c m l p d
 |_,_,_::_,_=>False
theorem T.put_elem(e c':T)(off:Nat):e.aT off c'=e.setCells off [c']\/(e.nc=1/\(∀l,e≠ .agg l)/\(∀l,e≠ .d (.agg l))/\e.aT off c'=c'):=by
 cases e with
 |d y=>cases y <;>first |exact .inl rfl |exact .inr ⟨rfl,by simp,by simp,rfl⟩
 |agg l=>exact .inl rfl
 |own a=>exact .inr ⟨rfl,by simp,by simp,rfl⟩
 |dead=>exact .inr ⟨rfl,by simp,by simp,rfl⟩
def bh(es es':J T):Prop:=es'.length=es.length/\∀(i:Nat) (e:T),es[i]? =some e->∃a:T,es'[i]? =some a/\a.nc=e.nc
theorem bh.refl(es:J T):bh es es:=⟨rfl,λ_ e h=>⟨e,h,rfl⟩⟩
theorem T.cA(t:T):t.cells.length=t.nc:=by
 cases t with
 |d x=>cases x <;>simp[T.cells,T.nc,D.nc]
 |_=>simp[T.cells,T.nc]
theorem T.mkAgg_cells(a:J T):(T.bt a).cells=a:=by
 unfold T.bt;split
 .rename_i b hd
  have:∀(a:J T) (b:J D),T.bG a=some b->b.map T.d=a:=by
   intro a
   induction a with
   |nil=>grind [T.bG]
   |cons t r c=>
    intro b h
    cases t with
    |d x=>
     grind [T.bG,xM]
    |_=>simp[T.bG]at h
  grind [T.cells]
 .rfl
theorem T.mkAgg_cell(a:J T)(off:Nat):(T.bt a).cell off=a[off]? :=by
 grind [T.mkAgg_cells,T.bt,T.cells,T.cell]
theorem T.mkAgg_nc(a:J T):(T.bt a).nc=a.length:=by rw[<-T.cA,T.mkAgg_cells]
theorem T.bV{e c:T}{off:Nat}(h:e.cell off=some c):off<e.nc:=by
 have:=T.cz h
 grind [T.cA]
theorem T.setCells_nc{e:T}{off:Nat}{vs:J T}(h:off+vs.length<=e.nc):(e.setCells off vs).nc=e.nc:=by
 grind [T.cA,T.setCells,T.mkAgg_nc]
theorem T.setCells_other{e:T}{off a:Nat}{vs:J T}{d:T}(h:off+vs.length<=e.nc)(hd:e.cells[a]? =some d)(b:a<off\/off+vs.length<=a):(e.setCells off vs).cell a=some d:=by
 grind [T.setCells,T.mkAgg_cell]
theorem T.cY{e c x:T}{off:Nat}(h:e.cell off=some x)(h1:c.nc=1):(e.aT off c).nc=e.nc:=by
 have a:=T.bV h
 obtain q |⟨b,_,_,q4⟩:=T.put_elem e c off
 .grind [T.setCells_nc]
 grind
theorem T.cI{e c d x:T}{off a:Nat}(h:e.cell off=some x)(hd:e.cell a=some d)(f:a≠off):(e.aT off c).cell a=some d:=by
 have g:=T.bV h;have b:=T.bV hd
 obtain q |⟨i,j,q3,q4⟩:=T.put_elem e c off
 .grind [T.setCells_other,T.cz]
 .omega
theorem T.cV{e c x:T}{off:Nat}(h:e.cell off=some x)(h1:c.nc=1)(h2:∀l,c≠ .agg l)(h3:∀l,c≠ .d (.agg l)):(e.aT off c).cell off=some c:=by
 have a:=T.bV h;have f:=T.cA e
 obtain q |⟨g,b,q3,q4⟩:=T.put_elem e c off
 .rw[q]
  unfold T.setCells;rw[T.mkAgg_cell,xK,xN (by simp;omega)]
  grind
 .have:off=0:=by omega
  subst this;rw[q4]
  cases c with
  |agg l=>grind
  |d y=>cases y <;>first |exact absurd rfl (h3 _) |rfl
  |_=>rfl
theorem aI.uniq{c:Cx}:∀(p:dP) (t:T) (h a b:Vz),aI c h t p a->aI c h t p b->a=b
 | [],_,_,_,_,f,n=>by grind [aI]
 |(i,G)::p,t,h,a,b,f,n=>by
  cases t with
  |own N=>
   simp only[aI]at f n
   obtain⟨g,I,H,F,e,O,A,L,K,w,J,C,y,z⟩:=f;obtain⟨M,s,r,u,P,D,v,E,k,j,o,m,q,B⟩:=n;subst K;simp only[Value.slice.injEq,xJ,Addr.mk.injEq,and_true]at k
   obtain⟨k,_,_⟩:=k;subst k;rw[w]at j
   simp only[xJ,Obj.cells.injEq,and_true]at j
   obtain⟨j,_⟩:=j;subst j;rw[J]at o
   simp only[xJ]at o
   subst o;rw[C]at m
   simp only[xJ]at m
   subst m;rw[y]at q
   simp only[xJ]at q
   subst q;exact aI.uniq p A L a b z B
  |d x=>simp[aI]at f
  |agg l=>simp[aI]at f
  |dead=>simp[aI]at f
theorem aI.ext{c c':Cx}:∀(q:dP) (t:T) (h o:Vz) (S:J Nat),TC c t [h] S->Kept c c' S->aI c h t q o->aI c' h t q o
 | [],_,_,_,_,_,_,f=>f
 |(i,b)::q,t,h,o,S,U,hk,f=>by
  cases t with
  |own M=>
   simp only[aI]at f |-
   obtain⟨g,s,r,k,e,B,y,u,Y,w,D,z,K,L⟩:=f
   obtain⟨a,_,E,_⟩ |⟨g',C,F,e',j,S',n,E,h3,h4,h5,h6,h7,Z⟩:=U
   .grind
   .subst Y
    simp only[xC,Value.slice.injEq,xJ,Addr.mk.injEq,and_true]at n
    obtain⟨n,_,_⟩:=n;subst n;rw[w]at h3
    simp only[xJ,Obj.cells.injEq,and_true]at h3
    obtain⟨h3,_⟩:=h3;subst h3;subst E;obtain⟨R,L1,Se,R1,V,W,k3,I,A,k6,k7⟩:=TE.get Z D;obtain⟨v,L2,X,R2,G,H,O,m4,m5⟩:=a9.get A.cells (T.cz z);have N:B.nc=j:=by rw[<-TC.len _ _ _ A,V]
    have m:b<R.length:=(List.getElem?_eq_some_iff.1 G).1
    have p:(k.toList.take (M.length * j))[i * j+b]? =some v:=by
     rw[W,xK,xN (by omega),k3,show i * j+b - i * j=b by omega,xO m]
     exact G
    rw[xU]at p
    have P:u=v:=by
     split at p
     .grind
     .cases p
    subst P;subst I;subst H
    exact⟨g,s,r,k,e,B,y,u,rfl,by rw[hk g (by simp)];exact w,D,z,K,aI.ext q y u o X O (λx Q=>hk x (by simp[Q])) L⟩
  |d x=>simp[aI]at f
  |agg l=>simp[aI]at f
  |dead=>simp[aI]at f
theorem a9.sub{c:Cx}{a:J T}{cs:J Vz}{S:J Nat}(h:a9 c a cs S){n:Nat}{t:T}(ht:a[n]? =some t):
  ∃v St,cs[n]? =some v/\TC c t [v] St/\∀z∈St,z∈S:=by
 grind [a9.get]
theorem TE.sub{c:Cx}{e:J T}{b:Nat}{cs:J Vz}{S:J Nat}(h:TE c e b cs S){n:Nat}{t y:T}{off:Nat}(ht:e[n]? =some t)(i:t.cell off=some y):
  ∃v St,cs[n * b+off]? =some v/\TC c y [v] St/\∀z∈St,z∈S:=by
 obtain⟨g,o,u,R1,r,j,l,m,f,p,s⟩:=TE.get h ht;obtain⟨v,St,d,k,h3⟩:=a9.sub f.cells (T.cz i);have a:off<g.length:=(List.getElem?_eq_some_iff.1 d).1
 refine⟨v,St,?_,k,λz q=>by grind⟩
 rw[j,xK,xN (by omega),l,show n * b+off - n * b=off by omega,xO a]
 exact d
theorem QL{a:Array Vz}{n b i off:Nat}{d:J Vz}{v:Vz}(g:a.toList.take n=(a.toList.take n).take (i * b)++d++(a.toList.take n).drop (i * b+b))(f:((a.toList.take n).take (i * b)).length=i * b)(e:d[off]? =some v):
  a[i * b+off]? =some v:=by
 have c:off<d.length:=(List.getElem?_eq_some_iff.1 e).1
 have h:(a.toList.take n)[i * b+off]? =some v:=by
  rw[g,xK,xN (by omega),f,show i * b+off - i * b=off by omega,xO c]
  exact e
 grind
structure Focus(c:Cx)(t:T)(h:Value)(p:dP)(nd:T)(h':Value)(L Sn R:List Nat):Prop where
 node:aI c h t p h'
 tc:TC c nd [h'] Sn
 put:∀(c':Cx) (nd' t':T) (Sn':List Nat),Ext c c'->Kept c c' (L++R)->t.put p nd'=some t'->TC c' nd' [h'] Sn'->TC c' t' [h] (L++Sn'++R)
 oth:∀(c':Cx) (nd' t':T) (Q:dP->Prop),Kept c c' (L++R)->t.put p nd'=some t'->nd'.nc=1->
  (∀q es,Q q->nd.at q=some (.own es)->∃es',nd'.at q=some (.own es')/\bh es es'/\∀h1,aI c h' nd q h1->aI c' h' nd' q h1)->
  ∀q es,(∀q',q=p++q'->Q q')->t.at q=some (.own es)->∃es',t'.at q=some (.own es')/\bh es es'/\∀h1,aI c h t q h1->aI c' h t' q h1
theorem T.put_nc:∀(p:dP) (t nd a t':T),t.at p=some nd->t.put p a=some t'->t.nc=1->a.nc=1->t'.nc=1
 | [],_,_,_,_,_,b,_,h=>by grind [T.put]
 |(i,c)::p,t,nd,a,t',_,b,_,_=>by
  cases t with
  |own f=>
   simp only[T.put,xB,xM]at b
   obtain⟨e,_,g,_,c',_,rfl⟩:=b;rfl
  |_=>simp[T.put]at b
theorem TC.focus{c:Cx}:∀(p:dP) (t:T) (h:Vz) (S:J Nat) (nd:T),TC c t [h] S->t.at p=some nd->
  ∃h' L Sn R,S=L++Sn++R/\Focus c t h p nd h' L Sn R
 | [],t,h,S,nd,ht,m=>by
  simp only[T.at,xJ]at m
  subst m
  refine⟨h,[],S,[],by simp,rfl,ht,λc' E t' Sn' _ _ H hn=> ?_,λc' E t' Q _ H _ hb q N P=> ?_⟩
  .grind [T.put]
  grind [T.put]
 |(i,f)::p,t,h,S,nd,ht,m=>by
  cases t with
  |own N=>
   simp only[T.at,xB]at m
   obtain⟨B,he,ct,w,m⟩:=m;have hn:=(List.getElem?_eq_some_iff.1 he).1
   obtain⟨a,_,h2,_⟩ |⟨g,aa,o,e,D,S',M,h2,h3,h4,h5,h6,h7,h8⟩:=ht
   .grind
   .obtain⟨Z,L1,Se,R1,k1,k2,k3,k4,k5,k6,k7⟩:=TE.get h8 he
    obtain⟨v,L2,Sc,R2,m1,m2,m3,m4,m5⟩:=a9.get k5.cells (T.cz w);obtain⟨h',L3,Sn,R3,n2,de⟩:=TC.focus p ct v Sc nd m3 m;have ak:B.nc=D:=by rw[<-TC.len _ _ _ k5,k1]
    have af:ct.nc=1:=by rw[<-TC.len _ _ _ m3];rfl
    have ao:f<Z.length:=(List.getElem?_eq_some_iff.1 m1).1
    have e1:o[i * B.nc+f]? =some v:=by
     rw[ak]
     have e1:(o.toList.take (N.length * D))[i * D+f]? =some v:=by
      rw[k2,xK,xN (by omega),k3,show i * D+f - i * D=f by omega,xO ao]
      exact m1
     rw[xU]at e1
     split at e1
     .simpa using e1
     .cases e1
    subst h2;subst k4;subst m2;subst n2;simp only[xC,and_true]at M
    refine⟨h',g::L1++L2++L3,Sn,R3++R2++R1,by simp,?_,de.tc,λc' E t' Sn' G hk H aG=> ?_,λc' E t' Q hk H V hb q K P s=> ?_⟩
    .simp only[aI]
     exact⟨g,N.length,aa,o,e,B,ct,v,M,h3,he,w,e1,de.node⟩
    .simp only[T.put,he,w,xS,xM]at H
     obtain⟨k,H,ac⟩:=H;subst ac;have n5:=de.put c' E k Sn' G (λx F=>hk x (by grind)) H aG
     have hg:c'.w.heap[g]? =some (.cells o e (0,0)):=by rw[hk g (by simp)];exact h3
     have an:TC c' (B.aT f k) Z (L2++(L3++Sn'++R3)++R2):=by
      obtain q |⟨q1,q2,q3,q4⟩:=T.put_elem B k f
      .rw[q]
       unfold T.setCells;refine TC.mk ?_
       have ee:Z=Z.take f++[v]++Z.drop (f+1):=by
        obtain⟨hh,hv⟩:=List.getElem?_eq_some_iff.1 m1;rw[xK,List.singleton_append,<-hv,<-xW hh,yP]
       rw[ee];refine a9.append _ _ _ _ _ _ (a9.append _ _ _ _ _ _ (a9.ext G _ _ _ (λx F=>hk x (by simp[F])) m4) ?_) ?_
       .simp only[a9];exact⟨v,[],_,[],rfl,by simp,n5,rfl,rfl⟩
       .simp only[xZ,yN]
        exact a9.ext G _ _ _ (λx F=>hk x (by simp[F])) m5
      .rw[q4]
       have ai:=TC.len _ _ _ k5;rw[q1]at ai
       have Y:f=0:=by omega
       subst Y
       have aM:B.cells=[B]:=by
        cases B with
        |agg l=>grind
        |d y=>cases y <;>first |rfl |grind
        |_=>rfl
       match Z,ai,m1 with
       | [u],_,m1=>
        grind [a9]
     simp only[TC];refine .inr ⟨g,aa,o,e,D,L1++(L2++(L3++Sn'++R3)++R2)++R1,by grind,by simp,hg,by grind,h5,h6,by grind,?_⟩
     rw[oN];rw[k2];exact TE.put G hn k6 k7 (λx F=>hk x (by grind)) k1 an
    .simp only[T.put,he,w,xS,xM]at H
     obtain⟨k,H,ac⟩:=H;subst ac;have hg:c'.w.heap[g]? =some (.cells o e (0,0)):=by rw[hk g (by simp)];exact h3
     have ah:k.nc=1:=T.put_nc p ct nd E k m H af V;have a6:(B.aT f k).nc=B.nc:=T.cY w ah
     have ag:∀(j:Nat) (x:T),N[j]? =some x->∃I:T,(N.set i (B.aT f k))[j]? =some I/\I.nc=x.nc/\(j≠i->I=x)/\(j=i->x=B/\I=B.aT f k):=by
      intro j x G
      by_cases hj:i=j
      .grind
      .grind
     cases q with
     |nil=>
      simp only[T.at,xJ,T.own.injEq]at s
      subst s
      refine⟨_,rfl,⟨by simp,λj x G=> ?_⟩,λM hh=>hh⟩
      grind
     |cons ab q=>
      obtain⟨a,b⟩:=ab;simp only[T.at,xB]at s
      obtain⟨x,G,y,O,s⟩:=s;obtain⟨I,a1,a2,a3,a4⟩:=ag a x G
      -- the cell by which the road goes on
      have W:∀y' r,I.cell b=some y'->y'.at q=some (.own r)->bh K r->
        (∀C P,o[a * x.nc+b]? =some C->aI c C y q P->aI c' C y' q P)->
        ∃r,(T.own (N.set i (B.aT f k))).at ((a,b)::q)=some (.own r)/\bh K r/\∀P,aI c h (T.own N) ((a,b)::q) P->aI c' h (T.own (N.set i (B.aT f k))) ((a,b)::q) P:=by
       intro y' r b1 b2 b3 b4
       refine⟨r,by grind [T.at],b3,λP hh=> ?_⟩
       simp only[aI]at hh |-
       obtain⟨g',aN,aO,aQ,e',an,aS,C,d1,d2,d3,d4,d5,d6⟩:=hh;rw[M]at d1
       simp only[Value.slice.injEq,xJ,Addr.mk.injEq,and_true]at d1
       obtain⟨d1,_,_⟩:=d1;subst d1;rw[h3]at d2
       simp only[xJ,Obj.cells.injEq,and_true]at d2
       obtain⟨d2,_⟩:=d2;subst d2;rw[G]at d3
       simp only[xJ]at d3
       subst d3;rw[O]at d4
       simp only[xJ]at d4
       subst d4
       exact⟨g,N.length,aa,o,e,I,y',C,M,hg,a1,b1,by rw[a2];exact d5,b4 C P d5 d6⟩
      by_cases ha:a=i
      .obtain⟨ax,aC⟩:=a4 ha
       subst ax;subst aC;subst ha
       by_cases X:b=f
       .subst X
        rw[w]at O
        simp only[xJ]at O
        subst O;obtain⟨r,aZ,a0,aX⟩:=de.oth c' E k Q (λx F=>hk x (by grind)) H V hb q K (λq' aL=>P q' (by rw[aL];rfl)) s
        have aV:(x.aT b k).cell b=some k:=by
         by_cases aY:(∀l,k≠ .agg l)/\(∀l,k≠ .d (.agg l))
         .grind [T.cV]
         .exfalso
          cases q with
          |nil=>grind [T.at]
          |cons z q=>grind [T.at]
        grind
       .refine W y K (T.cI w O X) s (bh.refl _) λC M d5 d6=> ?_
        have aq:=T.cz O;have a5:=T.bV O
        have ad:∀A Sc',Z[b]? =some A->TC c y [A] Sc'->(∀z∈Sc',z∈L2\/z∈R2)->aI c' C y q M:=λA Sc' f1 f2 f3=>by
         have:C=A:=by
          rw[ak]at d5
          have:=QL k2 k3 f1
          rw[d5]at this
          simpa using this
         subst this;exact aI.ext q y C M Sc' f2 (λz hz=>hk z (by grind)) d6
        obtain aJ |ay:=Nat.lt_or_gt_of_ne X
        .obtain⟨A,St,U,g2,g3⟩:=a9.sub m4 (n:=b) (t:=y) (by grind)
         grind
        .obtain⟨A,St,U,g2,g3⟩:=a9.sub m5 (n:=b - (f+1)) (t:=y) (by rw[jq,show f+1+(b - (f+1))=b by omega];exact aq)
         exact ad A St (by rw[jq,show f+1+(b - (f+1))=b by omega]at U;exact U) g2 (λz hz=>.inr (g3 z hz))
      .have:=a3 ha
       subst this;refine W y K O s (bh.refl _) λC M d5 d6=> ?_
       have av:I.nc=D:=(TE.len _ _ _ _ h8).2 I (yS G);have al:=(List.getElem?_eq_some_iff.1 G).1
       have ad:∀A Sc',(o.toList.take (N.length * D))[a * D+b]? =some A->TC c y [A] Sc'->(∀z∈Sc',z∈L1\/z∈R1)->aI c' C y q M:=λA Sc' f1 f2 f3=>by
        have:C=A:=by
         rw[av]at d5
         rw[xU]at f1
         split at f1
         .grind
         .cases f1
        subst this;exact aI.ext q y C M Sc' f2 (λz hz=>hk z (by grind)) d6
       obtain aJ |ay:=Nat.lt_or_gt_of_ne ha
       .obtain⟨A,St,U,g2,g3⟩:=TE.sub k6 (n:=a) (t:=I) (by grind) O
        grind
       .obtain⟨A,St,U,g2,g3⟩:=TE.sub k7 (n:=a - (i+1)) (t:=I) (by rw[jq,show i+1+(a - (i+1))=a by omega];exact G) O
        refine ad A St ?_ g2 (λz hz=>.inr (g3 z hz))
        rw[jq]at U
        have e2:i * D+D+((a - (i+1)) * D+b)=a * D+b:=by
         have:a=(a - (i+1))+i+1:=by omega
         conv=>rhs;rw[this]
         simp only[iN];omega
        rw[e2]at U
        exact U
  |d x=>simp[T.at]at m
  |agg l=>simp[T.at]at m
  |dead=>simp[T.at]at m
def All2{c d:Type}(R:c->d->Prop):List c->List d->Prop
 | [],l=>l=[]
 |a::e,l=>∃b r,l=b::r/\R a b/\All2 R e r
theorem All2.imp{d g:Type}{R e:d->g->Prop}:∀{c:J d} {l:J g},(∀a∈c,∀b,R a b->e a b)->All2 R c l->All2 e c l
 | [],_,_,h=>h
 |a::c,l,f,h=>by
  obtain⟨b,r,i,k,h3⟩:=h
  exact⟨b,r,i,f a (by simp) b k,All2.imp (λx j=>f x (by simp[j])) h3⟩
theorem All2.map{e c i:Type}{R:e->i->Prop}{j:c->i->Prop}(g:e->c):∀{d:J e} {l:J i},(∀a∈d,∀b,R a b->j (g a) b)->All2 R d l->All2 j (d.map g) l
 | [],_,_,h=>h
 |a::d,l,f,h=>by
  obtain⟨b,r,k,n,h3⟩:=h
  exact⟨b,r,k,f a (by simp) b n,All2.map g (λx m=>f x (by simp[m])) h3⟩
theorem All2.len{d e:Type}{R:d->e->Prop}:∀{c:J d} {l:J e},All2 R c l->l.length=c.length
 | [],_,h=>by rw[show _=[]from h];rfl
 |a::c,l,h=>by
  obtain⟨b,r,f,g,h3⟩:=h;simp[f,All2.len h3]
theorem All2.get{c e:Type}{R:c->e->Prop}:∀{d:J c} {l:J e},All2 R d l->∀{i:Nat} {a:c},d[i]? =some a->∃b,l[i]? =some b/\R a b
 | [],_,_,_,_,h=>by simp at h
 |a::d,l,h,i,x,g=>by
  obtain⟨b,r,f,j,h3⟩:=h;subst f
  cases i with
  |zero=>grind
  |succ i=>have:=All2.get h3 g;grind
theorem All2.mem{e f:Type}{R:e->f->Prop}:∀{c:J e} {l:J f},All2 R c l->∀a∈c,∃b∈l,R a b
 | [],_,_,a,h=>by simp at h
 |x::c,l,h,a,d=>by
  obtain⟨b,r,g,i,h3⟩:=h;subst g
  obtain rfl |d:=List.mem_cons.1 d
  .grind
  have:=All2.mem h3 a d;grind
theorem All2.append{d f:Type}{R:d->f->Prop}:∀{c bs:J d} {l m:J f},All2 R c l->All2 R bs m->All2 R (c++bs) (l++m)
 | [],_,_,_,h,e=>by rw[show _=[]from h];grind
 |a::c,bs,l,m,h,e=>by
  obtain⟨b,r,g,i,h3⟩:=h;subst g
  exact⟨b,r++m,rfl,i,All2.append h3 e⟩
theorem All2.bw{d e:Type}{R:d->e->Prop}:∀{c:J d} {l:J e},All2 R c l->∀o n,All2 R (Go.Am.bw c o n) (Go.Am.bw l o n)
 | [],l,h,o,n=>by grind [Go.Am.bw,All2]
 |a::c,l,h,o,n=>by
  obtain⟨b,r,f,g,h3⟩:=h;subst f
  cases o with
  |zero=>
   cases n with
   |zero=>simp[Go.Am.bw,All2]
   |succ n=>
    have:=All2.bw h3 0 n
    simp only[Go.Am.bw,i6,Ed]at this |-
    exact⟨b,_,rfl,g,this⟩
  |succ o=>simpa [Go.Am.bw]using All2.bw h3 o n
def Win(h:Vz)(es:J T)(off len:Nat)(v:Vz):Prop:=
 ∃a n c d b,h=.slice a n c/\v=.slice d len b/\len<=b/\(off=0->d=a/\b<=c)/\
  (0<len->∃g e,a=some ⟨g,0,none⟩/\es[off]? =some e/\d=some ⟨g,off * e.nc,none⟩)
def SB(c:Cx)(K:aj->U T)(hd:aj->Vz):SV->Vz->Prop
 | .d x,v=>VV c x v
 | .aG r p d h,v=>∃t f o,K r=some t/\t.at p=some (.own f)/\aI c (hd r) t p o/\d+h<=f.length/\Win o f d h v
 | .loc r p i d,v=>∃t f g n e k,K r=some t/\t.at p=some (.own f)/\aI c (hd r) t p (.slice (some ⟨g,0,none⟩) n e)/\f[i]? =some k/\d<k.nc/\
   v=.pointer (some ⟨g,i * k.nc+d,none⟩)
 | .rp b q,v=>∃a m,v=.pointer (some a)/\a.spot=none/\c.pm b a.block/\(∀j u,m[j]? =some u->c.w.cell? (a.add j)=some u)/\aR c q m
 | .clip b l,v=>VC c (.sl b l) [v]/\∃a,v=.slice a l.length l.length
 | .ns b,v=>∃a e,v=.slice a 0 e/\b=a.isNone
 |.agg _,_|.aS _,_=>False
 | .dead,_=>True
theorem QM{c:Cx}{v:Vz}{b:Bool}(h:∃a cap,v=.slice a 0 cap/\b=a.isNone):VC c (.sl false []) [v]:=by
 grind [VC]
def CO(c:Cx)(K:aj->U T)(hd:aj->Vz):SV->Vz->Prop
 | .d x,v=>VC c x [v]
 |x,v=>SB c K hd x v
def S1(c:Cx)(K:aj->U T)(hd:aj->Vz):SV->Vz->Prop
 | .agg l,v=>∃a,v=.agg a/\All2 (CO c K hd) l a.toList
 |x,v=>SB c K hd x v
def SO(c:Cx)(K:aj->U T)(hd:aj->Vz):SV->Vz->Prop
 | .aS l,v=>∃a,v=.tuple a/\All2 (S1 c K hd) l a.toList
 |x,v=>S1 c K hd x v
def wN(c c':Cx)(K K':aj->U T)(hd hd':aj->Vz)(r:aj)(q:dP):Prop:=
 ∀t d,K r=some t->t.at q=some (.own d)->∃b a,K' r=some b/\b.at q=some (.own a)/\bh d a/\∀h,aI c (hd r) t q h->aI c' (hd' r) b q h
section
variable{c c':Cx}{K K':aj->U T}{hd hd':aj->Vz}
theorem SB.bR{r:aj}{p:dP}{off len:Nat}{v:Vz}(C:wN c c' K K' hd hd' r p)(h:SB c K hd (.aG r p off len) v):SB c' K' hd' (.aG r p off len) v:=by
 obtain⟨t,j,m,A,o,h3,h4,h5⟩:=h;obtain⟨B,e,k,E,f,w⟩:=C t j A o
 refine⟨B,e,m,k,E,w _ h3,by rw[f.1];exact h4,?_⟩
 obtain⟨a,n,d,l,b,s,i,y,u,q⟩:=h5
 refine⟨a,n,d,l,b,s,i,y,u,λD=> ?_⟩
 obtain⟨g,I,J,x,G⟩:=q D;obtain⟨z,H,F⟩:=f.2 _ _ x
 grind
theorem SB.bM{r:aj}{p:dP}{i off:Nat}{v:Vz}(m:wN c c' K K' hd hd' r p)(h:SB c K hd (.loc r p i off) v):SB c' K' hd' (.loc r p i off) v:=by
 obtain⟨t,s,g,n,b,x,j,u,h3,h4,h5,h6⟩:=h;obtain⟨k,a,l,q,w,f⟩:=m t s j u;obtain⟨d,o,e⟩:=w.2 _ _ h4
 exact⟨k,a,g,n,b,d,l,q,f _ h3,o,by rw[e];exact h5,by rw[e];exact h6⟩
theorem SB.bH(hx:Ext c c'){u:SV}{v:Vz}(hb:∀r p off len,u≠ .aG r p off len)(hl:∀r p i off,u≠ .loc r p i off)(h:SB c K hd u v):SB c' K' hd' u v:=by
 cases u with
 |d x=>exact VV.ext hx h
 |aG r p off len=>grind
 |loc r p i off=>grind
 |rp b k=>
  obtain⟨a,f,e,g,h3,h4,h5⟩:=h
  refine⟨a,f,e,g,(hx.pm _ _ h3).1,λj u m=> ?_,aR.ext hx _ _ h5⟩
  rw[qq (w:=c.w) (by rw[kw];exact(hx.pm _ _ h3).2)]
  grind
 |clip b l=>exact⟨VC.ext hx _ _ h.1,h.2⟩
 |ns b=>exact h
 |agg l=>exact h
 |aS l=>exact h
 |dead=>trivial
theorem CO.of_SB{u:SV}{v:Vz}(h:SB c K hd u v)(ha:∀l,u≠ .d (.agg l)):CO c K hd u v:=by
 cases u with
 |d x=>exact VV.inv h (λl a=>ha l (by rw[a]))
 |_=>exact h
theorem CO.to_SB{u:SV}{v:Vz}(hu:∀y,u≠ .d y)(h:CO c K hd u v):SB c K hd u v:=by
 cases u with
 |d y=>grind
 |_=>exact h
theorem S1.to_SB{u:SV}{v:Vz}(hu:∀l,u≠ .agg l)(h:S1 c K hd u v):SB c K hd u v:=by
 cases u with
 |agg y=>grind
 |_=>exact h
theorem S1.of_SB{u:SV}{v:Vz}(hu:∀l,u≠ .agg l)(h:SB c K hd u v):S1 c K hd u v:=by
 cases u with
 |agg y=>grind
 |_=>exact h
theorem SO.to_S1{u:SV}{v:Vz}(hu:∀l,u≠ .aS l)(h:SO c K hd u v):S1 c K hd u v:=by
 cases u with
 |aS y=>grind
 |_=>exact h
theorem SO.of_S1{u:SV}{v:Vz}(hu:∀l,u≠ .aS l)(h:S1 c K hd u v):SO c K hd u v:=by
 cases u with
 |aS y=>grind
 |_=>exact h
theorem SO.step(x:Tr)(hx:Ext c c')(H:∀u v,(∀y,u≠ .d y)->SB c K hd u v->SB c' K' hd' (x.sv u) v)(A:∀u l,(∀y,u≠ .d y)->x.sv u≠ .d (.agg l)){u:SV}{v:Vz}(h:SO c K hd u v):SO c' K' hd' (x.sv u) v:=by
 have f:∀y,x.sv (.d y)=.d y:=λy=>by cases x <;>rfl
 have B:∀u v,SB c K hd u v->SB c' K' hd' (x.sv u) v:=λu v h=>by
  cases u with
  |d y=>rw[f];exact VV.ext hx h
  |_=>grind
 have n:∀u v,CO c K hd u v->CO c' K' hd' (x.sv u) v:=λu v h=>by
  by_cases s:∃y,u=.d y
  .obtain⟨y,rfl⟩:=s
   rw[f];exact VC.ext hx y _ h
  grind [CO.of_SB,CO.to_SB]
 have m:∀l,Tr.bF x l=l.map x.sv:=λl=>by induction l with
  |nil=>rfl
  |cons a r p=>simp[Tr.bF,p]
 have o:∀l,x.sv (.agg l)=.agg (l.map x.sv):=λl=>by rw[<-m];cases x <;>rfl
 have q:∀l,x.sv (.aS l)=.aS (l.map x.sv):=λl=>by rw[<-m];cases x <;>rfl
 have w:∀u l,(∀l,u≠ .agg l)->x.sv u≠ .agg l:=λu l g=>by
  cases u <;>simp_all [Tr.sv] <;>cases x <;>simp <;>(repeat' split) <;>simp
 have t:∀u l,(∀l,u≠ .aS l)->x.sv u≠ .aS l:=λu l g=>by
  cases u <;>simp_all [Tr.sv] <;>cases x <;>simp <;>(repeat' split) <;>simp
 have z:∀u v,S1 c K hd u v->S1 c' K' hd' (x.sv u) v:=λu v h=>by
  by_cases g:∃l,u=.agg l
  .obtain⟨l,rfl⟩:=g
   rw[o];obtain⟨j,i,k⟩:=h
   exact⟨j,i,k.map _ (λa _ b e=>n a b e)⟩
  grind [S1.of_SB,S1.to_SB]
 by_cases g:∃l,u=.aS l
 .obtain⟨l,rfl⟩:=g
  rw[q];obtain⟨j,i,k⟩:=h
  exact⟨j,i,k.map _ (λa _ b e=>z a b e)⟩
 grind [SO.of_S1,SO.to_S1]
theorem SO.aV(hx:Ext c c')(s:∀r q,wN c c' K K' hd hd' r q){u:SV}{v:Vz}(h:SO c K hd u v):SO c' K' hd' u v:=by
 have x:∀u v,SB c K hd u v->SB c' K' hd' u v:=λu v h=>by
  cases u with
  |aG r p j z=>exact SB.bR (s r p) h
  |loc r p i j=>exact SB.bM (s r p) h
  |_=>exact SB.bH hx (by simp) (by simp) h
 have t:∀u v,CO c K hd u v->CO c' K' hd' u v:=λu v h=>by
  by_cases o:∃y,u=.d y
  .obtain⟨y,rfl⟩:=o
   exact VC.ext hx y _ h
  .have m:∀y,u≠ .d y:=λy e=>o ⟨y,e⟩
   have f:=x u v (CO.to_SB m h)
   cases u <;>first |grind |exact f
 have w:∀u v,S1 c K hd u v->S1 c' K' hd' u v:=λu v h=>by
  by_cases n:∃l,u=.agg l
  .obtain⟨l,rfl⟩:=n
   obtain⟨k,g,f⟩:=h;exact⟨k,g,f.imp (λa _ b d=>t a b d)⟩
  grind [S1.of_SB,S1.to_SB]
 by_cases n:∃l,u=.aS l
 .obtain⟨l,rfl⟩:=n
  obtain⟨k,g,f⟩:=h;exact⟨k,g,f.imp (λa _ b d=>w a b d)⟩
 grind [SO.of_S1,SO.to_S1]
theorem SO.kill(hx:Ext c c')(r:aj)(p:dP)(f:∀a q,(a=r->q≠p/\q.length<=p.length)->wN c c' K K' hd hd' a q){u:SV}{v:Vz}(h:SO c K hd u v):SO c' K' hd' ((Tr.kill r p).sv u) v:=by
 refine SO.step _ hx (λu v j h=> ?_) (λu l j=> ?_) h
 .cases u with
  |aG a q g m=>
   simp only[Tr.sv];split
   .split
    .trivial
    .split
     .trivial
     .exact SB.bR (f a q (λ_=>⟨‹_›,by omega⟩)) h
   .exact SB.bR (f a q (λe=>absurd e ‹_›)) h
  |loc a q i g=>
   simp only[Tr.sv];split
   .split
    .trivial
    .split
     .trivial
     .exact SB.bM (f a q (λ_=>⟨‹_›,by omega⟩)) h
   .exact SB.bM (f a q (λe=>absurd e ‹_›)) h
  |d y=>grind
  |agg l=>exact h.elim
  |aS l=>exact h.elim
  |rp b k=>exact SB.bH (u:=.rp b k) hx (by simp) (by simp) h
  |clip b l=>exact SB.bH (u:=.clip b l) hx (by simp) (by simp) h
  |ns b=>exact h
  |dead=>trivial
 .cases u <;>simp_all [Tr.sv] <;>(repeat' split) <;>simp
theorem SO.cG(hx:Ext c c')(r:aj)(n:Nat)(g:∀a q,(a=r->q.length<n)->wN c c' K K' hd hd' a q){u:SV}{v:Vz}(h:SO c K hd u v):SO c' K' hd' ((Tr.cG r n).sv u) v:=by
 refine SO.step _ hx (λu v o h=> ?_) (λu l o=> ?_) h
 .cases u with
  |aG a q f m=>
   simp only[Tr.sv];split
   .trivial
   .rename_i j;exact SB.bR (g a q (λe=>by grind)) h
  |loc a q i f=>
   simp only[Tr.sv];split
   .trivial
   .rename_i j;exact SB.bM (g a q (λe=>by grind)) h
  |d y=>grind
  |agg l=>exact h.elim
  |aS l=>exact h.elim
  |rp b k=>exact SB.bH (u:=.rp b k) hx (by simp) (by simp) h
  |clip b l=>exact SB.bH (u:=.clip b l) hx (by simp) (by simp) h
  |ns b=>exact h
  |dead=>trivial
 .cases u <;>simp_all [Tr.sv] <;>(repeat' split) <;>simp
theorem SO.cP(hx:Ext c c')(r:aj)(p:dP)(l:J D)(f:∀a q,(a=r->q≠p/\q.length<=p.length)->wN c c' K K' hd hd' a q)
  (hf:∀off len v,SB c K hd (.aG r p off len) v->VC c' (.sl false (Go.Am.bw l off len)) [v]) {u:SV} {v:Vz} (h:SO c K hd u v):SO c' K' hd' ((Tr.cP r p l).sv u) v:=by
 refine SO.step _ hx (λu v k h=> ?_) (λu l k=> ?_) h
 .cases u with
  |aG a q off len=>
   simp only[Tr.sv];split
   .split
    .rename_i j m;subst j;subst m;exact VV.one (hf off len v h) (by simp)
    .split
     .trivial
     .exact SB.bR (f a q (λ_=>⟨‹_›,by omega⟩)) h
   .exact SB.bR (f a q (λe=>absurd e ‹_›)) h
  |loc a q i off=>
   simp only[Tr.sv];split
   .split
    .trivial
    .split
     .trivial
     .exact SB.bM (f a q (λ_=>⟨‹_›,by omega⟩)) h
   .exact SB.bM (f a q (λe=>absurd e ‹_›)) h
  |d y=>grind
  |agg l=>exact h.elim
  |aS l=>exact h.elim
  |rp b g=>exact SB.bH (u:=.rp b g) hx (by simp) (by simp) h
  |clip b l=>exact SB.bH (u:=.clip b l) hx (by simp) (by simp) h
  |ns b=>exact h
  |dead=>trivial
 .cases u <;>simp_all [Tr.sv] <;>(repeat' split) <;>simp
theorem SO.dm(hx:Ext c c')(a b:Nat×Nat)(D:∀r q,r≠ .l a.1 a.2->wN c c' K K' hd hd' r q)
  (hr:∀q t es,K (.l a.1 a.2)=some t->t.at q=some (.own es)->∃t' es',K' (.l b.1 b.2)=some t'/\t'.at q=some (.own es')/\bh es es'/\∀h,aI c (hd (.l a.1 a.2)) t q h->aI c' (hd' (.l b.1 b.2)) t' q h) {u:SV} {v:Vz} (h:SO c K hd u v):SO c' K' hd' ((Tr.dm a b).sv u) v:=by
 refine SO.step _ hx (λu v P h=> ?_) (λu l P=> ?_) h
 .cases u with
  |aG s q x M=>
   simp only[Tr.sv];split
   .rename_i e;subst e
    obtain⟨t,es,O,w,B,h3,h4,h5⟩:=h;obtain⟨t',es',z,A,m,o⟩:=hr q t es w B
    refine⟨t',es',O,z,A,o _ h3,by rw[m.1];exact h4,?_⟩
    obtain⟨a,n,f,L,k,R,E,H,F,Q⟩:=h5
    refine⟨a,n,f,L,k,R,E,H,F,λN=> ?_⟩
    obtain⟨g,I,T,G,S⟩:=Q N;obtain⟨j,C,p⟩:=m.2 _ _ G
    grind
   .exact SB.bR (D s q ‹_›) h
  |loc s q i x=>
   simp only[Tr.sv];split
   .rename_i e;subst e
    obtain⟨t,es,g,n,f,I,w,B,h3,h4,h5,h6⟩:=h;obtain⟨t',es',z,A,m,o⟩:=hr q t es w B;obtain⟨j,C,p⟩:=m.2 _ _ h4
    exact⟨t',es',g,n,f,j,z,A,o _ h3,C,by rw[p];exact h5,by rw[p];exact h6⟩
   .exact SB.bM (D s q ‹_›) h
  |d y=>grind
  |agg l=>exact h.elim
  |aS l=>exact h.elim
  |rp b J=>exact SB.bH (u:=.rp b J) hx (by simp) (by simp) h
  |clip b l=>exact SB.bH (u:=.clip b l) hx (by simp) (by simp) h
  |ns b=>exact h
  |dead=>trivial
 .cases u <;>simp_all [Tr.sv] <;>(repeat' split) <;>simp
theorem SO.bL(hx:Ext c c')(g:∀r q,(∀n,r=.o n->q=[])->wN c c' K K' hd hd' r q){u:SV}{v:Vz}(h:SO c K hd u v):SO c' K' hd' (Tr.bL.sv u) v:=by
 refine SO.step _ hx (λu v p h=> ?_) (λu l p=> ?_) h
 .cases u with
  |aG e q f m=>
   cases e with
   |o n=>simp only[Tr.sv];trivial
   |l n j=>simp only[Tr.sv];exact SB.bR (g _ q (by simp)) h
  |loc e q i f=>
   cases e with
   |o n=>
    cases q with
    |nil=>simp only[Tr.sv];exact SB.bM (g _ [] (by simp)) h
    |cons a q=>simp only[Tr.sv];trivial
   |l n j=>simp only[Tr.sv];exact SB.bM (g _ q (by simp)) h
  |d y=>grind
  |agg l=>exact h.elim
  |aS l=>exact h.elim
  |rp b k=>exact SB.bH (u:=.rp b k) hx (by simp) (by simp) h
  |clip b l=>exact SB.bH (u:=.clip b l) hx (by simp) (by simp) h
  |ns b=>exact h
  |dead=>trivial
 .cases u <;>simp_all [Tr.sv] <;>(repeat' split) <;>simp
end
def upd{a:Type}(S:aj->a)(r:aj)(x:a):aj->a:=λb=>if b=r then x else S b
@[simp] theorem eg{a:Type}(S:aj->a)(r:aj)(x:a):upd S r x r=x:=by simp[upd]
theorem dE{b:Type}(S:aj->b){r a:aj}(x:b)(h:a≠r):upd S r x a=S a:=by simp[upd,h]
def bS(S:aj->J Nat)(fl:J Nat)(b:Nat):Prop:=(∃r,b∈S r)\/b∈fl
structure Dis(S:aj->List Nat)(fl:List Nat):Prop where
 nd:∀r,(S r).Nodup
 ndF:fl.Nodup
 one:∀r r' b,b∈S r->b∈S r'->r=r'
 cq:∀r b,b∈S r->b∉fl
section
variable{S:aj->J Nat}{fl:J Nat}
theorem Dis.drop(h:Dis S fl){r:aj}{L M R:J Nat}(e:S r=L++M++R):Dis (upd S r (L++R)) fl:=by
 have a:∀r' b,b∈upd S r (L++R) r'->b∈S r':=λr' b d=>by
  by_cases c:r'=r
  .grind [eg]
  grind [dE]
 refine⟨λr'=> ?_,h.ndF,λf i b g j=>h.one f i b (a _ _ g) (a _ _ j),λr' b d=>h.cq r' b (a _ _ d)⟩
 by_cases c:r'=r
 .subst c
  rw[eg]
  have:=h.nd r'
  grind
 .rw[dE _ _ c];exact h.nd r'
theorem bS.drop{r:aj}{L M R:J Nat}(e:S r=L++M++R){b:Nat}(h:bS (upd S r (L++R)) fl b):bS S fl b:=by
 obtain⟨c,a⟩ |a:=h
 .left
  by_cases d:c=r
  .grind [eg]
  grind [dE]
 .exact .inr a
theorem Dis.detach(h:Dis S fl){r:aj}{L M R:J Nat}(e:S r=L++M++R):Dis (upd S r (L++R)) (M++fl):=by
 have hd:=h.drop e;have f:=h.nd r;rw[e]at f
 have j:∀b∈M,b∈S r:=λb c=>by rw[e];simp[c]
 refine⟨hd.nd,?_,hd.one,λr' b c d=> ?_⟩
 .rw[xT]
  simp only[xT]at f
  exact⟨f.1.2.1,h.ndF,λa k b c g=>h.cq r a (j a k) (g▸c)⟩
 .obtain d |d:=List.mem_append.1 d
  .by_cases i:r'=r
   .grind [eg]
   .rw[dE _ _ i]at c
    exact i (h.one r' r b c (j b d))
  .exact hd.cq r' b c d
theorem bS.detach{r:aj}{L M R:J Nat}(e:S r=L++M++R){b:Nat}:bS (upd S r (L++R)) (M++fl) b↔bS S fl b:=by
 constructor
 .rintro(h |a)
  .exact bS.drop e (.inl h)
  .obtain a |a:=List.mem_append.1 a
   .exact .inl ⟨r,by rw[e];simp[a]⟩
   .exact .inr a
 .rintro(⟨c,a⟩ |a)
  .by_cases d:c=r
   .subst d
    rw[e]at a
    simp only[xD]at a
    obtain (a |a) |a:=a
    .exact .inl ⟨c,by grind [eg]⟩
    .exact .inr (by simp[a])
    .exact .inl ⟨c,by grind [eg]⟩
   .exact .inl ⟨c,by grind [dE]⟩
  .exact .inr (by simp[a])
theorem Dis.attach{r:aj}{L M R:J Nat}(h:Dis S (M++fl))(e:S r=L++R):Dis (upd S r (L++M++R)) fl:=by
 have f:∀r' b,b∈upd S r (L++M++R) r'->b∈S r'\/(r'=r/\b∈M):=λr' b c=>by
  by_cases k:r'=r
  .grind [eg]
  grind [dE]
 have n:=h.ndF;rw[xT]at n
 refine⟨λr'=> ?_,n.2.1,λd g b l o=> ?_,λr' b c j=> ?_⟩
 .by_cases k:r'=r
  .subst k
   rw[eg];have l:=h.nd r';have o:∀b,b∈M->b∉S r':=λb c j=>h.cq r' b j (by simp[c])
   grind
  .rw[dE _ _ k];exact h.nd r'
 .rcases f d b l with a |⟨a,m⟩ <;>rcases f g b o with i |⟨i,p⟩
  .exact h.one d g b a i
  .exact absurd (by simp[p]) (h.cq d b a)
  .exact absurd (by simp[m]) (h.cq g b i)
  grind
 .obtain a |⟨a,m⟩:=f r' b c
  .exact h.cq r' b a (by simp[j])
  grind
theorem bS.attach{r:aj}{L M R:J Nat}(e:S r=L++R){b:Nat}:bS (upd S r (L++M++R)) fl b↔bS S (M++fl) b:=by
 constructor
 .rintro(⟨c,a⟩ |a)
  .by_cases d:c=r
   .subst d
    rw[eg]at a
    simp only[xD]at a
    obtain (a |a) |a:=a
    .exact .inl ⟨c,by rw[e];simp[a]⟩
    .exact .inr (by simp[a])
    .exact .inl ⟨c,by rw[e];simp[a]⟩
   .exact .inl ⟨c,by grind [dE]⟩
  .exact .inr (by simp[a])
 .rintro(⟨c,a⟩ |a)
  .by_cases d:c=r
   .subst d
    rw[e]at a
    refine .inl ⟨c,?_⟩
    grind [eg]
   .exact .inl ⟨c,by grind [dE]⟩
  .obtain a |a:=List.mem_append.1 a
   .exact .inl ⟨r,by grind [eg]⟩
   .exact .inr a
theorem Dis.float(h:Dis S fl){fl':J Nat}(hn:fl'.Nodup)(a:∀b∈fl',b∈fl):Dis S fl':=
 ⟨h.nd,hn,h.one,λr b c d=>h.cq r b c (a b d)⟩
theorem Dis.fresh(h:Dis S fl){g:Nat}(d:¬bS S fl g):Dis S (g::fl):=
 ⟨h.nd,List.nodup_cons.2 ⟨λa=>d (.inr a),h.ndF⟩,h.one,λr b c a=>by
  obtain rfl |a:=List.mem_cons.1 a
  .exact d (.inl ⟨r,c⟩)
  .exact h.cq r b c a⟩
end
structure Av where
 w0:World
 F:Bool->Nat->Prop
 O0:Nat->Prop
 n0:Nat
 ρ0:Nat->Nat
 mono:∀b,F true b->F false b
def am(A:Av)(nO:Nat)(ρ:Nat->Nat)(S:aj->J Nat)(fl:J Nat)(w:Wz):Cx:=
 {w,pm:=λt b=>¬bS S fl b/\¬A.F t b/\b<w.heap.size,nO,ρ}
theorem IG(A:Av)(nO:Nat)(ρ:Nat->Nat)(S:aj->J Nat)(fl:J Nat)(w:Wz):∀b,(am A nO ρ S fl w).pm false b->(am A nO ρ S fl w).pm true b:=λb h=>⟨h.1,λq=>h.2.1 (A.mono b q),h.2.2⟩
def qr(t:T)(v:Vz):Prop:=match t with | .d x=>wM x v | .agg _=>∃a,v=.agg a |_=>v.oneCell'=true
def RetAll(c:Cx):List T->List Value->List Nat->Prop
 | [],a,M=>a=[]/\M=[]
 |t::e,a,M=>∃v r b d,a=v::r/\M=b++d/\TC c t v.cells.toList b/\qr t v/\RetAll c e r d
theorem RetAll.imp{c c':Cx}:∀(a:J T) (vs:J Vz) (M:J Nat),(∀t∈a,∀cs M',(∀b∈M',b∈M)->TC c t cs M'->TC c' t cs M')->RetAll c a vs M->RetAll c' a vs M
 | [],_,_,_,e=>e
 |t::a,vs,M,f,e=>by
  obtain⟨v,r,h,g,j,rfl,h3,h4,h5⟩:=e
  exact⟨v,r,h,g,j,rfl,f t (by simp) _ _ (λb d=>xL _ d) h3,h4,RetAll.imp a r g (λt k cs M' i=>f t (by simp[k]) cs M' (λb d=>xR _ (i b d))) h5⟩
theorem RetAll.ext{c c':Cx}(h:Ext c c')(a:J T)(vs:J Vz)(M:J Nat)(hk:Kept c c' M)(hp:RetAll c a vs M):RetAll c' a vs M:=
 RetAll.imp a vs M (λt _ e f i d=>TC.ext h t e f (λb g=>hk b (i b g)) d) hp
abbrev JS(c:Cx)(e:D×T)(x:MapEntry):Prop:=VV c e.1 x.key
def Gd(ct:J ((Nat×Nat)×T)):J (Nat×Nat):=jQ (ct.map (·.1))
def Vr(hd:Nat×Nat->Vz):aj->Vz
 | .l n j=>hd (n,j)
 | .o _=>undef
def FrOK(c:Cx)(M:J Nat)(env:J (Nat×SV))(ct:J ((Nat×Nat)×T))(tmps:Array Vz):Prop:=
 ∃(S:Nat×Nat->J Nat) (hd:Nat×Nat->Vz),M=(Gd ct).flatMap S/\(∀x t,eZ ct x=some t->TC c t [hd x] (S x))/\
  (∀p∈env,p.2.loose=p.2)/\∀t,SB c (cont ct []) (Vr hd) ((look env t).getD .dead) (tmps.getD t undef)
def Sz(n:Nat)(a:J Nat)(x y:Code):Prop:=(∀t∈a,t<n)/\ef n x=true/\ef n y=true
structure cZ(en:Array MapEntry)(clock:Nat):Prop where
 lt:∀x∈en.toList,x.born<clock
 nd:(en.toList.map (·.born)).Nodup
theorem cZ.nil:cZ #[] 0:=⟨by simp,by simp⟩
theorem cZ.push{en:Array MapEntry}{clock:Nat}(h:cZ en clock)(k v:Vz):cZ (en.push {key:=k,val:=v,born:=clock}) (clock+1):=by
 refine⟨λx c=> ?_,?_⟩
 .simp only[vX,xD,yQ]at c
  obtain c |rfl:=c
  .exact Nat.lt_succ_of_lt (h.lt x c)
  grind
 .simp only[vX,pE,eJ,ir,xT,j0]
  refine⟨h.nd,by simp,?_⟩
  rintro a ⟨x,c,rfl⟩ b d rfl;simp only[yQ]at d
  have:=h.lt x c
  omega
theorem cZ.same{en en':Array MapEntry}{clock:Nat}(h:cZ en clock)(e:en'.toList.map (·.born)=en.toList.map (·.born)):cZ en' clock:=by
 refine⟨λx c=> ?_,by rw[e];exact h.nd⟩
 have:x.born∈en.toList.map (·.born):=by rw[<-e];exact List.mem_map.2 ⟨x,c,rfl⟩
 obtain⟨y,b,a⟩:=List.mem_map.1 this;rw[<-a];exact h.lt y b
def MapAt(w:Wz)(b:Nat)(c:Array MapEntry)(a:Nat):Prop:=w.heap[b]? =some (.map c a)/\cZ c a
theorem MapAt.same{w w':Wz}{b:Nat}{c:Array MapEntry}{a:Nat}(h:MapAt w b c a)(e:w'.heap[b]? =w.heap[b]?):MapAt w' b c a:=⟨e.trans h.1,h.2⟩
def SetOf(es:J (D×T))(ks:J (J UInt8)):Prop:=(∀p∈es,∃s∈ks,p=(.str s,.d (.bool true)))/\∀s∈ks,(D.str s,T.d (.bool true))∈es
def ObOK(c:Cx)(b:Nat)(M:J Nat):Ob->Prop
 | .map f=>∃d a,MapAt c.w b d a/\All2 (JS c) f d.toList/\RetAll c (f.map (·.2)) (d.toList.map (·.val)) M
 | .iter s p=>M=[]/\∃y:ByteArray,c.w.heap[b]? =some (.stringIter y p)/\y.data.toList=s
 | .bY m=>M=[]/\(∀o,m=some o->o<c.nO)/\∃e g,c.w.heap[b]? =some (.mapIter (m.map c.ρ) e #[] g)
 | .row _=>False
 | .sset j=>∃f d a,MapAt c.w b d a/\All2 (JS c) f d.toList/\RetAll c (f.map (·.2)) (d.toList.map (·.val)) M/\SetOf f j
 | .frame _ i x y h k=>∃r:Loop,c.w.heap[b]? =some (.loop r)/\r.state=.ready/\r.pending=none/\r.params.toList=i/\r.assign=x/\r.body=y/\FrOK c M h k r.tmps/\Sz r.tmps.size i x y
 |_=>True
theorem B2{a:Type}{ct:J ((Nat×Nat)×a)}{x:Nat×Nat}{t:a}(h:eZ ct x=some t):(x,t)∈ct:=by
 induction ct with
 |nil=>cases h
 |cons p r b=>
  grind [eZ]
theorem IH{a:Type}{env:J (Nat×a)}{t:Nat}{v:a}(h:look env t=some v):(t,v)∈env:=by
 induction env with
 |nil=>cases h
 |cons p r b=>
  grind [look]
theorem nE{l:J (Nat×Nat)}{x:Nat×Nat}:x∈jQ l↔x∈l:=by
 induction l with
 |nil=>simp[jQ]
 |cons y r a=>
  grind [jQ]
theorem Mn(l:J (Nat×Nat)):(jQ l).Nodup:=by
 induction l with
 |nil=>simp[jQ]
 |cons y r a=>
  grind [jQ]
theorem FrOK.imp{c c':Cx}{M:J Nat}{env:J (Nat×SV)}{ct:J ((Nat×Nat)×T)}{tmps:Array Vz}(h:FrOK c M env ct tmps)(hk:Kept c c' M)
  (hv:∀p∈env,∀x v,p.2=.d x->VV c x v->VV c' x v)
  (ht:∀p∈ct,∀cs M',(∀b∈M',b∈M)->TC c p.2 cs M'->TC c' p.2 cs M'):FrOK c' M env ct tmps:=by
 obtain⟨S,e,y,B,s,h3⟩:=h
 have z:∀x t,eZ ct x=some t->∀b∈S x,b∈M:=λx t f b k=>by
  rw[y];exact List.mem_flatMap.2 ⟨x,nE.2 (List.mem_map.2 ⟨_,B2 f,rfl⟩),k⟩
 have a:∀r q,wN c c' (cont ct []) (cont ct []) (Vr e) (Vr e) r q:=λr q t D g H=>by
  refine⟨t,D,g,H,.refl _,λF C=> ?_⟩
  cases r with
  |l n j=>exact aI.ext q t _ F _ (B _ t g) (λb k=>hk b (z _ t g b k)) C
  |o n=>simp[cont]at g
 refine⟨S,e,y,λx t f=>ht _ (B2 f) _ _ (z x t f) (B x t f),s,λt=> ?_⟩
 have:=h3 t
 cases A:look env t with
 |none=>trivial
 |some u=>
  rw[A]at this
  simp only[gC]at this |-
  have w:=IH A;have G:=s _ w
  cases u with
  |d x=>exact hv _ w x _ rfl this
  |aG r p m E=>exact SB.bR (a r p) this
  |loc r p i m=>exact SB.bM (a r p) this
  |dead=>trivial
  |_=>simp[SV.loose]at G
theorem ObOK.ext{c c':Cx}(h:Ext c c'){b:Nat}{M:J Nat}{ob:Ob}(hb:c'.w.heap[b]? =c.w.heap[b]?)(hk:Kept c c' M)(ho:ObOK c b M ob):ObOK c' b M ob:=by
 cases ob with
 |map l=>
  obtain⟨j,k,d,a,h3⟩:=ho
  exact⟨j,k,d.same hb,a.imp (λ_ _ _ q=>VV.ext h q),RetAll.ext h _ _ _ hk h3⟩
 |iter s p=>
  obtain⟨d,y,a,h3⟩:=ho
  exact⟨d,y,hb.trans a,h3⟩
 |bY m=>
  obtain⟨d,a,f,i,h3⟩:=ho
  refine⟨d,λo e=>yA (a o e) h.nO,f,i,hb.trans (h3.trans ?_)⟩
  cases m with
  |none=>rfl
  |some o=>simp only[xQ,h.ρ o (a o rfl)]
 |frame g w x y n v=>
  obtain⟨r,d,a,h3,h4,h5,h6,h7⟩:=ho
  exact⟨r,hb.trans d,a,h3,h4,h5,h6,h7.1.imp hk (λ_ _ _ _ _ q=>VV.ext h q) (λ_ _ _ _ t q=>TC.ext h _ _ _ (λb hb=>hk b (t b hb)) q),h7.2⟩
 |sset u=>
  obtain⟨l,j,k,d,a,h3,h4⟩:=ho
  exact⟨l,j,k,d.same hb,a.imp (λ_ _ _ q=>VV.ext h q),RetAll.ext h _ _ _ hk h3,h4⟩
 |_=>trivial
def PlOK(c:Cx)(S:aj->J Nat)(ρ:Nat->Nat)(n:Nat)(ob:Ob):Prop:=∃M,S (.o n)=ρ n::M/\ObOK c (ρ n) M ob
theorem PlOK.ext{c c':Cx}(h:Ext c c'){S S':aj->J Nat}{ρ ρ':Nat->Nat}{n:Nat}{ob:Ob}(ho:PlOK c S ρ n ob)(d:∀b∈S (.o n),c'.w.heap[b]? =c.w.heap[b]?)(e1:S' (.o n)=S (.o n))(e:ρ' n=ρ n):PlOK c' S' ρ' n ob:=by
 obtain⟨M,a,g⟩:=ho
 refine⟨M,by rw[e1,a,e],?_⟩
 rw[e];exact g.ext h (d _ (by rw[a];simp)) (λb f=>d b (by rw[a];simp[f]))
def cF(w w':Wz):Prop:=∀(b:Nat) (r:Loop),w.heap[b]? =some (.loop r)->∃st a,w'.heap[b]? =some (.loop {r with state:=st,pending:=a})
theorem cF.refl(w:Wz):cF w w:=λ_ r h=>⟨r.state,r.pending,h⟩
theorem cF.trans{a b c:Wz}(x:cF a b)(y:cF b c):cF a c:=λi r h=>by
 obtain⟨g,j,d⟩:=x i r h;obtain⟨f,e,k⟩:=y i _ d
 grind
theorem cF.old{w w':Wz}(h:∀b,b<w.heap.size->w'.heap[b]? =w.heap[b]?):cF w w':=λb r a=>⟨r.state,r.pending,(h b (Array.getElem?_eq_some_iff.1 a).1).trans a⟩
theorem cF.other{w w':Wz}{g:Nat}(h:∀b,b≠g->w'.heap[b]? =w.heap[b]?)(c:∀r,w.heap[g]? ≠some (.loop r)):cF w w':=λb r a=>⟨r.state,r.pending,(h b (λe=>c r (e▸a))).trans a⟩
structure Fr(A:Av)(w:World):Prop where
 os:w.os=A.w0.os
 tape:w.tape=A.w0.tape
 output:w.output=A.w0.output
 size:A.w0.heap.size<=w.heap.size
 kept:∀b,b<A.w0.heap.size->¬A.O0 b->w.heap[b]? =A.w0.heap[b]?
 recs:cF A.w0 w
structure KR(A:Av)(ρ:Nat->Nat)(S:aj->List Nat)(hd:aj->Value)(fl:List Nat)(k:Wk)(ay:List (SV×Value))(w:World):Prop where
 cont:∀r t,k.get r=some t->TC (am A k.H.length ρ S fl w) t [hd r] (S r)
 gone:∀r,k.get r=none->(∀n ob,r=.o n->k.H[n]? =some ob->ob.plain=false)->S r=[]
 obj:∀n,hd (.o n)=.slice (some ⟨ρ n,0,none⟩) 1 1
 map:∀n ob,k.H[n]? =some ob->ob.plain=true->PlOK (am A k.H.length ρ S fl w) S ρ n ob
 bz:Dis S fl
 bT:∀b,bS S fl b->b<w.heap.size/\(∀t,¬A.F t b)/\(b<A.w0.heap.size->A.O0 b)
 ay:∀p∈ay,SO (am A k.H.length ρ S fl w) k.get hd (aU k.tr p.1) p.2
 fr:Fr A w
 Fold:∀t b,A.F t b->b<A.w0.heap.size
 cM:A.n0<=k.H.length/\∀o,o<A.n0->ρ o=A.ρ0 o
def GV(d:D)(vs:J Vz):Prop:=(OX d=true->∀c,aR c d.cells vs)/\(OX d=false->∃t p,vs=[.iface t p])
def GH(w:Wz)(g:Nat)(vs:J Vz):Prop:=∃t fr,w.heap[g]? =some (.cells vs.toArray t fr)
theorem GH.cell{w:Wz}{g:Nat}{vs:J Vz}(h:GH w g vs)(j:Nat):w.cell? ((⟨g,0,none⟩:Addr).add j)=vs[j]? :=by
 obtain⟨t,a,h⟩:=h
 grind [fm,World.cell?]
theorem GH.same{w w':Wz}{g:Nat}{vs:J Vz}(h:GH w g vs)(e:w'.heap[g]? =w.heap[g]?):GH w' g vs:=by
 obtain⟨t,a,h⟩:=h
 exact⟨t,a,e.trans h⟩
def GA(G:Nat->U D)(A:Av):Prop:=
 ∀g d,G g=some d->g<A.w0.heap.size/\¬A.O0 g/\(∀t,¬A.F t g)/\∃a:J Vz,GH A.w0 g a/\GV d a
theorem GA.now{G:Nat->U D}{A:Av}{ρ:Nat->Nat}{S:aj->J Nat}{hd:aj->Vz}{fl:J Nat}{k:Wk}{ay:J (SV×Vz)}{w:Wz}(hG:GA G A)(h:KR A ρ S hd fl k ay w){g:Nat}{d:D}(e:G g=some d):
  ¬bS S fl g/\g<w.heap.size/\w.heap[g]? =A.w0.heap[g]? :=by
 obtain⟨a,b,_,_⟩:=hG g d e
 exact⟨λc=>b ((h.bT g c).2.2 a),yA a h.fr.size,h.fr.kept g a b⟩
theorem GA.rp{G:Nat->U D}{A:Av}{ρ:Nat->Nat}{S:aj->J Nat}{hd:aj->Vz}{fl:J Nat}{k:Wk}{ay:J (SV×Vz)}{w:Wz}(hG:GA G A)(h:KR A ρ S hd fl k ay w){g:Nat}{d:D}(e:G g=some d)(ho:OX d=true):
  SO (am A k.H.length ρ S fl w) k.get hd (.rp true d.cells) (.pointer (some ⟨g,0,none⟩)):=by
 obtain⟨b,c,q3⟩:=hG.now h e;obtain⟨_,_,h3,a,h4,h5⟩:=hG g d e
 refine⟨⟨g,0,none⟩,a,rfl,rfl,⟨b,h3 true,c⟩,λj u f=> ?_,h5.1 ho _⟩
 rw[<-f,<-(h4.same q3).cell j];rfl
structure WS(S:aj->List Nat)(fl:List Nat)(w:World)(S':aj->List Nat)(fl':List Nat)(w':World):Prop where
 os:w'.os=w.os
 tape:w'.tape=w.tape
 output:w'.output=w.output
 size:w.heap.size<=w'.heap.size
 same:∀b,b<w.heap.size->¬bS S fl b->w'.heap[b]? =w.heap[b]?
 own:∀b,bS S' fl' b->bS S fl b\/(w.heap.size<=b/\b<w'.heap.size)
 recs:cF w w'
section
variable{A:Av}{ρ ρ':Nat->Nat}{S S':aj->J Nat}{hd hd':aj->Vz}{fl fl':J Nat}{k k':Wk}{ay:J (SV×Vz)}{w w':Wz}
theorem WS.ext(s:WS S fl w S' fl' w'){nO c:Nat}(hn:nO<=c)(hr:∀o,o<nO->ρ' o=ρ o):Ext (am A nO ρ S fl w) (am A c ρ' S' fl' w'):=
 ⟨λt g a=>⟨⟨λd=>by rcases s.own g d with h |h;exact a.1 h;exact absurd a.2.2 (by omega),a.2.1,yA a.2.2 s.size⟩,s.same g a.2.2 a.1⟩,hn,hr⟩
theorem WS.bT(s:WS S fl w S' fl' w')(h:KR A ρ S hd fl k ay w):∀b,bS S' fl' b->b<w'.heap.size/\(∀t,¬A.F t b)/\(b<A.w0.heap.size->A.O0 b):=λb d=>by
 have f:=h.fr.size
 obtain a |⟨a,e⟩:=s.own b d
 .have:=h.bT b a;exact⟨yA this.1 s.size,this.2.1,this.2.2⟩
 .exact⟨e,λt c=>by have:=h.Fold t b c;omega,λh3=>by omega⟩
theorem WS.frm(s:WS S fl w S' fl' w')(h:KR A ρ S hd fl k ay w):Fr A w':=
 ⟨s.os.trans h.fr.os,s.tape.trans h.fr.tape,s.output.trans h.fr.output,ff h.fr.size s.size,λb a c=>by
  rw[s.same b (yA a h.fr.size) (λd=>c ((h.bT b d).2.2 a))];exact h.fr.kept b a c,h.fr.recs.trans s.recs⟩
theorem WS.stay(ho:∀b,bS S' fl' b->bS S fl b):WS S fl w S' fl' w:=⟨rfl,rfl,rfl,dB _,λ_ _ _=>rfl,λb hb=>.inl (ho b hb),.refl _⟩
theorem KR.hold(h:KR A ρ S hd fl k ay w){r:aj}(c':Cx)(hk:k'.get r=k.get r)(d:hd' r=hd r)(c:∀b∈S r,c'.w.heap[b]? =w.heap[b]?)(q:dP):
  wN (am A k.H.length ρ S fl w) c' k.get k'.get hd hd' r q:=λt f a i=>
 ⟨t,f,by rw[hk];exact a,i,bh.refl _,λg e=>by rw[d];exact aI.ext q t _ g _ (h.cont r t a) c e⟩
theorem jm{ct:J ((Nat×Nat)×T)}{n j:Nat}{t:T}{H:J Ob}{r:aj}:cont (((n,j),t)::ct) H r=if r=.l n j then some t else cont ct H r:=by
 cases r with
 |l a b=>
  grind [Go.Am.cont,eZ]
 |o a=>simp[Go.Am.cont]
theorem Wk.db{r:aj}{t:T}(d:k.set r t=some k')(ht:(∃c,k.get r=some c/\(∀n,r=.o n->True))):
  (∀e,k'.get e=if e=r then some t else k.get e)/\k'.H.length=k.H.length/\k'.tr=k.tr/\(∀(n:Nat) (ob:Ob),ob.plain=true->(k'.H[n]? =some ob↔k.H[n]? =some ob)):=by
 cases r with
 |l n j=>
  simp only[Wk.set,xJ]at d
  subst d
  exact⟨λe=>jm,rfl,rfl,λ_ _ _=>Iff.rfl⟩
 |o n=>
  obtain⟨c,i,_⟩:=ht;simp only[Wk.set]at d
  split at d
  .rename_i c' 
   simp only[xJ]at d
   subst d;simp only[Wk.get,Go.Am.cont]at i
   have f:∃c0,k.H[n]? =some (.box c0):=by
    revert i
    cases k.H[n]? with
    |none=>simp
    |some x=>cases x <;>simp
   obtain⟨c0,f⟩:=f;have h:=(List.getElem?_eq_some_iff.1 f).1
   refine⟨λe=> ?_,by simp,rfl,λm ob g=> ?_⟩
   .cases e with
    |l a b=>simp[Wk.get,Go.Am.cont]
    |o m=>
     grind [Wk.get,Go.Am.cont]
   .by_cases p:n=m
    .subst p;rw[yK h,f]
     constructor <;>intro q <;>simp only[xJ]at q <;>subst q <;>cases g
    grind
  .cases d
theorem KR.giveUp(h:KR A ρ S hd fl k ay w){r:aj}{t t' nd j:T}{p:dP}{O:Vz}{L Sn R M:J Nat}(x:Tr)
  (hr:k.get r=some t) (P:S r=L++Sn++R) (hf:Focus (am A k.H.length ρ S fl w) t (hd r) p nd O L Sn R)
  (hp:t.put p j=some t') (E:j.nc=1) (Y:k.set r t'=some k') (X:M=Sn\/M=[])
  (D:TC (am A k.H.length ρ (upd S r (L++R)) (M++fl) w) j [O] [])
  (hx:∀u v,(∀d q,(d=r->q≠p/\q.length<=p.length)->wN (am A k.H.length ρ S fl w) (am A k.H.length ρ (upd S r (L++R)) (M++fl) w) k.get k'.get hd hd d q)->
    SO (am A k.H.length ρ S fl w) k.get hd u v->SO (am A k.H.length ρ (upd S r (L++R)) (M++fl) w) k'.get hd (x.sv u) v):
  KR A ρ (upd S r (L++R)) hd (M++fl) (k'.tell x) ay w/\Ext (am A k.H.length ρ S fl w) (am A k.H.length ρ (upd S r (L++R)) (M++fl) w):=by
 obtain⟨V,B,g3,N⟩:=Wk.db Y ⟨t,hr,λ_ _=>trivial⟩
 have z:∀b,bS (upd S r (L++R)) (M++fl) b->bS S fl b:=λb hb=>by
  grind [bS.detach,bS.drop]
 have Q:WS S fl w (upd S r (L++R)) (M++fl) w:=WS.stay z;have ext:Ext (am A k.H.length ρ S fl w) (am A k.H.length ρ (upd S r (L++R)) (M++fl) w):=Q.ext (dB _) (λ_ _=>rfl)
 have i:∀d,d≠r->k'.get d=k.get d:=λd c=>by grind
 have s:k'.get r=some t':=by rw[V r,if_pos rfl]
 have g:∀d,(k'.tell x).get d=k'.get d:=λ_=>rfl
 refine⟨⟨λd t0 l=> ?_,λd l C=> ?_,h.obj,λn ob C f=> ?_,?_,Q.bT h,λW G=> ?_,h.fr,h.Fold,by rw[show(k'.tell x).H.length=k.H.length from B];exact h.cM⟩,ext⟩
 .have e:(k'.tell x).H.length=k.H.length:=B
  rw[e];rw[g]at l
  by_cases c:d=r
  .subst c
   rw[s]at l
   simp only[xJ]at l
   subst l;rw[eg]
   have:=hf.put _ j t' [] ext (λ_ _=>rfl) hp D
   grind
  .rw[i d c]at l
   rw[dE _ _ c];exact TC.ext ext _ _ _ (λ_ _=>rfl) (h.cont d t0 l)
 .rw[g]at l
  by_cases c:d=r
  .grind
  .rw[dE _ _ c]
   rw[i d c]at l
   exact h.gone d l (λn ob e m=>by
    cases f:ob.plain with
    |false=>rfl
    |true=>rw[<-f];exact C n ob e ((N n ob f).2 m))
 .have e:(k'.tell x).H.length=k.H.length:=B
  rw[e];have m:=(N n ob f).1 C
  have c:(aj.o n)≠r:=by
   rintro rfl
   cases ob <;>simp[Wk.get,Go.Am.cont,m,Ob.plain]at hr f
  exact(h.map n ob m f).ext ext (λ_ _=>rfl) (dE _ _ c) rfl
 .obtain rfl |rfl:=X
  .exact h.bz.detach P
  .simpa using h.bz.drop P
 .have e:(k'.tell x).H.length=k.H.length:=B
  rw[e];have e2:(k'.tell x).tr=k.tr++[x]:=by simp[Wk.tell,g3]
  rw[e2]
  have e3:∀(a:J Tr) (u:SV),aU (a++[x]) u=x.sv (aU a u):=λa=>by
   induction a with
   |nil=>intro u;rfl
   |cons y a ih=>grind [aU]
  rw[e3];refine hx _ _ (λd q hq=> ?_) (h.ay W G)
  by_cases c:d=r
  .subst c
   obtain⟨q1,q2⟩:=hq rfl;intro t0 U I Z;rw[hr]at I
   simp only[xJ]at I
   subst I
   obtain⟨aa,o1,o2,o3⟩:=hf.oth (am A k.H.length ρ (upd S d (L++R)) (M++fl) w) j t' (λ_=>False) (λ_ _=>rfl) hp E (λ_ _ hF=>hF.elim) q U (λq' K=>by
    subst K;simp only[xP]at q2
    grind) Z
   grind
  .exact h.hold _ (i d c) rfl (λ_ _=>rfl) q
theorem WS.of(e:w'.os=w.os)(ht:w'.tape=w.tape)(ho:w'.output=w.output)(h:w.heap.size<=w'.heap.size){M M':J Nat}
  (same:∀b,b<w.heap.size->b∉M->w'.heap[b]? =w.heap[b]?) (d:∀b∈M',b∈M\/(w.heap.size<=b/\b<w'.heap.size)) (c:cF w w'):WS S (M++fl) w S (M'++fl) w':=
 ⟨e,ht,ho,h,λb a g=>same b a (λf=>g (.inr (by simp[f]))),λb a=>by
  obtain a |a:=a
  .exact .inl (.inl a)
  .obtain a |a:=List.mem_append.1 a
   .obtain q |q:=d b a
    .exact .inl (.inr (by simp[q]))
    grind
   .exact .inl (.inr (by simp[a])),c⟩
theorem KR.world(i:w'.os=w.os)(ht:w'.tape=w.tape)(ho:w'.output=w.output)(u:w.heap.size<=w'.heap.size)(g:cF w w'){M M':J Nat}(h:KR A ρ S hd (M++fl) k ay w)
  (c:∀b,b<w.heap.size->b∉M->w'.heap[b]? =w.heap[b]?) (d:∀b∈M',b∈M\/(w.heap.size<=b/\b<w'.heap.size)) (hn:M'.Nodup):
  KR A ρ S hd (M'++fl) k ay w'/\Ext (am A k.H.length ρ S (M++fl) w) (am A k.H.length ρ S (M'++fl) w'):=by
 have l:WS S (M++fl) w S (M'++fl) w':=WS.of i ht ho u c d g;have ext:Ext (am A k.H.length ρ S (M++fl) w) (am A k.H.length ρ S (M'++fl) w'):=l.ext (dB _) (λ_ _=>rfl)
 have a:∀r,∀b∈S r,w'.heap[b]? =w.heap[b]? :=λr b e=>c b (h.bT b (.inl ⟨r,e⟩)).1 (λs=>h.bz.cq r b e (by simp[s]))
 have v:=h.bz.ndF;rw[xT]at v
 have m:∀b∈M',b∉fl:=λb e f=>by
  obtain q |q:=d b e
  .grind
  .have:=(h.bT b (.inr (by simp[f]))).1;omega
 refine⟨⟨λr t ht=>TC.ext ext _ _ _ (a r) (h.cont r t ht),h.gone,h.obj,λn ob x j=> ?_,⟨h.bz.nd,?_,h.bz.one,λr b e f=> ?_⟩,l.bT h,λp y=> ?_,l.frm h,h.Fold,h.cM⟩,ext⟩
 .exact(h.map n ob x j).ext ext (a (.o n)) rfl rfl
 .grind
 .obtain f |f:=List.mem_append.1 f
  .obtain q |q:=d b f
   .exact h.bz.cq r b e (by simp[q])
   grind
  .exact h.bz.cq r b e (by simp[f])
 .exact SO.aV ext (λr q=>h.hold _ rfl rfl (a r) q) (h.ay p y)
theorem KR.dt{n j:Nat}{t:T}{hv:Vz}{M:J Nat}(h:KR A ρ S hd (M++fl) k ay w)(ht:TC (am A k.H.length ρ S (M++fl) w) t [hv] M):
  KR A ρ (upd S (.l n j) M) (upd hd (.l n j) hv) fl (k.new n j t) ay w/\Ext (am A k.H.length ρ S (M++fl) w) (am A k.H.length ρ (upd S (.l n j) M) fl w):=by
 have z:S (.l n j)=[]++S (.l n j)++[]:=by simp
 have v:=h.bz.drop z;simp only[gf]at v
 have d:∀b,bS (upd (upd S (.l n j) []) (.l n j) ([]++M++[])) fl b->bS S (M++fl) b:=λb N=>by
  grind [bS.attach,upd,bS.drop]
 have G:upd (upd S (.l n j) []) (.l n j) ([]++M++[])=upd S (.l n j) M:=by
  funext r;simp only[upd,gD,gf];split <;>rfl
 have l:=Dis.attach (r:=.l n j) (L:=[]) (R:=[]) (M:=M) (fl:=fl) v (by simp)
 rw[G]at l d
 have s:WS S (M++fl) w (upd S (.l n j) M) fl w:=WS.stay d;have ext:Ext (am A k.H.length ρ S (M++fl) w) (am A k.H.length ρ (upd S (.l n j) M) fl w):=s.ext (dB _) (λ_ _=>rfl)
 have get:∀r,(k.new n j t).get r=if r=.l n j then some t else k.get r:=λr=>jm
 have f:∀r,r≠ .l n j->upd hd (.l n j) hv r=hd r:=λr g=>dE _ _ g
 refine⟨⟨λr t0 c=> ?_,λr c B=> ?_,λm=>by rw[f _ (by simp)];exact h.obj m,λm ob D i=> ?_,l,s.bT h,λp E=> ?_,h.fr,h.Fold,h.cM⟩,ext⟩
 .rw[get]at c
  split at c
  .rename_i e;subst e
   simp only[xJ]at c
   subst c;rw[eg,eg];exact TC.ext ext _ _ _ (λ_ _=>rfl) ht
  .rename_i e
   rw[f r e,dE _ _ e];exact TC.ext ext _ _ _ (λ_ _=>rfl) (h.cont r t0 c)
 .rw[get]at c
  split at c
  .cases c
  .rename_i e
   rw[dE _ _ e];exact h.gone r c B
 .exact(h.map m ob D i).ext ext (λ_ _=>rfl) (dE _ _ (by simp)) rfl
 .have C:aU (k.new n j t).tr p.1=(Tr.kill (.l n j) []).sv (aU k.tr p.1):=by
   have:∀(a:J Tr) (x:Tr) (u:SV),aU (a++[x]) u=x.sv (aU a u):=λa x u=>by
    induction a generalizing u with
    |nil=>rfl
    |cons y a K=>grind [aU]
   exact this _ _ _
  rw[C];refine SO.kill ext _ _ (λr q I=> ?_) (h.ay p E)
  by_cases g:r=.l n j
  .simp_all
  .exact h.hold _ (by rw[get,if_neg g]) (f r g) (λ_ _=>rfl) q
end
theorem VE.shift{c:Cx}{a e:Addr}:∀(l:J D) (o o' b:Nat),(∀j,e.add (o'+j)=a.add (o+j))->VE c l a o b->VE c l e o' b
 | [],_,_,_,_,_=>by simp[VE]
 |d::g,o,o',b,k,h=>by
  simp only[VE]at h |-
  obtain⟨⟨i,f,m,h3⟩,h4⟩:=h
  refine⟨⟨i,f,λj v n=>by grind,h3⟩,VE.shift g (o+b) (o'+b) b (λj=> ?_) h4⟩
  simp_all [v9]
theorem VE.drop{c:Cx}{a:Addr}:∀(n:Nat) (l:J D) (o b:Nat),VE c l a o b->VE c (l.drop n) a (o+n * b) b
 |0,l,o,b,h=>by simpa using h
 |n+1,[],o,b,h=>by simp[VE]
 |n+1,d::e,o,b,h=>by
  simp only[VE]at h
  have:=VE.drop n e (o+b) b h.2
  grind
theorem VE.take{c:Cx}{a:Addr}:∀(n:Nat) (l:J D) (o b:Nat),VE c l a o b->VE c (l.take n) a o b
 |0,l,o,b,_=>by simp[VE]
 |n+1,[],o,b,h=>by simp[VE]
 |n+1,d::e,o,b,h=>by
  simp only[VE,Ed]at h |-
  exact⟨h.1,VE.take n e (o+b) b h.2⟩
theorem VE.bw{c:Cx}{a:Addr}{l:J D}{o b:Nat}(h:VE c l a o b)(n m:Nat):VE c (Go.Am.bw l n m) a (o+n * b) b:=VE.take m _ _ b (VE.drop n l o b h)
theorem T.frzs_len(b:Bool):∀(a:J T) (ds:J D),T.aY b a=some ds->ds.length=a.length
 | [],ds,h=>by grind [T.aY]
 |t::a,ds,h=>by
  have:=T.frzs_len b a;grind [T.aY,xB,xM]
def Pure(c c':Cx)(b:Bool)(S:J Nat):Prop:=∀g∈S,c'.pm b g/\c'.w.heap[g]? =c.w.heap[g]?
theorem Pure.left{c c':Cx}{b:Bool}{X Y:J Nat}(h:Pure c c' b (X++Y)):Pure c c' b X:=λg a=>h g (xL _ a)
theorem Pure.right{c c':Cx}{b:Bool}{X Y:J Nat}(h:Pure c c' b (X++Y)):Pure c c' b Y:=λg a=>h g (xR _ a)
mutual
theorem T.frz_ok{c c':Cx}(hx:Ext c c')(b:Bool):∀(t:T) (x:D) (cs:List Value) (S:List Nat),T.cP b t=some x->Pure c c' b S->TC c t cs S->VC c' x cs
 | .d y,x,cs,S,h,_,f=>by
  simp only[T.cP,xJ]at h
  subst h;simp only[TC]at f
  exact VC.ext hx _ _ f.2.norm
 | .agg i,x,cs,S,h,n,f=>by
  have:=T.frzs_cells hx b i;grind [T.cP,xM,TC,VC]
 | .own B,x,cs,S,h,n,f=>by
  simp only[T.cP,xM]at h
  obtain⟨l,p,rfl⟩:=h;have z:=T.frzs_len b B l p
  obtain⟨a,s,u,_⟩ |⟨g,E,L,e,k,S',s,u,A,w,G,R,O,N⟩:=f
  .grind [VC]
  .subst u
   have P:=n g (by simp)
   simp only[VC]
   refine⟨some ⟨g,0,none⟩,B.length,E,s,z.symm,w,λJ=>⟨⟨g,0,none⟩,k,rfl,rfl,P.1,Ee O,?_⟩⟩
   refine T.frzs_elems hx b B l k _ S' p (λy M=>n y (by simp[M])) N ⟨g,0,none⟩ 0 (λj v H=> ?_)
   grind [fm,World.cell?]
 | .dead,x,cs,S,h,_,_=>by simp[T.cP]at h
theorem T.frzs_cells{c c':Cx}(hx:Ext c c')(b:Bool):∀(i:List T) (m:List D) (cs:List Value) (S:List Nat),T.aY b i=some m->Pure c c' b S->a9 c i cs S->aR c' m cs
 | [],m,cs,S,h,_,f=>by
  grind [T.aY,a9,aR]
 |t::i,m,cs,S,h,n,f=>by
  simp only[T.aY,xB,xM]at h
  obtain⟨x,p,r,F,rfl⟩:=h;simp only[a9]at f
  obtain⟨v,q,S1,C,s,u,A,w⟩:=f;subst u;simp only[aR]
  exact⟨v,q,s,T.frz_ok hx b t x _ S1 p n.left A,T.frzs_cells hx b i r q C F n.right w⟩
theorem T.frzs_elems{c c':Cx}(hx:Ext c c')(b:Bool):∀(i:List T) (m:List D) (k:Nat) (cs:List Value) (S:List Nat),T.aY b i=some m->Pure c c' b S->TE c i k cs S->
  ∀(a:Addr) (o:Nat),(∀j v,cs[j]? =some v->c'.w.cell? (a.add (o+j))=some v)->VE c' m a o k
 | [],m,k,cs,S,h,_,_=>by
  grind [T.aY,VE]
 |t::i,m,k,cs,S,h,n,f=>by
  simp only[T.aY,xB,xM]at h
  obtain⟨x,p,r,F,rfl⟩:=h;simp only[TE]at f
  obtain⟨K,Q,S1,C,s,u,A,w,G⟩:=f;subst s;subst u;intro a o I;simp only[VE]
  refine⟨⟨K,A,λj v H=>I j v (by grind),T.frz_ok hx b t x _ S1 p n.left w⟩,
   T.frzs_elems hx b i r k Q C F n.right G a (o+k) (λj v H=> ?_)⟩
  simp_all [xN,v9]
end
theorem Ef{c c':Cx}(hx:Ext c c'){b:Bool}{es:J T}{l:J D}{t v:Vz}{Sn:J Nat}(hf:T.aY b es=some l)(hp:Pure c c' b Sn)(ht:TC c (.own es) [t] Sn){off len:Nat}(K:off+len<=es.length)(hw:Win t es off len v):
  VC c' (.sl b (bw l off len)) [v]:=by
 have u:=T.frzs_len b es l hf;obtain⟨a,n,F,G,h,O,w,A,P,N⟩:=hw;subst w;have m:(bw l off len).length=len:=by simp only[bw,yR,vZ];omega
 simp only[VC]
 refine⟨G,len,h,rfl,m.symm,A,λB=> ?_⟩
 have o:0<len:=by
  obtain q |q:=Aq len
  .grind
  .exact q
 obtain⟨g,k,M,x,L⟩:=N o
 obtain⟨S,d,s,_⟩ |⟨Q,p,C,e,f,S',d,s,W,R,V,U,H,r⟩:=ht
 .grind
 .subst s;subst M
  simp only[xC,and_true]at d
  rw[O]at d
  simp only[Value.slice.injEq,xJ,Addr.mk.injEq,and_true]at d
  obtain⟨d,_,_⟩:=d;subst d;have i:k.nc=f:=(TE.len _ _ _ _ r).2 k (yS x);have I:=hp g (by simp)
  refine⟨⟨g,off * k.nc,none⟩,f,L,rfl,I.1,Ee H,?_⟩
  have z:VE c' l ⟨g,0,none⟩ 0 f:=T.frzs_elems hx b es l f _ S' hf (λy E=>hp y (by simp[E])) r ⟨g,0,none⟩ 0 (λj v X=>by
   grind [fm,World.cell?])
  refine VE.shift _ (0+off * f) 0 f (λj=> ?_) (z.bw off len)
  rw[fm,fm,i]
  simp
theorem Win.whole{c:Cx}{es:J T}{l v:Vz}{Sn:J Nat}(hw:Win l es 0 es.length v)(ht:TC c (.own es) [l] Sn):TC c (.own es) [v] Sn:=by
 obtain⟨a,n,q,r,b,m,o,x,p,C⟩:=hw;obtain⟨w,k⟩:=p rfl;subst o;subst w
 obtain⟨B,d,h,i⟩ |⟨g,j,f,e,t,S',d,h,i,A,z,y,u,s⟩:=ht
 .subst h;subst i
  rw[m]at d
  simp only[xC,Value.slice.injEq,and_true]at d
  obtain⟨rfl,_,rfl⟩:=d
  have:b=0:=by omega
  subst this;exact .inl ⟨r,rfl,rfl,rfl⟩
 .rw[m]at d
  simp only[xC,Value.slice.injEq,and_true]at d
  obtain⟨rfl,_,rfl⟩:=d;exact .inr ⟨g,b,f,e,t,S',rfl,h,i,x,ff k z,ff (i5 _ k) y,u,s⟩
section
variable{A:Av}{ρ:Nat->Nat}{S:aj->J Nat}{hd:aj->Vz}{fl:J Nat}{k k':Wk}{ay:J (SV×Vz)}{w:Wz}{nv:Nat}
theorem rm(a:J Tr)(x:Tr)(u:SV):aU (a++[x]) u=x.sv (aU a u):=by
 induction a generalizing u with
 |nil=>rfl
 |cons y a b=>grind [aU]
theorem KR.takeOut(h:KR A ρ S hd fl k ay w){r:aj}{t t':T}{p:dP}{es:J T}{d:Vz}{L Sn R:J Nat}
  (hr:k.get r=some t) (c:S r=L++Sn++R) (hf:Focus (am A k.H.length ρ S fl w) t (hd r) p (.own es) d L Sn R)
  (hp:t.put p .dead=some t') (f:k.set r t'=some k'):
  KR A ρ (upd S r (L++R)) hd (Sn++fl) (k'.tell (.kill r p)) ay w/\Ext (am A k.H.length ρ S fl w) (am A k.H.length ρ (upd S r (L++R)) (Sn++fl) w):=by
 have a:Ext (am A k.H.length ρ S fl w) (am A k.H.length ρ (upd S r (L++R)) (Sn++fl) w):=(WS.stay (λb e=>(bS.detach c).1 e)).ext (dB _) (λ_ _=>rfl)
 exact h.giveUp (.kill r p) hr c hf hp rfl f (.inl rfl) (by simp only[TC];exact⟨trivial,d,rfl,TC.dq _ _ _ hf.tc _ (by simp)⟩) (λu v g i=>SO.kill a r p g i)
theorem KR.freeze(h:KR A ρ S hd fl k ay w){r:aj}{t t' q:T}{p:dP}{es:J T}{l:J D}{y:Vz}{L Sn R:J Nat}
  (hr:k.get r=some t) (I:S r=L++Sn++R) (hf:Focus (am A k.H.length ρ S fl w) t (hd r) p (.own es) y L Sn R) (C:t.at p=some (.own es)) (hl:T.aY false es=some l)
  (x:q=.dead\/q=.d (.sl false l)) (hp:t.put p q=some t') (O:k.set r t'=some k'):
  KR A ρ (upd S r (L++R)) hd fl (k'.tell (.cP r p l)) ay w/\Ext (am A k.H.length ρ S fl w) (am A k.H.length ρ (upd S r (L++R)) fl w)/\
   Pure (am A k.H.length ρ S fl w) (am A k.H.length ρ (upd S r (L++R)) fl w) false Sn:=by
 have d:Ext (am A k.H.length ρ S fl w) (am A k.H.length ρ (upd S r (L++R)) fl w):=(WS.stay (λb e=>bS.drop I e)).ext (dB _) (λ_ _=>rfl)
 have f:∀b∈Sn,b∈S r:=λb e=>by rw[I];simp[e]
 have a:Pure (am A k.H.length ρ S fl w) (am A k.H.length ρ (upd S r (L++R)) fl w) false Sn:=λg E=>by
  have e:=h.bT g (.inl ⟨r,f g E⟩)
  refine⟨⟨λm=> ?_,e.2.1 _,e.1⟩,rfl⟩
  obtain⟨G,m⟩ |m:=m
  .by_cases s:G=r
   .subst s
    rw[eg]at m
    have:=h.bz.nd G
    grind
   .rw[dE _ _ s]at m
    exact s (h.bz.one G r g m (f g E))
  .exact h.bz.cq r g (f g E) m
 have z:∀i j v,SB (am A k.H.length ρ S fl w) k.get hd (.aG r p i j) v->VC (am A k.H.length ρ (upd S r (L++R)) fl w) (.sl false (bw l i j)) [v]:=λi j v e=>by
  obtain⟨t0,P,N,B,K,b3,b4,b5⟩:=e;rw[hr]at B
  simp only[xJ]at B
  subst B;rw[C]at K
  simp only[xJ,T.own.injEq]at K
  subst K
  have:N=y:=aI.uniq p t (hd r) N y b3 hf.node
  subst this;exact Ef d hl a hf.tc b4 b5
 have:=h.giveUp (M:=[]) (.cP r p l) hr I hf hp (by rcases x with rfl |rfl <;>rfl) O (.inr rfl) (by
  obtain rfl |rfl:=x
  .simp only[TC];exact⟨trivial,y,rfl,TC.dq _ _ _ hf.tc _ (by simp)⟩
  .simp only[TC]
   exact⟨trivial,T.frz_ok (c:=am A k.H.length ρ S fl w) d false (.own es) _ _ Sn (by simp[T.cP,hl]) a hf.tc⟩) (λu v U Q=>SO.cP d r p l U z Q)
 grind
theorem OY{S:aj->J Nat}{fl fl':J Nat}(h:∀b,b∈fl↔b∈fl')(nO:Nat):am A nO ρ S fl w=am A nO ρ S fl' w:=by
 grind [am,bS]
theorem KR.perm(h:KR A ρ S hd fl k ay w){fl':J Nat}(hp:fl.Perm fl'):KR A ρ S hd fl' k ay w/\am A k.H.length ρ S fl w=am A k.H.length ρ S fl' w:=by
 have c:∀b,b∈fl↔b∈fl':=λb=>hp.mem_iff
 have e:=OY (A:=A) (ρ:=ρ) (w:=w) (S:=S) c k.H.length;have i:∀b,bS S fl' b->bS S fl b:=λb a=>a.imp id (c b).2
 refine⟨⟨λr t f=>by rw[<-e];exact h.cont r t f,h.gone,h.obj,λn ob g d=>by rw[<-e];exact h.map n ob g d,h.bz.float (hp.nodup_iff.1 h.bz.ndF) (λb a=>(c b).2 a),λb a=>h.bT b (i b a),λp hp=>by rw[<-e];exact h.ay p hp,h.fr,h.Fold,h.cM⟩,e⟩
theorem KR.letGo(h:KR A ρ S hd fl k ay w){fl':J Nat}(hn:fl'.Nodup)(c:∀b∈fl',b∈fl):KR A ρ S hd fl' k ay w/\Ext (am A k.H.length ρ S fl w) (am A k.H.length ρ S fl' w):=by
 have a:Ext (am A k.H.length ρ S fl w) (am A k.H.length ρ S fl' w):=(WS.stay (λb d=>d.imp id (c b))).ext (dB _) (λ_ _=>rfl)
 refine⟨⟨λr t f=>TC.ext a _ _ _ (λ_ _=>rfl) (h.cont r t f),h.gone,h.obj,λn ob g e=>(h.map n ob g e).ext a (λ_ _=>rfl) rfl rfl,h.bz.float hn c,λb d=>h.bT b (d.imp id (c b)),λp i=> ?_,h.fr,h.Fold,h.cM⟩,a⟩
 .exact SO.aV a (λr q=>h.hold _ rfl rfl (λ_ _=>rfl) q) (h.ay p i)
theorem uc{r:aj}{t:T}(a:k.set r t=some k'):k'.H.length=k.H.length:=by
 cases r with
 |l n j=>grind [Wk.set]
 |o n=>
  simp only[Wk.set]at a
  split at a
  .grind
  .cases a
theorem Ge(h:KR A ρ S hd fl k ay w){v:SV}{val:Vz}{t:T}(hv:SB (am A k.H.length ρ S fl w) k.get hd v val)(P:∀y,v≠ .d y)(e:dL nv v k=some (t,k')):
  ∃S' M,KR A ρ S' hd (M++fl) k' ay w/\Ext (am A k.H.length ρ S fl w) (am A k'.H.length ρ S' (M++fl) w)/\TC (am A k'.H.length ρ S' (M++fl) w) t [val] M/\k'.H.length=k.H.length:=by
 cases v with
 |d y=>grind
 |clip b l=>
  simp only[dL,xJ,pJ]at e
  obtain⟨rfl,rfl⟩:=e
  exact⟨S,[],by simpa using h,by simpa using(⟨λ_ _ C=>⟨C,rfl⟩,dB _,λ_ _=>rfl⟩:Ext _ _),by simp only[TC,gD];exact⟨trivial,hv.1⟩,rfl⟩
 |ns b=>
  simp only[dL,xJ,pJ]at e
  obtain⟨rfl,rfl⟩:=e
  exact⟨S,[],by simpa using h,by simpa using(⟨λ_ _ C=>⟨C,rfl⟩,dB _,λ_ _=>rfl⟩:Ext _ _),by simp only[TC,gD];exact⟨trivial,QM hv⟩,rfl⟩
 |aG r p z B=>
  obtain⟨t0,F,G,q,m,b3,b4,b5⟩:=hv;obtain⟨H,L,V,R,I,i⟩:=TC.focus p t0 (hd r) (S r) (.own F) (h.cont r t0 q) m;have U:H=G:=aI.uniq p t0 (hd r) H G i.node b3;subst U;simp only[dL,q,m,xS]at e
  -- a c row
  have c:∀(f:T) (g:Wk) (l:J D) (t1:T),T.aY false F=some l->(f=.dead\/f=.d (.sl false l))->t0.put p f=some t1->k.set r t1=some g->
    (T.d (.sl false (bw l z B)),g.tell (.cP r p l))=(t,k')->
    ∃S' M,KR A ρ S' hd (M++fl) k' ay w/\Ext (am A k.H.length ρ S fl w) (am A k'.H.length ρ S' (M++fl) w)/\TC (am A k'.H.length ρ S' (M++fl) w) t [val] M/\k'.H.length=k.H.length:=by
   intro f g l t1 o u E O N;simp only[pJ]at N
   obtain⟨rfl,rfl⟩:=N;obtain⟨x,s,W⟩:=h.freeze q I i m o u E O;have K:(g.tell (.cP r p l)).H.length=k.H.length:=uc (k':=g) O
   refine⟨_,[],by simpa using x,by grind,?_,K⟩
   rw[K];simp only[TC,gD]
   exact⟨trivial,Ef s o W i.tc b4 b5⟩
  split at e
  .rename_i n j
   split at e
   .rename_i Q
    obtain⟨_,rfl,rfl⟩:=Q;simp only[T.at,xJ]at m
    subst m;simp only[Wk.set,xQ,xJ,pJ]at e
    obtain⟨rfl,rfl⟩:=e;obtain⟨x,s⟩:=h.takeOut (k':={k with ct:=((n,j),.dead)::k.ct}) (t':=.dead) q I i rfl rfl
    refine⟨_,V,x,s,?_,rfl⟩
    exact b5.whole (TC.ext s _ _ _ (λ_ _=>rfl) i.tc)
   .simp only[xB,xM]at e
    obtain⟨l,o,g,u,E⟩:=e;exact c .dead g l .dead o (.inl rfl) rfl u E
  grind [xB,xM]
 |agg l=>exact hv.elim
 |aS l=>exact hv.elim
 |_=>simp[dL]at e
theorem Gf:∀(l:J SV) (vs:J Vz) (z:J T) (k k':Wk) (S:aj->J Nat) (fl:J Nat),KR A ρ S hd fl k ay w->
  (∀k0 x d,KR A ρ x hd d k0 ay w->k0.H.length=k.H.length->All2 (λu v=>CO (am A k0.H.length ρ x d w) k0.get hd (aU k0.tr u) v) l vs)->gG nv l k=some (z,k')->
  ∃S' M,KR A ρ S' hd (M++fl) k' ay w/\Ext (am A k.H.length ρ S fl w) (am A k'.H.length ρ S' (M++fl) w)/\a9 (am A k'.H.length ρ S' (M++fl) w) z vs M/\k'.H.length=k.H.length
 | [],vs,z,k,k',S,fl,h,a,e=>by
  simp only[gG,xJ,pJ]at e
  obtain⟨rfl,rfl⟩:=e
  have:=a k S fl h rfl
  rw[show vs=[]from this]
  exact⟨S,[],by simpa using h,by simpa using(⟨λ_ _ p=>⟨p,rfl⟩,dB _,λ_ _=>rfl⟩:Ext _ _),by simp[a9],rfl⟩
 |u::l,vs,z,k,k',S,fl,h,a,e=>by
  simp only[gG,xB,xM]at e
  obtain⟨⟨t,j⟩,s,⟨E,V⟩,Y,K⟩:=e;simp only[pJ]at K
  obtain⟨rfl,rfl⟩:=K;obtain⟨v,r,rfl,C,_⟩:=a k S fl h rfl
  have m:∃S1 c,KR A ρ S1 hd (c++fl) j ay w/\Ext (am A k.H.length ρ S fl w) (am A j.H.length ρ S1 (c++fl) w)/\TC (am A j.H.length ρ S1 (c++fl) w) t [v] c/\j.H.length=k.H.length:=by
   by_cases N:∃y,aU k.tr u=.d y
   .obtain⟨y,D⟩:=N
    rw[D]at s C
    simp only[dL,xJ,pJ]at s
    obtain⟨rfl,rfl⟩:=s
    exact⟨S,[],by simpa using h,by simpa using(⟨λ_ _ p=>⟨p,rfl⟩,dB _,λ_ _=>rfl⟩:Ext _ _),by simp only[TC,gD];exact⟨trivial,C⟩,rfl⟩
   .have i:∀y,aU k.tr u≠ .d y:=λy D=>N ⟨y,D⟩
    exact Ge h (CO.to_SB i C) i s
  obtain⟨S1,c,P,G,X,H⟩:=m
  obtain⟨Q,n,U,q,I,W⟩:=Gf l r E j V S1 (c++fl) P (λk0 x d O R=>by
   obtain⟨b,Z,L,_,q3⟩:=a k0 x d O (R.trans H)
   grind) Y
  have f:(n++(c++fl)).Perm ((c++n)++fl):=by
   rw[xK];exact Eb n c fl
  obtain⟨B,F⟩:=U.perm f;rw[F]at q I
  refine⟨Q,c++n,B,⟨λb g p=> ?_,ff G.nO q.nO,λo ho=>rfl⟩,?_,W.trans H⟩
  .have L:=G.pm b g p
   have q2:=q.pm b g L.1
   grind
  .simp only[a9]
   exact⟨v,r,c,n,rfl,rfl,TC.ext q _ _ _ (λ_ _=>rfl) X,I⟩
theorem Eg(a:J Tr)(l:J SV):aU a (.agg l)=.agg (l.map (aU a)):=by
 induction a generalizing l with
 |nil=>simp[aU]
 |cons x a b=>
  have c:∀l,Tr.bF x l=l.map x.sv:=λl=>by
   induction l with
   |nil=>rfl
   |cons a r b=>simp[Tr.bF,b]
  have:x.sv (.agg l)=.agg (l.map x.sv):=by rw[<-c];cases x <;>rfl
  simp_all [aU]
theorem ab3(a:J Tr)(y:D):aU a (.d y)=.d y:=by
 induction a with
 |nil=>rfl
 |cons x a b=>
  have:x.sv (.d y)=.d y:=by cases x <;>rfl
  grind [aU]
theorem All2.of_map{f c e:Type}{R:c->e->Prop}(g:f->c):∀{d:J f} {l:J e},All2 R (d.map g) l->All2 (λa b=>R (g a) b) d l
 | [],_,h=>h
 |a::d,l,h=>by
  obtain⟨b,r,i,j,h3⟩:=h
  exact⟨b,r,i,j,All2.of_map g h3⟩
theorem nF(h:KR A ρ S hd fl k ay w){v:SV}{val:Vz}{t:T}(r:(v,val)∈ay)(e:fR nv v k=some (t,k')):
  ∃S' M,KR A ρ S' hd (M++fl) k' ay w/\Ext (am A k.H.length ρ S fl w) (am A k'.H.length ρ S' (M++fl) w)/\TC (am A k'.H.length ρ S' (M++fl) w) t val.cells.toList M/\k'.H.length=k.H.length:=by
 have j:=h.ay (v,val) r
 by_cases g:∃l,v=.agg l
 .obtain⟨l,rfl⟩:=g
  simp only[fR,xM]at e
  obtain⟨⟨L,C⟩,I,x⟩:=e;simp only[pJ]at x
  obtain⟨rfl,rfl⟩:=x
  have n:∀b m a,KR A ρ m hd a b ay w->∃c,val=.agg c/\All2 (λu v=>CO (am A b.H.length ρ m a w) b.get hd (aU b.tr u) v) l c.toList:=λb m a s=>by
   have:=s.ay _ r
   simp only[Eg]at this
   obtain⟨c,J,D⟩:=this
   exact⟨c,J,D.of_map⟩
  obtain⟨c,rfl,_⟩:=n k S fl h
  obtain⟨S',M,B,H,K,z⟩:=Gf (nv:=nv) l c.toList L k C S fl h (λb m a s d=>by
   grind) I
  exact⟨S',M,B,H,TC.mk K,z⟩
 .have i:∀l,v≠ .agg l:=λl d=>g ⟨l,d⟩
  have q:dL nv (aU k.tr v) k=some (t,k'):=by
   revert e i
   cases v <;>intro e i <;>first |exact e |grind
  simp only at j
  by_cases hd':∃y,aU k.tr v=.d y
  .obtain⟨y,p⟩:=hd'
   rw[p]at q j
   simp only[dL,xJ,pJ]at q
   obtain⟨rfl,rfl⟩:=q
   exact⟨S,[],by simpa using h,by simpa using(⟨λ_ _ G=>⟨G,rfl⟩,dB _,λ_ _=>rfl⟩:Ext _ _),by simp only[TC,gD];exact⟨trivial,j.1⟩,rfl⟩
  .have E:∀y,aU k.tr v≠ .d y:=λy p=>hd' ⟨y,p⟩
   by_cases o:∃l,aU k.tr v=.aS l
   .grind [dL]
   .by_cases f:∃l,aU k.tr v=.agg l
    .grind [dL]
    .have F:=S1.to_SB (λl d=>f ⟨l,d⟩) (SO.to_S1 (λl d=>o ⟨l,d⟩) j)
     grind [Ge,ly,TC.dq]
end
theorem Gg{c:Cx}{x:D}{cs:J Vz}(h:VC c x cs):TC c (T.ofD1 x) cs []:=by
 cases x <;>first |grind [T.ofD1,TC] |skip
 simp only[VC]at h
 exact .inl ⟨none,h,rfl,rfl⟩
theorem II{c:Cx}:∀(l:J D) (cs:J Vz),aR c l cs->a9 c (l.map T.ofD1) cs []
 | [],cs,h=>by grind [aR,a9]
 |d::a,cs,h=>by
  simp only[aR]at h
  obtain⟨v,r,rfl,b,h3⟩:=h;simp only[eJ,a9]
  exact⟨v,r,[],[],rfl,rfl,Gg b,II a r h3⟩
theorem OZ{c:Cx}{z:D}{cs:J Vz}(h:VC c z cs):TC c (T.cj z) cs []:=by
 unfold T.cj;split
 .grind [VC,II,TC]
 .exact Gg h
theorem Sq{c:Cx}{t:T}{cs:J Vz}{M:J Nat}(h:TC c t cs M):TC c (T.fresh1 t) cs M:=by
 cases t with
 |d x=>simp only[TC]at h;obtain⟨rfl,h⟩:=h;exact Gg h
 |_=>exact h
theorem Gh{c:Cx}:∀(l:J T) (cs:J Vz) (M:J Nat),a9 c l cs M->a9 c (l.map T.fresh1) cs M
 | [],cs,M,h=>h
 |t::d,cs,M,h=>by
  simp only[a9]at h
  obtain⟨v,r,S1,a,rfl,rfl,e,b⟩:=h
  have:=Gh d r a b;grind [a9,Sq]
theorem Mo{c:Cx}{t:T}{cs:J Vz}{M:J Nat}(h:TC c t cs M):TC c (T.fresh t) cs M:=by
 cases t with
 |d x=>simp only[TC]at h;obtain⟨rfl,h⟩:=h;exact OZ h
 |agg l=>grind [TC,T.fresh,Gh]
 |_=>exact h
theorem Gi{A:Av}{ρ:Nat->Nat}{S:aj->J Nat}{hd:aj->Vz}{fl:J Nat}{k k':Wk}{ay:J (SV×Vz)}{w:Wz}{nv:Nat}(h:KR A ρ S hd fl k ay w){v:SV}{val:Vz}{t:T}(a:(v,val)∈ay)(e:js nv v k=some (t,k')):
  ∃S' M,KR A ρ S' hd (M++fl) k' ay w/\Ext (am A k.H.length ρ S fl w) (am A k'.H.length ρ S' (M++fl) w)/\TC (am A k'.H.length ρ S' (M++fl) w) t val.cells.toList M/\k'.H.length=k.H.length:=by
 grind [js,xM,nF,Mo]
theorem yZ{P:Pz}{t:TypeId}{d:TypeDesc}(h:P.underlying t=some d):∃i,P.info? t=some i:=by
 grind [Program.underlying]
theorem O1{P:Pz}{t:TypeId}{d:TypeDesc}(h:P.underlying t=some d)(w:Wz):(sizeOf t).run P w=.ok (P.cellsOf t) w:=by
 obtain⟨i,a⟩:=yZ h;simp[sizeOf,typeInfo,a,Program.cellsOf]
theorem qs{P:Pz}{t:TypeId}{b:Bool}(h:oE P t=some b)(w:Wz):(isAgg t).run P w=.ok b w/\(sizeOf t).run P w=.ok (P.cellsOf t) w:=by
 unfold oE at h
 cases a:P.underlying t with
 |none=>grind
 |some d=>
  rw[a]at h
  refine⟨?_,O1 a w⟩
  simp only[isAgg,Sem.run_bind,run_underlying a,Result.andThen_ok]
  cases d <;>simp_all
theorem mK{P:Pz}{t:TypeId}{w:Wz}{a:Addr}{cs:J Vz}(h:oE P t=some true)(hn:cs.length=P.cellsOf t)(hc:∀j u,cs[j]? =some u->w.cell? (a.add j)=some u):
  (loadVar t a).run P w=.ok (.agg cs.toArray) w:=by
 obtain⟨b,c⟩:=qs h w;have h3:=run_loadCells_list (P:=P) w a cs hc
 simp_all [loadVar]
theorem tq{P:Pz}{t:TypeId}{w:Wz}{a:Addr}{v:Vz}(h:oE P t=some false)(hc:w.cell? a=some v):
  (loadVar t a).run P w=.ok v w:=by
 simp_all [qs,loadVar]
theorem T.at_append:∀(p q:dP) (t:T),t.at (p++q)=(t.at p).bind (·.at q)
 | [],q,t=>rfl
 |(i,a)::p,q,t=>by
  cases t with
  |own b=>
   simp only[lN,T.at,xX]
   have:=T.at_append p q;grind
  |_=>simp[T.at]
theorem aI.append{c:Cx}:∀(p q:dP) (t nd:T) (h h1 h2:Vz),t.at p=some nd->aI c h t p h1->aI c h1 nd q h2->aI c h t (p++q) h2
 | [],q,t,nd,h,h1,h2,a,b,j=>by
  grind [T.at,aI]
 |(i,n)::p,q,t,nd,h,h1,h2,a,b,j=>by
  cases t with
  |own x=>
   simp only[T.at,xB]at a
   obtain⟨B,u,c0,l,a⟩:=a;simp only[lN,aI]at b |-
   obtain⟨g,r,o,m,e,z,y,s,A,v,f,d,w,k⟩:=b;rw[u]at f
   simp only[xJ]at f
   subst f;rw[l]at d
   simp only[xJ]at d
   subst d
   have:=aI.append p q c0 nd s h1 h2 a k j;grind
  |_=>simp[T.at]at a
section
variable{P:Pz}{A:Av}{ρ:Nat->Nat}{S:aj->J Nat}{hd:aj->Vz}{fl:J Nat}{k k':Wk}{ay:J (SV×Vz)}{w:Wz}
structure Place(c:Cx)(t:T)(h:Value)(Sr:List Nat)(p:dP)(i off:Nat)(v:Value)(es:List T)(el:T)(g cap:Nat)(cur:Array Value)(e:TypeId)(sz:Nat)(c1:List Value)(L Sn R L1 Se R1:List Nat):Prop where
 de:Focus c t h p (.own es) (.slice (some ⟨g,0,none⟩) es.length cap) L Sn R
 hS:Sr=L++Sn++R
 hSn:Sn=g::(L1++Se++R1)
 hel:es[i]? =some el
 hoff:off<el.nc
 hv:v=.pointer (some ⟨g,i * sz+off,none⟩)
 hg:c.w.heap[g]? =some (.cells cur e (0,0))
 hle:es.length<=cap
 cU:cap<=maxLen
 hcur:cap * sz<=cur.size
 bP:0<sz
 hnc:el.nc=sz
 hc1:c1.length=sz
 hcs:cur.toList.take (es.length * sz)=(cur.toList.take (es.length * sz)).take (i * sz)++c1++(cur.toList.take (es.length * sz)).drop (i * sz+sz)
 hci:((cur.toList.take (es.length * sz)).take (i * sz)).length=i * sz
 hte:TC c el c1 Se
 hL1:TE c (es.take i) sz ((cur.toList.take (es.length * sz)).take (i * sz)) L1
 hR1:TE c (es.drop (i+1)) sz ((cur.toList.take (es.length * sz)).drop (i * sz+sz)) R1
theorem Gj{c:Cx}{K:aj->U T}{r:aj}{p:dP}{i off:Nat}{v:Vz}{S:aj->J Nat}(hc:∀t,K r=some t->TC c t [hd r] (S r))(h:SB c K hd (.loc r p i off) v):
  ∃t es j g cap b e f l L Sn R L1 m R1,K r=some t/\t.at p=some (.own es)/\Place c t (hd r) (S r) p i off v es j g cap b e f l L Sn R L1 m R1:=by
 obtain⟨t,es,g,n,cap,j,q,x,h3,h4,h5,h6⟩:=h;obtain⟨C,L,Sn,R,H,k⟩:=TC.focus p t (hd r) (S r) (.own es) (hc t q) x;have I:C=.slice (some ⟨g,0,none⟩) n cap:=aI.uniq p t (hd r) _ _ k.node h3;subst I
 obtain⟨a,_,w,_⟩ |⟨Q,u,b,e,f,S',s,w,O,B,G,D,N,M⟩:=k.tc
 .grind
 .simp only[xC,Value.slice.injEq,xJ,Addr.mk.injEq,and_true]at s
  obtain⟨rfl,rfl,rfl⟩:=s;obtain⟨l,L1,m,R1,o,z,E,A,y,F,P⟩:=TE.get M h4;have d:j.nc=f:=by rw[<-TC.len _ _ _ y,o]
  exact⟨t,es,j,g,cap,b,e,f,l,L,Sn,R,L1,m,R1,q,x,⟨k,H,by rw[w,A],h4,h5,by rw[h6,d],O,B,G,D,Ee N,d,o,z,E,y,F,P⟩⟩
theorem Place.cell{c:Cx}{t:T}{h:Vz}{Sr:J Nat}{p:dP}{i off:Nat}{v:Vz}{es:J T}{el:T}{g cap:Nat}{cur:Array Vz}{e:TypeId}{sz:Nat}{c1:J Vz}{L Sn R L1 Se R1:J Nat}
  (a:Place c t h Sr p i off v es el g cap cur e sz c1 L Sn R L1 Se R1) {j:Nat} {u:Vz} (b:c1[j]? =some u):cur[i * sz+j]? =some u/\c.w.cell? ⟨g,i * sz+j,none⟩=some u:=by
 have:=QL a.hcs a.hci b
 exact⟨this,by simp[World.cell?,a.hg,this]⟩
theorem D.sv1_ok{x:D}{sv:SV}(h:x.sv1=some sv):sv=.d x/\∀l,x≠ .agg l:=by
 cases x <;>simp_all [D.sv1]
theorem T.cells_cell{t ct:T}{off:Nat}(h:t.cells[off]? =some ct):t.cell off=some ct:=by
 have a:t.cells=[t]->(∀l,t≠ .agg l)->(∀l,t≠ .d (.agg l))->t.cell off=some ct:=λb e f=>by
  rw[b]at h
  cases off with
  |zero=>
   simp only[yE,xJ]at h
   subst h
   cases t with
   |agg l=>grind
   |d x=>cases x <;>first |rfl |grind
   |_=>rfl
  |succ n=>simp at h
 cases t with
 |agg g=>grind [T.cells,T.cell]
 |d x=>cases x <;>first |(exact a rfl (by simp) (by simp)) |grind [T.cells,T.cell]
 |own c=>exact a rfl (by simp) (by simp)
 |dead=>exact a rfl (by simp) (by simp)
theorem IJ{c:Cx}{K:aj->U T}{r:aj}{t:T}{p:dP}{i off:Nat}{v:Vz}{es:J T}{z ct:T}{g cap:Nat}{q:Array Vz}{e:TypeId}{G:Nat}{A:J Vz}{L Sn R L1 O R1:J Nat}{H:J Nat}
  (I:K r=some t) (s:t.at p=some (.own es)) {o:Nat} (k:Place c t (hd r) H p i o v es z g cap q e G A L Sn R L1 O R1) (w:z.cells[off]? =some ct) {sv:SV} (b:ib r p i off ct=some sv):
  ∃u,A[off]? =some u/\CO c K hd sv u/\u.oneCell'=true:=by
 obtain⟨u,L2,Sc,Z,C,P,y,X,V⟩:=a9.get k.hte.cells w
 refine⟨u,C,?_,TC.dq _ _ _ y u (by simp)⟩
 cases ct with
 |d x=>
  simp only[TC]at y
  obtain⟨rfl,_⟩:=D.sv1_ok b;exact y.2
 |own h=>
  simp only[ib,xJ]at b
  subst b;have f:z.cell off=some (.own h):=T.cells_cell w
  have n:aI c (.slice (some ⟨g,0,none⟩) es.length cap) (.own es) [(i,off)] u:=by
   simp only[aI]
   exact⟨g,es.length,cap,q,e,z,.own h,u,rfl,k.hg,k.hel,f,by rw[k.hnc];exact(k.cell C).1,rfl⟩
  refine⟨t,h,u,I,by rw[T.at_append,s];simp[T.at,k.hel,f],aI.append p _ t _ _ _ _ s k.de.node n,by omega,?_⟩
  obtain⟨a,m,F,_⟩ |⟨Y,j,B,S,N,S',m,F,W,M,k5,Q,k7,k8⟩:=y
  .simp only[xC,and_true]at m
   subst F
   exact⟨a,0,0,a,0,m,by simpa using m,dB _,λ_=>⟨rfl,dB _⟩,λE=>by simp at E⟩
  .simp only[xC,and_true]at m
   refine⟨_,h.length,j,_,j,m,m,M,λ_=>⟨rfl,dB _⟩,λE=> ?_⟩
   grind
 |agg l=>simp[ib]at b
 |dead=>simp[ib]at b
theorem Gk{c:Cx}{K:aj->U T}{r:aj}{t:T}{p:dP}{i o:Nat}{v:Vz}{es:J T}{q:T}{g cap:Nat}{k:Array Vz}{e:TypeId}{w:Nat}{f:J Vz}{L Sn R L1 G R1:J Nat}{y:J Nat}
  (m:K r=some t) (a:t.at p=some (.own es)) (l:Place c t (hd r) y p i o v es q g cap k e w f L Sn R L1 G R1):∀(cs:J T) (off:Nat) (d:J SV),(∀(j:Nat) (x:T),cs[j]? =some x->q.cells[off+j]? =some x)->j4 r p i off cs=some d->
  All2 (CO c K hd) d (bw f off cs.length)
 | [],off,d,_,h=>by
  grind [j4,bw,All2]
 |A::cs,off,d,n,h=>by
  simp only[j4,xB,xM]at h
  obtain⟨H,F,b,B,rfl⟩:=h;obtain⟨u,D,s,_⟩:=IJ m a l (by simpa using n 0 A rfl) F
  have z:=Gk m a l cs (off+1) b (λj x C=>by have:=n (j+1) x (by simpa using C);grind) B
  have E:=(List.getElem?_eq_some_iff.1 D).1
  refine⟨u,bw f (off+1) cs.length,?_,s,z⟩
  grind [bw,xW]
theorem SV.pures_ok{c:Cx}{K:aj->U T}:∀(l:J SV) (ds:J D) (vs:J Vz),SV.bG l=some ds->All2 (CO c K hd) l vs->aR c ds vs
 | [],ds,vs,h,a=>by
  simp only[SV.bG,xJ]at h
  subst h;rw[show vs=[]from a]
  simp[aR]
 |u::l,ds,vs,h,a=>by
  cases u with
  |d x=>
   simp only[SV.bG,xM]at h
   obtain⟨r,b,rfl⟩:=h;obtain⟨v,q,rfl,e,h3⟩:=a;simp only[aR]
   exact⟨v,q,rfl,e,SV.pures_ok l r q b h3⟩
  |_=>simp[SV.bG]at h
theorem SV.mkAgg_ok{c:Cx}{K:aj->U T}{l:J SV}{vs:J Vz}(h:All2 (CO c K hd) l vs):SO c K hd (SV.bt l) (.agg vs.toArray):=by
 unfold SV.bt;split
 .rename_i b a
  exact VV.agg (by grind [SV.pures_ok])
 .exact⟨_,rfl,by simpa using h⟩
theorem Ay(h:KR A ρ S hd fl k ay w){u:SV}{v:Vz}(hu:SO (am A k.H.length ρ S fl w) k.get hd u v){r:aj}{p:dP}{i off:Nat}{t0:T}(hl:bD u=.loc r p i off)(hc:k.get r=some t0):SB (am A k.H.length ρ S fl w) k.get hd (.loc r p i off) v:=by
 by_cases t:∃n,u=.d (.ptr n)
 .obtain⟨n,rfl⟩:=t
  simp only[bD,SV.loc.injEq]at hl
  obtain⟨rfl,rfl,rfl,rfl⟩:=hl
  have m:∃c,k.H[n]? =some (.box c)/\t0=.own [c]:=by
   simp only[Wk.get,cont]at hc
   cases j:k.H[n]? with
   |none=>grind
   |some x=>
    grind
  obtain⟨c,j,rfl⟩:=m;have l:VC (am A k.H.length ρ S fl w) (.ptr n) [v]:=VV.inv hu (by simp)
  simp only[VC,xC,and_true]at l
  have b:0<c.nc:=by
   obtain⟨a,_,g,_⟩ |⟨B,f,o,e,C,S',F,g,H,y,E,D,G,s⟩:=h.cont _ _ hc
   .cases g
   .rw[(TE.len _ _ _ _ s).2 c (by simp)];grind
  refine⟨.own [c],[c],ρ n,1,1,c,hc,rfl,by rw[h.obj];rfl,rfl,b,by grind [am]⟩
 .by_cases z:∃q,u=.d (.bQ q)
  .grind [bD]
  have:bD u=u:=by
   cases u with
   |d x=>cases x <;>first |rfl |grind |grind
   |_=>rfl
  rw[this]at hl
  subst hl;exact hu
theorem Gl{c:Cx}{K:aj->U T}{u:SV}{v:Vz}{b:Bool}{cs:J D}(hl:bD u=.rp b cs)(hu:SO c K hd u v):SB c K hd (.rp b cs) v:=by
 cases u with
 |d x=>
  cases x with
  |bQ a=>
   simp only[bD,SV.rp.injEq]at hl
   obtain⟨rfl,rfl⟩:=hl;have e:VC c (.bQ a) [v]:=VV.inv hu (by simp)
   simp only[VC,xC,and_true]at e
   exact e
  |_=>simp[bD]at hl
 |rp f a=>
  simp only[bD]at hl
  rw[<-hl];exact hu
 |_=>simp[bD]at hl
theorem kj{a:Type}(l:J a)(o n:Nat)(h:o+n<=l.length):(bw l o n).length=n:=by grind [bw]
theorem Eh{a:Type}{l:J a}{o n j:Nat}{x:a}(h:(bw l o n)[j]? =some x):l[o+j]? =some x:=by
 grind [bw]
theorem Az(h:KR A ρ S hd fl k ay w){t:TypeId}{u sv:SV}{v:Vz}(hu:SO (am A k.H.length ρ S fl w) k.get hd u v)(e:gY P t u k=some sv):
  ∃val,(Instr.loadAt t v).run P w=.ok val w/\SO (am A k.H.length ρ S fl w) k.get hd sv val:=by
 unfold gY at e
 split at e
 .rename_i r p i f M
  simp only[xB]at e
  obtain⟨t0,E,nd,q,e⟩:=e
  split at e
  .rename_i es
   simp only[xB]at e
   obtain⟨el,J,F,c,e⟩:=e;obtain⟨t1,ad,ac,g,ab,aa,ty,Y,C,L,Sn,R,L1,Se,R1,H,O,m⟩:=Gj (λt=>h.cont r t) (Ay h hu M E)
   rw[E]at H
   simp only[xJ]at H
   subst H;rw[q]at O
   simp only[xJ,T.own.injEq]at O
   subst O
   have:=m.hel
   rw[J]at this
   simp only[xJ]at this
   subst this;have Z:=m.hv;subst Z;simp only[Instr.loadAt,Instr.sureAddr,Sem.run_bind,Sem.run_pure,Result.andThen_ok]
   have V:∀(n:Nat) (j:Nat) (x:Vz),(bw C f n)[j]? =some x->w.cell? ((⟨g,i * Y+f,none⟩:Addr).add j)=some x:=λn j x I=>by
    rw[fm,v9]
    exact(m.cell (Eh I)).2
   cases F with
   |true=>
    simp only[if_true]at e
    split at e
    .rename_i l
     split at e
     .rename_i s
      simp only[xJ]at e
      subst e;have z:=m.hte;simp only[TC,VC]at z
      have o:=aR.len _ _ z.2
      refine⟨_,mK (cs:=bw C f (P.cellsOf t)) c (kj _ _ _ (by omega)) (V _),?_⟩
      exact VV.agg (by grind [aR.bw])
     .cases e
    .rename_i cs
     split at e
     .rename_i s
      simp only[xM]at e
      obtain⟨X,e1,rfl⟩:=e;have o:=a9.len _ _ _ (show a9 _ cs C Se from m.hte)
      have U:=Gk (K:=k.get) E q m _ f X (λj x I=>by
       grind [Eh,T.cells]) e1
      rw[kj cs _ _ (by omega)]at U
      exact⟨_,mK (cs:=bw C f (P.cellsOf t)) c (kj _ _ _ (by omega)) (V _),SV.mkAgg_ok U⟩
     .cases e
    .cases e
   |false=>
    simp only[xH,if_false,xB]at e
    obtain⟨ct,Q,e⟩:=e;obtain⟨x,W,B,m3⟩:=IJ (K:=k.get) E q m (T.cz Q) e
    refine⟨x,tq c (m.cell W).2,?_⟩
    cases ct with
    |d y=>
     obtain⟨rfl,G⟩:=D.sv1_ok e;exact VV.one B G
    |own af=>simp only[ib,xJ]at e;subst e;exact B
    |agg l=>simp[ib]at e
    |dead=>simp[ib]at e
  .cases e
 .rename_i b cs M
  replace hu:=Gl M hu
  simp only[xB]at e
  obtain⟨F,c,e⟩:=e;obtain⟨a,N,rfl,h2,h3,h4,h5⟩:=hu;have o:=aR.len _ _ h5;simp only[Instr.loadAt,Instr.sureAddr,Sem.run_bind,Sem.run_pure,Result.andThen_ok]
  cases F with
  |true=>
   simp only[if_true]at e
   split at e
   .rename_i s
    simp only[xJ]at e
    subst e
    refine⟨_,mK (cs:=N.take (P.cellsOf t)) c (by simp;omega) (λj x I=>h4 j x ?_),?_⟩
    .grind
    .have:=aR.bw cs N h5 0 (P.cellsOf t)
     simp only[bw,i6]at this
     exact VV.agg (by simpa using this)
   .cases e
  |false=>
   simp only[xH,if_false,xB]at e
   obtain⟨x,hx,e⟩:=e;obtain⟨rfl,G⟩:=D.sv1_ok e;obtain⟨y,W,B⟩:=aR.get cs N h5 0 x hx
   exact⟨y,tq c (by grind [Addr.add,am]),VV.one B G⟩
 .cases e
theorem Vs{a ct:T}{b:Nat}{q:dP}{es:J T}(h1:a.cell b=some ct)(h2:ct.at q=some (.own es)):tm a=true:=by
 have:∃l,ct=.own l:=by
  cases ct with
  |own l=>exact⟨l,rfl⟩
  |d x=>cases q <;>simp[T.at]at h2
  |agg l=>cases q <;>simp[T.at]at h2
  |dead=>cases q <;>simp[T.at]at h2
 obtain⟨l,rfl⟩:=this
 cases a with
 |own c=>rfl
 |agg e=>
  simp only[T.cell]at h1
  simp only[tm,List.any_eq_true]
  exact⟨_,yS h1,rfl⟩
 |d x=>cases x <;>simp[T.cell]at h1
 |dead=>simp[T.cell]at h1
theorem Mp{X b vs:J Vz}{a c off N:Nat}(g:X.take N=(X.take N).take a++b++(X.take N).drop (a+c))(ha:((X.take N).take a).length=a)(h1:b.length=c)(hf:off+vs.length<=c):
  (X.take (a+off)++vs++X.drop (a+off+vs.length)).take N=(X.take N).take a++(b.take off++vs++b.drop (off+vs.length))++(X.take N).drop (a+c):=by
 have d:=congrArg List.length g;simp only[xP,yR,vZ]at d ha
 have f:∀j,j<c->b[j]? =X[a+j]? :=λj l=>by
  have i:(X.take N)[a+j]? =b[j]? :=by
   rw[g,xK,xN (by simp;omega)]
   simp only[yR];rw[show a+j - min a (min N X.length)=j by omega,xO (by omega)]
  grind
 apply As;intro j
 by_cases h:j<a
 .grind
 .by_cases k:j<a+c
  .have e:((X.take N).take a++(b.take off++vs++b.drop (off+vs.length))++(X.take N).drop (a+c))[j]? =(b.take off++vs++b.drop (off+vs.length))[j - a]? :=by
    rw[xK,xN (by simp;omega)]
    simp only[yR];rw[show j - min a (min N X.length)=j - a by omega,xO (by simp;omega)]
   rw[e,xU,if_pos (by omega)]
   by_cases h3:j<a+off
   .rw[xK,xO (by simp;omega),xK,xO (by simp;omega)]
    simp only[xU];rw[if_pos h3,if_pos (by omega),f _ (by omega)]
    congr 1;omega
   .by_cases h4:j<a+off+vs.length
    .rw[xK,xN (by simp;omega),xO (by simp;omega),xK,xN (by simp;omega),xO (by simp;omega)]
     congr 1;simp;omega
    .rw[xN (by simp;omega),xN (by simp;omega)]
     simp only[xP,yR,jq];rw[f _ (by omega)]
     congr 1;omega
  .have e:((X.take N).take a++(b.take off++vs++b.drop (off+vs.length))++(X.take N).drop (a+c))[j]? =(X.take N)[j]? :=by
    rw[xN (by simp;omega),jq]
    congr 1;simp;omega
   rw[e,xU,xU];split
   .rw[xN (by simp;omega),jq]
    congr 1;simp;omega
   .rfl
theorem kK(w:Wz)(g b:Nat)(cs:Array Vz)(h:b≠g):(w.setRow g cs).heap[b]? =w.heap[b]? :=by
 grind [World.setRow]
theorem KR.write{r:aj}{t t':T}{p:dP}{i off:Nat}{v:Vz}{es:J T}{el el':T}{g cap:Nat}{m:Array Vz}{ty:TypeId}{c:Nat}{c1 vs:J Vz}{L Sn R L1 Se R1:J Nat}{M:J Nat}{o:Nat}
  (h:KR A ρ S hd (M++fl) k ay w) (hr:k.get r=some t) (al:t.at p=some (.own es)) (l:Place (am A k.H.length ρ S (M++fl) w) t (hd r) (S r) p i o v es el g cap m ty c c1 L Sn R L1 Se R1)
  (hf:off+vs.length<=c) (a6:el'.nc=el.nc) (hp:t.put p (.own (es.set i el'))=some t') (hs:k.set r t'=some k') {La Mb Rc:J Nat} (aq:Se=La++Mb++Rc)
  (ao:∀c',Ext (am A k.H.length ρ S (M++fl) w) c'->Kept (am A k.H.length ρ S (M++fl) w) c' (La++M++Rc)->TC c' el' (c1.take off++vs++c1.drop (off+vs.length)) (La++M++Rc)):
  let w':=w.setRow g (m.toList.take (i * c+off)++vs++m.toList.drop (i * c+off+vs.length)).toArray
  let s:=if tm el then k'.tell (.cG r (p.length+1))else k'
  ∃S',KR A ρ S' hd fl s ay w'/\Ext (am A k.H.length ρ S (M++fl) w) (am A k.H.length ρ S' fl w'):=by
 intro w' s;obtain⟨g1,g2,g3,g4⟩:=Wk.db hs ⟨t,hr,λ_ _=>trivial⟩
 have G:=l.hS;rw[l.hSn,aq]at G
 have e1:S r=(L++g::(L1++La))++Mb++(Rc++R1++R):=by rw[G];simp
 have d1:=h.bz.drop e1;have d2:=Dis.attach (r:=r) (L:=L++g::(L1++La)) (M:=M) (R:=Rc++R1++R) (fl:=fl) d1 (by simp)
 have e2:upd (upd S r ((L++g::(L1++La))++(Rc++R1++R))) r ((L++g::(L1++La))++M++(Rc++R1++R))=upd S r ((L++g::(L1++La))++M++(Rc++R1++R)):=by
  funext x;simp only[upd];split <;>rfl
 rw[e2]at d2
 have aa:∀b,bS (upd S r ((L++g::(L1++La))++M++(Rc++R1++R))) fl b->bS S (M++fl) b:=λb C=>by
  rw[<-e2]at C
  exact bS.drop e1 ((bS.attach (r:=r) (L:=L++g::(L1++La)) (M:=M) (R:=Rc++R1++R) (by simp)).1 C)
 have O:g∈S r:=by rw[G];simp
 have B:∀b,b≠g->w'.heap[b]? =w.heap[b]? :=λb C=>kK w g b _ C
 have ws:WS S (M++fl) w (upd S r ((L++g::(L1++La))++M++(Rc++R1++R))) fl w':=
  ⟨rfl,rfl,rfl,by simp[w'],λb _ hn=>B b (λe=>hn (.inl ⟨r,e▸O⟩)),λb C=>.inl (aa b C),cF.other (g:=g) B (λr=>by rw[show w.heap[g]? =_ from l.hg];simp)⟩
 have ext:Ext (am A k.H.length ρ S (M++fl) w) (am A k.H.length ρ (upd S r ((L++g::(L1++La))++M++(Rc++R1++R))) fl w'):=ws.ext (dB _) (λ_ _=>rfl)
 have aL:=h.bz.nd r;rw[G]at aL
 have Q:∀b,b∈L\/b∈L1\/b∈La\/b∈Mb\/b∈Rc\/b∈R1\/b∈R->b≠g:=λb C e=>by
  grind
 have a5:∀b,b∈M->b≠g:=λb C e=>h.bz.cq r g O (by grind)
 have ag:w'.heap[g]? =some (.cells (m.toList.take (i * c+off)++vs++m.toList.drop (i * c+off+vs.length)).toArray ty (0,0)):=setRow_heap w g m _ ty _ l.hg;have il:=(List.getElem?_eq_some_iff.1 l.hel).1;have an:es.length * c<=m.size:=ff (i5 _ l.hle) l.hcur
 have a4:i * c+c<=es.length * c:=by
  have:(i+1) * c<=es.length * c:=i5 _ il
  rwa [iN,Nat.one_mul]at this
 have D:∀b∈L++R,w'.heap[b]? =w.heap[b]? :=λb C=>B b (Q b (by grind))
 have W:TC (am A k.H.length ρ (upd S r ((L++g::(L1++La))++M++(Rc++R1++R))) fl w') (.own (es.set i el')) [.slice (some ⟨g,0,none⟩) es.length cap] (g::(L1++(La++M++Rc)++R1)):=by
  simp only[TC];refine .inr ⟨g,cap,_,ty,c,L1++(La++M++Rc)++R1,by grind,rfl,ag,by rw[oN];exact l.hle,l.cU,?_,by rw[oN];exact Nat.mul_pos (by omega) l.bP,?_⟩
  .simp only[List.size_toArray,xP,yR,vZ,yF]
   have:=l.hcur
   omega
  .rw[oN]
   have:=Mp (vs:=vs) (off:=off) l.hcs l.hci l.hc1 hf
   simp only at this |-
   rw[this];refine TE.put ext il l.hL1 l.hR1 (λb C=>B b (Q b (by grind))) ?_ (ao _ ext (λb C=>B b ?_))
   .simp only[xP,yR,vZ,l.hc1];omega
   grind
 have N:=l.de.put _ _ t' _ ext D hp W;have eS:L++g::(L1++(La++M++Rc)++R1)++R=(L++g::(L1++La))++M++(Rc++R1++R):=by simp
 rw[eS]at N
 have get:∀f,s.get f=if f=r then some t' else k.get f:=λf=>by
  show s.get f=_;rw[<-g1];simp only[s];split <;>rfl
 have hH:s.H=k'.H:=by simp only[s];split <;>rfl
 have u:∀f,f≠r->∀b∈S f,w'.heap[b]? =w.heap[b]? :=λf d b C=>B b (λe=>d (h.bz.one f r b C (e▸O)))
 have hold:∀f q,(f=r->tm el=true->q.length<p.length+1)->wN (am A k.H.length ρ S (M++fl) w) (am A k.H.length ρ (upd S r ((L++g::(L1++La))++M++(Rc++R1++R))) fl w') k.get s.get hd hd f q:=λf q hq=>by
  by_cases d:f=r
  .subst d
   intro t0 aG b1 b2;rw[hr]at b1
   simp only[xJ]at b1
   subst b1
   obtain⟨a0,o1,o2,o3⟩:=l.de.oth (am A k.H.length ρ (upd S f ((L++g::(L1++La))++M++(Rc++R1++R))) fl w') (.own (es.set i el')) t' (λY=>∀b x,Y≠(i,b)::x) D hp rfl (λY aM hQ ha=>by
    cases Y with
    |nil=>
     simp only[T.at,xJ,T.own.injEq]at ha
     subst ha
     refine⟨_,rfl,⟨by simp,λj x P=> ?_⟩,λ_ hh=>hh⟩
     by_cases hj:i=j
     .subst hj
      rw[l.hel]at P
      grind
     grind
    |cons ab Y=>
     obtain⟨a,b⟩:=ab;have X:a≠i:=λe=>hQ b Y (by rw[e])
     simp only[T.at,xB]at ha
     obtain⟨x,P,y,hy,ha⟩:=ha;have aJ:(es.set i el')[a]? =some x:=by rw[vW (Ne.symm X)];exact P
     refine⟨aM,by grind [T.at],bh.refl _,λh1 hh=> ?_⟩
     simp only[aI]at hh |-
     obtain⟨g',ac,ah,aT,e',aY,ct,cv,n1,n2,n3,n4,n5,n6⟩:=hh;simp only[Value.slice.injEq,xJ,Addr.mk.injEq,and_true]at n1
     obtain⟨n1,_,_⟩:=n1;subst n1;have aN:=l.hg;rw[aN]at n2
     simp only[xJ,Obj.cells.injEq,and_true]at n2
     obtain⟨n2,_⟩:=n2;subst n2;rw[P]at n3
     simp only[xJ]at n3
     subst n3;rw[hy]at n4
     simp only[xJ]at n4
     subst n4
     have av:x.nc=c:=by
      obtain⟨_,_,k2,_⟩ |⟨g0,aQ,aS,e0,aZ,S0,k1,k2,k3,k4,k5,k6,k7,k8⟩:=l.de.tc
      .grind
      .have:=(TE.len _ _ _ _ k8).2
       rw[this x (yS P),<-this el (yS l.hel),l.hnc]
     have aX:=T.bV hy;have a2:=(List.getElem?_eq_some_iff.1 P).1
     have E:a * c+b<i * c+off\/i * c+off+vs.length<=a * c+b:=by
      obtain ak |af:=Nat.lt_or_gt_of_ne X
      .left
       have:(a+1) * c<=i * c:=i5 _ ak
       grind
      .right
       have:(i+1) * c<=a * c:=i5 _ af
       grind
     have aC:(m.toList.take (i * c+off)++vs++m.toList.drop (i * c+off+vs.length))[a * c+b]? =m[a * c+b]? :=by
      obtain q |q:=E
      .grind [xO]
      .rw[xN (by simp;omega),jq]
       simp only[xP,yR,yF];rw[show i * c+off+vs.length+(a * c+b - (min (i * c+off) m.size+vs.length))=a * c+b by omega]
       simp
     rw[av]at n5
     obtain⟨U,St,Z,f2,f3⟩:∃U St,m[a * c+b]? =some U/\TC (am A k.H.length ρ S (M++fl) w) y [U] St/\∀z∈St,z∈L1\/z∈R1:=by
      obtain ak |af:=Nat.lt_or_gt_of_ne X
      .obtain⟨U,St,Z,f2,f3⟩:=TE.sub l.hL1 (n:=a) (t:=x) (by grind) hy
       refine⟨U,St,?_,f2,λz hz=>.inl (f3 z hz)⟩
       grind
      .obtain⟨U,St,Z,f2,f3⟩:=TE.sub l.hR1 (n:=a - (i+1)) (t:=x) (by rw[jq,show i+1+(a - (i+1))=a by omega];exact P) hy
       refine⟨U,St,?_,f2,λz hz=>.inr (f3 z hz)⟩
       rw[jq]at Z
       have e3:i * c+c+((a - (i+1)) * c+b)=a * c+b:=by
        have:a=(a - (i+1))+i+1:=by omega
        conv=>rhs;rw[this]
        simp only[iN];omega
       simp_all [xU]
     rw[n5]at Z
     simp only[xJ]at Z
     subst Z
     exact⟨g,ac,ah,_,ty,x,y,cv,by simp_all,ag,aJ,hy,by grind,aI.ext Y y cv h1 St f2 (λz hz=>B z (Q z (by grind))) n6⟩) q aG (λY aO=>by
    subst aO;intro b x ax;subst ax;rw[T.at_append,al]at b2
    simp only[xS,T.at,l.hel,xB]at b2
    obtain⟨ct,a1,a7⟩:=b2
    grind [Vs]) b2
   grind
  .exact h.hold _ (by grind) rfl (u f d) q
 refine⟨_,⟨λf t0 I=> ?_,λf I hm=> ?_,h.obj,λn ob he K=> ?_,d2,ws.bT h,λpr ad=> ?_,ws.frm h,h.Fold,by rw[hH,g2];exact h.cM⟩,ext⟩
 .rw[hH,g2]
  rw[get]at I
  by_cases d:f=r
  .grind [eg]
  .rw[if_neg d]at I
   rw[dE _ _ d];exact TC.ext ext _ _ _ (u f d) (h.cont f t0 I)
 .rw[get]at I
  by_cases d:f=r
  .grind
  .rw[if_neg d]at I
   rw[dE _ _ d]
   exact h.gone f I (λn ob e a3=>by
    grind)
 .rw[hH]at he |-
  rw[g2];have ai:=(g4 n ob K).1 he
  have d:(aj.o n)≠r:=by
   rintro rfl
   cases ob <;>simp[Wk.get,Go.Am.cont,ai,Ob.plain]at hr K
  exact(h.map n ob ai K).ext ext (u _ d) (dE _ _ d) rfl
 .rw[hH,g2]
  by_cases V:tm el=true
  .have e3:aU s.tr pr.1=(Tr.cG r (p.length+1)).sv (aU k.tr pr.1):=by
    simp only[s,V,if_true,Wk.tell,g3];exact rm _ _ _
   rw[e3];exact SO.cG ext r (p.length+1) (λf q hq=>hold f q (λe _=>hq e)) (h.ay pr ad)
  .have e3:s.tr=k.tr:=by simp only[s,if_neg V,g3]
   rw[e3];exact SO.aV ext (λf q=>hold f q (λ_ I=>absurd I V)) (h.ay pr ad)
theorem Ss(h:KR A ρ S hd fl k ay w){nv:Nat}{t:TypeId}{a v:SV}{av vv:Vz}(ha:(a,av)∈ay)(hv:(v,vv)∈ay)(e:mG P nv t a v k=some k'):
  ∃w' S',(Instr.storeAt t av vv).run P w=.ok () w'/\KR A ρ S' hd fl k' ay w'/\k'.H.length=k.H.length:=by
 simp only[mG,xB]at e
 obtain⟨⟨x,k1⟩,e1,d⟩:=e;obtain⟨S1,M,D,g2,W,Y⟩:=Gi h hv e1;have s:=D.ay (a,av) ha;simp only at d s
 split at d
 .rename_i r p i off hl
  split at d
  .rename_i O
   obtain⟨O,aa⟩:=O;simp only[xB]at d
   obtain⟨t0,F,nd,y,d⟩:=d
   split at d
   .rename_i Z
    simp only[xB]at d
    obtain⟨el,I,d⟩:=d;obtain⟨t1,ad,ac,g,ab,m,ty,o,c1,L,Sn,R,L1,Se,R1,U,N,l⟩:=Gj (λt=>D.cont r t) (Ay D s hl F)
    rw[F]at U
    simp only[xJ]at U
    subst U;rw[y]at N
    simp only[xJ,T.own.injEq]at N
    subst N
    have:=l.hel
    rw[I]at this
    simp only[xJ]at this
    subst this
    split at d
    .rename_i C
     simp only[xB,xM]at d
     obtain⟨c',j,k2,f,hk⟩:=d;have z:vv.cells.toList.length=x.nc:=TC.len _ _ _ W;have hf:off+vv.cells.toList.length<=o:=by rw[z,<-l.hnc];exact C
     have X:=l.hv
     have n:i * o+off+vv.cells.toList.length<=m.size:=by
      have il:=(List.getElem?_eq_some_iff.1 l.hel).1;have h1:Z.length * o<=m.size:=ff (i5 _ l.hle) l.hcur;have h2:(i+1) * o<=Z.length * o:=i5 _ il;rw[iN,Nat.one_mul]at h2
      omega
     have q:(Instr.storeAt t av vv).run P w=.ok () (w.setRow g (m.toList.take (i * o+off)++vv.cells.toList++m.toList.drop (i * o+off+vv.cells.toList.length)).toArray):=by
      have G:∃u,P.info? t=some u:=by
       cases G:P.info? t with
       |none=>grind [Program.cellsOf]
       |some u=>grind
      obtain⟨u,G⟩:=G;have Q:(sizeOf t).run P w=.ok (P.cellsOf t) w:=by simp[sizeOf,typeInfo,G,Program.cellsOf]
      have V:=run_storeCells_at P g (i * o+off) ty vv.cells.toList 0 m w l.hg (by simpa using n) (TC.dq _ _ _ W)
      subst X;simp only[Instr.storeAt,Instr.sureAddr,Sem.run_bind,Sem.run_pure,Result.andThen_ok,storeVar,Q];have K:¬(vv.cells.size≠P.cellsOf t):=by rw[<-yF,z,O];simp
      simp only[K,if_false]
      simpa using V
     have E:k'=if tm el then k2.tell (.cG r (p.length+1))else k2:=hk.symm
     by_cases c:off=0/\x.nc=el.nc
     .rw[if_pos c]at j
      obtain⟨rfl,c⟩:=c
      obtain⟨S',H,w2⟩:=KR.write (vs:=vv.cells.toList) (off:=0) D F y l hf c j f (La:=[]) (Mb:=Se) (Rc:=[]) (by simp) (λc' J B=>by
       have e0:c1.take 0++vv.cells.toList++c1.drop (0+vv.cells.toList.length)=vv.cells.toList:=by
        rw[List.drop_of_length_le (by rw[l.hc1,z,c,l.hnc];omega)];simp
       grind [TC.ext])
      subst E
      refine⟨_,S',q,H,?_⟩
      rw[<-Y,<-uc f]
      split <;>rfl
     .rw[if_neg c]at j
      obtain⟨La,Mb,Rc,m1,m2⟩:=TC.setCells l.hte off x.nc;obtain⟨S',H,w2⟩:=KR.write (vs:=vv.cells.toList) (off:=off) D F y l hf (T.setCells_nc (by grind [T.cA])) j f m1 (λc' J B=>m2 c' _ _ M J (T.cA x) (TC.cells (TC.ext J _ _ _ (λb hb=>B b (by simp[hb])) W)) (λb hb=>B b (by grind)))
      subst E
      refine⟨_,S',q,H,?_⟩
      rw[<-Y,<-uc f]
      split <;>rfl
    .cases d
   .cases d
  .cases d
 .cases d
end
end Go.Am
namespace Go.Am
open Go Go.RowKit
section
variable{P:Pz}{A:Av}{ρ:Nat->Nat}{S:aj->J Nat}{hd:aj->Vz}{fl:J Nat}{k k':Wk}{ay:J (SV×Vz)}{w:Wz}
theorem KR.alloc{M:J Nat}(h:KR A ρ S hd (M++fl) k ay w)(o:Obj):KR A ρ S hd ((w.heap.size::M)++fl) k ay (w.alloc o)/\Ext (am A k.H.length ρ S (M++fl) w) (am A k.H.length ρ S ((w.heap.size::M)++fl) (w.alloc o)):=by
 have c:=h.bz.ndF;rw[xT]at c
 refine KR.world (w:=w) (w':=w.alloc o) rfl rfl rfl (by simp) (.old λb a=>Below.heap_alloc w o b a) h (λb a _=>Below.heap_alloc w o b a) (λb a=> ?_) ?_
 .obtain rfl |a:=List.mem_cons.1 a
  .simp_all
  grind
 .exact List.nodup_cons.2 ⟨λd=>absurd (h.bT w.heap.size (.inr (xL _ d))).1 (Nat.lt_irrefl _),c.1⟩
theorem KR.drew(h:KR A ρ S hd fl k ay w):KR A ρ S hd fl k ay w.drew/\Ext (am A k.H.length ρ S fl w) (am A k.H.length ρ S fl w.drew):=by
 have:=KR.world (w:=w) (w':=w.drew) (M:=[]) (M':=[]) rfl rfl rfl (dB _) (.old λ_ _=>rfl) (by simpa using h) (λ_ _ _=>rfl) (by simp) (by simp)
 grind
theorem y3{ob:Ob}(r:aj):({k with H:=k.H++[ob]}:Wk).get r=if r=.o k.H.length then(match ob with | .box x=>some (.own [x]) |_=>none)else k.get r:=by
 cases r with
 |l n j=>simp[Wk.get,Go.Am.cont]
 |o n=>
  grind [Wk.get,Go.Am.cont]
theorem KR.newOb{N:J Nat}(h:KR A ρ S hd (N++fl) k ay w)(ob:Ob)(g:Nat)(hb:∀x,ob=.box x->TC (am A k.H.length ρ S (N++fl) w) (.own [x]) [.slice (some ⟨g,0,none⟩) 1 1] N)
  (P:ob.plain=true->∃M,N=g::M/\ObOK (am A k.H.length ρ S (N++fl) w) g M ob) (hl:ob≠ .lock):
  KR A (λo=>if o=k.H.length then g else ρ o) (upd S (.o k.H.length) N) (upd hd (.o k.H.length) (.slice (some ⟨g,0,none⟩) 1 1)) fl {k with H:=k.H++[ob]} ay w/\
   Ext (am A k.H.length ρ S (N++fl) w) (am A (k.H.length+1) (λo=>if o=k.H.length then g else ρ o) (upd S (.o k.H.length) N) fl w):=by
 have i:k.get (.o k.H.length)=none:=by simp[Wk.get,Go.Am.cont]
 have l:S (.o k.H.length)=[]:=h.gone _ i (λn B e f=>by
  grind)
 have E:=Dis.attach (r:=.o k.H.length) (L:=[]) (R:=[]) (M:=N) (fl:=fl) h.bz (by simpa using l)
 simp only[gD,gf]at E
 have j:∀b,bS (upd S (.o k.H.length) N) fl b->bS S (N++fl) b:=λb hb=>by
  have:=(bS.attach (S:=S) (r:=.o k.H.length) (L:=[]) (R:=[]) (M:=N) (fl:=fl) (b:=b) (by simpa using l)).1 (by simpa using hb)
  exact this
 have G:WS S (N++fl) w (upd S (.o k.H.length) N) fl w:=WS.stay j;have ext:Ext (am A k.H.length ρ S (N++fl) w) (am A (k.H.length+1) (λo=>if o=k.H.length then g else ρ o) (upd S (.o k.H.length) N) fl w):=G.ext (by omega) (λo Y=>by grind)
 have d:({k with H:=k.H++[ob]}:Wk).H.length=k.H.length+1:=by simp
 refine⟨⟨λr t0 c=> ?_,λr c D=> ?_,λm=> ?_,λm z f u=> ?_,E,G.bT h,λp Q=> ?_,h.fr,h.Fold,?_⟩,ext⟩
 .rw[d]
  rw[y3]at c
  split at c
  .rename_i e;subst e
   rw[eg,eg]
   split at c
   .rename_i x
    simp only[xJ]at c
    subst c;exact TC.ext ext _ _ _ (λ_ _=>rfl) (hb x rfl)
   .cases c
  .rename_i e
   rw[dE _ _ e,dE _ _ e];exact TC.ext ext _ _ _ (λ_ _=>rfl) (h.cont r t0 c)
 .rw[y3]at c
  split at c
  .rename_i e;subst e
   exfalso
   cases ob with
   |box x=>cases c
   |lock=>exact hl rfl
   |map B=>grind [Ob.plain]
   |iter s p=>grind [Ob.plain]
   |bY m=>grind [Ob.plain]
   |frame U W x y O V=>grind [Ob.plain]
   |row B=>grind [Ob.plain]
   |sset T=>grind [Ob.plain]
  .rename_i e
   rw[dE _ _ e];refine h.gone r c (λn ob K f=>D n ob K ?_)
   grind
 .by_cases a:m=k.H.length
  .grind [eg]
  .rw[dE _ _ (by simpa using a),if_neg a];exact h.obj m
 .rw[d]
  by_cases a:m=k.H.length
  .subst a
   simp only[xN (dB _),re,yE,xJ]at f
   subst f;obtain⟨M,Z,I⟩:=P u;have v:(λo=>if o=k.H.length then g else ρ o) k.H.length=g:=if_pos rfl
   refine⟨M,by grind [eg],?_⟩
   rw[v];exact I.ext ext rfl (λ_ _=>rfl)
  .have C:m<k.H.length:=by
    have:=(List.getElem?_eq_some_iff.1 f).1
    simp at this;omega
   simp only at f;rw[xO C]at f
   exact(h.map m z f u).ext ext (λ_ _=>rfl) (dE _ _ (by simpa using a)) (if_neg a)
 .rw[d]
  refine SO.aV ext (λr q=> ?_) (h.ay p Q)
  by_cases v:r=.o k.H.length
  .subst v
   intro t B X _
   grind
  .exact h.hold _ (by grind [y3]) (dE _ _ v) (λ_ _=>rfl) q
 .have:=h.cM
  grind
theorem r_{c:Cx}{t:T}{cs:J Vz}{M:J Nat}{g:Nat}{ty:TypeId}(ht:TC c t cs M)(a:c.w.heap[g]? =some (.cells cs.toArray ty (0,0)))(h0:0<t.nc):TC c (.own [t]) [.slice (some ⟨g,0,none⟩) 1 1] (g::M):=by
 have b:=TC.len _ _ _ ht;simp only[TC];refine .inr ⟨g,1,cs.toArray,ty,t.nc,M,rfl,rfl,a,dB _,by decide,by simp[b],by simpa using h0,?_⟩
 simp only[TE]
 grind [gr]
theorem QN{h:Hint}{dst:Nat}{x:T}{M:J Nat}{cs:Array Vz}{ty:TypeId}{sv:SV}(hk:KR A ρ S hd (M++fl) k ay w)(ht:TC (am A k.H.length ρ S (M++fl) w) x cs.toList M)(e:F8 h dst x k=some (sv,k')):
  ∃ρ' S' hd',KR A ρ' S' hd' fl k' ay (w.alloc (.cells cs ty))/\SO (am A k'.H.length ρ' S' fl (w.alloc (.cells cs ty))) k'.get hd' sv (.pointer (some ⟨w.heap.size,0,none⟩)):=by
 unfold F8 at e
 split at e
 .cases e
 .rename_i l
  obtain⟨d,f⟩:=hk.alloc (.cells cs ty);have m:=TC.ext f _ _ _ (λb a=>Below.heap_alloc w _ b (hk.bT b (.inr (by simp[a]))).1) ht
  have a:=r_ (g:=w.heap.size) (ty:=ty) m (by simpa [am]using heap_alloc_new w _) (by omega)
  split at e
  .simp only[xJ,pJ]at e
   obtain⟨rfl,rfl⟩:=e;obtain⟨c,i⟩:=d.newOb (.box x) w.heap.size (λy p=>by grind) (λo=>by cases o) (by simp)
   refine⟨_,_,_,c,?_⟩
   refine VV.one ?_ (by simp)
   grind [VC,am]
  .simp only[xJ,pJ]at e
   obtain⟨rfl,rfl⟩:=e;obtain⟨c,i⟩:=d.dt (n:=dst) (j:=0) a
   refine⟨ρ,_,_,c,?_⟩
   exact⟨.own [x],[x],w.heap.size,1,1,x,by simp[Wk.get,Wk.new,Go.Am.cont,eZ],rfl,by simp[aI],rfl,by omega,by simp⟩
theorem IK{c:Cx}{v:Vz}{x:D}(h:D.ofCell v=some x):VC c x [v]/\∀l,x≠ .agg l:=by
 unfold D.ofCell at h
 grind [VC]
theorem Gm{c:Cx}:∀(vs:J Vz) (l:J D),vs.mapM D.ofCell=some l->aR c l vs
 | [],l,h=>by grind [aR]
 |v::vs,l,h=>by
  simp only[List.mapM_cons,Option.pure_def,Option.bind_eq_bind,xB,xJ]at h
  obtain⟨x,a,r,b,rfl⟩:=h;simp only[aR]
  exact⟨v,vs,rfl,(IK a).1,Gm vs r b⟩
theorem mj{c:Cx}{v:Vz}{x:D}(h:D.ofVal v=some x):VV c x v:=by
 unfold D.ofVal at h
 split at h
 .grind [xM,VV.agg,Gm]
 grind [IK,VV.one]
theorem lz{t:TypeId}{z:D}(h:dQ P t=some z):∃i a,P.info? t=some i/\i.zero=some a/\D.ofVal a=some z/\∀w:Wz,(zeroValue t).run P w=.ok a w:=by
 simp only[dQ,xB]at h
 obtain⟨a,⟨i,b,c⟩,h3⟩:=h
 simp_all [zeroValue,typeInfo]
theorem Mq{c:Cx}:∀(l:J D) (cs:J Vz),aR c l cs->a9 c (l.map T.ofD1) cs []
 | [],cs,h=>by grind [aR,a9]
 |d::b,cs,h=>by
  simp only[aR]at h
  obtain⟨v,r,rfl,a,h3⟩:=h;simp only[eJ,a9]
  refine⟨v,r,[],[],rfl,rfl,?_,Mq b r h3⟩
  cases d <;>first |grind [T.ofD1,TC] |skip
  simp only[VC]at a
  exact .inl ⟨none,a,rfl,rfl⟩
theorem B3{c:Cx}{z:D}{cs:J Vz}(h:VC c z cs):TC c (T.cj z) cs []:=by
 unfold T.cj;split
 .grind [VC,Mq,TC]
 .cases z <;>first |grind [T.ofD1,TC] |skip
  simp only[VC]at h
  exact .inl ⟨none,h,rfl,rfl⟩
theorem Su:maxLen=9223372036854775807:=rfl
theorem B4{n:Nat}(h:n<=9223372036854775807):n<=maxLen:=by rw[Su];exact h
theorem Gn{c:Cx}{t:T}{b:J Vz}{a:Nat}(ht:TC c t b [])(hz:b.length=a):∀(n:Nat) (cs:J Vz),cs.length=n * a->(∀j,j<n * a->cs[j]? =b[j % a]?)->TE c (List.replicate n t) a cs []
 |0,cs,d,_=>by
  grind [TE]
 |n+1,cs,d,f=>by
  simp only[List.replicate_succ,TE];have e:(n+1) * a=a+n * a:=by rw[iN];omega
  rw[e]at d f
  refine⟨cs.take a,cs.drop a,[],[],(yP _ _).symm,rfl,by simp;omega,?_,Gn ht hz n _ (by simp;omega) (λj g=> ?_)⟩
  .have:cs.take a=b:=by
    apply As;intro j;rw[xU];split
    .grind [Nat.mod_eq_of_lt]
    .grind
   rw[this];exact ht
  simp_all
theorem wT(z:Array Vz)(n j:Nat)(a:j<n)(hz:0<z.size):(madeCells z n).toList[j]? =z.toList[j % z.size]? :=by
 grind [Nat.mod_lt,madeCells]
theorem Vt{c:Cx}{t:T}{z:Array Vz}{g:Nat}{ty:TypeId}{n m:Nat}(ht:TC c t z.toList [])(hz:0<z.size)(b:0<n)(a:n<=m)(d:m<=maxLen)(e:c.w.heap[g]? =some (.cells (madeCells z (m * z.size)) ty (0,0))):
  TC c (.own (List.replicate n t)) [.slice (some ⟨g,0,none⟩) n m] [g]:=by
 simp only[TC];refine .inr ⟨g,m,_,ty,z.size,[],by simp,rfl,e,by simpa using a,d,by simp[size_madeCells],by simp_all,?_⟩
 grind [i5,Gn,size_madeCells,wT]
theorem AA{dst:Nat}{es:J T}{hv:Vz}{c:Cx}{hd':aj->Vz}{k0:Wk}{M:J Nat}(ht:TC c (.own es) [hv] M)(j:hd' (.l dst 0)=hv):SO c (k0.new dst 0 (.own es)).get hd' (.aG (.l dst 0) [] 0 es.length) hv:=by
 refine⟨.own es,es,hv,by simp[Wk.get,Wk.new,Go.Am.cont,eZ],rfl,by simp[aI,j],by omega,?_⟩
 obtain⟨a,d,f,_⟩ |⟨i,b,g,p,k,S',d,f,q,h,m,l,o,n⟩:=ht
 .simp only[xC,and_true]at d
  subst f
  exact⟨a,0,0,a,0,d,by simpa using d,dB _,λ_=>⟨rfl,dB _⟩,λe=>by simp at e⟩
 .simp only[xC,and_true]at d
  refine⟨_,es.length,b,_,b,d,d,h,λ_=>⟨rfl,dB _⟩,λe=> ?_⟩
  exact⟨i,es[0],rfl,by simp,by simp⟩
theorem Vu{dst:Nat}{t:TypeId}{l c:SV}{lv C:Vz}{sv:SV}(h:KR A ρ S hd fl k ay w)(hl:SO (am A k.H.length ρ S fl w) k.get hd l lv)(hc:SO (am A k.H.length ρ S fl w) k.get hd c C)
  (e:F6 P dst t l c k=some (sv,k')):∃v w' ρ' S' hd',(Instr.makeSlice t lv C).run P w=.ok v w'/\KR A ρ' S' hd' fl k' ay w'/\SO (am A k'.H.length ρ' S' fl w') k'.get hd' sv v:=by
 unfold F6 at e
 split at e
 .rename_i H n I m
  simp only[xB]at e
  obtain⟨ty,x,z,Z,e⟩:=e
  split at e
  .rename_i W
   obtain⟨K,L,Q,E,X,a5,J⟩:=W;simp only[xJ,pJ]at e
   obtain⟨rfl,rfl⟩:=e;obtain⟨i,p,u,b2,b3,_⟩:=lz Z
   have hu:P.underlying t=some (.slice ty):=by
    unfold elemOf at x
    split at x
    .grind
    .cases x
   have y:lv=.int H n:=by simpa [VC]using VV.inv hl (by simp)
   have D:C=.int I m:=by simpa [VC]using VV.inv hc (by simp)
   subst y;subst D;have a:P.cellsOf ty=i.size:=by simp[Program.cellsOf,u]
   have o:P.bytesOf ty=i.bytes:=by simp[Program.bytesOf,u]
   rw[o]at E
   have r:=run_make (P:=P) w t ty i p hu u b2 H I n m K L E X;have q:=mj (c:=am A k.H.length ρ S ([w.heap.size]++fl) (w.alloc (.cells (madeCells p.cells (m.toNat * i.size)) ty))) b3;have B:p.cells.size=i.size:=by rw[<-yF,VC.len _ _ q.1,J,a]
   obtain⟨G,g2⟩:=KR.alloc (M:=[]) (by simpa using h) (.cells (madeCells p.cells (m.toNat * i.size)) ty)
   have s:0<p.cells.size:=by rw[B,<-a];exact a5
   have f:∃N,(N=[w.heap.size]\/N=[])/\TC (am A k.H.length ρ S ([w.heap.size]++fl) (w.alloc (.cells (madeCells p.cells (m.toNat * i.size)) ty))) (.own (List.replicate n.toNat (T.cj z))) [.slice (some ⟨w.heap.size,0,none⟩) n.toNat m.toNat] N:=by
    by_cases F:n=0
    .have R:=Q F
     subst F;subst R
     exact⟨[],.inr rfl,.inl ⟨some ⟨w.heap.size,0,none⟩,rfl,rfl,rfl⟩⟩
    .exact⟨_,.inl rfl,Vt (n:=n.toNat) (m:=m.toNat) (g:=w.heap.size) (ty:=ty) (B3 q.1) s (by omega) (by omega) (B4 (by omega)) (by grind [am,heap_alloc_new])⟩
   obtain⟨N,hN,f⟩:=f;have aa:=G.bz.ndF;obtain⟨U,V⟩:=G.letGo (fl':=N++fl) (by grind) (λb hb=>by grind)
   have d:=TC.ext V _ _ _ (λ_ _=>rfl) f
   obtain⟨Y,O⟩:=U.dt (n:=dst) (j:=0) d
   refine⟨_,_,ρ,_,_,r,Y,?_⟩
   have:=AA (dst:=dst) (k0:=k) (hd':=upd hd (.l dst 0) (.slice (some ⟨w.heap.size,0,none⟩) n.toNat m.toNat)) (TC.ext O _ _ _ (λ_ _=>rfl) d) (by simp)
   rw[List.length_replicate]at this
   exact this
  .cases e
 .cases e
end
end Go.Am
