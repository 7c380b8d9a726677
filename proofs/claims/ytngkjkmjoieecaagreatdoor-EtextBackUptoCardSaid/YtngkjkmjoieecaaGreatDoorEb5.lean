/- A part of the proof: texts of mine, merged by a program (wip/dev/merge.py). -/
import Derived.Test.YtngkjkmjoieecaaGreatDoorEb4
set_option linter.unusedSimpArgs false
set_option linter.unusedVariables false
namespace Go.Am
open Go
theorem wrap_i64{x:Int}(h1:-9223372036854775808≤x)(h2:x≤9223372036854775807):IntKind.i64.wrap x=x:=by
 simp only[IntKind.wrap,IntKind.signed,IntKind.bits];simp;omega
section
variable{P:Program}{dst nv:Nat}{sl:Bool}{k:Wk}
@[go_sem] theorem as_int{q:IntKind}{n:Int}:assignE dst sl (.d (.int q n)) k=some (.d (.int q n),k):=rfl
@[go_sem] theorem as_bool{b:Bool}:assignE dst sl (.d (.bool b)) k=some (.d (.bool b),k):=rfl
@[go_sem] theorem as_str{s:List UInt8}:assignE dst sl (.d (.str s)) k=some (.d (.str s),k):=rfl
@[go_sem] theorem as_sl{b:Bool}{l:List D}:assignE dst sl (.d (.sl b l)) k=some (.d (.sl b l),k):=rfl
@[go_sem] theorem as_ptr{o:Nat}:assignE dst sl (.d (.ptr o)) k=some (.d (.ptr o),k):=rfl
@[go_sem] theorem as_nilm:assignE dst sl (.d .nilm) k=some (.d .nilm,k):=rfl
@[go_sem] theorem as_map{o:Nat}:assignE dst sl (.d (.map o)) k=some (.d (.map o),k):=rfl
@[go_sem] theorem as_nilf:assignE dst sl (.d .nilf) k=some (.d .nilf,k):=rfl
@[go_sem] theorem as_fn{f:Fn}{a c:List D}:assignE dst sl (.d (.fn f a c)) k=some (.d (.fn f a c),k):=rfl
@[go_sem] theorem as_nils:assignE dst sl (.d .nils) k=if sl=true then some (.bor (.l dst 0) [] 0 0,k.new dst 0 (.own []))else some (.d .nils,k):=rfl
@[go_sem] theorem as_borP{r:Root}{a:Nat×Nat}{p:Path}{o len:Nat}:assignE dst sl (.bor r (a::p) o len) k=some (.bor r (a::p) o len,k):=by cases r <;>cases o <;>rfl
@[go_sem] theorem as_bor{n j len:Nat}:assignE dst sl (.bor (.l n j) [] 0 len) k=if(n,j)=(dst,0)then some (.bor (.l n j) [] 0 len,k)else(k.get (.l n j)).bind fun c=>match c with
  | .own es=>if len=es.length then some (.bor (.l dst 0) [] 0 len,({k with ct:=((n,j),.dead)::k.ct}.new dst 0 c).tell (.ren (n,j) (dst,0)))else some (.bor (.l n j) [] 0 len,k)
  |_=>none:=rfl
section
variable{c:Bool}{t:TypeId}{q:IntKind}{a b:Int}
@[go_sem] theorem bin_add:binE P c .add t (.d (.int q a)) (.d (.int q b))=some (.int q (q.wrap (a+b))):=by simp[binE,intOp]
@[go_sem] theorem bin_sub:binE P c .sub t (.d (.int q a)) (.d (.int q b))=some (.int q (q.wrap (a - b))):=by simp[binE,intOp]
@[go_sem] theorem bin_mul:binE P c .mul t (.d (.int q a)) (.d (.int q b))=some (.int q (q.wrap (a * b))):=by simp[binE,intOp]
@[go_sem] theorem bin_quo:binE P c .quo t (.d (.int q a)) (.d (.int q b))=if b=0 then none else some (.int q (q.wrap (a.tdiv b))):=by simp[binE,intOp]
@[go_sem] theorem bin_rem:binE P c .rem t (.d (.int q a)) (.d (.int q b))=if b=0 then none else some (.int q (a.tmod b)):=by simp[binE,intOp]
@[go_sem] theorem bin_eql:binE P c .eql t (.d (.int q a)) (.d (.int q b))=some (.bool (decide (a=b))):=by simp[binE,intOp];rfl
@[go_sem] theorem bin_neq:binE P c .neq t (.d (.int q a)) (.d (.int q b))=some (.bool (decide (a≠b))):=by simp[binE,intOp,bne];rfl
@[go_sem] theorem bin_lss:binE P c .lss t (.d (.int q a)) (.d (.int q b))=some (.bool (decide (a<b))):=by simp[binE,intOp]
@[go_sem] theorem bin_leq:binE P c .leq t (.d (.int q a)) (.d (.int q b))=some (.bool (decide (a≤b))):=by simp[binE,intOp]
@[go_sem] theorem bin_gtr:binE P c .gtr t (.d (.int q a)) (.d (.int q b))=some (.bool (decide (b<a))):=by simp[binE,intOp]
@[go_sem] theorem bin_geq:binE P c .geq t (.d (.int q a)) (.d (.int q b))=some (.bool (decide (b≤a))):=by simp[binE,intOp]
@[go_sem] theorem bin_eqlB{x y:Bool}:binE P c .eql t (.d (.bool x)) (.d (.bool y))=match P.underlying t with |some .bool=>some (.bool (decide (x=y))) |_=>none:=by
 simp only[binE,eqV]
 cases P.underlying t with
 |none=>rfl
 |some d=>cases d <;>first |rfl |(cases x <;>cases y <;>rfl)
@[go_sem] theorem bin_neqA{x y:List D}:binE P c .neq t (.d (.agg x)) (.d (.agg y))=(plainS P t).bind fun ks=>(eqKs ks x y).bind fun b=>some (.bool !b):=by
 simp only[binE,eqV]
 cases plainS P t with
 |none=>rfl
 |some ks=>simp only[xS];cases eqKs ks x y <;>rfl
@[go_sem] theorem bin_eqlS{x y:List UInt8}:binE P c .eql t (.d (.str x)) (.d (.str y))=some (.bool (decide (x=y))):=by
 have:(x==y)=decide (x=y):=by rw[Bool.eq_iff_iff];simp
 simp only[binE,strOp,this]
@[go_sem] theorem bin_addS{x y:List UInt8}:binE P c .add t (.d (.str x)) (.d (.str y))=if x.length+y.length≤9223372036854775807 then some (.str (x++y))else none:=by
 simp only[binE,strOp]
@[go_sem] theorem bin_neqS{x y:List UInt8}:binE P c .neq t (.d (.str x)) (.d (.str y))=some (.bool (decide (x≠y))):=by
 have:(!(x==y))=decide (x≠y):=by rw[Bool.eq_iff_iff];simp
 simp only[binE,strOp,this]
end
@[go_sem] theorem eqKs_nil:eqKs [] [] []=some true:=rfl
@[go_sem] theorem eqKs_int{ns:List Nat}{q:IntKind}{a b:Int}{r s:List D}:eqKs (0::ns) (.int q a::r) (.int q b::s)=(eqKs ns r s).bind fun x=>some (decide (a=b)&&x):=by
 simp only[eqKs,eqK,if_true,xS,xF];rfl
@[go_sem] theorem un_not{b:Bool}:unE .not (.d (.bool b))=some (.bool !b):=rfl
@[go_sem] theorem un_neg{q:IntKind}{n:Int}:unE .neg (.d (.int q n))=some (.int q (q.wrap (0 - n))):=rfl
@[go_sem] theorem conv_sl{s t:TypeId}{b:Bool}{l:List D}:convE P s t (.d (.sl b l))=match P.underlying s,P.underlying t with |some (.slice e),some .string=>if isU8 P e=true then(bytesO l).map .str else none |_,_=>none:=rfl
attribute [go_sem] isU8
@[go_sem] theorem conv_int{s t:TypeId}{q:IntKind}{n:Int}:convE P s t (.d (.int q n))=match P.underlying s,P.underlying t with |some _,some (.int q)=>some (.int q (q.wrap n)) |some _,some .string=>some (.str (Utf8.encode n).data.toList) |_,_=>none:=rfl
@[go_sem] theorem len_sl{t:TypeId}{H:List Ob}{b:Bool}{l:List D}:lenE P t H (.d (.sl b l))=match P.underlying t with |some (.slice _)=>some (l.length:Int) |_=>none:=rfl
@[go_sem] theorem len_str{t:TypeId}{H:List Ob}{s:List UInt8}:lenE P t H (.d (.str s))=match P.underlying t with |some .string=>some (s.length:Int) |_=>none:=rfl
@[go_sem] theorem len_bor{t:TypeId}{H:List Ob}{r:Root}{p:Path}{o n:Nat}:lenE P t H (.bor r p o n)=match P.underlying t with |some (.slice _)=>some (n:Int) |_=>none:=rfl
@[go_sem] theorem ia_sl{t:TypeId}{b:Bool}{l:List D}{q:IntKind}{n:Int}:indexAddrE P t (.d (.sl b l)) (.d (.int q n)) k=match P.underlying t with |some (.slice e)=>if 0≤n then(l[n.toNat]?).bind fun y=>if y.nc=P.cellsOf e then some (.rp b y.cells)else none else none |_=>none:=by
 simp only[indexAddrE]
 cases P.underlying t with
 |none=>rfl
 |some d=>cases d <;>rfl
@[go_sem] theorem ia_bor{t:TypeId}{r:Root}{p:Path}{o len:Nat}{q:IntKind}{n:Int}:indexAddrE P t (.bor r p o len) (.d (.int q n)) k=match P.underlying t with
  |some (.slice e)=>if 0≤n∧n<len then(k.get r).bind fun c=>(c.at p).bind fun nd=>match nd with
   | .own es=>(es[o+n.toNat]?).bind fun y=>if y.nc=P.cellsOf e then some (.loc r p (o+n.toNat) 0)else none
   |_=>none
   else none
  |_=>none:=by
 simp only[indexAddrE]
 cases P.underlying t with
 |none=>rfl
 |some d=>cases d <;>rfl
@[go_sem] theorem ld_rp{t:TypeId}{b:Bool}{cs:List D}:loadE P t (.rp b cs) k=(aggO P t).bind fun ag=>if ag=true then(if P.cellsOf t≤cs.length then some (.d (.agg (cs.take (P.cellsOf t))))else none)else(cs[0]?).bind D.sv1:=rfl
def loadC(P:Program)(t:TypeId)(r:Root)(p:Path)(i off:Nat)(e:T):Option SV:=
 (aggO P t).bind fun ag=>if ag=true then
   match e with
   | .d (.agg l)=>if off+P.cellsOf t≤l.length then some (.d (.agg (win l off (P.cellsOf t))))else none
   | .agg cs=>if off+P.cellsOf t≤cs.length then(cellsSV r p i off (win cs off (P.cellsOf t))).map SV.mkAgg else none
   |_=>none
  else(e.cell off).bind (cellSV r p i off)
@[go_sem] theorem ld_loc{t:TypeId}{r:Root}{p:Path}{i off:Nat}:loadE P t (.loc r p i off) k=(k.get r).bind fun c=>(c.at p).bind fun nd=>match nd with | .own es=>(es[i]?).bind (loadC P t r p i off) |_=>none:=by
 simp only[loadE,asLoc]
 cases k.get r with
 |none=>rfl
 |some c=>
  simp only[xS]
  cases c.at p with
  |none=>rfl
  |some nd=>cases nd <;>rfl
@[go_sem] theorem ld_ptr{t:TypeId}{n:Nat}:loadE P t (.d (.ptr n)) k=loadE P t (.loc (.o n) [] 0 0) k:=rfl
@[go_sem] theorem loadC_d{t:TypeId}{r:Root}{p:Path}{i off:Nat}{x:D}:loadC P t r p i off (.d x)=(aggO P t).bind fun ag=>if ag=true then(match x with | .agg l=>if off+P.cellsOf t≤l.length then some (.d (.agg (win l off (P.cellsOf t))))else none |_=>none)else(T.cell (.d x) off).bind (cellSV r p i off):=by
 simp only[loadC];cases x <;>rfl
@[go_sem] theorem loadC_agg{t:TypeId}{r:Root}{p:Path}{i off:Nat}{cs:List T}:loadC P t r p i off (.agg cs)=(aggO P t).bind fun ag=>if ag=true then(if off+P.cellsOf t≤cs.length then(cellsSV r p i off (win cs off (P.cellsOf t))).map SV.mkAgg else none)else(T.cell (.agg cs) off).bind (cellSV r p i off):=rfl
@[go_sem] theorem cell_agg{l:List T}{o:Nat}:T.cell (.agg l) o=l[o]? :=rfl
@[go_sem] theorem cell_dagg{l:List D}{o:Nat}:T.cell (.d (.agg l)) o=(l[o]?).bind fun x=>some (.d x):=by
 show(l[o]?).map _=_;rw[xF];rfl
@[go_sem] theorem cell_int{q:IntKind}{n:Int}:T.cell (.d (.int q n)) 0=some (.d (.int q n)):=rfl
@[go_sem] theorem cell_str{s:List UInt8}:T.cell (.d (.str s)) 0=some (.d (.str s)):=rfl
@[go_sem] theorem cell_ptr{o:Nat}:T.cell (.d (.ptr o)) 0=some (.d (.ptr o)):=rfl
@[go_sem] theorem csv_d{r:Root}{p:Path}{i o:Nat}{x:D}:cellSV r p i o (.d x)=x.sv1:=rfl
@[go_sem] theorem csv_own{r:Root}{p:Path}{i o:Nat}{es:List T}:cellSV r p i o (.own es)=some (.bor r (p++[(i,o)]) 0 es.length):=rfl
@[go_sem] theorem sv1_int{q:IntKind}{n:Int}:D.sv1 (.int q n)=some (.d (.int q n)):=rfl
@[go_sem] theorem sv1_str{s:List UInt8}:D.sv1 (.str s)=some (.d (.str s)):=rfl
@[go_sem] theorem sv1_sl{b:Bool}{l:List D}:D.sv1 (.sl b l)=some (.d (.sl b l)):=rfl
@[go_sem] theorem sv1_ptr{o:Nat}:D.sv1 (.ptr o)=some (.d (.ptr o)):=rfl
@[go_sem] theorem sv1_map{o:Nat}:D.sv1 (.map o)=some (.d (.map o)):=rfl
@[go_sem] theorem sv1_fn{f:Fn}{a c:List D}:D.sv1 (.fn f a c)=some (.d (.fn f a c)):=rfl
@[go_sem] theorem cells_int{q:IntKind}{n:Int}:D.cells (.int q n)=[.int q n]:=rfl
@[go_sem] theorem cells_agg{l:List D}:D.cells (.agg l)=l:=rfl
@[go_sem] theorem nc_int{q:IntKind}{n:Int}:D.nc (.int q n)=1:=rfl
@[go_sem] theorem nc_str{s:List UInt8}:D.nc (.str s)=1:=rfl
@[go_sem] theorem nc_sl{b:Bool}{l:List D}:D.nc (.sl b l)=1:=rfl
@[go_sem] theorem nc_agg{l:List D}:D.nc (.agg l)=l.length:=rfl
@[go_sem] theorem nc_ptr{o:Nat}:D.nc (.ptr o)=1:=rfl
@[go_sem] theorem nc_map{o:Nat}:D.nc (.map o)=1:=rfl
@[go_sem] theorem nc_fn{f:Fn}{a c:List D}:D.nc (.fn f a c)=1:=rfl
@[go_sem] theorem tnc_d{x:D}:T.nc (.d x)=x.nc:=rfl
@[go_sem] theorem tnc_own{l:List T}:T.nc (.own l)=1:=rfl
@[go_sem] theorem tnc_agg{l:List T}:T.nc (.agg l)=l.length:=rfl
@[go_sem] theorem fa_rp{t:TypeId}{b:Bool}{cs:List D}{f:Nat}:fieldAddrE P t (.rp b cs) f k=(fieldOf P t f).bind fun p=>if 0<p.2.1 then some (.rp b (cs.drop p.1))else none:=rfl
@[go_sem] theorem fa_loc{t:TypeId}{r:Root}{p:Path}{i o f:Nat}:fieldAddrE P t (.loc r p i o) f k=(fieldOf P t f).bind fun q=>if 0<q.2.1 then(if locOk k r p i (o+q.1)=true then some (.loc r p i (o+q.1))else none)else none:=rfl
@[go_sem] theorem fa_rptr{t:TypeId}{cs:List D}{f:Nat}:fieldAddrE P t (.d (.rptr cs)) f k=fieldAddrE P t (.rp true cs) f k:=rfl
@[go_sem] theorem fa_ptr{t:TypeId}{n f:Nat}:fieldAddrE P t (.d (.ptr n)) f k=fieldAddrE P t (.loc (.o n) [] 0 0) f k:=rfl
@[go_sem] theorem fe_agg{t:TypeId}{l:List D}{f:Nat}:fieldE P t (.d (.agg l)) f=(fieldOf P t f).bind fun q=>if q.2.2=true then(if q.1+q.2.1≤l.length then some (.d (.agg (win l q.1 q.2.1)))else none)else(l[q.1]?).bind D.sv1:=rfl
@[go_sem] theorem at_nil{t:T}:t.at []=some t:=by unfold T.at;rfl
@[go_sem] theorem at_cons{es:List T}{i o:Nat}{p:Path}:T.at (.own es) ((i,o)::p)=(es[i]?).bind fun e=>(e.cell o).bind fun c=>c.at p:=by simp only[T.at]
@[go_sem] theorem put_nil{t x:T}:t.put [] x=some x:=by unfold T.put;rfl
@[go_sem] theorem put_cons{es:List T}{i o:Nat}{p:Path}{x:T}:T.put (.own es) ((i,o)::p) x=(es[i]?).bind fun e=>(e.cell o).bind fun c=>(c.put p x).bind fun c'=>some (.own (es.set i (e.putCell o c'))):=by simp only[T.put,xF];rfl
@[go_sem] theorem get_l{ct:List ((Nat×Nat)×T)}{H:List Ob}{tr:List Tr}{n j:Nat}:Wk.get ⟨ct,H,tr⟩ (.l n j)=lookR ct (n,j):=rfl
@[go_sem] theorem get_o{ct:List ((Nat×Nat)×T)}{H:List Ob}{tr:List Tr}{n:Nat}:Wk.get ⟨ct,H,tr⟩ (.o n)=match H[n]? with |some (.box c)=>some (.own [c]) |_=>none:=rfl
@[go_sem] theorem set_l{ct:List ((Nat×Nat)×T)}{H:List Ob}{tr:List Tr}{n j:Nat}{t:T}:Wk.set ⟨ct,H,tr⟩ (.l n j) t=some ⟨((n,j),t)::ct,H,tr⟩:=rfl
@[go_sem] theorem set_o{ct:List ((Nat×Nat)×T)}{H:List Ob}{tr:List Tr}{n:Nat}{c:T}:Wk.set ⟨ct,H,tr⟩ (.o n) (.own [c])=some ⟨ct,H.set n (.box c),tr⟩:=rfl
@[go_sem] theorem tell_mk{ct:List ((Nat×Nat)×T)}{H:List Ob}{tr:List Tr}{x:Tr}:Wk.tell ⟨ct,H,tr⟩ x=⟨ct,H,tr++[x]⟩:=rfl
@[go_sem] theorem new_mk{ct:List ((Nat×Nat)×T)}{H:List Ob}{tr:List Tr}{n j:Nat}{t:T}:Wk.new ⟨ct,H,tr⟩ n j t=⟨((n,j),t)::ct,H,tr++[.kill (.l n j) []]⟩:=rfl
@[go_sem] theorem box_eq{h:Hint}{x:T}:boxE h dst x k=if x.nc=0 then none else if h.objs.contains dst=true then some (.d (.ptr k.H.length),{k with H:=k.H++[.box x]})else some (.loc (.l dst 0) [] 0 0,k.new dst 0 (.own [x])):=rfl
attribute [go_sem] absorb_d
@[go_sem] theorem locOk_eq{r:Root}{p:Path}{i off:Nat}:locOk k r p i off=((k.get r).bind fun c=>c.at p).any fun nd=>match nd with | .own es=>(es[i]?).any fun e=>decide (off<e.nc) |_=>false:=by
 unfold locOk
 cases(k.get r).bind fun c=>c.at p with
 |none=>rfl
 |some x=>cases x with
  |own es=>simp only[Option.any_some];cases es[i]? <;>rfl
  |_=>rfl
@[go_sem] theorem any_map{α β:Type}{o:Option α}{f:α→β}{g:β→Bool}:(o.map f).any g=o.any fun x=>g (f x):=by cases o <;>rfl
@[go_sem] theorem bind_dup{α β:Type}{o:Option α}{f:α→α→Option β}:(o.bind fun x=>o.bind fun y=>f x y)=o.bind fun x=>f x x:=by cases o <;>rfl
@[go_sem] theorem ab_bor{r:Root}{p:Path}{o len:Nat}:absorb nv (.bor r p o len) k=absorb1 nv (trv k.tr (.bor r p o len)) k:=rfl
@[go_sem] theorem ab1_l{n j o len:Nat}:absorb1 nv (.bor (.l n j) [] o len) k=(k.get (.l n j)).bind fun c=>match c with
  | .own es=>if nv≤n∧o=0∧len=es.length then(k.set (.l n j) .dead).bind fun(k:Wk)=>some (.own es,k.tell (.kill (.l n j) []))
   else(T.frzs false es).bind fun l=>(k.set (.l n j) .dead).bind fun(k:Wk)=>some (.d (.sl false (win l o len)),k.tell (.frz (.l n j) [] l))
  |_=>none:=by
 simp only[absorb1]
 cases k.get (.l n j)with
 |none=>rfl
 |some c=>
  simp only[xS,at_nil]
  cases c with
  |own es=>simp only[xF];rfl
  |_=>rfl
@[go_sem] theorem sna_nil{b:Lend}:snapA nv [] k b=some ([],k,b):=rfl
@[go_sem] theorem sna_cons{v:SV}{r:List SV}{b:Lend}:snapA nv (v::r) k b=(snap nv v k b).bind fun p=>(snapA nv r p.2.1 p.2.2).bind fun q=>some (p.1::q.1,q.2.1,q.2.2):=by simp only[snapA,xF];rfl
@[go_sem] theorem sn_d{x:D}{b:Lend}:snap nv (.d x) k b=some (if EM≤nv then x else x.norm,k,b):=by simp only[snap,trv_d,snap1]
@[go_sem] theorem sn_bor{r:Root}{p:Path}{o len:Nat}{b:Lend}:snap nv (.bor r p o len) k b=snap1 nv (trv k.tr (.bor r p o len)) k b:=rfl
@[go_sem] theorem norm_int{q:IntKind}{n:Int}:D.norm (.int q n)=.int q n:=rfl
@[go_sem] theorem norm_bool{b:Bool}:D.norm (.bool b)=.bool b:=rfl
@[go_sem] theorem norm_str{s:List UInt8}:D.norm (.str s)=.str s:=rfl
@[go_sem] theorem norm_sl{b:Bool}{l:List D}:D.norm (.sl b l)=.sl b l:=rfl
@[go_sem] theorem norm_ptr{o:Nat}:D.norm (.ptr o)=.ptr o:=rfl
@[go_sem] theorem norm_map{o:Nat}:D.norm (.map o)=.map o:=rfl
@[go_sem] theorem norm_fn{f:Fn}{a c:List D}:D.norm (.fn f a c)=.fn f a c:=rfl
@[go_sem] theorem norm_agg'{l:List D}:D.norm (.agg l)=.agg (l.map D.norm1):=rfl
@[go_sem] theorem norm1_int{q:IntKind}{n:Int}:D.norm1 (.int q n)=.int q n:=rfl
@[go_sem] theorem norm1_bool{b:Bool}:D.norm1 (.bool b)=.bool b:=rfl
@[go_sem] theorem norm1_str{s:List UInt8}:D.norm1 (.str s)=.str s:=rfl
@[go_sem] theorem norm1_sl{b:Bool}{l:List D}:D.norm1 (.sl b l)=.sl b l:=rfl
@[go_sem] theorem norm1_fn{f:Fn}{a c:List D}:D.norm1 (.fn f a c)=.fn f a c:=rfl
@[go_sem] theorem pick_cons{ct:List ((Nat×Nat)×T)}{x:Nat×Nat}{r:List (Nat×Nat)}:pick ct (x::r)=match lookR ct x with |some t=>(x,t)::pick ct r |none=>pick ct r:=rfl
@[go_sem] theorem pick_nil'{ct:List ((Nat×Nat)×T)}:pick ct []=[]:=rfl
attribute [go_sem] SV.rootss SV.roots dedup
end
end Go.Am
namespace Go.Am
open Go
structure Lite where
 d:Option Nat
 ty:TypeId
 op:Op
 g:Option (Nat×Bool)
def liteOf(ops:List Oper)(o:Oper):Lite:=⟨o.dst,o.type,o.op,o.guard.map fun p=>(gslot ops p.1,p.2)⟩
def stepL(P:Program)(call:CallF)(h:Hint)(o:Lite)(s:St):Option St:=
 match o.g with
 |none=>stepS P call h o.d o.ty o.op s
 |some (t,want)=>stepG P call h o.d o.ty o.op want (s.get t) s
def runL(P:Program)(call:CallF)(h:Hint):List Lite→St→Option St
 | [],s=>some s
 |o::r,s=>(stepL P call h o s).bind (runL P call h r)
def guardOk(ops:List Oper)(o:Oper):Bool:=match o.guard with |none=>true |some (j,_)=>((ops[j]?).bind (·.dst)).isSome
section
variable{P:Program}{hints:FuncId→Hint}{call:CallF}{h:Hint}
theorem runOp_lite{ops:List Oper}{o:Oper}{s:St}(hg:guardOk ops o=true):runOp P call h ops o s=stepL P call h (liteOf ops o) s:=by
 obtain⟨d,op,ty,pos,after,guard⟩:=o
 cases guard with
 |none=>exact runOp_plain
 |some p=>obtain⟨j,want⟩:=p;exact runOp_guard hg
theorem runOps_lite{ops:List Oper}:∀(l:List Oper) (s:St),l.all (guardOk ops)=true→runOps P call h ops l s=runL P call h (l.map (liteOf ops)) s
 | [],s,_=>rfl
 |o::l,s,hg=>by
  simp only[List.all_cons,xA]at hg
  simp only[runOps,List.map_cons,runL,runOp_lite hg.1]
  congr 1
  funext s'
  exact runOps_lite l s' hg.2
def slotsApart(ops:List Oper)(x y:Oper):Bool:=
 (match x.dst with |some d=> !(looks ops y).contains d&&y.dst !=some d |none=>true)&&
 (match y.dst with |some d=> !(looks ops x).contains d |none=>true)
def stRow(ops:List Oper)(b:Nat)(y:Oper):Nat→List Oper→Bool
 |_,[]=>true
 |j,x::r=>(b.testBit j || slotsApart ops x y)&&stRow ops b y (j+1) r
def stAll(ops:List Oper):Nat→List Nat→List Oper→Bool
 |i,b::bs,y::r=>stRow ops b y 0 (ops.take i)&&stAll ops (i+1) bs r
 |_,_,_=>true
def pureR(h:Hint)(ops:List Oper):Bool:=ops.all (fun o=> !effOf h (o.dst.getD 0) o.op)&&(match befs ops []with |some bs=>stAll ops 0 bs ops |none=>false)
def PureFp(ops:List Oper)(o:Oper)(f:Fp):Prop:=f.sl=looks ops o∧f.dst=o.dst∧f.wr=[]∧f.hw=false∧f.ren=false
theorem runOpF_pure{ops:List Oper}{o:Oper}{c:Cf}(he:effOf h (o.dst.getD 0) o.op=false){s':St}(e:runOp P call h ops o c.1=some s'):∃c' f,runOpF P call h ops o c=some (c',f)∧c'.1=s'∧PureFp ops o f:=by
 rw[runOp_evalO]at e
 simp only[xM]at e
 obtain⟨⟨w,v,k⟩,e1,rfl⟩:=e
 refine⟨_,_,runOpF_mk e1,rfl,rfl,rfl,?_,?_,?_⟩
 ·have:=(evalO_grown e1).2 (by simp[he])
  subst this
  simp[fpOf,newKeys,St.wk]
 ·simp[fpOf,he]
 ·have:=(evalO_grown e1).2 (by simp[he])
  subst this
  rfl
theorem runOpsF_pure{ops:List Oper}:∀(l:List Oper) {c:Cf} {s':St},(∀o∈l,effOf h (o.dst.getD 0) o.op=false)→runOps P call h ops l c.1=some s'→∃c' fs,runOpsF P call h ops l c=some (c',fs)∧c'.1=s'∧All2 (PureFp ops) l fs
 | [],c,s',_,e=>by simp only[runOps,xJ]at e;exact⟨c,[],rfl,e,rfl⟩
 |o::l,c,s',he,e=>by
  simp only[runOps,xB]at e
  obtain⟨s1,e1,e2⟩:=e
  obtain⟨c1,f,g1,rfl,g3⟩:=runOpF_pure (he o (by simp)) e1
  obtain⟨c2,fs,q1,q2,q3⟩:=runOpsF_pure l (fun o ho=>he o (by simp[ho])) e2
  exact⟨c2,f::fs,by simp only[runOpsF,g1,xS,q1,xQ],q2,f,fs,rfl,g3,q3⟩
theorem apart_pure{ops:List Oper}{x y:Oper}{f g:Fp}(hf:PureFp ops x f)(hg:PureFp ops y g)(h:slotsApart ops x y=true):apartFp f g=true:=by
 obtain⟨f1,f2,f3,f4,f5⟩:=hf
 obtain⟨g1,g2,g3,g4,g5⟩:=hg
 suffices apartB f g=true by simp[apartFp,this]
 simp only[apartB,f1,f2,f3,f4,f5,g1,g2,g3,g4,g5]
 simp only[slotsApart,xA]at h
 cases hx:x.dst <;>cases hy:y.dst <;>simp only[hx,hy]at h ⊢ <;>simp[meet] <;>simpa using h
theorem checkRow_pure{ops:List Oper}{y:Oper}{b:Nat}{g:Fp}(hg:PureFp ops y g):∀(l:List Oper) (fs:List Fp) (j:Nat),All2 (PureFp ops) l fs→stRow ops b y j l=true→checkRow b g j fs=true
 | [],fs,j,ha,_=>by rw[show fs=[]from ha];rfl
 |x::l,fs,j,ha,hs=>by
  obtain⟨f,r,rfl,h1,h2⟩:=ha
  simp only[stRow,xA,Bool.or_eq_true]at hs
  simp only[checkRow,xA,Bool.or_eq_true]
  exact⟨hs.1.imp id (apart_pure h1 hg),checkRow_pure hg l r (j+1) h2 hs.2⟩
theorem checkF_pure{ops:List Oper}{all:List Fp}(hall:All2 (PureFp ops) ops all):∀(l:List Oper) (fs:List Fp) (i:Nat) (bs:List Nat),All2 (PureFp ops) l fs→stAll ops i bs l=true→checkF all i bs fs=true
 | [],fs,i,bs,ha,_=>by rw[show fs=[]from ha];cases bs <;>rfl
 |y::l,fs,i,[],ha,_=>by obtain⟨f,r,rfl,_,_⟩:=ha;rfl
 |y::l,fs,i,b::bs,ha,hs=>by
  obtain⟨f,r,rfl,h1,h2⟩:=ha
  simp only[stAll,xA]at hs
  simp only[checkF,xA]
  exact⟨checkRow_pure h1 _ _ 0 (All2.take i hall) hs.1,checkF_pure hall l r (i+1) bs h2 hs.2⟩
def regOk(h:Hint)(id:Nat)(ls:List Nat)(c:Code):Bool:=
 match c with
 | .region i ops dr=>decide (i=id)&&ops.toList.all (guardOk ops.toList)&&(!dr || pureR h ops.toList)&&decide (h.live id=ls)&& !h.pan.contains id&&(!dr || (h.swp id).isNone)
 |_=>false
def opsL(c:Code):List Lite:=match c with | .region _ ops _=>ops.toList.map (liteOf ops.toList) |_=>[]
theorem rg_eq{c:Code}{id:Nat}{ls:List Nat}{L:List Lite}(hk:regOk h id ls c=true)(hL:opsL c=L)(s:St):codeX P hints h c s=(runL P (callX P hints) h L s).bind fun s'=>some (.normal,prune ls s'):=by
 unfold regOk at hk
 split at hk
 ·rename_i i ops dr
  simp only[xA,yD,Bool.or_eq_true,Bool.not_eq_true']at hk
  obtain⟨⟨⟨⟨⟨rfl,hg⟩,hd⟩,hl⟩,hpan⟩,hsw⟩:=hk
  subst hL
  have text:(codeX P hints h (.region i ops false) s)=(runL P (callX P hints) h (ops.toList.map (liteOf ops.toList)) s).bind fun s'=>some (.normal,prune ls s'):=by
   rw[codeX_region hpan,runOps_lite _ _ hg,hl,xF];rfl
  cases dr with
  |false=>exact text
  |true=>
   rcases hd with hd |hd
   ·cases hd
   ·refine Eq.trans ?_ text
    have hsw':h.swp i=none:=by
     rcases hsw with q |q
     ·cases q
     ·simpa using q
    rw[codeX_draw hsw',codeX_region hpan,hl]
    simp only[pureR,xA,List.all_eq_true,Bool.not_eq_true']at hd
    obtain⟨he,hb⟩:=hd
    split at hb
    ·rename_i bs hbs
     refine ext_some fun r=> ?_
     simp only[xB,xM]
     constructor
     ·rintro⟨⟨c',fs⟩,e1,e2⟩
      simp only at e2
      split at e2
      ·refine⟨c'.1,?_,by simpa using e2⟩
       have:∀(l:List Oper) (c c':Cf) (fs:List Fp),runOpsF P (callX P hints) h ops.toList l c=some (c',fs)→runOps P (callX P hints) h ops.toList l c.1=some c'.1:=by
        intro l
        induction l with
        |nil=>intro c c' fs e;simp only[runOpsF,xJ,pJ]at e;rw[←e.1];rfl
        |cons o l ih=>
         intro c c' fs e
         simp only[runOpsF,xB,xM,pJ]at e
         obtain⟨⟨c1,f⟩,e1,⟨c2,fs'⟩,e2,rfl,_⟩:=e
         simp only[runOps,runOpF_op e1,xS]
         exact ih _ _ _ e2
       exact this _ _ _ _ e1
      ·cases e2
     ·rintro⟨s',e1,rfl⟩
      obtain⟨c',fs,q1,q2,q3⟩:=runOpsF_pure ops.toList (c:=(s,hist0 s)) he e1
      refine⟨(c',fs),q1,?_⟩
      have hck:checkR ops.toList fs=true:=by
       unfold checkR
       rw[hbs]
       exact checkF_pure q3 _ _ 0 bs q3 hb
      simp only[hck,if_true,q2]
    ·cases hb
 ·cases hk
def nextL(P:Program)(call:CallF)(h:Hint)(d:Option Nat)(r:List Lite)(s:St)(v:SV)(k:Wk):Option St:=runL P call h r (s.fin d v k)
section
variable{d:Option Nat}{ty:TypeId}{op:Op}{r:List Lite}{env:List (Nat×SV)}{ct ct':List ((Nat×Nat)×T)}{H H':List Ob}{tr:List Tr}{v:SV}{s:St}{t:Nat}{want b:Bool}
@[go_sem] theorem runL_plain:runL P call h (⟨d,ty,op,none⟩::r) ⟨env,ct,H⟩=(stepE P call h (d.getD 0) ty op (St.val ⟨env,ct,H⟩) ⟨ct,H,[]⟩).bind fun p=>nextL P call h d r ⟨env,ct,H⟩ p.1 p.2:=by
 simp only[runL,stepL,stepS,xX,xS];rfl
def guardL(P:Program)(call:CallF)(h:Hint)(d:Option Nat)(ty:TypeId)(op:Op)(want:Bool)(r:List Lite)(s:St)(g:SV):Option St:=(stepG P call h d ty op want g s).bind fun s'=>runL P call h r s'
@[go_sem] theorem runL_guard:runL P call h (⟨d,ty,op,some (t,want)⟩::r) ⟨env,ct,H⟩=guardL P call h d ty op want r ⟨env,ct,H⟩ (St.get ⟨env,ct,H⟩ t):=rfl
@[go_sem] theorem guardL_bool:guardL P call h d ty op want r ⟨env,ct,H⟩ (.d (.bool b))=if b=want then(stepE P call h (d.getD 0) ty op (St.val ⟨env,ct,H⟩) ⟨ct,H,[]⟩).bind fun p=>nextL P call h d r ⟨env,ct,H⟩ p.1 p.2 else runL P call h r (St.fin ⟨env,ct,H⟩ d (.tup []) ⟨ct,H,[]⟩):=by
 by_cases e:b=want
 ·simp only[guardL,stepG_bool,e,if_true,stepS,xX,xS];rfl
 ·simp only[guardL,stepG_bool,e,if_false,xS];rfl
@[go_sem] theorem guardL_skip:guardL P call h d ty op want r ⟨env,ct,H⟩ (.tup [])=runL P call h r (St.fin ⟨env,ct,H⟩ d (.tup []) ⟨ct,H,[]⟩):=rfl
end
end
end Go.Am
namespace Go.Am
open Go
structure LF where
 d:Option Nat
 g:Option (Nat×Bool)
 ty:TypeId
 op:Op
 lk:List Nat
 u:List Nat
 nd:Bool
 eff:Bool
 rds:Bool
 hr:Bool
 ho:Bool
def lfOf(h:Hint)(ops:List Oper)(nd:Bool)(u:List Nat)(o:Oper):LF:=
 ⟨o.dst,o.guard.map fun p=>(gslot ops p.1,p.2),o.type,o.op,looks ops o,u,nd,effOf h (o.dst.getD 0) o.op,reads o.op,hrOf h (o.dst.getD 0) o.op,hOf h (o.dst.getD 0) o.op⟩
def fpW(o:LF)(hi:Hist)(s:St)(w:Bool)(v:SV)(k:Wk):Fp:=
 {sl:=o.lk,dst:=o.d,rd:=if isMove o.op=true then []else o.lk.flatMap (histOf hi)++v.srts++(if o.rds=true then o.lk.flatMap fun t=>(s.get t).rts else []),wr:=newKeys s.wk k++k.tr.flatMap Tr.rts,
  hr:=(w&&o.hr) || (if isMove o.op=true then []else o.lk.flatMap (histOf hi)++v.srts++(if o.rds=true then o.lk.flatMap fun t=>(s.get t).rts else [])).any Root.isO || (newKeys s.wk k++k.tr.flatMap Tr.rts).any Root.isO || k.tr.any Tr.isKillO,
  hw:=(w&&o.eff)&&(o.ho || (leansO o.op&&(o.lk.flatMap fun t=>(s.get t).rts).any Root.isO) || k.tr.any Tr.isKillO),ren:=k.tr.any Tr.isRen,rx:=if w=true then rxOf o.eff o.op s.val v else none,sx:=sxOf (if w=true then rxOf o.eff o.op s.val v else none) (v::o.lk.map fun t=>s.get t),wx:=if w=true then wxOf o.op s.val else none,ox:=oxOf (if w=true then wxOf o.op s.val else none) k.tr}
def wantF(o:LF)(s:St):Option Bool:=
 match o.g with
 |none=>some true
 |some (t,want)=>match s.get t with
  | .d (.bool b)=>some (b==want)
  | .tup []=>some false
  |_=>none
def evalF(P:Program)(call:CallF)(h:Hint)(o:LF)(s:St):Option (Bool×SV×Wk):=
 (wantF o s).bind fun w=>if w=true then(stepE P call h (o.d.getD 0) o.ty o.op s.val s.wk).bind fun p=>some (true,p.1,p.2)else some (false,.tup [],s.wk)
def apartAt(acc:List Fp)(f:Fp)(j:Nat):Bool:=match acc[j]? with |some g=>apartFp g f |none=>false
def fp0:Fp:=⟨[],none,[],[],false,false,false,none,[],none,[]⟩
def runC(P:Program)(call:CallF)(h:Hint):List LF→Cf→List Fp→Option St
 | [],c,_=>some c.1
 |o::r,c,acc=>(evalF P call h o c.1).bind fun q=>
  if o.u.all (apartAt acc (fpW o c.2 c.1 q.1 q.2.1 q.2.2))=true then runC P call h r (c.1.fin o.d q.2.1 q.2.2,histAdd c.2 q.2.2.tr o.d (histV o.op c.2 q.2.1)) (acc++[if o.nd=true then fpW o c.2 c.1 q.1 q.2.1 q.2.2 else fp0])else none
section
variable{P:Program}{hints:FuncId→Hint}{call:CallF}{h:Hint}
theorem evalF_lf{ops:List Oper}{nd:Bool}{u:List Nat}{o:Oper}{s:St}(hg:guardOk ops o=true):evalO P call h ops o s=evalF P call h (lfOf h ops nd u o) s:=by
 have:wantE ops s o=wantF (lfOf h ops nd u o) s:=by
  obtain⟨d,op,ty,pos,after,guard⟩:=o
  cases guard with
  |none=>rfl
  |some p=>
   obtain⟨j,want⟩:=p
   simp only[guardOk,Option.isSome_iff_exists]at hg
   obtain⟨t,ht⟩:=hg
   simp only[wantE,wantF,lfOf,xQ,gslot,ht,Option.getD_some]
   rfl
 simp only[evalO,evalF,this,xF]
 rfl
theorem fpW_lf{ops:List Oper}{nd:Bool}{u:List Nat}{o:Oper}{hi:Hist}{s:St}{w:Bool}{v:SV}{k:Wk}:fpOf h ops o hi s w v k=fpW (lfOf h ops nd u o) hi s w v k:=rfl
def checkUs:List Fp→List (List Nat)→List Fp→Bool
 |acc,u::us,f::fs=>u.all (apartAt acc f)&&checkUs (acc++[f]) us fs
 |_,_,_=>true
def lfs(h:Hint)(ops:List Oper):List Bool→List (List Nat)→List Oper→List LF
 |n::ns,u::us,o::r=>lfOf h ops n u o::lfs h ops ns us r
 |_,_,_=>[]
def AccOk(all:List Bool)(a b:List Fp):Prop:=a.length=b.length∧∀j:Nat,all[j]? =some true→a[j]? =b[j]?
theorem apart_acc{all:List Bool}{a b:List Fp}{f:Fp}{u:List Nat}(ha:AccOk all a b)(hu:u.all (fun j=>decide (all[j]? =some true))=true):u.all (apartAt a f)=u.all (apartAt b f):=by
 rw[Bool.eq_iff_iff,List.all_eq_true,List.all_eq_true]
 simp only[List.all_eq_true,yD]at hu
 have e:∀j∈u,apartAt a f j=apartAt b f j:=fun j hj=>by unfold apartAt;rw[ha.2 j (hu j hj)]
 exact⟨fun h j hj=>(e j hj)▸h j hj,fun h j hj=>(e j hj).symm▸h j hj⟩
theorem accOk_snoc{all pre r:List Bool}{n:Bool}{a b:List Fp}{f:Fp}(ha:AccOk all a b)(hall:all=pre++n::r)(hl:a.length=pre.length):AccOk all (a++[if n=true then f else fp0]) (b++[f]):=by
 refine⟨by simp[ha.1],fun j hj=> ?_⟩
 by_cases e:j<a.length
 ·rw[xO e,xO (ha.1▸e)];exact ha.2 j hj
 ·by_cases e2:j=a.length
  ·subst e2
   have:all[a.length]? =some n:=by rw[hall,hl];simp
   rw[this]at hj
   cases hj
   rw[xN (Nat.le_refl _),ha.1,xN (Nat.le_refl _)]
   simp
  ·rw[List.getElem?_eq_none (by simp;omega),List.getElem?_eq_none (by simp[←ha.1];omega)]
theorem runC_eq{ops:List Oper}{all:List Bool}:∀(l:List Oper) (pre ns:List Bool) (us:List (List Nat)) (c:Cf) (acc acc':List Fp),l.all (guardOk ops)=true→us.length=l.length→ns.length=l.length→all=pre++ns→us.all (fun u=>u.all fun j=>decide (all[j]? =some true))=true→AccOk all acc' acc→acc'.length=pre.length→
  runC P call h (lfs h ops ns us l) c acc'=(runOpsF P call h ops l c).bind fun p=>if checkUs acc us p.2=true then some p.1.1 else none
 | [],pre,[],[],c,acc,acc',_,_,_,_,_,_,_=>rfl
 |o::l,pre,n::ns,u::us,c,acc,acc',hg,hl,hn,hall,hu,ha,hp=>by
  simp only[List.all_cons,xA]at hg hu
  simp only[lfs,runC,runOpsF,runOpF,←evalF_lf (u:=u) (nd:=n) hg.1]
  cases evalO P call h ops o c.1 with
  |none=>rfl
  |some q=>
   obtain⟨w,v,k⟩:=q
   simp only[xS,xQ,←fpW_lf,show(lfOf h ops n u o).u=u from rfl,show(lfOf h ops n u o).d=o.dst from rfl,show(lfOf h ops n u o).nd=n from rfl,show(lfOf h ops n u o).op=o.op from rfl,apart_acc ha hu.1]
   rw[runC_eq l (pre++[n]) ns us _ (acc++[fpOf h ops o c.2 c.1 w v k]) _ hg.2 (by simpa using hl) (by simpa using hn) (by simp[hall]) hu.2 (accOk_snoc ha hall hp) (by simp[hp])]
   cases runOpsF P call h ops l (c.1.fin o.dst v k,histAdd c.2 k.tr o.dst (histV o.op c.2 v))with
   |none=>simp
   |some p=>
    simp only[xS,xQ,checkUs,xA]
    by_cases e:u.all (apartAt acc (fpOf h ops o c.2 c.1 w v k))=true
    ·simp only[e,if_true,true_and]
    ·simp only[e,if_false,false_and,xH,↓reduceIte]
theorem checkRow_iff{b:Nat}{f:Fp}:∀(l:List Fp) (j:Nat),checkRow b f j l=true↔∀i g,l[i]? =some g→b.testBit (j+i)=true∨apartFp g f=true
 | [],j=>by simp[checkRow]
 |x::l,j=>by
  simp only[checkRow,xA,Bool.or_eq_true,checkRow_iff l (j+1)]
  constructor
  ·rintro⟨h1,h2⟩ i g hi
   cases i with
   |zero=>simp only[yE,xJ]at hi;subst hi;exact h1
   |succ i=>rw[show j+(i+1)=j+1+i by omega];exact h2 i g (by simpa using hi)
  ·intro hh
   exact⟨hh 0 x rfl,fun i g hi=>by rw[show j+1+i=j+(i+1)by omega];exact hh (i+1) g (by simpa using hi)⟩
def FpOk(h:Hint)(ops:List Oper)(o:Oper)(f:Fp):Prop:=effOf h (o.dst.getD 0) o.op=false→PureFp ops o f
def rowU(h:Hint)(ops:List Oper)(b:Nat)(u:List Nat)(y:Oper):Nat→List Oper→Bool
 |_,[]=>true
 |j,x::r=>((b.testBit j&& !u.contains j) || (!b.testBit j&&(u.contains j || (slotsApart ops x y&& !effOf h (x.dst.getD 0) x.op&& !effOf h (y.dst.getD 0) y.op))))&&rowU h ops b u y (j+1) r
def allU(h:Hint)(ops:List Oper):Nat→List Nat→List (List Nat)→List Oper→Bool
 |i,b::bs,u::us,y::r=>u.all (fun j=>decide (j<i))&&rowU h ops b u y 0 (ops.take i)&&allU h ops (i+1) bs us r
 |_,[],[],[]=>true
 |_,_,_,_=>false
theorem All2.at'{α β:Type}{R:α→β→Prop}:∀{as:List α} {l:List β},All2 R as l→∀(i:Nat) b,l[i]? =some b→∃a,as[i]? =some a∧R a b
 | [],l,ha,i,b,hb=>by rw[show l=[]from ha]at hb;simp at hb
 |a::as,l,ha,i,b,hb=>by
  obtain⟨b',r,rfl,h1,h2⟩:=ha
  cases i with
  |zero=>simp only[yE,xJ]at hb;subst hb;exact⟨a,rfl,h1⟩
  |succ i=>obtain⟨a',q1,q2⟩:=All2.at' h2 i b (by simpa using hb);exact⟨a',by simpa using q1,q2⟩
theorem rowU_at{ops:List Oper}{b:Nat}{u:List Nat}{y:Oper}:∀(l:List Oper) (j:Nat),rowU h ops b u y j l=true→∀i x,l[i]? =some x→(b.testBit (j+i)=true∧(j+i)∉u)∨(b.testBit (j+i)=false∧((j+i)∈u∨(slotsApart ops x y=true∧effOf h (x.dst.getD 0) x.op=false∧effOf h (y.dst.getD 0) y.op=false)))
 | [],j,_,i,x,hx=>by simp at hx
 |z::l,j,hr,i,x,hx=>by
  simp only[rowU,xA,Bool.or_eq_true,Bool.not_eq_true',List.contains_eq_mem,decide_eq_false_iff_not,yD]at hr
  cases i with
  |zero=>simp only[yE,xJ]at hx;subst hx;simpa [and_assoc]using hr.1
  |succ i=>rw[show j+(i+1)=j+1+i by omega];exact rowU_at l (j+1) hr.2 i x (by simpa using hx)
theorem row_iff{ops l:List Oper}{b:Nat}{u:List Nat}{y:Oper}{f:Fp}{acc:List Fp}(hu:u.all (fun j=>decide (j<acc.length))=true)(hr:rowU h ops b u y 0 l=true)(ha:All2 (FpOk h ops) l acc)(hy:FpOk h ops y f):checkRow b f 0 acc=u.all (apartAt acc f):=by
 rw[Bool.eq_iff_iff,checkRow_iff,List.all_eq_true]
 simp only[List.all_eq_true,yD]at hu
 constructor
 ·intro hh j hj
  have hlt:=hu j hj
  obtain⟨x,hx,_⟩:=All2.at' ha j acc[j] (by simp[hlt])
  have:=rowU_at l 0 hr j x hx
  simp only[Nat.zero_add]at this
  rcases this with⟨_,h2⟩ |⟨h1,_⟩
  ·exact absurd hj h2
  ·simp only[apartAt,xG hlt]
   rcases hh j acc[j] (by simp[hlt])with h3 |h3
   ·rw[Nat.zero_add,h1]at h3;cases h3
   ·exact h3
 ·intro hh i g hi
  obtain⟨x,hx,hx2⟩:=All2.at' ha i g hi
  have:=rowU_at l 0 hr i x hx
  simp only[Nat.zero_add]at this ⊢
  rcases this with⟨h1,_⟩ |⟨_,h2 |⟨h2,h3,h4⟩⟩
  ·exact .inl h1
  ·right;have:=hh i h2;simpa [apartAt,hi]using this
  ·exact .inr (apart_pure (hx2 h3) (hy h4) h2)
theorem All2.snoc{α β:Type}{R:α→β→Prop}{a:α}{b:β}:∀{as:List α} {l:List β},All2 R as l→R a b→All2 R (as++[a]) (l++[b])
 | [],l,ha,hr=>by rw[show l=[]from ha];exact⟨b,[],rfl,hr,rfl⟩
 |x::as,l,ha,hr=>by
  obtain⟨b',r,rfl,h1,h2⟩:=ha
  exact⟨b',r++[b],rfl,h1,All2.snoc h2 hr⟩
theorem All2.leng{α β:Type}{R:α→β→Prop}:∀{as:List α} {l:List β},All2 R as l→l.length=as.length
 | [],l,ha=>by rw[show l=[]from ha];rfl
 |x::as,l,ha=>by obtain⟨b',r,rfl,h1,h2⟩:=ha;simp[All2.leng h2]
theorem checkF_us{ops:List Oper}{all:List Fp}:∀(l:List Oper) (pre:List Oper) (fs acc:List Fp) (bs:List Nat) (us:List (List Nat)),ops=pre++l→all=acc++fs→All2 (FpOk h ops) pre acc→All2 (FpOk h ops) l fs→allU h ops pre.length bs us l=true→checkF all pre.length bs fs=checkUs acc us fs
 | [],pre,fs,acc,bs,us,_,_,_,ha,hu=>by
  rw[show fs=[]from ha]
  cases bs <;>cases us <;>simp[checkF,checkUs]
 |y::l,pre,fs,acc,bs,us,ho,hall,hp,ha,hu=>by
  obtain⟨f,r,rfl,h1,h2⟩:=ha
  cases bs with
  |nil=>cases us <;>simp[allU]at hu
  |cons b bs=>
   cases us with
   |nil=>simp[allU]at hu
   |cons u us=>
    simp only[allU,xA]at hu
    simp only[checkF,checkUs]
    have hlen:=All2.leng hp
    have t1:ops.take pre.length=pre:=by rw[ho];simp
    have t2:all.take pre.length=acc:=by rw[hall,←hlen];simp
    rw[t1]at hu
    rw[t2,row_iff (hlen▸hu.1.1) hu.1.2 hp h1]
    have:=checkF_us (ops:=ops) (all:=all) l (pre++[y]) r (acc++[f]) bs us (by simp[ho]) (by simp[hall]) (All2.snoc hp h1) h2 (by simpa using hu.2)
    rw[←this];simp
theorem runOpsF_ok{ops:List Oper}:∀(l:List Oper) {c c':Cf} {fs:List Fp},runOpsF P call h ops l c=some (c',fs)→All2 (FpOk h ops) l fs
 | [],c,c',fs,e=>by simp only[runOpsF,xJ,pJ]at e;exact e.2▸rfl
 |o::l,c,c',fs,e=>by
  simp only[runOpsF,xB,xM,pJ]at e
  obtain⟨⟨c1,f⟩,e1,⟨c2,fs'⟩,e2,rfl,rfl⟩:=e
  refine⟨f,fs',rfl,fun he=> ?_,runOpsF_ok l e2⟩
  obtain⟨c1',f',q1,_,q3⟩:=runOpF_pure (ops:=ops) he (runOpF_op e1)
  rw[e1]at q1
  simp only[xJ,pJ]at q1
  rw[q1.2];exact q3
def regOkD(h:Hint)(id:Nat)(ls:List Nat)(ns:List Bool)(us:List (List Nat))(c:Code):Bool:=
 match c with
 | .region i ops dr=>decide (i=id)&&ops.toList.all (guardOk ops.toList)&&dr&&(match befs ops.toList []with |some bs=>allU h ops.toList 0 bs us ops.toList |none=>false)&&decide (us.length=ops.toList.length)&&decide (ns.length=ops.toList.length)&&us.all (fun u=>u.all fun j=>decide (ns[j]? =some true))&&decide (h.live id=ls)&&(h.swp id).isNone
 |_=>false
def lfsOf(h:Hint)(ns:List Bool)(us:List (List Nat))(c:Code):List LF:=match c with | .region _ ops _=>lfs h ops.toList ns us ops.toList |_=>[]
theorem rgD_eq{c:Code}{id:Nat}{ls:List Nat}{ns:List Bool}{us:List (List Nat)}{L:List LF}(hk:regOkD h id ls ns us c=true)(hL:lfsOf h ns us c=L)(s:St):codeX P hints h c s=(runC P (callX P hints) h L (s,hist0 s) []).bind fun s'=>some (.normal,prune ls s'):=by
 unfold regOkD at hk
 split at hk
 ·rename_i i ops dr
  simp only[xA,yD]at hk
  obtain⟨⟨⟨⟨⟨⟨⟨⟨rfl,hg⟩,rfl⟩,hb⟩,hn⟩,hns⟩,hu⟩,hl⟩,hsw⟩:=hk
  subst hL
  simp only[lfsOf]
  rw[codeX_draw (by simpa using hsw),runC_eq (all:=ns) ops.toList [] ns us _ [] [] hg hn hns rfl hu ⟨rfl,fun _ _=>rfl⟩ rfl,hl]
  split at hb
  ·rename_i bs hbs
   cases e:runOpsF P (callX P hints) h ops.toList ops.toList (s,hist0 s)with
   |none=>rfl
   |some p=>
    obtain⟨c',fs⟩:=p
    have ha:=runOpsF_ok _ e
    have:checkR ops.toList fs=checkUs [] us fs:=by
     unfold checkR
     rw[hbs]
     exact checkF_us ops.toList [] fs [] bs us rfl rfl rfl ha hb
    simp only[xS,this]
    by_cases hc:checkUs [] us fs=true <;>simp[hc]
  ·cases hb
 ·cases hk
variable{r:List LF}{d:Option Nat}{ty:TypeId}{op:Op}{lk u:List Nat}{nd eff rds hr ho:Bool}{env:List (Nat×SV)}{ct:List ((Nat×Nat)×T)}{H:List Ob}{hi:Hist}{acc:List Fp}
def nextC(P:Program)(call:CallF)(h:Hint)(o:LF)(r:List LF)(c:Cf)(acc:List Fp)(w:Bool)(v:SV)(k:Wk):Option St:=
 if o.u.all (apartAt acc (fpW o c.2 c.1 w v k))=true then runC P call h r (c.1.fin o.d v k,histAdd c.2 k.tr o.d (histV o.op c.2 v)) (acc++[if o.nd=true then fpW o c.2 c.1 w v k else fp0])else none
@[go_sem] theorem runC_plain:runC P call h (⟨d,none,ty,op,lk,u,nd,eff,rds,hr,ho⟩::r) (⟨env,ct,H⟩,hi) acc=(stepE P call h (d.getD 0) ty op (St.val ⟨env,ct,H⟩) ⟨ct,H,[]⟩).bind fun p=>nextC P call h ⟨d,none,ty,op,lk,u,nd,eff,rds,hr,ho⟩ r (⟨env,ct,H⟩,hi) acc true p.1 p.2:=by
 simp only[runC,evalF,wantF,xS,if_true,xX]
 rfl
def guardC(P:Program)(call:CallF)(h:Hint)(o:LF)(want:Bool)(r:List LF)(c:Cf)(acc:List Fp)(v:SV):Option St:=
 match v with
 | .d (.bool b)=>if b=want then(stepE P call h (o.d.getD 0) o.ty o.op c.1.val c.1.wk).bind fun p=>nextC P call h o r c acc true p.1 p.2 else nextC P call h o r c acc false (.tup []) c.1.wk
 | .tup []=>nextC P call h o r c acc false (.tup []) c.1.wk
 |_=>none
@[go_sem] theorem runC_guard{t:Nat}{want:Bool}{c:Cf}:runC P call h (⟨d,some (t,want),ty,op,lk,u,nd,eff,rds,hr,ho⟩::r) c acc=guardC P call h ⟨d,some (t,want),ty,op,lk,u,nd,eff,rds,hr,ho⟩ want r c acc (c.1.get t):=by
 simp only[runC,evalF,wantF,guardC]
 have hb:∀b:Bool,(((some (b==want)).bind fun w=>if w=true then(stepE P call h (d.getD 0) ty op c.1.val c.1.wk).bind fun p=>some (true,p.1,p.2)else some (false,.tup [],c.1.wk)).bind fun q=>nextC P call h ⟨d,some (t,want),ty,op,lk,u,nd,eff,rds,hr,ho⟩ r c acc q.1 q.2.1 q.2.2)=if b=want then(stepE P call h (d.getD 0) ty op c.1.val c.1.wk).bind fun p=>nextC P call h ⟨d,some (t,want),ty,op,lk,u,nd,eff,rds,hr,ho⟩ r c acc true p.1 p.2 else nextC P call h ⟨d,some (t,want),ty,op,lk,u,nd,eff,rds,hr,ho⟩ r c acc false (.tup []) c.1.wk:=by
  intro b
  by_cases e:b=want
  ·subst e;simp only[xS,beq_self_eq_true,if_true,xX]
  ·have:(b==want)=false:=by simpa using e
   simp only[this,xS,e,if_false,xH]
 generalize c.1.get t=v
 cases v with
 |d x=>
  cases x with
  |bool b=>exact hb b
  |_=>rfl
 |tup l=>
  cases l with
  |nil=>rfl
  |cons _ _=>rfl
 |_=>rfl
@[go_sem] theorem guardC_bool{o:LF}{want b:Bool}{c:Cf}:guardC P call h o want r c acc (.d (.bool b))=if b=want then(stepE P call h (o.d.getD 0) o.ty o.op c.1.val c.1.wk).bind fun p=>nextC P call h o r c acc true p.1 p.2 else nextC P call h o r c acc false (.tup []) c.1.wk:=rfl
variable{g:Option (Nat×Bool)}{c:Cf}{w:Bool}{v:SV}{ct':List ((Nat×Nat)×T)}{H':List Ob}{tr:List Tr}
@[go_sem] theorem nextC_quiet:nextC P call h ⟨d,g,ty,op,lk,[],false,eff,rds,hr,ho⟩ r c acc w v ⟨ct',H',tr⟩=runC P call h r (c.1.fin d v ⟨ct',H',tr⟩,histAdd c.2 tr d (histV op c.2 v)) (acc++[fp0]):=by
 simp[nextC]
@[go_sem] theorem nextC_last{u:List Nat}{n:Nat}:nextC P call h ⟨d,g,ty,op,lk,n::u,false,eff,rds,hr,ho⟩ r c acc w v ⟨ct',H',tr⟩=
  if(n::u).all (apartAt acc (fpW ⟨d,g,ty,op,lk,n::u,false,eff,rds,hr,ho⟩ c.2 c.1 w v ⟨ct',H',tr⟩))=true then runC P call h r (c.1.fin d v ⟨ct',H',tr⟩,histAdd c.2 tr d (histV op c.2 v)) (acc++[fp0])else none:=by
 simp[nextC]
@[go_sem] theorem nextC_mk:nextC P call h ⟨d,g,ty,op,lk,u,true,eff,rds,hr,ho⟩ r c acc w v ⟨ct',H',tr⟩=
  if u.all (apartAt acc (fpW ⟨d,g,ty,op,lk,u,true,eff,rds,hr,ho⟩ c.2 c.1 w v ⟨ct',H',tr⟩))=true then runC P call h r (c.1.fin d v ⟨ct',H',tr⟩,histAdd c.2 tr d (histV op c.2 v)) (acc++[fpW ⟨d,g,ty,op,lk,u,true,eff,rds,hr,ho⟩ c.2 c.1 w v ⟨ct',H',tr⟩])else none:=by
 simp[nextC]
@[go_sem] theorem histAdd_nil{n:Nat}{L:List Root}:histAdd hi [] (some n) L=(n,L)::hi:=by
 have:∀l:Hist,(l.map fun p=>(p.1,histTr [] p.2))=l:=fun l=>by induction l with |nil=>rfl |cons a r ih=>simp only[List.map_cons,ih];rfl
 simp only[histAdd,this]
@[go_sem] theorem histAdd_none{L:List Root}:histAdd hi [] none L=hi:=by
 have:∀l:Hist,(l.map fun p=>(p.1,histTr [] p.2))=l:=fun l=>by induction l with |nil=>rfl |cons a r ih=>simp only[List.map_cons,ih];rfl
 simp only[histAdd,this]
def histMap(tr:List Tr):Hist→Hist
 | []=>[]
 |p::r=>(p.1,histTr tr p.2)::histMap tr r
theorem histMap_eq(tr:List Tr):∀l:Hist,(l.map fun p=>(p.1,histTr tr p.2))=histMap tr l
 | []=>rfl
 |p::r=>by simp only[List.map_cons,histMap,histMap_eq tr r]
@[go_sem] theorem histMap_nil:histMap tr []=[]:=rfl
@[go_sem] theorem histMap_cons{n:Nat}{l:List Root}{r:Hist}:histMap tr ((n,l)::r)=(n,histTr tr l)::histMap tr r:=rfl
@[go_sem] theorem histAdd_cons{x:Tr}{n:Nat}{L:List Root}:histAdd hi (x::tr) (some n) L=(n,L)::histMap (x::tr) hi:=by simp only[histAdd,histMap_eq]
@[go_sem] theorem histAdd_consN{x:Tr}{L:List Root}:histAdd hi (x::tr) none L=histMap (x::tr) hi:=by simp only[histAdd,histMap_eq]
@[go_sem] theorem hist_kill{r:Root}{p:Path}{l:List Root}:Tr.hist (.kill r p) l=l:=rfl
@[go_sem] theorem hist_killN{r:Root}{n:Nat}{l:List Root}:Tr.hist (.killN r n) l=l:=rfl
@[go_sem] theorem hist_killO{l:List Root}:Tr.hist .killO l=l:=rfl
@[go_sem] theorem hist_ren{a b:Nat×Nat}{l:List Root}:Tr.hist (.ren a b) l=if l.any (fun r=>decide (r=.l a.1 a.2))=true then .l b.1 b.2::l else l:=rfl
@[go_sem] theorem looks_consR{k t:Nat}{v:List Root}{r:List (Nat×List Root)}:look ((k,v)::r) t=if k=t then some v else look r t:=rfl
attribute [go_sem] leansO isMove histV fpW histTr histOf newKeys hist0 SV.srts SV.srtss SV.rts SV.rtss Root.isO Tr.isKillO Tr.isRen Tr.rts apartAt apartFp apartB apartX sepL SV.unhurt SV.unhurts rxOf wxOf sxOf oxOf Tr.killAt meet
end
end Go.Am
namespace Go.Am
open Go
section
variable{P:Program}{nv dst len:Nat}{lit:Bool}{t:TypeId}{k:Wk}
def rowT(l:List T):List T:=l
@[go_sem] theorem bs_eq{parts:List (Nat×SV)}:buildSliceE P nv dst lit t len parts k=(elemOf P t).bind fun e=>(zeroOf P e).bind fun z=>(absorbP nv parts k).bind fun q=>
  if 0<P.cellsOf e∧q.1.all (fun p=>p.2.nc==P.cellsOf e)=true∧len * P.cellsOf e≤16777216∧z.nc=P.cellsOf e then
   (setAt (List.replicate len (T.ofZero z)) q.1).bind fun es=>
    if lit=true then(if parts.all (fun p=>isD p.2)=true then(T.frzs false es).bind fun ds=>some (.d (.sl false ds),q.2)else none)
    else some (.bor (.l dst 0) [] 0 len,q.2.new dst 0 (.own (rowT es)))
  else none:=by
 simp only[buildSliceE,xF,rowT];rfl
@[go_sem] theorem ab1_p{r:Root}{q:Nat×Nat}{p:Path}{off m:Nat}:absorb1 nv (.bor r (q::p) off m) k=(k.get r).bind fun c=>(c.at (q::p)).bind fun nd=>match nd with
   | .own es=>(T.frzs false es).bind fun l=>(c.put (q::p) (.d (.sl false l))).bind fun c'=>(k.set r c').bind fun(k:Wk)=>some (.d (.sl false (win l off m)),k.tell (.frz r (q::p) l))
   |_=>none:=by
 cases r <;>simp only[absorb1,xF] <;>rfl
@[go_sem] theorem absP_nil:absorbP nv [] k=some ([],k):=rfl
@[go_sem] theorem absP_cons{i:Nat}{v:SV}{r:List (Nat×SV)}:absorbP nv ((i,v)::r) k=(absorb nv v k).bind fun p=>(absorbP nv r p.2).bind fun q=>some ((i,p.1)::q.1,q.2):=by
 simp only[absorbP,xF];rfl
@[go_sem] theorem setAt_nil{l:List T}:setAt l []=some l:=rfl
@[go_sem] theorem setAt_cons{l:List T}{i:Nat}{x:T}{r:List (Nat×T)}:setAt l ((i,x)::r)=if i<l.length then setAt (l.set i x) r else none:=rfl
@[go_sem] theorem isD_d{x:D}:isD (.d x)=true:=rfl
@[go_sem] theorem news_sl{b:Bool}{l:List D}:newsE nv (.d (.sl b l)) k=some (l.map .d,k):=rfl
@[go_sem] theorem olds_bor{n off m:Nat}{news:List T}{r:Root}{p:Path}:oldsE n news (.bor r p off m) k=if off=0 then
   (k.get r).bind fun c=>(c.at p).bind fun nd=>match nd with
    | .own es=>if m≤es.length∧uniform n es=true∧okLen m es news=true then(c.put p .dead).bind fun c'=>(k.set r c').bind fun(k:Wk)=>some (es.take m,k.tell (.kill r p))else none
    |_=>none
  else none:=by
 simp only[oldsE,xF]
 try rfl
@[go_sem] theorem app_eq{s x:SV}:appendE P nv dst t s x k=(elemOf P t).bind fun e=>(zeroOf P e).bind fun z=>(newsE nv x k).bind fun q=>
  if 0<P.cellsOf e∧uniform (P.cellsOf e) q.1=true∧z.nc=P.cellsOf e then
   (oldsE (P.cellsOf e) q.1 (trv q.2.tr s) q.2).bind fun o=>
    if(o.1.length+q.1.length) * P.bytesOf e≤140737488355328∧o.1.length+q.1.length≤9223372036854775807 then
     some (.bor (.l dst 0) [] 0 (o.1.length+q.1.length),o.2.new dst 0 (.own (o.1++q.1)))
    else none
  else none:=by
 simp only[appendE,xP]
@[go_sem] theorem absorbF_eq{v:SV}:absorbF nv v k=(absorb nv v k).bind fun p=>some (p.1.fresh,p.2):=by
 simp only[absorbF,xF];rfl
attribute [go_sem] T.fresh T.fresh1 List.any_cons List.any_nil
def stoAt(P:Program)(t:TypeId)(a:SV)(x:T)(k:Wk):Option Wk:=
 match a with
 | .loc r p i off=>
  if x.nc=P.cellsOf t∧0<x.nc then
   (k.get r).bind fun c=>(c.at p).bind fun nd=>
    match nd with
    | .own es=>(es[i]?).bind fun e=>
     if off+x.nc≤e.nc then
      (c.put p (.own (es.set i (if off=0∧x.nc=e.nc then x else e.setCells off x.cells)))).bind fun c'=>
       (k.set r c').bind fun(k:Wk)=>some (if isOwn e=true then k.tell (.killN r (p.length+1))else k)
     else none
    |_=>none
  else none
 |_=>none
@[go_sem] theorem store_eq{a v:SV}:storeE P nv t a v k=(absorbF nv v k).bind fun q=>stoAt P t (asLoc (trv q.2.tr a)) q.1 q.2:=by
 simp only[storeE,xF]
 try rfl
@[go_sem] theorem asLoc_loc{r:Root}{p:Path}{i o:Nat}:asLoc (.loc r p i o)=.loc r p i o:=rfl
@[go_sem] theorem asLoc_ptr{o:Nat}:asLoc (.d (.ptr o))=.loc (.o o) [] 0 0:=rfl
@[go_sem] theorem stoAt_loc{r:Root}{p:Path}{i off:Nat}{x:T}:stoAt P t (.loc r p i off) x k=if x.nc=P.cellsOf t∧0<x.nc then
   (k.get r).bind fun c=>(c.at p).bind fun nd=>
    match nd with
    | .own es=>(es[i]?).bind fun e=>
     if off+x.nc≤e.nc then
      (c.put p (.own (es.set i (if off=0∧x.nc=e.nc then x else e.setCells off x.cells)))).bind fun c'=>
       (k.set r c').bind fun(k:Wk)=>some (if isOwn e=true then k.tell (.killN r (p.length+1))else k)
     else none
    |_=>none
  else none:=rfl
@[go_sem] theorem build_eq{parts:List (Nat×SV)}:buildE P t parts=match zeroOf P t with
  |some (.agg z)=>(placesOf P t).bind fun pl=>(fillE pl (z.map .d) parts).bind fun l=>some (SV.mkAgg l)
  |_=>none:=by
 simp only[buildE,xF];rfl
@[go_sem] theorem fillE_nil{pl:Nat ⊕ List (Nat×Nat)}{cs:List SV}:fillE pl cs []=some cs:=rfl
@[go_sem] theorem fillE_cons{pl:Nat ⊕ List (Nat×Nat)}{cs:List SV}{i:Nat}{v:SV}{r:List (Nat×SV)}:fillE pl cs ((i,v)::r)=(placeAt pl i).bind fun q=>if v.solid=true∧v.nc=q.2∧q.1+q.2≤cs.length then fillE pl (cs.take q.1++v.cells++cs.drop (q.1+q.2)) r else none:=rfl
section
variable{r r':Root}{p p':Path}{off i n m:Nat}{l:List D}{a b:Nat×Nat}
@[go_sem] theorem kill_bor:Tr.sv (.kill r' p') (.bor r p off m)=if r=r' then(if p=p' then .dead else if p'.length<p.length then .dead else .bor r p off m)else .bor r p off m:=by simp only[Tr.sv]
@[go_sem] theorem ren_bor:Tr.sv (.ren a b) (.bor r p off m)=if r=.l a.1 a.2 then .bor (.l b.1 b.2) p off m else .bor r p off m:=by simp only[Tr.sv]
@[go_sem] theorem killO_borO{x:Nat}:Tr.sv .killO (.bor (.o x) p off m)=.dead:=by simp only[Tr.sv]
@[go_sem] theorem kill_loc:Tr.sv (.kill r' p') (.loc r p i off)=if r=r' then(if p=p' then .dead else if p'.length<p.length then .dead else .loc r p i off)else .loc r p i off:=by simp only[Tr.sv]
@[go_sem] theorem killN_loc:Tr.sv (.killN r' n) (.loc r p i off)=if r=r'∧n≤p.length then .dead else .loc r p i off:=by simp only[Tr.sv]
@[go_sem] theorem ren_loc:Tr.sv (.ren a b) (.loc r p i off)=if r=.l a.1 a.2 then .loc (.l b.1 b.2) p i off else .loc r p i off:=by simp only[Tr.sv]
@[go_sem] theorem killO_locL{x y:Nat}:Tr.sv .killO (.loc (.l x y) p i off)=.loc (.l x y) p i off:=by simp only[Tr.sv]
@[go_sem] theorem killO_locN{x:Nat}:Tr.sv .killO (.loc (.o x) [] i off)=.loc (.o x) [] i off:=by simp only[Tr.sv]
end
section
variable{call:CallF}{h:Hint}{f:FuncId}{ds:List D}{b:Lend}{ct:List ((Nat×Nat)×T)}{H:List Ob}{tr:List Tr}
@[go_sem] theorem callE_ro:callE call h dst f ds b k=if h.ro.contains dst=true then(mapO (roD k.H 4) ds).bind fun ds'=>callE0 call h dst f (D.lends ds') {sn:=true,lk:=List.range k.H.length++b.lk} k else if h.lkn.contains dst=true∧b.sn=true then callE0 call h dst f ds {b with lk:=b.lk++nonImm k.H} k else callE0 call h dst f ds b k:=rfl
@[go_sem] theorem lockSome_nil:lockSome [] H=H:=rfl
@[go_sem] theorem unlock_nil{H':List Ob}:unlock H [] H'=H':=rfl
@[go_sem] theorem lockSome_cons{n:Nat}{r:List Nat}:lockSome (n::r) H=lockSome r (H.set n .lock):=rfl
@[go_sem] theorem unlock_cons{n:Nat}{r:List Nat}{H':List Ob}:unlock H (n::r) H'=unlock H r (match H[n]? with |some x=>H'.set n x |none=>H'):=rfl
theorem sameObs_self:∀H:List Ob,sameObs H H=true
 | []=>rfl
 | .box c::r=>by simp[sameObs,sameObs_self r]
 | .map _::r=>by simp[sameObs,sameObs_self r]
 | .iter _ _::r=>by simp[sameObs,sameObs_self r]
 | .miter _::r=>by simp[sameObs,sameObs_self r]
 | .frame .. ::r=>by simp[sameObs,sameObs_self r]
 | .lock::r=>by simp[sameObs,sameObs_self r]
 | .row _::r=>by simp[sameObs,sameObs_self r]
@[go_sem] theorem sameObs_n{H':List Ob}:sameObs [] H'=true:=rfl
@[go_sem] theorem sameObs_b{c c':T}{r r':List Ob}:sameObs (.box c::r) (.box c'::r')=(c.nc==c'.nc&&sameObs r r'):=rfl
@[go_sem] theorem sameObs_m{c c':List (D×T)}{r r':List Ob}:sameObs (.map c::r) (.map c'::r')=sameObs r r':=rfl
variable{x y z w:D}
@[go_sem] theorem resE_0:resE dst [] k=some (.tup [],k):=rfl
@[go_sem] theorem resE_1{t:T}:resE dst [t] k=(res1 dst 0 t k).bind fun p=>some (p.1,p.2.2):=by
 simp only[resE,resAll,xF,xX];rfl
@[go_sem] theorem resE_2{t u:T}:resE dst [t,u] k=(res1 dst 0 t k).bind fun p=>(res1 dst p.2.1 u p.2.2).bind fun q=>some (.tup [p.1,q.1],q.2.2):=by
 simp only[resE,resAll,xF,xX];rfl
@[go_sem] theorem resE_3{t u v:T}:resE dst [t,u,v] k=(res1 dst 0 t k).bind fun p=>(res1 dst p.2.1 u p.2.2).bind fun q=>(res1 dst q.2.1 v q.2.2).bind fun r=>some (.tup [p.1,q.1,r.1],r.2.2):=by
 simp only[resE,resAll,xF,xX];rfl
@[go_sem] theorem res1_d{j:Nat}:res1 dst j (.d x) k=some (.d x,j,k):=rfl
@[go_sem] theorem res1_own{j:Nat}{es:List T}:res1 dst j (.own es) k=some (.bor (.l dst j) [] 0 es.length,j+1,k.new dst j (.own es)):=rfl
attribute [go_sem] EM
@[go_sem] theorem sn1_o{n off m:Nat}{p:Path}:snap1 nv (.bor (.o n) p off m) k b=(k.get (.o n)).bind fun c=>(c.at p).bind fun nd=>match nd with
   | .own es=>if EM≤nv∧es.isEmpty=true then some (.sl false [],k,b)else(T.frzs true es).bind fun l=>some (.sl true (win l off m),k,{sn:=true,lk:=n::b.lk})
   |_=>none:=by
 simp only[snap1,xF];rfl
end
@[go_sem] theorem uniform_nil{n:Nat}:uniform n []=true:=rfl
@[go_sem] theorem uniform_cons{n:Nat}{x:T}{l:List T}:uniform n (x::l)=(x.nc==n&&uniform n l):=rfl
attribute [go_sem] trunc plainT placeAt SV.solid SV.nc SV.cells SV.mkAgg T.mkAgg T.setCells T.putCell T.cells T.ofZero T.ofD1 okLen isOwn SV.pures T.pures
end
@[go_sem] theorem index_str{P:Program}{t:TypeId}{k:IntKind}{n:Int}{s:List UInt8}:indexE P t (.d (.str s)) (.d (.int k n))=match P.underlying t with |some .string=>(if 0≤n then(s[n.toNat]?).bind fun b=>some (.d (.int .u8 b.toNat))else none) |_=>none:=by
 simp only[indexE,xF]
 rfl
end Go.Am
namespace Go.Am
open Go
section
variable{α β γ:Type}
theorem bind_ite{c:Prop}[Decidable c]{a b:Option α}{g:α→Option γ}:(if c then a else b).bind g=if c then a.bind g else b.bind g:=by split <;>rfl
theorem bind_map{o:Option α}{f:α→β}{g:β→Option γ}:(o.map f).bind g=o.bind fun x=>g (f x):=by cases o <;>rfl
end
section
variable{P:Program}{call:CallF}{h:Hint}{d:Option Nat}{ty:TypeId}{op:Op}{r:List Lite}{env:List (Nat×SV)}{ct:List ((Nat×Nat)×T)}{H:List Ob}{b:Bool}
@[go_sem high] theorem guardL_boolF:guardL P call h d ty op false r ⟨env,ct,H⟩ (.d (.bool b))=if b=true then runL P call h r (St.fin ⟨env,ct,H⟩ d (.tup []) ⟨ct,H,[]⟩)else(stepE P call h (d.getD 0) ty op (St.val ⟨env,ct,H⟩) ⟨ct,H,[]⟩).bind fun p=>nextL P call h d r ⟨env,ct,H⟩ p.1 p.2:=by
 cases b <;>simp[guardL_bool]
@[go_sem high] theorem guardC_boolF{o:LF}{r:List LF}{c:Cf}{acc:List Fp}:guardC P call h o false r c acc (.d (.bool b))=if b=true then nextC P call h o r c acc false (.tup []) c.1.wk else(stepE P call h (o.d.getD 0) o.ty o.op c.1.val c.1.wk).bind fun p=>nextC P call h o r c acc true p.1 p.2:=by
 cases b <;>simp[guardC_bool]
end
@[reducible] def eI(n:Int):D:=.int .i64 n
@[reducible] def eB(b:Bool):D:=.bool b
@[reducible] def eS(s:List UInt8):D:=.str s
@[reducible] def eK(k:IntKind)(n:Int):D:=.int k n
def tl{α:Type}(f:α→D)(l:List α):List T:=l.map fun x=>.d (f x)
section
variable{α:Type}{f:α→D}{l:List α}{x:α}{b:Bool}
attribute [go_sem] D.imm D.imms D.lend D.lends
theorem imms_map(h:∀x,(f x).imm=true):D.imms (l.map f)=true:=by induction l <;>simp_all [D.imms]
theorem lends_to{g:α→D}(h:∀x,(f x).lend=g x):D.lends (l.map f)=l.map g:=by induction l <;>simp_all [D.lends]
theorem lends_same(h:∀x,(f x).lend=f x):D.lends (l.map f)=l.map f:=lends_to h
theorem lows_map{n:Nat}(h:∀x,(f x).low n=true):D.lows n (l.map f)=true:=by induction l <;>simp_all [D.lows]
@[go_sem] theorem tl_nil:tl f []=[]:=rfl
@[go_sem] theorem tl_len:(tl f l).length=l.length:=by simp[tl]
@[go_sem] theorem tl_get{i:Nat}:(tl f l)[i]? =(l[i]?).map fun x=>.d (f x):=by simp[tl]
@[go_sem] theorem tl_at{i:Nat}(h:i<(tl f l).length):(tl f l)[i]=.d (f (l[i]'(by simpa [tl]using h))):=by simp[tl]
theorem tl_snoc:tl f l++[.d (f x)]=tl f (l++[x]):=by simp[tl]
@[go_sem] theorem tl_take{n:Nat}:(tl f l).take n=tl f (l.take n):=by simp[tl,List.map_take]
@[go_sem] theorem tl_drop{n:Nat}:(tl f l).drop n=tl f (l.drop n):=by simp[tl,List.map_drop]
theorem uniform_tl{n:Nat}(h:∀x,(f x).nc=n):uniform n (tl f l)=true:=by
 induction l with
 |nil=>rfl
 |cons a r ih=>simp only[tl,List.map_cons,uniform_cons]at ih ⊢;rw[ih];simp[T.nc,h]
theorem frzs_tl(h:∀x,(f x).norm=f x):T.frzs b (tl f l)=some (l.map f):=by
 induction l with
 |nil=>rfl
 |cons a r ih=>simp only[tl,List.map_cons,T.frzs,T.frz,h]at ih ⊢;rw[ih];rfl
theorem lowT_tl{n:Nat}(h:∀x,(f x).low n=true):T.lows n (tl f l)=true:=by
 induction l with
 |nil=>rfl
 |cons a r ih=>simp only[tl,List.map_cons,T.lows,T.low,h]at ih ⊢;simpa using ih
@[go_sem high] theorem tlI64_snoc{l:List Int}{n:Int}:tl eI l++[.d (.int .i64 n)]=tl eI (l++[n]):=by simp[tl]
def tlo(f:α→D)(l:List (List α)):List T:=l.map fun r=>.own (tl f r)
section
variable{l:List (List α)}{r:List α}
theorem tlo_rep{n:Nat}:tlo f (List.replicate n [])=List.replicate n (.own []):=by simp[tlo,tl]
end
@[go_sem] theorem cellsSV_nil{r:Root}{p:Path}{i o:Nat}:cellsSV r p i o []=some []:=rfl
@[go_sem] theorem cellsSV_cons{r:Root}{p:Path}{i o:Nat}{t:T}{l:List T}:cellsSV r p i o (t::l)=(cellSV r p i o t).bind fun x=>(cellsSV r p i (o+1) l).bind fun xs=>some (x::xs):=by
 simp only[cellsSV,xF];rfl
attribute [go_sem] sameObs_self T.imms T.imm T.lows T.low D.low D.lows
attribute [go_sem] canon eI eB eS eK bind_ite bind_map xX trunc yE List.getElem?_cons_succ xZ yN List.length_map decide_true decide_false Int.natCast_nonneg xV List.getElem?_map xQ Option.map_none xH win List.take_zero List.drop_zero List.take_succ_cons List.drop_succ_cons
end
end Go.Am
namespace Go.Am
open Go
inductive CL where
 |skip
 |reg (L:List Lite) (ls:List Nat)
 |regD (L:List LF) (ls:List Nat)
 |regP (L:List Lite) (ls:List Nat)
 |seq (a b:CL)
 |cond (o:Operand) (a b:CL)
 |block (id:Nat) (a:CL)
 |loop (k:Nat)
 |exit (id:Nat)
 |ret
def runLP(P:Program)(call:CallF)(h:Hint):List Lite→St→Option (Option D×St)
 | [],s=>some (none,s)
 |o::r,s=>(stepP P call h (o.d.getD 0) o.ty o.op s.val s.wk).bind fun p=>match p.1 with
  |some d=>some (some d,s.fin none .dead p.2.2)
  |none=>runLP P call h r (s.fin o.d p.2.1 p.2.2)
theorem runLP_eq{P:Program}{call:CallF}{h:Hint}{ops:List Oper}:∀(l:List Oper) (s:St),l.all (fun o=>o.guard.isNone)=true→runOpsP P call h ops l s=runLP P call h (l.map (liteOf ops)) s
 | [],s,_=>rfl
 |o::l,s,hg=>by
  simp only[List.all_cons,xA,yJ]at hg
  have hw:wantE ops s o=some true:=by unfold wantE;rw[hg.1]
  simp only[runOpsP,hw,xS,if_true,List.map_cons,runLP]
  have e1:(liteOf ops o).d=o.dst:=rfl
  have e2:(liteOf ops o).ty=o.type:=rfl
  have e3:(liteOf ops o).op=o.op:=rfl
  rw[e1,e2,e3]
  congr 1
  funext p
  obtain⟨t,v,k⟩:=p
  cases t with
  |some d=>rfl
  |none=>exact runLP_eq l _ hg.2
def usOf(h:Hint)(ops:List Oper):List (List Nat):=
 (List.range ops.length).map fun i=>(List.range i).filter fun j=>match ops[i]?,ops[j]?,((befs ops []).getD [])[i]? with
  |some y,some x,some b=> !(b.testBit j)&& !(slotsApart ops x y&& !effOf h (x.dst.getD 0) x.op&& !effOf h (y.dst.getD 0) y.op)
  |_,_,_=>true
def nsOf(us:List (List Nat))(n:Nat):List Bool:=(List.range n).map fun j=>us.any (·.contains j)
def nloops:Code→Nat
 | .seq a b=>nloops a+nloops b
 | .cond _ a b=>nloops a+nloops b
 | .block _ c=>nloops c
 | .scope c=>nloops c
 | .loop c=>nloops c+1
 |_=>0
def loopsC:Code→List Code
 | .seq a b=>loopsC a++loopsC b
 | .cond _ a b=>loopsC a++loopsC b
 | .block _ c=>loopsC c
 | .scope c=>loopsC c
 | .loop c=>loopsC c++[c]
 |_=>[]
theorem nloops_len:∀c,(loopsC c).length=nloops c
 | .seq a b=>by simp[loopsC,nloops,nloops_len a,nloops_len b]
 | .cond _ a b=>by simp[loopsC,nloops,nloops_len a,nloops_len b]
 | .block _ c=>by simp[loopsC,nloops,nloops_len c]
 | .scope c=>by simp[loopsC,nloops,nloops_len c]
 | .loop c=>by simp[loopsC,nloops,nloops_len c]
 | .skip | .region .. | .rangeFunc .. | .exit _ | .label _ | .goto _ | .ret | .refuse _=>rfl
def lpAt(b:Code)(k:Nat):Code:=((loopsC b)[k]?).getD .skip
def comp(h:Hint):Nat→Code→Option (CL×Nat)
 |n,.skip=>some (.skip,n)
 |n,.label _=>some (.skip,n)
 |n,.ret=>some (.ret,n)
 |n,.exit id=>some (.exit id,n)
 |n,.region id ops dr=>
  if(ops.toList.all (guardOk ops.toList)&&(!dr || pureR h ops.toList)&& !h.pan.contains id&&(!dr || (h.swp id).isNone))=true then some (.reg (ops.toList.map (liteOf ops.toList)) (h.live id),n)
  else if regOkD h id (h.live id) (nsOf (usOf h ops.toList) ops.toList.length) (usOf h ops.toList) (.region id ops dr)=true then
   some (.regD (lfs h ops.toList (nsOf (usOf h ops.toList) ops.toList.length) (usOf h ops.toList) ops.toList) (h.live id),n)
  else if(!dr&&h.pan.contains id&&ops.toList.all (fun o=>o.guard.isNone))=true then some (.regP (ops.toList.map (liteOf ops.toList)) (h.live id),n)
  else none
 |n,.seq a b=>(comp h n a).bind fun x=>(comp h x.2 b).bind fun y=>some (.seq x.1 y.1,y.2)
 |n,.cond o a b=>(comp h n a).bind fun x=>(comp h x.2 b).bind fun y=>some (.cond o x.1 y.1,y.2)
 |n,.block id c=>(comp h n c).bind fun x=>some (.block id x.1,x.2)
 |n,.scope c=>comp h n c
 |n,.loop c=>some (.loop (n+nloops c),n+nloops c+1)
 |_,_=>none
def compF(h:Hint)(b:Code):Option CL:=(comp h 0 b).map (·.1)
def compL(h:Hint)(b:Code)(k:Nat):Option CL:=if k<nloops b then(comp h (k - nloops (lpAt b k)) (lpAt b k)).map (·.1)else none
noncomputable def codeC(P:Program)(hints:FuncId→Hint)(h:Hint)(b:Code):CL→St→Option (Ex×St)
 | .skip,s=>some (.normal,s)
 | .ret,s=>some (.ret,s)
 | .exit id,s=>some (.exit id,s)
 | .reg L ls,s=>(runL P (callX P hints) h L s).bind fun s'=>some (.normal,prune ls s')
 | .regD L ls,s=>(runC P (callX P hints) h L (s,hist0 s) []).bind fun s'=>some (.normal,prune ls s')
 | .regP L ls,s=>(runLP P (callX P hints) h L s).bind fun p=>match p.1 with |some d=>some (.pan d,p.2) |none=>some (.normal,prune ls p.2)
 | .seq x y,s=>(codeC P hints h b x s).bind fun r=>match r.1 with | .normal=>codeC P hints h b y r.2 |e=>some (e,r.2)
 | .cond o x y,s=>match s.val o with | .d (.bool t)=>if t=true then codeC P hints h b x s else codeC P hints h b y s |_=>none
 | .block id x,s=>(codeC P hints h b x s).bind fun r=>some (exOut id r.1,r.2)
 | .loop k,s=>codeX P hints h (.loop (lpAt b k)) s
def LpAt(b:Code)(n:Nat)(l:List Code):Prop:=∀i c,l[i]? =some c→lpAt b (n+i)=c
theorem LpAt.left{b:Code}{n:Nat}{l m:List Code}(h:LpAt b n (l++m)):LpAt b n l:=fun i c e=>h i c (by rw[xO (List.getElem?_eq_some_iff.1 e).1];exact e)
theorem LpAt.right{b:Code}{n:Nat}{l m:List Code}(h:LpAt b n (l++m)):LpAt b (n+l.length) m:=fun i c e=>by
 have:=h (l.length+i) c (by rw[xN (Nat.le_add_right _ _)];simpa using e)
 rwa [←Nat.add_assoc]at this
section
variable{P:Program}{hints:FuncId→Hint}{h:Hint}{b:Code}
theorem comp_num:∀(c:Code) {n m:Nat} {q:CL},comp h n c=some (q,m)→m=n+nloops c
 | .skip,n,m,q,e=>by simp only[comp,xJ,pJ]at e;simp[nloops,e.2]
 | .label _,n,m,q,e=>by simp only[comp,xJ,pJ]at e;simp[nloops,e.2]
 | .ret,n,m,q,e=>by simp only[comp,xJ,pJ]at e;simp[nloops,e.2]
 | .exit _,n,m,q,e=>by simp only[comp,xJ,pJ]at e;simp[nloops,e.2]
 | .region _ _ _,n,m,q,e=>by
  simp only[comp]at e
  split at e
  ·simp only[xJ,pJ]at e;simp[nloops,e.2]
  ·split at e
   ·simp only[xJ,pJ]at e;simp[nloops,e.2]
   ·split at e
    ·simp only[xJ,pJ]at e;simp[nloops,e.2]
    ·cases e
 | .seq a c,n,m,q,e=>by
  simp only[comp,xB,xJ,pJ]at e
  obtain⟨⟨x,n1⟩,e1,⟨y,n2⟩,e2,_,rfl⟩:=e
  have:=comp_num a e1;have:=comp_num c e2
  simp only[nloops]at *;omega
 | .cond _ a c,n,m,q,e=>by
  simp only[comp,xB,xJ,pJ]at e
  obtain⟨⟨x,n1⟩,e1,⟨y,n2⟩,e2,_,rfl⟩:=e
  have:=comp_num a e1;have:=comp_num c e2
  simp only[nloops]at *;omega
 | .block _ c,n,m,q,e=>by
  simp only[comp,xB,xJ,pJ]at e
  obtain⟨⟨x,n1⟩,e1,_,rfl⟩:=e
  have:=comp_num c e1
  simp only[nloops]at *;omega
 | .scope c,n,m,q,e=>by simp only[comp]at e;have:=comp_num c e;simp only[nloops]at *;omega
 | .loop c,n,m,q,e=>by simp only[comp,xJ,pJ]at e;simp only[nloops];omega
 | .rangeFunc ..,_,_,_,e=>by simp[comp]at e
 | .goto _,_,_,_,e=>by simp[comp]at e
 | .refuse _,_,_,_,e=>by simp[comp]at e
theorem comp_ok:∀(c:Code) {n m:Nat} {q:CL},comp h n c=some (q,m)→LpAt b n (loopsC c)→∀s,codeX P hints h c s=codeC P hints h b q s
 | .skip,n,m,q,e,_,s=>by simp only[comp,xJ,pJ]at e;obtain⟨rfl,_⟩:=e;exact codeX_skip
 | .label _,n,m,q,e,_,s=>by simp only[comp,xJ,pJ]at e;obtain⟨rfl,_⟩:=e;exact codeX_label
 | .ret,n,m,q,e,_,s=>by simp only[comp,xJ,pJ]at e;obtain⟨rfl,_⟩:=e;exact codeX_ret
 | .exit _,n,m,q,e,_,s=>by simp only[comp,xJ,pJ]at e;obtain⟨rfl,_⟩:=e;exact codeX_exit
 | .region id ops dr,n,m,q,e,_,s=>by
  simp only[comp]at e
  split at e
  ·rename_i hc
   simp only[xJ,pJ]at e
   obtain⟨rfl,_⟩:=e
   exact rg_eq (id:=id) (ls:=h.live id) (by simp only[xA]at hc;simp only[regOk,xA,decide_true,hc.1.1.1,hc.1.1.2,hc.1.2,hc.2,and_self]) rfl s
  ·split at e
   ·rename_i hc
    simp only[xJ,pJ]at e
    obtain⟨rfl,_⟩:=e
    exact rgD_eq hc rfl s
   ·split at e
    ·rename_i hc
     simp only[xJ,pJ]at e
     obtain⟨rfl,_⟩:=e
     simp only[xA,Bool.not_eq_true']at hc
     obtain⟨⟨rfl,hp⟩,hg⟩:=hc
     rw[codeX_regionP hp,runLP_eq _ _ hg,xF]
     show _=(runLP _ _ _ _ _).bind _
     congr 1
     funext p
     obtain⟨t,s'⟩:=p
     cases t <;>rfl
    ·cases e
 | .seq a c,n,m,q,e,hl,s=>by
  simp only[comp,xB,xJ,pJ]at e
  obtain⟨⟨x,n1⟩,e1,⟨y,n2⟩,e2,rfl,rfl⟩:=e
  have h1:=comp_num a e1
  simp only at h1 e2
  subst h1
  simp only[loopsC]at hl
  have hl2:=hl.right
  rw[nloops_len]at hl2
  rw[codeX_seq,comp_ok a e1 hl.left s]
  simp only[codeC]
  congr 1
  funext r
  unfold thenX
  split
  ·rename_i hr;simp only[hr];exact comp_ok c e2 hl2 _
  ·rename_i hr;split
   ·rename_i hr2;exact absurd hr2 hr
   ·rfl
 | .cond o a c,n,m,q,e,hl,s=>by
  simp only[comp,xB,xJ,pJ]at e
  obtain⟨⟨x,n1⟩,e1,⟨y,n2⟩,e2,rfl,rfl⟩:=e
  have h1:=comp_num a e1
  simp only at h1 e2
  subst h1
  simp only[loopsC]at hl
  have hl2:=hl.right
  rw[nloops_len]at hl2
  rw[codeX_cond]
  simp only[codeC,comp_ok a e1 hl.left s,comp_ok c e2 hl2 s]
  generalize s.val o=v
  cases v with
  |d x=>cases x <;>rfl
  |_=>rfl
 | .block id c,n,m,q,e,hl,s=>by
  simp only[comp,xB,xJ,pJ]at e
  obtain⟨⟨x,n1⟩,e1,rfl,rfl⟩:=e
  rw[codeX_block',comp_ok c e1 hl s];rfl
 | .scope c,n,m,q,e,hl,s=>by
  simp only[comp]at e
  rw[codeX_scope];exact comp_ok c e hl s
 | .loop c,n,m,q,e,hl,s=>by
  simp only[comp,xJ,pJ]at e
  obtain⟨rfl,_⟩:=e
  have:=hl.right 0 c rfl
  rw[nloops_len]at this
  simp only[codeC]
  rw[show n+nloops c=n+nloops c+0 from rfl,this]
 | .rangeFunc ..,_,_,_,e,_,_=>by simp[comp]at e
 | .goto _,_,_,_,e,_,_=>by simp[comp]at e
 | .refuse _,_,_,_,e,_,_=>by simp[comp]at e
theorem compF_ok{q:CL}(e:compF h b=some q)(s:St):codeX P hints h b s=codeC P hints h b q s:=by
 simp only[compF,xM]at e
 obtain⟨⟨q',n⟩,e1,rfl⟩:=e
 exact comp_ok b e1 (fun i c hi=>by simp[lpAt,hi]) s
theorem loops_in:∀(b:Code) (k:Nat) (c:Code),(loopsC b)[k]? =some c→nloops c≤k∧∀i x,(loopsC c)[i]? =some x→(loopsC b)[k - nloops c+i]? =some x:=by
 have two:∀(l m:List Code) (h1:∀k c,l[k]? =some c→nloops c≤k∧∀i x,(loopsC c)[i]? =some x→l[k - nloops c+i]? =some x) (h2:∀k c,m[k]? =some c→nloops c≤k∧∀i x,(loopsC c)[i]? =some x→m[k - nloops c+i]? =some x) (k:Nat) (c:Code),(l++m)[k]? =some c→nloops c≤k∧∀i x,(loopsC c)[i]? =some x→(l++m)[k - nloops c+i]? =some x:=by
  intro l m h1 h2 k c e
  by_cases hk:k<l.length
  ·rw[xO hk]at e
   obtain⟨q1,q2⟩:=h1 k c e
   exact⟨q1,fun i x hx=>by
    have:=q2 i x hx
    rw[xO (List.getElem?_eq_some_iff.1 this).1];exact this⟩
  ·rw[xN (by omega)]at e
   obtain⟨q1,q2⟩:=h2 _ c e
   refine⟨by omega,fun i x hx=> ?_⟩
   have:=q2 i x hx
   rw[xN (by omega),←this]
   congr 1;omega
 intro b
 induction b with
 |seq a b iha ihb=>exact fun k c e=>two _ _ iha ihb k c e
 |cond o a b iha ihb=>exact fun k c e=>two _ _ iha ihb k c e
 |block id c ih=>exact ih
 |scope c ih=>exact ih
 |loop c ih=>
  intro k x e
  simp only[loopsC]at e ⊢
  by_cases hk:k<(loopsC c).length
  ·rw[xO hk]at e
   obtain⟨q1,q2⟩:=ih k x e
   exact⟨q1,fun i y hy=>by
    have:=q2 i y hy
    rw[xO (List.getElem?_eq_some_iff.1 this).1];exact this⟩
  ·rw[xN (by omega)]at e
   have:k - (loopsC c).length=0:=by
    rcases Nat.eq_zero_or_pos (k - (loopsC c).length)with h0 |h0
    ·exact h0
    ·rw[List.getElem?_eq_none (by simp only[List.length_singleton];omega)]at e;cases e
   rw[this]at e
   simp only[yE,xJ]at e
   subst e
   have hl:=nloops_len c
   refine⟨by omega,fun i y hy=> ?_⟩
   have hi:=(List.getElem?_eq_some_iff.1 hy).1
   rw[xO (by omega),←hy]
   congr 1;omega
 |_=>intro k c e;simp[loopsC]at e
theorem compL_ok{k:Nat}{q:CL}(e:compL h b k=some q)(s:St):codeX P hints h (lpAt b k) s=codeC P hints h b q s:=by
 unfold compL at e
 split at e
 ·rename_i hk
  simp only[xM]at e
  obtain⟨⟨q',n⟩,e1,rfl⟩:=e
  refine comp_ok _ e1 (fun i c hi=> ?_) s
  have hk':(loopsC b)[k]? =some (lpAt b k):=by
   rw[←nloops_len]at hk
   simp[lpAt,hk]
  have:=(loops_in b k _ hk').2 i c hi
  show((loopsC b)[k - nloops (lpAt b k)+i]?).getD .skip=c
  rw[this];rfl
 ·cases e
end
end Go.Am
