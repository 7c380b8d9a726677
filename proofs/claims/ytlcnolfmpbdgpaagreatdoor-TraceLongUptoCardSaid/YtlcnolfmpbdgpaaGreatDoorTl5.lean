/- A part of the proof. -/
import Derived.Test.YtlcnolfmpbdgpaaGreatDoorTl4
set_option linter.unusedSimpArgs false
set_option linter.unusedVariables false
namespace Go.Am
open Go
section
variable{P:Program}{hints:FuncId→Hint}{call:ak}{h:Hint}
def FC(id:Nat)(e:Ex):Ex:=e.block id
theorem rm{id:Nat}{a:Code}{s:St}:aY P hints h (.block id a) s=(aY P hints h a s).bind fun r=>some (FC id r.1,r.2):=by
 rw[C3,xF];rfl
noncomputable def agf(P:Program)(hints:FuncId→Hint)(h:Hint)(v:SV)(a b:Code)(s:St):Option (Ex×St):=match v with | .d (.bool t)=>if t then aY P hints h a s else aY P hints h b s |_=>none
def rq(P:Program)(call:ak)(h:Hint)(d:Option Nat)(ty:TypeId)(op:Op)(s:St):Option St:=(am P call h (d.getD 0) ty op s.val s.wk).bind fun p=>some (s.fin d p.1 p.2)
theorem ul{ops:List Oper}{d:Option Nat}{op:Op}{ty:TypeId}{pos:String}{after:Array Edge}{s:St}:ij P call h ops {dst:=d,op:=op,type:=ty,pos:=pos,after:=after,guard:=none} s=rq P call h d ty op s:=by
 show(am P call h (d.getD 0) ty op s.val s.wk).map _=_
 rw[xF];rfl
def stepG(P:Program)(call:ak)(h:Hint)(d:Option Nat)(ty:TypeId)(op:Op)(want:Bool)(g:SV)(s:St):Option St:=
 match g with
 | .d (.bool b)=>if b=want then rq P call h d ty op s else some (s.fin d (.tup []) s.wk)
 | .tup []=>some (s.fin d (.tup []) s.wk)
 |_=>none
theorem xo{d:Option Nat}{ty:TypeId}{op:Op}{want b:Bool}{s:St}:stepG P call h d ty op want (.d (.bool b)) s=if b=want then rq P call h d ty op s else some (s.fin d (.tup []) s.wk):=rfl
def Aa(ops:List Oper)(j:Nat):Nat:=((ops[j]?).bind (·.dst)).getD 0
theorem C4{ops:List Oper}{d:Option Nat}{op:Op}{ty:TypeId}{pos:String}{after:Array Edge}{j:Nat}{want:Bool}{s:St}(hj:((ops[j]?).bind (·.dst)).isSome=true):
  ij P call h ops {dst:=d,op:=op,type:=ty,pos:=pos,after:=after,guard:=some (j,want)} s=stepG P call h d ty op want (s.get (Aa ops j)) s:=by
 obtain⟨t,ht⟩:=Option.isSome_iff_exists.1 hj;have hg:Aa ops j=t:=by simp[Aa,ht]
 rw[hg];simp only[ij,dK,ht];generalize s.get t=g
 have hp:∀b:Bool,((some b).bind fun w=>if w=true then(am P call h (d.getD 0) ty op s.val s.wk).map fun p=>s.fin d p.1 p.2 else some (s.fin d (.tup []) s.wk))=if b=true then rq P call h d ty op s else some (s.fin d (.tup []) s.wk):=fun b=>by
  cases b
  ·rfl
  ·simp only[xS,if_true,rq];rw[xF];rfl
 cases g with
 |d x=>
  cases x with
  |bool b=>
   refine(hp (b==want)).trans ?_
   cases b <;>cases want <;>rfl
  |_=>rfl
 |tup l=>
  cases l with
  |nil=>exact hp false
  |cons _ _=>rfl
 |_=>rfl
theorem AW{s:St}{t:Nat}:s.val (.tmp t)=s.get t:=rfl
theorem Nc{s:St}{k:IntKind}{n:Int}:s.val (.const (.int k n))=.d (.int k n):=rfl
theorem Jo{s:St}{b:Bool}:s.val (.const (.bool b))=.d (.bool b):=rfl
theorem Jp{s:St}:s.val (.const (.slice none 0 0))=.d .nils:=rfl
theorem Jq{s:St}:s.val (.const (.map none))=.d .nilm:=rfl
theorem Jr{s:St}:s.val (.const .nilIface)=.d .nili:=rfl
theorem Js{s:St}{f:FuncId}:s.val (.func f)=.d (.fn (.func f) [] []):=rfl
theorem RY{env:List (Nat×SV)}{ct:List ((Nat×Nat)×T)}{H:List Ob}{t:Nat}:St.get ⟨env,ct,H⟩ t=(look env t).getD .dead:=rfl
theorem Jt{t:Nat}:look ([]:List (Nat×SV)) t=none:=rfl
theorem He{k t:Nat}{v:SV}{r:List (Nat×SV)}:look ((k,v)::r) t=if k=t then some v else look r t:=rfl
theorem Es{a b c d:Nat}{v:T}{r:List ((Nat×Nat)×T)}:aZ (((a,b),v)::r) (c,d)=if a=c∧b=d then some v else aZ r (c,d):=by
 simp only[aZ,pJ]
theorem Wx{env:List (Nat×SV)}{ct:List ((Nat×Nat)×T)}{H:List Ob}:St.wk ⟨env,ct,H⟩=⟨ct,H,[]⟩:=rfl
theorem Ju{env:List (Nat×SV)}{ct ct':List ((Nat×Nat)×T)}{H H':List Ob}{d:Nat}{v:SV}{tr:List Tr}:St.fin ⟨env,ct,H⟩ (some d) v ⟨ct',H',tr⟩=⟨(d,v)::trs tr env,ct',H'⟩:=rfl
theorem Jv{env:List (Nat×SV)}{ct ct':List ((Nat×Nat)×T)}{H H':List Ob}{v:SV}{tr:List Tr}:St.fin ⟨env,ct,H⟩ none v ⟨ct',H',tr⟩=⟨trs tr env,ct',H'⟩:=rfl
theorem Nd{env:List (Nat×SV)}:trs [] env=env:=rfl
theorem Jw{x:Tr}{r:List Tr}{env:List (Nat×SV)}:trs (x::r) env=trs r (x.env env):=rfl
theorem Hf{x:Tr}:x.env []=[]:=rfl
theorem Et{x:Tr}{t:Nat}{v:SV}{r:List (Nat×SV)}:x.env ((t,v)::r)=(t,x.sv v)::x.env r:=rfl
theorem adT{x:Tr}{y:D}:x.sv (.d y)=.d y:=by cases x <;>rfl
theorem Wy{x:Tr}{b:Bool}{y:List D}:x.sv (.rp b y)=.rp b y:=by cases x <;>rfl
theorem Nf{x:Tr}:x.sv .dead=.dead:=by cases x <;>rfl
theorem RZ{x:Tr}{l:List SV}:x.sv (.agg l)=.agg (l.map x.sv):=by
 have:∀l,Tr.svs x l=l.map x.sv:=fun l=>by induction l with |nil=>rfl |cons a r ih=>simp[Tr.svs,ih]
 rw[←this];cases x <;>rfl
theorem R0{x:Tr}{l:List SV}:x.sv (.tup l)=.tup (l.map x.sv):=by
 have:∀l,Tr.svs x l=l.map x.sv:=fun l=>by induction l with |nil=>rfl |cons a r ih=>simp[Tr.svs,ih]
 rw[←this];cases x <;>rfl
theorem Ng{v:SV}:trv [] v=v:=rfl
theorem Jx{x:Tr}{r:List Tr}{v:SV}:trv (x::r) v=trv r (x.sv v):=rfl
def oO(s:St):List Nat→List (Nat×SV)
 | []=>[]
 |t::r=>(t,s.get t)::oO s r
theorem Jy{live:List Nat}{s:St}:prune live s=⟨oO s live,pick s.ct (fu (SV.rootss ((oO s live).map (·.2)))),s.H⟩:=by
 have:∀l:List Nat,(l.map fun t=>(t,s.get t))=oO s l:=fun l=>by induction l with |nil=>rfl |cons a r ih=>simp[oO,ih]
 simp only[prune,this]
theorem Jz{live:List Nat}{env:List (Nat×SV)}{ct:List ((Nat×Nat)×T)}{H:List Ob}:prune live ⟨env,ct,H⟩=⟨oO ⟨env,ct,H⟩ live,pick ct (fu (SV.rootss ((oO ⟨env,ct,H⟩ live).map (·.2)))),H⟩:=Jy
theorem Hg{s:St}:oO s []=[]:=rfl
theorem Eu{s:St}{t:Nat}{r:List Nat}:oO s (t::r)=(t,s.get t)::oO s r:=rfl
theorem JA{ds:List D}{H:List Ob}:enter ds H=⟨(ds.zipIdx).map fun p=>(p.2,.d p.1),[],H⟩:=rfl
section
variable{dst:Nat}{ty:TypeId}{ρ:Operand→SV}{k:Wk}
theorem Nh{x:Operand}:am P call h dst ty (.move x) ρ k=some (ρ x,k):=rfl
theorem Hh{x:Operand}:am P call h dst ty (.assign x) ρ k=bm dst (elemOf P ty).isSome (ρ x) k:=rfl
theorem Nj{c a b:Operand}:am P call h dst ty (.pick c a b) ρ k=match ρ c with | .d (.bool t)=>some (if t=true then ρ a else ρ b,k) |_=>none:=rfl
theorem JB{e:TypeId}:am P call h dst ty (.alloc e) ρ k=(aO P e).bind fun z=>wb h dst (T.ofZero z) k:=rfl
theorem R4{e:TypeId}{x:Operand}:am P call h dst ty (.box e x) ρ k=(dB h.nv (ρ x) k).bind fun p=>if p.1.nc=P.cellsOf e then wb h dst p.1 p.2 else none:=rfl
theorem JC{t:TypeId}{ps:Array (Nat×Operand)}:am P call h dst ty (.build t ps) ρ k=(sj P t (ps.toList.map fun p=>(p.1,ρ p.2))).bind fun v=>some (v,k):=by
 show Option.map _ _=_;rw[xF];rfl
theorem y9{t:TypeId}{n:Nat}{ps:Array (Nat×Operand)}:am P call h dst ty (.buildSlice t n ps) ρ k=bN P h.nv dst (h.lits.contains dst) t n (ps.toList.map fun p=>(p.1,ρ p.2)) k:=rfl
theorem Nk{t:TypeId}{x:Nat}:am P call h dst ty (.load t (.tmp x)) ρ k=if h.lits.contains dst=true then(dW P t (ρ (.tmp x)) k).bind fun v=>ow dst v k else(dW P t (ρ (.tmp x)) k).bind fun v=>some (v,k):=by
 show(if _ then _ else Option.map _ _)=_;rw[xF];rfl
theorem JD{l:List D}:DS (.agg l)=true:=rfl
theorem JE{t:TypeId}{g:Nat}:am P call h dst ty (.load t (.global g)) ρ k=(h.gl g).bind fun x=>if DS x=true then(dW P t (.rp true x.cells) k).bind fun v=>some (v,k)else none:=by
 show(h.gl g).bind (fun x=>if DS x=true then Option.map _ _ else none)=_;simp only[xF];rfl
theorem JF{t:TypeId}{a x:Operand}:am P call h dst ty (.store t a x) ρ k=(gB P h.nv t (ρ a) (ρ x) k).bind fun k=>some (.dead,k):=by
 show Option.map _ _=_;rw[xF];rfl
theorem JG{op:BinOp}{t t':TypeId}{x y:Operand}:am P call h dst ty (.binOp op t x y t') ρ k=(cE P (isConst x || isConst y) op t (ρ x) (ρ y)).bind fun y=>some (.d y,k):=by
 show Option.map _ _=_;rw[xF];rfl
theorem Nl{op:UnOp}{t:TypeId}{x:Operand}:am P call h dst ty (.unOp op t x) ρ k=(unE op (ρ x)).bind fun y=>some (.d y,k):=by
 show Option.map _ _=_;rw[xF];rfl
theorem Ev{s t:TypeId}{x:Operand}:am P call h dst ty (.convert s t x) ρ k=(tE P s t (ρ x)).bind fun y=>some (.d y,k):=by
 show Option.map _ _=_;rw[xF];rfl
theorem C5{f:Fn}{a c:Array Operand}:am P call h dst ty (.makeFunc f a c) ρ k=(SV.pures (a.toList.map ρ)).bind fun a=>(SV.pures (c.toList.map ρ)).bind fun c=>some (.d (.fn f a c),k):=by
 show Option.bind _ _=_;simp only[xF];rfl
theorem Ew{t:TypeId}:am P call h dst ty (.makeMap t none) ρ k=some (.d (.map k.H.length),{k with H:=k.H++[if h.lits.contains dst=true then .sset []else .map []]}):=rfl
theorem AX{t:TypeId}{l c:Operand}:am P call h dst ty (.makeSlice t l c) ρ k=v7 P dst t (ρ l) (ρ c) k:=rfl
theorem JH{t:TypeId}{x:Operand}{lo hi mx:Option Operand}:am P call h dst ty (.slice t x lo hi mx) ρ k=(fw P t (ρ x) (lo.map ρ) (hi.map ρ) (mx.map ρ) k).bind fun v=>some (v,k):=by
 show Option.map _ _=_;rw[xF];rfl
theorem AY{t:TypeId}{x:Operand}{f:Nat}:am P call h dst ty (.fieldAddr t x f) ρ k=(cz P t (ρ x) f k).bind fun v=>some (v,k):=by
 show Option.map _ _=_;rw[xF];rfl
theorem JI{t:TypeId}{x:Operand}{f:Nat}:am P call h dst ty (.field t x f) ρ k=(vY P t (ρ x) f).bind fun v=>some (v,k):=by
 show Option.map _ _=_;rw[xF];rfl
theorem AZ{t:TypeId}{x i:Operand}:am P call h dst ty (.indexAddr t x i) ρ k=(cy P t (ρ x) (ρ i) k).bind fun v=>some (v,k):=by
 show Option.map _ _=_;rw[xF];rfl
theorem JJ{t:TypeId}{x i:Operand}:am P call h dst ty (.index t x i) ρ k=(me P t (ρ x) (ρ i)).bind fun v=>some (v,k):=by
 show Option.map _ _=_;rw[xF];rfl
theorem Hj{t:TypeId}{m key:Operand}{ok:Bool}:am P call h dst ty (.lookup t m key ok) ρ k=if h.lits.contains dst=true then(if ok=true then none else v8 P dst t (ρ m) (ρ key) k)else if h.objs.contains dst=true then(if ok=true then none else ig P t (ρ m) (ρ key) k)else(gO P t (ρ m) (ρ key) ok k.H).bind fun v=>some (v,k):=by
 show(if _ then _ else if _ then _ else Option.map _ _)=_;rw[xF];rfl
theorem A3{t:TypeId}{m key x:Operand}:am P call h dst ty (.mapUpdate t m key x) ρ k=(cD P h.nv t (ρ m) (ρ key) (ρ x) k).bind fun k=>some (.dead,k):=by
 show Option.map _ _=_;rw[xF];rfl
theorem Hk{t:TypeId}{m key x:Operand}:am P call h dst ty (.insert t m key x) ρ k=(cD P h.nv t (ρ m) (ρ key) (ρ x) k).bind fun k=>some (.dead,k):=by
 show Option.map _ _=_;rw[xF];rfl
theorem C6{x:Operand}:am P call h dst ty (.nilCheck x) ρ k=match ρ x with | .loc r p i o=>some (.loc r p i o,k) | .rp b cs=>some (.rp b cs,k) | .d (.ptr o)=>some (.d (.ptr o),k) | .d (.rptr cs)=>some (.d (.rptr cs),k) | .d (.fn (.func f) a c)=>some (.d (.fn (.func f) a c),k) |_=>none:=rfl
theorem Ey{x:Operand}{n:Nat}:am P call h dst ty (.extract x n) ρ k=match ρ x with | .tup l=>(l[n]?).bind fun v=>some (v,k) |_=>none:=by
 show(match ρ x with | .tup l=>(l[n]?).map (·,k) |_=>none)=_
 cases ρ x <;>simp only[xF] <;>rfl
def Ab(P:Program)(call:ak)(h:Hint)(dst:Nat)(f:SV)(xs:List SV)(k:Wk):Option (SV×Wk):=
 match f with
 | .d (.fn (.func g) first cap)=>if YB≤g then none else match ii P g with
  |some nm=>(SV.pures xs).bind fun ds=>(AB nm (first++ds++cap)).map fun y=>(.d y,k)
  |none=>(dp (h.nvAt dst) xs k {}).bind fun(ds,k,b)=>(cF call h dst g (canon b.sn (first++ds++cap)) b k).bind eH
 | .d (.yld o)=>(dp (h.nvAt dst) xs k {}).bind fun(ds,k,b)=>(cF call h dst (YB+o) (canon b.sn ds) b k).bind eH
 |_=>none
theorem Nn{f:Operand}{args:Array Operand}{ats:Array TypeId}:am P call h dst ty (.call {callee:=.value f,args:=args,argTypes:=ats}) ρ k=Ab P call h dst (ρ f) (args.toList.map ρ) k:=by
 unfold Ab
 show(match ρ f with | .d (.fn (.func g) first cap)=>_ | .d (.yld o)=>_ |_=>none)=_
 rfl
theorem JK{g:FuncId}{first cap:List D}{xs:List SV}(hg:g<1099511627776)(hx:ii P g=none):Ab P call h dst (.d (.fn (.func g) first cap)) xs k=(dp (h.nvAt dst) xs k {}).bind fun p=>(cF call h dst g (canon p.2.2.sn (first++p.1++cap)) p.2.2 p.2.1).bind eH:=by
 unfold Ab;simp only[if_neg (show¬YB≤g from Nat.not_le.2 hg),hx]
theorem Hl{g:FuncId}{first cap:List D}{xs:List SV}{nm:String}(hg:g<1099511627776)(hx:ii P g=some nm):Ab P call h dst (.d (.fn (.func g) first cap)) xs k=(SV.pures xs).bind fun ds=>(AB nm (first++ds++cap)).bind fun y=>some (.d y,k):=by
 unfold Ab;simp only[if_neg (show¬YB≤g from Nat.not_le.2 hg),hx,xF]
 rfl
theorem xp{g:FuncId}{fn:Func}{nm:String}(hf:P.funcs[g]? =some fn)(hb:fn.body.isNone=true)(ho:fn.origin= "")(hn:fn.name=nm):ii P g=some nm:=by
 unfold ii;rw[hf];simp only[hb,ho,hn,true_and,if_true]
theorem Ez{s:List UInt8}{c:Int}:AB "internal/bytealg.IndexByteString" [.str s,.int .u8 c]=some (.i (Lib.indexByte s c.toNat.toUInt8)):=rfl
theorem EA{s:List UInt8}{c:Int}:AB "internal/bytealg.CountString" [.str s,.int .u8 c]=some (.i (Lib.countByte s c.toNat.toUInt8)):=rfl
theorem JL(he:h.emp=[]):h.nvAt dst=h.nv:=by simp[Hint.nvAt,he]
theorem JM{v:SV}:eH (v,k)=if v.isPan=true then none else some (v,k):=rfl
theorem No{x:D}:(SV.d x).isPan=false:=rfl
theorem Hm{r:Root}{p:aE}{o l:Nat}:(SV.bor r p o l).isPan=false:=rfl
theorem JN:(SV.tup []).isPan=false:=rfl
theorem JO{a:SV}{x:D}:(SV.tup [a,.d x]).isPan=false:=by cases a <;>rfl
theorem JP{a b c:SV}{l:List SV}:(SV.tup (a::b::c::l)).isPan=false:=by
 unfold SV.isPan;split
 ·rename_i e;simp at e
 ·rfl
theorem JQ:aQ []=false:=rfl
theorem JR{a:T}:aQ [a]=false:=by cases a <;>rfl
theorem Hn{a:T}{x:D}:aQ [a,.d x]=false:=by cases a <;>rfl
theorem JS{a b c:T}{l:List T}:aQ (a::b::c::l)=false:=by
 unfold aQ;split
 ·rename_i e;simp at e
 ·rfl
theorem R5{args:Array Operand}{ats:Array TypeId}:am P call h dst ty (.call {callee:=.builtin .len,args:=args,argTypes:=ats}) ρ k=match args.toList,ats.toList with | [x],[t]=>(vZ P t k.H (ρ x)).bind fun n=>some (.d (.int .i64 n),k) |_,_=>none:=by
 show(match args.toList,ats.toList with | [x],[t]=>(vZ P t k.H (ρ x)).map fun n=>(SV.d (.int .i64 n),k) |_,_=>none)=_
 simp only[xF];rfl
theorem R6{args:Array Operand}{ats:Array TypeId}:am P call h dst ty (.call {callee:=.builtin .min,args:=args,argTypes:=ats}) ρ k=match args.toList with | [x,y]=>(Gm (ρ x) (ρ y)).bind fun n=>some (.d n,k) |_=>none:=by
 show(match args.toList with | [x,y]=>(Gm (ρ x) (ρ y)).map fun n=>(SV.d n,k) |_=>none)=_
 simp only[xF];rfl
theorem R7{args:Array Operand}{ats:Array TypeId}:am P call h dst ty (.call {callee:=.builtin .max,args:=args,argTypes:=ats}) ρ k=match args.toList with | [x,y]=>(Gn (ρ x) (ρ y)).bind fun n=>some (.d n,k) |_=>none:=by
 show(match args.toList with | [x,y]=>(Gn (ρ x) (ρ y)).map fun n=>(SV.d n,k) |_=>none)=_
 simp only[xF];rfl
theorem Ho{args:Array Operand}{ats:Array TypeId}:am P call h dst ty (.call {callee:=.builtin .append,args:=args,argTypes:=ats}) ρ k=match args.toList,ats.toList with | [x,y],[t,u]=>if t=u then eo P h.nv dst t (ρ x) (ρ y) k else none |_,_=>none:=rfl
end
end
def jo(P:Program)(own:Bool)(rs:List ResultVar)(n0:Nat)(r:Ex×St):Option (List T×List Ob):=
 match r.1 with
 | .exit _=>none
 | .pan d=>some ([.d d,.agg []],ik n0 [.d d] r.2.H)
 |_=>(ep P r.2 rs).bind fun vs=>(gP vs r.2.wk).bind fun p=>(settle own p.1).bind fun ts=>if aQ ts=true then none else some (ts,ik n0 ts p.2.H)
theorem Ac{P:Program}{own:Bool}{fn:Func}{n0:Nat}:cJ P own fn n0=jo P own fn.results.toList n0:=by
 funext ⟨ex,s⟩;unfold cJ jo
 cases ex <;>rfl
theorem EB{P:Program}{own:Bool}{rs:List ResultVar}{n0:Nat}{s:St}:jo P own rs n0 (.ret,s)=(ep P s rs).bind fun vs=>(gP vs s.wk).bind fun p=>(settle own p.1).bind fun ts=>if aQ ts=true then none else some (ts,ik n0 ts p.2.H):=rfl
theorem C7{P:Program}{s:St}:ep P s []=some []:=rfl
theorem A5{P:Program}{s:St}{r:ResultVar}{rs:List ResultVar}:ep P s (r::rs)=(wg P s r).bind fun v=>(ep P s rs).bind fun vs=>some (v::vs):=by
 simp only[ep,xF];rfl
theorem EC{P:Program}{s:St}{t:Nat}:wg P s (.tmp t)=some (s.get t):=rfl
theorem C8{P:Program}{s:St}{t ty:Nat}:wg P s (.cell t ty)=dW P ty (s.get t) s.wk:=rfl
theorem Hp{k:Wk}:gP [] k=some ([],k):=rfl
theorem Hq{v:SV}{k:Wk}:gP [v] k=er [v] k:=rfl
theorem Hr{u v:SV}{r:List SV}{k:Wk}:gP (u::v::r) k=if crossing (u::v::r)=true then AF (u::v::r) k else er (u::v::r) k:=rfl
theorem A6:crossing []=false:=rfl
theorem za{u:SV}{r:List SV}:crossing (u::r)=(r.any (nY u) || crossing r):=rfl
theorem C9{r q:Root}{p s:aE}{o l o' l':Nat}:nY (.bor r p o l) (.bor q s o' l')=(decide (r=q)&&decide (p.length<s.length)):=rfl
theorem ED{u v:SV}(h:v.bp=none):nY u v=false:=by unfold nY;rw[h];cases u.bp <;>rfl
theorem EE{u:SV}{x:D}:nY u (.d x)=false:=ED rfl
theorem Da{k:Wk}:er [] k=some ([],k):=rfl
theorem A7{v:SV}{r:List SV}{k:Wk}:er (v::r) k=(bD 0 v k).bind fun p=>(er r p.2).bind fun q=>some (p.1::q.1,q.2):=by
 simp only[er,xF];rfl
theorem EF{ts:List T}:settle true ts=some (ts.map T.fresh):=rfl
theorem EG{ts:List T}:settle false ts=(T.frzs false ts).bind fun xs=>some ((canon false xs).map T.d):=by
 simp only[settle,xF];rfl
theorem JT{b:Bool}:T.frzs b []=some []:=rfl
theorem Ht{b:Bool}{t:T}{r:List T}:T.frzs b (t::r)=(T.frz b t).bind fun x=>(T.frzs b r).bind fun xs=>some (x::xs):=by
 simp only[T.frzs,xF];rfl
theorem Wz{b:Bool}{x:D}:T.frz b (.d x)=some x.norm:=by simp only[T.frz]
theorem Np{b:Bool}{es:List T}:T.frz b (.own es)=(T.frzs b es).bind fun xs=>some (.sl b xs):=by simp only[T.frz,xF];rfl
theorem Db{P:Program}{hints:FuncId→Hint}{f:FuncId}{ds:List D}{H:List Ob}{fn:Func}{c:Code}{rs:List ResultVar}(hy:f<1099511627776)(hrc:(hints f).rcv=false)(hxt:(hints f).ext=none)(hf:P.funcs[f]? =some fn)(hb:fn.body=some c)(hl:ds.length=fn.params.size+fn.nfree)(hk:aD fn.ntmps c=true)(hn:(fn.name== "runtime.NumGoroutine")=false)(hr:fn.results.toList=rs)(hx:(decide ((hints f).nilt≠0)&&cK ds)=false):
  aX P hints f ds H=(aY P hints (hints f) c (enter ds H)).bind (jo P (hints f).own rs H.length):=by
 rw[Jn (Nat.not_le.2 hy) hrc hxt hf hb hl hk hn hx,Ac,hr]
attribute [go_sem] zZ rm xk zX xl uj uk ul AW Nc Jo Jp Jq Jr Js RY Jt He Es Wx Ju Jv Nd Jw Hf Et adT Wy Nf RZ R0 Ng Jx Jz Hg Eu Nh Hh Nj JB R4 JC y9 Nk JE JD JF JG Nl Ev C5 Ew AX JH AY JI AZ JJ Hj A3 Hk C6 Ey Nn R5 R6 R7 Ho JK Hl Ez EA JL JM No Hm JN JO JP JQ JR Hn JS
attribute [go_sem] EB C7 A5 EC C8 Hp Hq Hr A6 za C9 EE Da A7 EF EG JT Ht Wz Np rq
attribute [go_sem] xS Option.bind_none Option.getD_some Option.getD_none List.map_cons List.map_nil xQ Option.map_none List.cons_append List.nil_append List.append_nil pJ List.zipIdx_cons List.zipIdx_nil JA
theorem ef{x:Int}(h1:-9223372036854775808≤x)(h2:x≤9223372036854775807):IntKind.i64.wrap x=x:=by
 simp only[IntKind.wrap,IntKind.signed,IntKind.bits];simp;omega
section
variable{P:Program}{dst nv:Nat}{sl:Bool}{k:Wk}
@[go_sem] theorem adU{q:IntKind}{n:Int}:bm dst sl (.d (.int q n)) k=some (.d (.int q n),k):=rfl
@[go_sem] theorem acG{b:Bool}:bm dst sl (.d (.bool b)) k=some (.d (.bool b),k):=rfl
@[go_sem] theorem adV{s:List UInt8}:bm dst sl (.d (.str s)) k=some (.d (.str s),k):=rfl
@[go_sem] theorem agh{b:Bool}{l:List D}:bm dst sl (.d (.sl b l)) k=some (.d (.sl b l),k):=rfl
@[go_sem] theorem acH:bm dst sl (.d .nilm) k=some (.d .nilm,k):=rfl
@[go_sem] theorem adW{o:Nat}:bm dst sl (.d (.map o)) k=some (.d (.map o),k):=rfl
@[go_sem] theorem agi{f:Fn}{a c:List D}:bm dst sl (.d (.fn f a c)) k=some (.d (.fn f a c),k):=rfl
@[go_sem] theorem acI:bm dst sl (.d .nili) k=some (.d .nili,k):=rfl
@[go_sem] theorem acJ:bm dst sl (.d .nils) k=if sl=true then some (.bor (.l dst 0) [] 0 0,k.new dst 0 (.own []))else some (.d .nils,k):=rfl
@[go_sem] theorem adX{n j len:Nat}:bm dst sl (.bor (.l n j) [] 0 len) k=if(n,j)=(dst,0)then some (.bor (.l n j) [] 0 len,k)else(k.get (.l n j)).bind fun c=>match c with
  | .own es=>if len=es.length then some (.bor (.l dst 0) [] 0 len,({k with ct:=((n,j),.dead)::k.ct}.new dst 0 c).tell (.ren (n,j) (dst,0)))else some (.bor (.l n j) [] 0 len,k)
  |_=>none:=rfl
section
variable{c:Bool}{t:TypeId}{q:IntKind}{a b:Int}
@[go_sem] theorem acK:cE P c .add t (.d (.int q a)) (.d (.int q b))=some (.int q (q.wrap (a+b))):=by simp[cE,gf]
@[go_sem] theorem acL:cE P c .sub t (.d (.int q a)) (.d (.int q b))=some (.int q (q.wrap (a - b))):=by simp[cE,gf]
@[go_sem] theorem acM:cE P c .mul t (.d (.int q a)) (.d (.int q b))=some (.int q (q.wrap (a * b))):=by simp[cE,gf]
@[go_sem] theorem acN:cE P c .quo t (.d (.int q a)) (.d (.int q b))=if b=0 then none else some (.int q (q.wrap (a.tdiv b))):=by simp[cE,gf]
@[go_sem] theorem acO:cE P c .rem t (.d (.int q a)) (.d (.int q b))=if b=0 then none else some (.int q (a.tmod b)):=by simp[cE,gf]
@[go_sem] theorem acP:cE P c .eql t (.d (.int q a)) (.d (.int q b))=some (.bool (decide (a=b))):=by simp[cE,gf];rfl
@[go_sem] theorem acQ:cE P c .neq t (.d (.int q a)) (.d (.int q b))=some (.bool (decide (a≠b))):=by simp[cE,gf,bne];rfl
@[go_sem] theorem acR:cE P c .lss t (.d (.int q a)) (.d (.int q b))=some (.bool (decide (a<b))):=by simp[cE,gf]
@[go_sem] theorem acS:cE P c .leq t (.d (.int q a)) (.d (.int q b))=some (.bool (decide (a≤b))):=by simp[cE,gf]
@[go_sem] theorem acT:cE P c .gtr t (.d (.int q a)) (.d (.int q b))=some (.bool (decide (b<a))):=by simp[cE,gf]
@[go_sem] theorem acU:cE P c .geq t (.d (.int q a)) (.d (.int q b))=some (.bool (decide (b≤a))):=by simp[cE,gf]
@[go_sem] theorem WA{x y:Bool}:cE P c .eql t (.d (.bool x)) (.d (.bool y))=match P.underlying t with |some .bool=>some (.bool (decide (x=y))) |_=>none:=by
 simp only[cE,eqV]
 cases P.underlying t with
 |none=>rfl
 |some d=>cases d <;>first |rfl |(cases x <;>cases y <;>rfl)
@[go_sem] theorem WB{x y:Bool}:cE P c .neq t (.d (.bool x)) (.d (.bool y))=match P.underlying t with |some .bool=>some (.bool (decide (x≠y))) |_=>none:=by
 simp only[cE,eqV]
 cases P.underlying t with
 |none=>rfl
 |some d=>cases d <;>first |rfl |(cases x <;>cases y <;>rfl)
@[go_sem] theorem WC{x y:List UInt8}:cE P c .eql t (.d (.str x)) (.d (.str y))=some (.bool (decide (x=y))):=by
 have:(x==y)=decide (x=y):=by rw[Bool.eq_iff_iff];simp
 simp only[cE,zk,this]
@[go_sem] theorem WD{x y:List UInt8}:cE P c .add t (.d (.str x)) (.d (.str y))=if x.length+y.length≤9223372036854775807 then some (.str (x++y))else none:=by
 simp only[cE,zk]
@[go_sem] theorem WE{x y:List UInt8}:cE P c .neq t (.d (.str x)) (.d (.str y))=some (.bool (decide (x≠y))):=by
 have:(!(x==y))=decide (x≠y):=by rw[Bool.eq_iff_iff];simp
 simp only[cE,zk,this]
end
@[go_sem] theorem adY{b:Bool}:unE .not (.d (.bool b))=some (.bool !b):=rfl
@[go_sem] theorem acV{s t:TypeId}{b:Bool}{l:List D}:tE P s t (.d (.sl b l))=match P.underlying s,P.underlying t with |some (.slice e),some .string=>if Gl P e=true then(md l).map .str else none |_,_=>none:=rfl
attribute [go_sem] Gl
@[go_sem] theorem WF{s t:TypeId}{q:IntKind}{n:Int}:tE P s t (.d (.int q n))=match P.underlying s,P.underlying t with |some _,some (.int q)=>some (.int q (q.wrap n)) |some _,some .string=>some (.str (Utf8.encode n).data.toList) |_,_=>none:=rfl
@[go_sem] theorem agj{q r:IntKind}{a b:Int}:Gm (.d (.int q a)) (.d (.int r b))=some (.int q (if b<a then b else a)):=rfl
@[go_sem] theorem agk{q r:IntKind}{a b:Int}:Gn (.d (.int q a)) (.d (.int r b))=some (.int q (if b >a then b else a)):=rfl
@[go_sem] theorem adZ{t:TypeId}{H:List Ob}{b:Bool}{l:List D}:vZ P t H (.d (.sl b l))=match P.underlying t with |some (.slice _)=>some (l.length:Int) |_=>none:=rfl
@[go_sem] theorem acW{t:TypeId}{H:List Ob}{s:List UInt8}:vZ P t H (.d (.str s))=match P.underlying t with |some .string=>some (s.length:Int) |_=>none:=rfl
@[go_sem] theorem acX{t:TypeId}{H:List Ob}{r:Root}{p:aE}{o n:Nat}:vZ P t H (.bor r p o n)=match P.underlying t with |some (.slice _)=>some (n:Int) |_=>none:=rfl
@[go_sem] theorem agl{t:TypeId}{b:Bool}{l:List D}{q:IntKind}{n:Int}:cy P t (.d (.sl b l)) (.d (.int q n)) k=match P.underlying t with |some (.slice e)=>if 0≤n then(l[n.toNat]?).bind fun y=>if y.nc=P.cellsOf e then some (.rp b y.cells)else none else none |_=>none:=by
 simp only[cy]
 cases P.underlying t with
 |none=>rfl
 |some d=>cases d <;>rfl
@[go_sem] theorem ad0{t:TypeId}{r:Root}{p:aE}{o len:Nat}{q:IntKind}{n:Int}:cy P t (.bor r p o len) (.d (.int q n)) k=match P.underlying t with
  |some (.slice e)=>if 0≤n∧n<len then(k.get r).bind fun c=>(c.at p).bind fun nd=>match nd with
   | .own es=>(es[o+n.toNat]?).bind fun y=>if y.nc=P.cellsOf e then some (.loc r p (o+n.toNat) 0)else none
   |_=>none
   else none
  |_=>none:=by
 simp only[cy]
 cases P.underlying t with
 |none=>rfl
 |some d=>cases d <;>rfl
@[go_sem] theorem agm{t:TypeId}{b:Bool}{cs:List D}:dW P t (.rp b cs) k=(jW P t).bind fun ag=>if ag=true then(if P.cellsOf t≤cs.length then some (.d (.agg (cs.take (P.cellsOf t))))else none)else(cs[0]?).bind D.sv1:=rfl
def FD(P:Program)(t:TypeId)(r:Root)(p:aE)(i off:Nat)(e:T):Option SV:=
 (jW P t).bind fun ag=>if ag=true then
   match e with
   | .d (.agg l)=>if off+P.cellsOf t≤l.length then some (.d (.agg (win l off (P.cellsOf t))))else none
   | .agg cs=>if off+P.cellsOf t≤cs.length then(eT r p i off (win cs off (P.cellsOf t))).map SV.mkAgg else none
   |_=>none
  else(e.cell off).bind (dy r p i off)
@[go_sem] theorem ad1{t:TypeId}{r:Root}{p:aE}{i off:Nat}:dW P t (.loc r p i off) k=(k.get r).bind fun c=>(c.at p).bind fun nd=>match nd with | .own es=>(es[i]?).bind (FD P t r p i off) |_=>none:=by
 simp only[dW,asLoc]
 cases k.get r with
 |none=>rfl
 |some c=>
  simp only[xS]
  cases c.at p with
  |none=>rfl
  |some nd=>cases nd <;>rfl
@[go_sem] theorem ad2{t:TypeId}{n:Nat}:dW P t (.d (.ptr n)) k=dW P t (.loc (.o n) [] 0 0) k:=rfl
@[go_sem] theorem acY{t:TypeId}{r:Root}{p:aE}{i off:Nat}{x:D}:FD P t r p i off (.d x)=(jW P t).bind fun ag=>if ag=true then(match x with | .agg l=>if off+P.cellsOf t≤l.length then some (.d (.agg (win l off (P.cellsOf t))))else none |_=>none)else(T.cell (.d x) off).bind (dy r p i off):=by
 simp only[FD];cases x <;>rfl
@[go_sem] theorem UV{t:TypeId}{r:Root}{p:aE}{i off:Nat}{cs:List T}:FD P t r p i off (.agg cs)=(jW P t).bind fun ag=>if ag=true then(if off+P.cellsOf t≤cs.length then(eT r p i off (win cs off (P.cellsOf t))).map SV.mkAgg else none)else(T.cell (.agg cs) off).bind (dy r p i off):=rfl
@[go_sem] theorem WG{l:List T}{o:Nat}:T.cell (.agg l) o=l[o]? :=rfl
@[go_sem] theorem UW{l:List D}{o:Nat}:T.cell (.d (.agg l)) o=(l[o]?).bind fun x=>some (.d x):=by
 show(l[o]?).map _=_;rw[xF];rfl
@[go_sem] theorem WH{q:IntKind}{n:Int}:T.cell (.d (.int q n)) 0=some (.d (.int q n)):=rfl
@[go_sem] theorem acZ{b:Bool}{l:List D}:T.cell (.d (.sl b l)) 0=some (.d (.sl b l)):=rfl
@[go_sem] theorem WI{o:Nat}:T.cell (.d (.ptr o)) 0=some (.d (.ptr o)):=rfl
@[go_sem] theorem agn{r:Root}{p:aE}{i o:Nat}{x:D}:dy r p i o (.d x)=x.sv1:=rfl
@[go_sem] theorem ac0{r:Root}{p:aE}{i o:Nat}{es:List T}:dy r p i o (.own es)=some (.bor r (p++[(i,o)]) 0 es.length):=rfl
@[go_sem] theorem ac3{q:IntKind}{n:Int}:D.sv1 (.int q n)=some (.d (.int q n)):=rfl
@[go_sem] theorem WJ{b:Bool}:D.sv1 (.bool b)=some (.d (.bool b)):=rfl
@[go_sem] theorem ac4{s:List UInt8}:D.sv1 (.str s)=some (.d (.str s)):=rfl
@[go_sem] theorem ad3{b:Bool}{l:List D}:D.sv1 (.sl b l)=some (.d (.sl b l)):=rfl
@[go_sem] theorem ac5{o:Nat}:D.sv1 (.ptr o)=some (.d (.ptr o)):=rfl
@[go_sem] theorem ac6{o:Nat}:D.sv1 (.map o)=some (.d (.map o)):=rfl
@[go_sem] theorem ad4{f:Fn}{a c:List D}:D.sv1 (.fn f a c)=some (.d (.fn f a c)):=rfl
@[go_sem] theorem UX{q:IntKind}{n:Int}:D.cells (.int q n)=[.int q n]:=rfl
@[go_sem] theorem UY{s:List UInt8}:D.cells (.str s)=[.str s]:=rfl
@[go_sem] theorem UZ{l:List D}:D.cells (.agg l)=l:=rfl
@[go_sem] theorem ad5{q:IntKind}{n:Int}:D.nc (.int q n)=1:=rfl
@[go_sem] theorem ad6{s:List UInt8}:D.nc (.str s)=1:=rfl
@[go_sem] theorem ago{b:Bool}{l:List D}:D.nc (.sl b l)=1:=rfl
@[go_sem] theorem ad7{l:List D}:D.nc (.agg l)=l.length:=rfl
@[go_sem] theorem ad8{o:Nat}:D.nc (.ptr o)=1:=rfl
@[go_sem] theorem ad9{o:Nat}:D.nc (.map o)=1:=rfl
@[go_sem] theorem agp{f:Fn}{a c:List D}:D.nc (.fn f a c)=1:=rfl
@[go_sem] theorem agq{x:D}:T.nc (.d x)=x.nc:=rfl
@[go_sem] theorem ac7{l:List T}:T.nc (.own l)=1:=rfl
@[go_sem] theorem ac8{l:List T}:T.nc (.agg l)=l.length:=rfl
@[go_sem] theorem agr{t:TypeId}{b:Bool}{cs:List D}{f:Nat}:cz P t (.rp b cs) f k=(ah P t f).bind fun p=>if 0<p.2.1 then some (.rp b (cs.drop p.1))else none:=rfl
@[go_sem] theorem aea{t:TypeId}{r:Root}{p:aE}{i o f:Nat}:cz P t (.loc r p i o) f k=(ah P t f).bind fun q=>if 0<q.2.1 then(if lM k r p i (o+q.1)=true then some (.loc r p i (o+q.1))else none)else none:=rfl
@[go_sem] theorem aeb{t:TypeId}{n f:Nat}:cz P t (.d (.ptr n)) f k=cz P t (.loc (.o n) [] 0 0) f k:=rfl
@[go_sem] theorem aec{t:TypeId}{l:List D}{f:Nat}:vY P t (.d (.agg l)) f=(ah P t f).bind fun q=>if q.2.2=true then(if q.1+q.2.1≤l.length then some (.d (.agg (win l q.1 q.2.1)))else none)else(l[q.1]?).bind D.sv1:=rfl
@[go_sem] theorem JU{t:T}:t.at []=some t:=by unfold T.at;rfl
@[go_sem] theorem ac9{es:List T}{i o:Nat}{p:aE}:T.at (.own es) ((i,o)::p)=(es[i]?).bind fun e=>(e.cell o).bind fun c=>c.at p:=by simp only[T.at]
@[go_sem] theorem ada{t x:T}:t.put [] x=some x:=by unfold T.put;rfl
@[go_sem] theorem WK{es:List T}{i o:Nat}{p:aE}{x:T}:T.put (.own es) ((i,o)::p) x=(es[i]?).bind fun e=>(e.cell o).bind fun c=>(c.put p x).bind fun c'=>some (.own (es.set i (e.putCell o c'))):=by simp only[T.put,xF];rfl
@[go_sem] theorem ags{ct:List ((Nat×Nat)×T)}{H:List Ob}{tr:List Tr}{n j:Nat}:Wk.get ⟨ct,H,tr⟩ (.l n j)=aZ ct (n,j):=rfl
@[go_sem] theorem agt{ct:List ((Nat×Nat)×T)}{H:List Ob}{tr:List Tr}{n:Nat}:Wk.get ⟨ct,H,tr⟩ (.o n)=match H[n]? with |some (.box c)=>some (.own [c]) |_=>none:=rfl
@[go_sem] theorem agu{ct:List ((Nat×Nat)×T)}{H:List Ob}{tr:List Tr}{n j:Nat}{t:T}:Wk.set ⟨ct,H,tr⟩ (.l n j) t=some ⟨((n,j),t)::ct,H,tr⟩:=rfl
@[go_sem] theorem agv{ct:List ((Nat×Nat)×T)}{H:List Ob}{tr:List Tr}{n:Nat}{c:T}:Wk.set ⟨ct,H,tr⟩ (.o n) (.own [c])=some ⟨ct,H.set n (.box c),tr⟩:=rfl
@[go_sem] theorem adb{ct:List ((Nat×Nat)×T)}{H:List Ob}{tr:List Tr}{x:Tr}:Wk.tell ⟨ct,H,tr⟩ x=⟨ct,H,tr++[x]⟩:=rfl
@[go_sem] theorem aed{ct:List ((Nat×Nat)×T)}{H:List Ob}{tr:List Tr}{n j:Nat}{t:T}:Wk.new ⟨ct,H,tr⟩ n j t=⟨((n,j),t)::ct,H,tr++[.kill (.l n j) []]⟩:=rfl
@[go_sem] theorem aee{h:Hint}{x:T}:wb h dst x k=if x.nc=0 then none else if h.objs.contains dst=true then some (.d (.ptr k.H.length),{k with H:=k.H++[.box x]})else some (.loc (.l dst 0) [] 0 0,k.new dst 0 (.own [x])):=rfl
attribute [go_sem] CB
@[go_sem] theorem WL{r:Root}{p:aE}{i off:Nat}:lM k r p i off=((k.get r).bind fun c=>c.at p).any fun nd=>match nd with | .own es=>(es[i]?).any fun e=>decide (off<e.nc) |_=>false:=by
 unfold lM
 cases(k.get r).bind fun c=>c.at p with
 |none=>rfl
 |some x=>cases x with
  |own es=>simp only[Option.any_some];cases es[i]? <;>rfl
  |_=>rfl
@[go_sem] theorem WM{α β:Type}{o:Option α}{f:α→α→Option β}:(o.bind fun x=>o.bind fun y=>f x y)=o.bind fun x=>f x x:=by cases o <;>rfl
@[go_sem] theorem aef{r:Root}{p:aE}{o len:Nat}:bD nv (.bor r p o len) k=ar nv (trv k.tr (.bor r p o len)) k:=rfl
@[go_sem] theorem aeg{l:List SV}:bD nv (.agg l) k=(cj nv l k).bind fun p=>some (T.mkAgg p.1,p.2):=by show(cj nv l k).map _=_;rw[xF];rfl
@[go_sem] theorem agw{x:D}:ar nv (.d x) k=some (.d x,k):=rfl
@[go_sem] theorem agx{n j o len:Nat}:ar nv (.bor (.l n j) [] o len) k=(k.get (.l n j)).bind fun c=>match c with
  | .own es=>if nv≤n∧o=0∧len=es.length then(k.set (.l n j) .dead).bind fun(k:Wk)=>some (.own es,k.tell (.kill (.l n j) []))
   else(T.frzs false es).bind fun l=>(k.set (.l n j) .dead).bind fun(k:Wk)=>some (.d (.sl false (win l o len)),k.tell (.frz (.l n j) [] l))
  |_=>none:=by
 simp only[ar]
 cases k.get (.l n j)with
 |none=>rfl
 |some c=>
  simp only[xS,JU]
  cases c with
  |own es=>simp only[xF];rfl
  |_=>rfl
@[go_sem] theorem adc:cj nv [] k=some ([],k):=rfl
@[go_sem] theorem WN{v:SV}{r:List SV}:cj nv (v::r) k=(ar nv (trv k.tr v) k).bind fun p=>(cj nv r p.2).bind fun q=>some (p.1::q.1,q.2):=by simp only[cj,xF];rfl
@[go_sem] theorem ade{b:Lend}:dp nv [] k b=some ([],k,b):=rfl
@[go_sem] theorem WO{v:SV}{r:List SV}{b:Lend}:dp nv (v::r) k b=(om nv v k b).bind fun p=>(dp nv r p.2.1 p.2.2).bind fun q=>some (p.1::q.1,q.2.1,q.2.2):=by simp only[dp,xF];rfl
@[go_sem] theorem ahi{x:D}{b:Lend}:om nv (.d x) k b=some (if EM≤nv then x else x.norm,k,b):=by simp only[om,Qi,bH]
@[go_sem] theorem aeh{r:Root}{p:aE}{o len:Nat}{b:Lend}:om nv (.bor r p o len) k b=bH nv (trv k.tr (.bor r p o len)) k b:=rfl
@[go_sem] theorem WP{q:IntKind}{n:Int}:D.norm (.int q n)=.int q n:=rfl
@[go_sem] theorem U0{b:Bool}:D.norm (.bool b)=.bool b:=rfl
@[go_sem] theorem WQ{s:List UInt8}:D.norm (.str s)=.str s:=rfl
@[go_sem] theorem adf{b:Bool}{l:List D}:D.norm (.sl b l)=.sl b l:=rfl
@[go_sem] theorem WR{o:Nat}:D.norm (.ptr o)=.ptr o:=rfl
@[go_sem] theorem WT{o:Nat}:D.norm (.map o)=.map o:=rfl
@[go_sem] theorem adg{f:Fn}{a c:List D}:D.norm (.fn f a c)=.fn f a c:=rfl
@[go_sem] theorem U1{l:List D}:D.norm (.agg l)=.agg (l.map D.norm1):=rfl
@[go_sem] theorem U2{q:IntKind}{n:Int}:D.norm1 (.int q n)=.int q n:=rfl
@[go_sem] theorem R8{b:Bool}:D.norm1 (.bool b)=.bool b:=rfl
@[go_sem] theorem U3{s:List UInt8}:D.norm1 (.str s)=.str s:=rfl
@[go_sem] theorem WU{b:Bool}{l:List D}:D.norm1 (.sl b l)=.sl b l:=rfl
@[go_sem] theorem R9:D.norm1 .nils=.sl false []:=rfl
@[go_sem] theorem WV{f:Fn}{a c:List D}:D.norm1 (.fn f a c)=.fn f a c:=rfl
@[go_sem] theorem U4{ct:List ((Nat×Nat)×T)}{x:Nat×Nat}{r:List (Nat×Nat)}:pick ct (x::r)=match aZ ct x with |some t=>(x,t)::pick ct r |none=>pick ct r:=rfl
@[go_sem] theorem U5{ct:List ((Nat×Nat)×T)}:pick ct []=[]:=rfl
attribute [go_sem] SV.rootss SV.roots fu
end
structure Lite where
 d:Option Nat
 ty:TypeId
 op:Op
 g:Option (Nat×Bool)
def eb(ops:List Oper)(o:Oper):Lite:=⟨o.dst,o.type,o.op,o.guard.map fun p=>(Aa ops p.1,p.2)⟩
def JV(P:Program)(call:ak)(h:Hint)(o:Lite)(s:St):Option St:=
 match o.g with
 |none=>rq P call h o.d o.ty o.op s
 |some (t,want)=>stepG P call h o.d o.ty o.op want (s.get t) s
def kP(P:Program)(call:ak)(h:Hint):List Lite→St→Option St
 | [],s=>some s
 |o::r,s=>(JV P call h o s).bind (kP P call h r)
def fb(ops:List Oper)(o:Oper):Bool:=match o.guard with |none=>true |some (j,_)=>((ops[j]?).bind (·.dst)).isSome
section
variable{P:Program}{hints:FuncId→Hint}{call:ak}{h:Hint}
theorem EH{ops:List Oper}{o:Oper}{s:St}(hg:fb ops o=true):ij P call h ops o s=JV P call h (eb ops o) s:=by
 obtain⟨d,op,ty,pos,after,guard⟩:=o
 cases guard with
 |none=>exact ul
 |some p=>obtain⟨j,want⟩:=p;exact C4 hg
theorem gv{ops:List Oper}:∀(l:List Oper) (s:St),l.all (fb ops)=true→ba P call h ops l s=kP P call h (l.map (eb ops)) s
 | [],s,_=>rfl
 |o::l,s,hg=>by
  simp only[List.all_cons,xA]at hg
  simp only[ba,List.map_cons,kP,EH hg.1];congr 1;funext s';exact gv l s' hg.2
def slotsApart(ops:List Oper)(x y:Oper):Bool:=
 (match x.dst with |some d=> !(looks ops y).contains d&&y.dst !=some d |none=>true)&&
 (match y.dst with |some d=> !(looks ops x).contains d |none=>true)
def FE(ops:List Oper)(b:Nat)(y:Oper):Nat→List Oper→Bool
 |_,[]=>true
 |j,x::r=>(b.testBit j || slotsApart ops x y)&&FE ops b y (j+1) r
def FF(ops:List Oper):Nat→List Nat→List Oper→Bool
 |i,b::bs,y::r=>FE ops b y 0 (ops.take i)&&FF ops (i+1) bs r
 |_,_,_=>true
def pureR(h:Hint)(ops:List Oper):Bool:=ops.all (fun o=> !cW h (o.dst.getD 0) o.op)&&(match we ops []with |some bs=>FF ops 0 bs ops |none=>false)
def kQ(ops:List Oper)(o:Oper)(f:Fp):Prop:=f.sl=looks ops o∧f.dst=o.dst∧f.wr=[]∧f.hw=false∧f.ren=false
theorem um{ops:List Oper}{o:Oper}{c:Cf}(he:cW h (o.dst.getD 0) o.op=false){s':St}(e:ij P call h ops o c.1=some s'):∃c' f,aH P call h ops o c=some (c',f)∧c'.1=s'∧kQ ops o f:=by
 rw[gq]at e
 simp only[xM]at e
 obtain⟨⟨w,v,k⟩,e1,rfl⟩:=e
 refine⟨_,_,eL e1,rfl,rfl,rfl,?_,?_,?_⟩
 ·have:=(gm e1).2 (by simp[he])
  subst this;simp[gh,cm,St.wk]
 ·simp[gh,he]
 ·have:=(gm e1).2 (by simp[he])
  subst this;rfl
theorem ru{ops:List Oper}:∀(l:List Oper) {c:Cf} {s':St},(∀o∈l,cW h (o.dst.getD 0) o.op=false)→ba P call h ops l c.1=some s'→∃c' fs,aC P call h ops l c=some (c',fs)∧c'.1=s'∧All2 (kQ ops) l fs
 | [],c,s',_,e=>by simp only[ba,xJ]at e;exact⟨c,[],rfl,e,rfl⟩
 |o::l,c,s',he,e=>by
  simp only[ba,xB]at e
  obtain⟨s1,e1,e2⟩:=e;obtain⟨c1,f,g1,rfl,g3⟩:=um (he o (by simp)) e1
  obtain⟨c2,fs,q1,q2,q3⟩:=ru l (fun o ho=>he o (by simp[ho])) e2
  exact⟨c2,f::fs,by simp only[aC,g1,xS,q1,xQ],q2,f,fs,rfl,g3,q3⟩
theorem xq{ops:List Oper}{x y:Oper}{f g:Fp}(hf:kQ ops x f)(hg:kQ ops y g)(h:slotsApart ops x y=true):apartFp f g=true:=by
 obtain⟨f1,f2,f3,f4,f5⟩:=hf;obtain⟨g1,g2,g3,g4,g5⟩:=hg
 suffices kx f g=true by simp[apartFp,this]
 simp only[kx,f1,f2,f3,f4,f5,g1,g2,g3,g4,g5];simp only[slotsApart,xA]at h
 cases hx:x.dst <;>cases hy:y.dst <;>simp only[hx,hy]at h ⊢ <;>simp[DT] <;>simpa using h
theorem oP{ops:List Oper}{y:Oper}{b:Nat}{g:Fp}(hg:kQ ops y g):∀(l:List Oper) (fs:List Fp) (j:Nat),All2 (kQ ops) l fs→FE ops b y j l=true→dL b g j fs=true
 | [],fs,j,ha,_=>by rw[show fs=[]from ha];rfl
 |x::l,fs,j,ha,hs=>by
  obtain⟨f,r,rfl,h1,h2⟩:=ha;simp only[FE,xA,Bool.or_eq_true]at hs
  simp only[dL,xA,Bool.or_eq_true]
  exact⟨hs.1.imp id (xq h1 hg),oP hg l r (j+1) h2 hs.2⟩
theorem uq{ops:List Oper}{all:List Fp}(hall:All2 (kQ ops) ops all):∀(l:List Oper) (fs:List Fp) (i:Nat) (bs:List Nat),All2 (kQ ops) l fs→FF ops i bs l=true→ky all i bs fs=true
 | [],fs,i,bs,ha,_=>by rw[show fs=[]from ha];cases bs <;>rfl
 |y::l,fs,i,[],ha,_=>by obtain⟨f,r,rfl,_,_⟩:=ha;rfl
 |y::l,fs,i,b::bs,ha,hs=>by
  obtain⟨f,r,rfl,h1,h2⟩:=ha;simp only[FF,xA]at hs
  simp only[ky,xA]
  exact⟨oP h1 _ _ 0 (All2.take i hall) hs.1,uq hall l r (i+1) bs h2 hs.2⟩
def JW(h:Hint)(id:Nat)(ls:List Nat)(c:Code):Bool:=
 match c with
 | .region i ops dr=>decide (i=id)&&ops.toList.all (fb ops.toList)&&(!dr || pureR h ops.toList)&&decide (h.live id=ls)&& !h.pan.contains id&&(!dr || (h.swp id).isNone)
 |_=>false
def opsL(c:Code):List Lite:=match c with | .region _ ops _=>ops.toList.map (eb ops.toList) |_=>[]
theorem WW{c:Code}{id:Nat}{ls:List Nat}{L:List Lite}(hk:JW h id ls c=true)(hL:opsL c=L)(s:St):aY P hints h c s=(kP P (aX P hints) h L s).bind fun s'=>some (.normal,prune ls s'):=by
 unfold JW at hk
 split at hk
 ·rename_i i ops dr
  simp only[xA,yD,Bool.or_eq_true,Bool.not_eq_true']at hk
  obtain⟨⟨⟨⟨⟨rfl,hg⟩,hd⟩,hl⟩,hpan⟩,hsw⟩:=hk;subst hL
  have text:(aY P hints h (.region i ops false) s)=(kP P (aX P hints) h (ops.toList.map (eb ops.toList)) s).bind fun s'=>some (.normal,prune ls s'):=by
   rw[rl hpan,gv _ _ hg,hl,xF];rfl
  cases dr with
  |false=>exact text
  |true=>
   rcases hd with hd |hd
   ·cases hd
   ·refine Eq.trans ?_ text
    have hsw':h.swp i=none:=by
     rcases hsw with q |q
     ·cases q
     ·simpa using q
    rw[xm hsw',rl hpan,hl];simp only[pureR,xA,List.all_eq_true,Bool.not_eq_true']at hd
    obtain⟨he,hb⟩:=hd
    split at hb
    ·rename_i bs hbs
     refine dd fun r=> ?_
     simp only[xB,xM];constructor
     ·rintro⟨⟨c',fs⟩,e1,e2⟩
      simp only at e2
      split at e2
      ·refine⟨c'.1,?_,by simpa using e2⟩
       have:∀(l:List Oper) (c c':Cf) (fs:List Fp),aC P (aX P hints) h ops.toList l c=some (c',fs)→ba P (aX P hints) h ops.toList l c.1=some c'.1:=by
        intro l
        induction l with
        |nil=>intro c c' fs e;simp only[aC,xJ,pJ]at e;rw[←e.1];rfl
        |cons o l ih=>
         intro c c' fs e;simp only[aC,xB,xM,pJ]at e
         obtain⟨⟨c1,f⟩,e1,⟨c2,fs'⟩,e2,rfl,_⟩:=e;simp only[ba,sK e1,xS];exact ih _ _ _ e2
       exact this _ _ _ _ e1
      ·cases e2
     ·rintro⟨s',e1,rfl⟩
      obtain⟨c',fs,q1,q2,q3⟩:=ru ops.toList (c:=(s,gM s)) he e1
      refine⟨(c',fs),q1,?_⟩
      have hck:mg ops.toList fs=true:=by
       unfold mg;rw[hbs];exact uq q3 _ _ 0 bs q3 hb
      simp only[hck,if_true,q2]
    ·cases hb
 ·cases hk
@[go_sem] theorem WX{s:St}:kP P call h [] s=some s:=rfl
def FG(P:Program)(call:ak)(h:Hint)(d:Option Nat)(r:List Lite)(s:St)(v:SV)(k:Wk):Option St:=kP P call h r (s.fin d v k)
section
variable{d:Option Nat}{ty:TypeId}{op:Op}{r:List Lite}{env:List (Nat×SV)}{ct ct':List ((Nat×Nat)×T)}{H H':List Ob}{tr:List Tr}{v:SV}{s:St}{t:Nat}{want b:Bool}
@[go_sem] theorem EI:kP P call h (⟨d,ty,op,none⟩::r) ⟨env,ct,H⟩=(am P call h (d.getD 0) ty op (St.val ⟨env,ct,H⟩) ⟨ct,H,[]⟩).bind fun p=>FG P call h d r ⟨env,ct,H⟩ p.1 p.2:=by
 simp only[kP,JV,rq,xX,xS];rfl
@[go_sem] theorem WY:FG P call h d r s v ⟨ct',H',tr⟩=kP P call h r (s.fin d v ⟨ct',H',tr⟩):=rfl
def mC(P:Program)(call:ak)(h:Hint)(d:Option Nat)(ty:TypeId)(op:Op)(want:Bool)(r:List Lite)(s:St)(g:SV):Option St:=(stepG P call h d ty op want g s).bind fun s'=>kP P call h r s'
@[go_sem] theorem EJ:kP P call h (⟨d,ty,op,some (t,want)⟩::r) ⟨env,ct,H⟩=mC P call h d ty op want r ⟨env,ct,H⟩ (St.get ⟨env,ct,H⟩ t):=rfl
@[go_sem] theorem mD:mC P call h d ty op want r ⟨env,ct,H⟩ (.d (.bool b))=if b=want then(am P call h (d.getD 0) ty op (St.val ⟨env,ct,H⟩) ⟨ct,H,[]⟩).bind fun p=>FG P call h d r ⟨env,ct,H⟩ p.1 p.2 else kP P call h r (St.fin ⟨env,ct,H⟩ d (.tup []) ⟨ct,H,[]⟩):=by
 by_cases e:b=want
 ·simp only[mC,xo,e,if_true,rq,xX,xS];rfl
 ·simp only[mC,xo,e,if_false,xS];rfl
@[go_sem] theorem Dc:mC P call h d ty op want r ⟨env,ct,H⟩ (.tup [])=kP P call h r (St.fin ⟨env,ct,H⟩ d (.tup []) ⟨ct,H,[]⟩):=rfl
end
end
structure LF where
 d:Option Nat
 g:Option (Nat×Bool)
 ty:TypeId
 op:Op
 lk:List Nat
 u:List Nat
 nd:Bool
 eff:Bool
 rds:Bool
 hr:Bool
 ho:Bool
def A8(h:Hint)(ops:List Oper)(nd:Bool)(u:List Nat)(o:Oper):LF:=
 ⟨o.dst,o.guard.map fun p=>(Aa ops p.1,p.2),o.type,o.op,looks ops o,u,nd,cW h (o.dst.getD 0) o.op,reads o.op,oo h (o.dst.getD 0) o.op,hOf h (o.dst.getD 0) o.op⟩
def fpW(o:LF)(hi:jl)(s:St)(w:Bool)(v:SV)(k:Wk):Fp:=
 {sl:=o.lk,dst:=o.d,rd:=if dz o.op=true then []else o.lk.flatMap (aW hi)++v.srts++(if o.rds=true then o.lk.flatMap fun t=>(s.get t).rts else []),wr:=cm s.wk k++k.tr.flatMap Tr.rts,
  hr:=(w&&o.hr) || (if dz o.op=true then []else o.lk.flatMap (aW hi)++v.srts++(if o.rds=true then o.lk.flatMap fun t=>(s.get t).rts else [])).any Root.isO || (cm s.wk k++k.tr.flatMap Tr.rts).any Root.isO || k.tr.any Tr.isKillO,
  hw:=(w&&o.eff)&&(o.ho || (pK o.op&&(o.lk.flatMap fun t=>(s.get t).rts).any Root.isO) || k.tr.any Tr.isKillO),ren:=k.tr.any Tr.isRen,rx:=if w=true then AC o.eff o.op s.val v else none,sx:=MD (if w=true then AC o.eff o.op s.val v else none) (v::o.lk.map fun t=>s.get t),wx:=if w=true then AD o.op s.val else none,ox:=ME (if w=true then AD o.op s.val else none) k.tr}
def Dd(o:LF)(s:St):Option Bool:=
 match o.g with
 |none=>some true
 |some (t,want)=>match s.get t with
  | .d (.bool b)=>some (b==want)
  | .tup []=>some false
  |_=>none
def De(P:Program)(call:ak)(h:Hint)(o:LF)(s:St):Option (Bool×SV×Wk):=
 (Dd o s).bind fun w=>if w=true then(am P call h (o.d.getD 0) o.ty o.op s.val s.wk).bind fun p=>some (true,p.1,p.2)else some (false,.tup [],s.wk)
def cQ(acc:List Fp)(f:Fp)(j:Nat):Bool:=match acc[j]? with |some g=>apartFp g f |none=>false
def fp0:Fp:=⟨[],none,[],[],false,false,false,none,[],none,[]⟩
def ry(P:Program)(call:ak)(h:Hint):List LF→Cf→List Fp→Option St
 | [],c,_=>some c.1
 |o::r,c,acc=>(De P call h o c.1).bind fun q=>
  if o.u.all (cQ acc (fpW o c.2 c.1 q.1 q.2.1 q.2.2))=true then ry P call h r (c.1.fin o.d q.2.1 q.2.2,aF c.2 q.2.2.tr o.d (cG o.op c.2 q.2.1)) (acc++[if o.nd=true then fpW o c.2 c.1 q.1 q.2.1 q.2.2 else fp0])else none
section
variable{P:Program}{hints:FuncId→Hint}{call:ak}{h:Hint}
theorem JX{ops:List Oper}{nd:Bool}{u:List Nat}{o:Oper}{s:St}(hg:fb ops o=true):bP P call h ops o s=De P call h (A8 h ops nd u o) s:=by
 have:dK ops s o=Dd (A8 h ops nd u o) s:=by
  obtain⟨d,op,ty,pos,after,guard⟩:=o
  cases guard with
  |none=>rfl
  |some p=>
   obtain⟨j,want⟩:=p;simp only[fb,Option.isSome_iff_exists]at hg
   obtain⟨t,ht⟩:=hg;simp only[dK,Dd,A8,xQ,Aa,ht,Option.getD_some];rfl
 simp only[bP,De,this,xF];rfl
theorem Sf{ops:List Oper}{nd:Bool}{u:List Nat}{o:Oper}{hi:jl}{s:St}{w:Bool}{v:SV}{k:Wk}:gh h ops o hi s w v k=fpW (A8 h ops nd u o) hi s w v k:=rfl
def i7:List Fp→List (List Nat)→List Fp→Bool
 |acc,u::us,f::fs=>u.all (cQ acc f)&&i7 (acc++[f]) us fs
 |_,_,_=>true
def lfs(h:Hint)(ops:List Oper):List Bool→List (List Nat)→List Oper→List LF
 |n::ns,u::us,o::r=>A8 h ops n u o::lfs h ops ns us r
 |_,_,_=>[]
def FH(all:List Bool)(a b:List Fp):Prop:=a.length=b.length∧∀j:Nat,all[j]? =some true→a[j]? =b[j]?
theorem Hu{all:List Bool}{a b:List Fp}{f:Fp}{u:List Nat}(ha:FH all a b)(hu:u.all (fun j=>decide (all[j]? =some true))=true):u.all (cQ a f)=u.all (cQ b f):=by
 rw[Bool.eq_iff_iff,List.all_eq_true,List.all_eq_true];simp only[List.all_eq_true,yD]at hu
 have e:∀j∈u,cQ a f j=cQ b f j:=fun j hj=>by unfold cQ;rw[ha.2 j (hu j hj)]
 exact⟨fun h j hj=>(e j hj)▸h j hj,fun h j hj=>(e j hj).symm▸h j hj⟩
theorem EK{all pre r:List Bool}{n:Bool}{a b:List Fp}{f:Fp}(ha:FH all a b)(hall:all=pre++n::r)(hl:a.length=pre.length):FH all (a++[if n=true then f else fp0]) (b++[f]):=by
 refine⟨by simp[ha.1],fun j hj=> ?_⟩
 by_cases e:j<a.length
 ·rw[xO e,xO (ha.1▸e)];exact ha.2 j hj
 ·by_cases e2:j=a.length
  ·subst e2
   have:all[a.length]? =some n:=by rw[hall,hl];simp
   rw[this]at hj
   cases hj;rw[xN (Nat.le_refl _),ha.1,xN (Nat.le_refl _)]
   simp
  ·rw[List.getElem?_eq_none (by simp;omega),List.getElem?_eq_none (by simp[←ha.1];omega)]
theorem FI{ops:List Oper}{all:List Bool}:∀(l:List Oper) (pre ns:List Bool) (us:List (List Nat)) (c:Cf) (acc acc':List Fp),l.all (fb ops)=true→us.length=l.length→ns.length=l.length→all=pre++ns→us.all (fun u=>u.all fun j=>decide (all[j]? =some true))=true→FH all acc' acc→acc'.length=pre.length→
  ry P call h (lfs h ops ns us l) c acc'=(aC P call h ops l c).bind fun p=>if i7 acc us p.2=true then some p.1.1 else none
 | [],pre,[],[],c,acc,acc',_,_,_,_,_,_,_=>rfl
 |o::l,pre,n::ns,u::us,c,acc,acc',hg,hl,hn,hall,hu,ha,hp=>by
  simp only[List.all_cons,xA]at hg hu
  simp only[lfs,ry,aC,aH,←JX (u:=u) (nd:=n) hg.1]
  cases bP P call h ops o c.1 with
  |none=>rfl
  |some q=>
   obtain⟨w,v,k⟩:=q;simp only[xS,xQ,←Sf,show(A8 h ops n u o).u=u from rfl,show(A8 h ops n u o).d=o.dst from rfl,show(A8 h ops n u o).nd=n from rfl,show(A8 h ops n u o).op=o.op from rfl,Hu ha hu.1]
   rw[FI l (pre++[n]) ns us _ (acc++[gh h ops o c.2 c.1 w v k]) _ hg.2 (by simpa using hl) (by simpa using hn) (by simp[hall]) hu.2 (EK ha hall hp) (by simp[hp])]
   cases aC P call h ops l (c.1.fin o.dst v k,aF c.2 k.tr o.dst (cG o.op c.2 v))with
   |none=>simp
   |some p=>
    simp only[xS,xQ,i7,xA]
    by_cases e:u.all (cQ acc (gh h ops o c.2 c.1 w v k))=true
    ·simp only[e,if_true,true_and]
    ·simp only[e,if_false,false_and,xH,↓reduceIte]
theorem rz{b:Nat}{f:Fp}:∀(l:List Fp) (j:Nat),dL b f j l=true↔∀i g,l[i]? =some g→b.testBit (j+i)=true∨apartFp g f=true
 | [],j=>by simp[dL]
 |x::l,j=>by
  simp only[dL,xA,Bool.or_eq_true,rz l (j+1)];constructor
  ·rintro⟨h1,h2⟩ i g hi
   cases i with
   |zero=>simp only[yE,xJ]at hi;subst hi;exact h1
   |succ i=>rw[show j+(i+1)=j+1+i by omega];exact h2 i g (by simpa using hi)
  ·intro hh
   exact⟨hh 0 x rfl,fun i g hi=>by rw[show j+1+i=j+(i+1)by omega];exact hh (i+1) g (by simpa using hi)⟩
def JY(h:Hint)(ops:List Oper)(o:Oper)(f:Fp):Prop:=cW h (o.dst.getD 0) o.op=false→kQ ops o f
def JZ(h:Hint)(ops:List Oper)(b:Nat)(u:List Nat)(y:Oper):Nat→List Oper→Bool
 |_,[]=>true
 |j,x::r=>((b.testBit j&& !u.contains j) || (!b.testBit j&&(u.contains j || (slotsApart ops x y&& !cW h (x.dst.getD 0) x.op&& !cW h (y.dst.getD 0) y.op))))&&JZ h ops b u y (j+1) r
def Hv(h:Hint)(ops:List Oper):Nat→List Nat→List (List Nat)→List Oper→Bool
 |i,b::bs,u::us,y::r=>u.all (fun j=>decide (j<i))&&JZ h ops b u y 0 (ops.take i)&&Hv h ops (i+1) bs us r
 |_,[],[],[]=>true
 |_,_,_,_=>false
theorem All2.at'{α β:Type}{R:α→β→Prop}:∀{as:List α} {l:List β},All2 R as l→∀(i:Nat) b,l[i]? =some b→∃a,as[i]? =some a∧R a b
 | [],l,ha,i,b,hb=>by rw[show l=[]from ha]at hb;simp at hb
 |a::as,l,ha,i,b,hb=>by
  obtain⟨b',r,rfl,h1,h2⟩:=ha
  cases i with
  |zero=>simp only[yE,xJ]at hb;subst hb;exact⟨a,rfl,h1⟩
  |succ i=>obtain⟨a',q1,q2⟩:=All2.at' h2 i b (by simpa using hb);exact⟨a',by simpa using q1,q2⟩
theorem A9{ops:List Oper}{b:Nat}{u:List Nat}{y:Oper}:∀(l:List Oper) (j:Nat),JZ h ops b u y j l=true→∀i x,l[i]? =some x→(b.testBit (j+i)=true∧(j+i)∉u)∨(b.testBit (j+i)=false∧((j+i)∈u∨(slotsApart ops x y=true∧cW h (x.dst.getD 0) x.op=false∧cW h (y.dst.getD 0) y.op=false)))
 | [],j,_,i,x,hx=>by simp at hx
 |z::l,j,hr,i,x,hx=>by
  simp only[JZ,xA,Bool.or_eq_true,Bool.not_eq_true',List.contains_eq_mem,decide_eq_false_iff_not,yD]at hr
  cases i with
  |zero=>simp only[yE,xJ]at hx;subst hx;simpa [and_assoc]using hr.1
  |succ i=>rw[show j+(i+1)=j+1+i by omega];exact A9 l (j+1) hr.2 i x (by simpa using hx)
theorem Nq{ops l:List Oper}{b:Nat}{u:List Nat}{y:Oper}{f:Fp}{acc:List Fp}(hu:u.all (fun j=>decide (j<acc.length))=true)(hr:JZ h ops b u y 0 l=true)(ha:All2 (JY h ops) l acc)(hy:JY h ops y f):dL b f 0 acc=u.all (cQ acc f):=by
 rw[Bool.eq_iff_iff,rz,List.all_eq_true];simp only[List.all_eq_true,yD]at hu
 constructor
 ·intro hh j hj
  have hlt:=hu j hj;obtain⟨x,hx,_⟩:=All2.at' ha j acc[j] (by simp[hlt])
  have:=A9 l 0 hr j x hx
  simp only[Nat.zero_add]at this
  rcases this with⟨_,h2⟩ |⟨h1,_⟩
  ·exact absurd hj h2
  ·simp only[cQ,xG hlt]
   rcases hh j acc[j] (by simp[hlt])with h3 |h3
   ·rw[Nat.zero_add,h1]at h3;cases h3
   ·exact h3
 ·intro hh i g hi
  obtain⟨x,hx,hx2⟩:=All2.at' ha i g hi
  have:=A9 l 0 hr i x hx
  simp only[Nat.zero_add]at this ⊢
  rcases this with⟨h1,_⟩ |⟨_,h2 |⟨h2,h3,h4⟩⟩
  ·exact .inl h1
  ·right;have:=hh i h2;simpa [cQ,hi]using this
  ·exact .inr (xq (hx2 h3) (hy h4) h2)
theorem All2.snoc{α β:Type}{R:α→β→Prop}{a:α}{b:β}:∀{as:List α} {l:List β},All2 R as l→R a b→All2 R (as++[a]) (l++[b])
 | [],l,ha,hr=>by rw[show l=[]from ha];exact⟨b,[],rfl,hr,rfl⟩
 |x::as,l,ha,hr=>by
  obtain⟨b',r,rfl,h1,h2⟩:=ha
  exact⟨b',r++[b],rfl,h1,All2.snoc h2 hr⟩
theorem All2.leng{α β:Type}{R:α→β→Prop}:∀{as:List α} {l:List β},All2 R as l→l.length=as.length
 | [],l,ha=>by rw[show l=[]from ha];rfl
 |x::as,l,ha=>by obtain⟨b',r,rfl,h1,h2⟩:=ha;simp[All2.leng h2]
theorem Ad{ops:List Oper}{all:List Fp}:∀(l:List Oper) (pre:List Oper) (fs acc:List Fp) (bs:List Nat) (us:List (List Nat)),ops=pre++l→all=acc++fs→All2 (JY h ops) pre acc→All2 (JY h ops) l fs→Hv h ops pre.length bs us l=true→ky all pre.length bs fs=i7 acc us fs
 | [],pre,fs,acc,bs,us,_,_,_,ha,hu=>by
  rw[show fs=[]from ha]
  cases bs <;>cases us <;>simp[ky,i7]
 |y::l,pre,fs,acc,bs,us,ho,hall,hp,ha,hu=>by
  obtain⟨f,r,rfl,h1,h2⟩:=ha
  cases bs with
  |nil=>cases us <;>simp[Hv]at hu
  |cons b bs=>
   cases us with
   |nil=>simp[Hv]at hu
   |cons u us=>
    simp only[Hv,xA]at hu
    simp only[ky,i7];have hlen:=All2.leng hp;have t1:ops.take pre.length=pre:=by rw[ho];simp
    have t2:all.take pre.length=acc:=by rw[hall,←hlen];simp
    rw[t1]at hu
    rw[t2,Nq (hlen▸hu.1.1) hu.1.2 hp h1]
    have:=Ad (ops:=ops) (all:=all) l (pre++[y]) r (acc++[f]) bs us (by simp[ho]) (by simp[hall]) (All2.snoc hp h1) h2 (by simpa using hu.2)
    rw[←this];simp
theorem xr{ops:List Oper}:∀(l:List Oper) {c c':Cf} {fs:List Fp},aC P call h ops l c=some (c',fs)→All2 (JY h ops) l fs
 | [],c,c',fs,e=>by simp only[aC,xJ,pJ]at e;exact e.2▸rfl
 |o::l,c,c',fs,e=>by
  simp only[aC,xB,xM,pJ]at e
  obtain⟨⟨c1,f⟩,e1,⟨c2,fs'⟩,e2,rfl,rfl⟩:=e
  refine⟨f,fs',rfl,fun he=> ?_,xr l e2⟩
  obtain⟨c1',f',q1,_,q3⟩:=um (ops:=ops) he (sK e1);rw[e1]at q1
  simp only[xJ,pJ]at q1
  rw[q1.2];exact q3
def EL(h:Hint)(id:Nat)(ls:List Nat)(ns:List Bool)(us:List (List Nat))(c:Code):Bool:=
 match c with
 | .region i ops dr=>decide (i=id)&&ops.toList.all (fb ops.toList)&&dr&&(match we ops.toList []with |some bs=>Hv h ops.toList 0 bs us ops.toList |none=>false)&&decide (us.length=ops.toList.length)&&decide (ns.length=ops.toList.length)&&us.all (fun u=>u.all fun j=>decide (ns[j]? =some true))&&decide (h.live id=ls)&&(h.swp id).isNone
 |_=>false
def Qn(h:Hint)(ns:List Bool)(us:List (List Nat))(c:Code):List LF:=match c with | .region _ ops _=>lfs h ops.toList ns us ops.toList |_=>[]
theorem Sg{c:Code}{id:Nat}{ls:List Nat}{ns:List Bool}{us:List (List Nat)}{L:List LF}(hk:EL h id ls ns us c=true)(hL:Qn h ns us c=L)(s:St):aY P hints h c s=(ry P (aX P hints) h L (s,gM s) []).bind fun s'=>some (.normal,prune ls s'):=by
 unfold EL at hk
 split at hk
 ·rename_i i ops dr
  simp only[xA,yD]at hk
  obtain⟨⟨⟨⟨⟨⟨⟨⟨rfl,hg⟩,rfl⟩,hb⟩,hn⟩,hns⟩,hu⟩,hl⟩,hsw⟩:=hk;subst hL;simp only[Qn];rw[xm (by simpa using hsw),FI (all:=ns) ops.toList [] ns us _ [] [] hg hn hns rfl hu ⟨rfl,fun _ _=>rfl⟩ rfl,hl]
  split at hb
  ·rename_i bs hbs
   cases e:aC P (aX P hints) h ops.toList ops.toList (s,gM s)with
   |none=>rfl
   |some p=>
    obtain⟨c',fs⟩:=p;have ha:=xr _ e
    have:mg ops.toList fs=i7 [] us fs:=by
     unfold mg;rw[hbs];exact Ad ops.toList [] fs [] bs us rfl rfl rfl ha hb
    simp only[xS,this]
    by_cases hc:i7 [] us fs=true <;>simp[hc]
  ·cases hb
 ·cases hk
variable{r:List LF}{d:Option Nat}{ty:TypeId}{op:Op}{lk u:List Nat}{nd eff rds hr ho:Bool}{env:List (Nat×SV)}{ct:List ((Nat×Nat)×T)}{H:List Ob}{hi:jl}{acc:List Fp}
def fc(P:Program)(call:ak)(h:Hint)(o:LF)(r:List LF)(c:Cf)(acc:List Fp)(w:Bool)(v:SV)(k:Wk):Option St:=
 if o.u.all (cQ acc (fpW o c.2 c.1 w v k))=true then ry P call h r (c.1.fin o.d v k,aF c.2 k.tr o.d (cG o.op c.2 v)) (acc++[if o.nd=true then fpW o c.2 c.1 w v k else fp0])else none
@[go_sem] theorem EN:ry P call h (⟨d,none,ty,op,lk,u,nd,eff,rds,hr,ho⟩::r) (⟨env,ct,H⟩,hi) acc=(am P call h (d.getD 0) ty op (St.val ⟨env,ct,H⟩) ⟨ct,H,[]⟩).bind fun p=>fc P call h ⟨d,none,ty,op,lk,u,nd,eff,rds,hr,ho⟩ r (⟨env,ct,H⟩,hi) acc true p.1 p.2:=by
 simp only[ry,De,Dd,xS,if_true,xX];rfl
def qh(P:Program)(call:ak)(h:Hint)(o:LF)(want:Bool)(r:List LF)(c:Cf)(acc:List Fp)(v:SV):Option St:=
 match v with
 | .d (.bool b)=>if b=want then(am P call h (o.d.getD 0) o.ty o.op c.1.val c.1.wk).bind fun p=>fc P call h o r c acc true p.1 p.2 else fc P call h o r c acc false (.tup []) c.1.wk
 | .tup []=>fc P call h o r c acc false (.tup []) c.1.wk
 |_=>none
@[go_sem] theorem EO{t:Nat}{want:Bool}{c:Cf}:ry P call h (⟨d,some (t,want),ty,op,lk,u,nd,eff,rds,hr,ho⟩::r) c acc=qh P call h ⟨d,some (t,want),ty,op,lk,u,nd,eff,rds,hr,ho⟩ want r c acc (c.1.get t):=by
 simp only[ry,De,Dd,qh]
 have hb:∀b:Bool,(((some (b==want)).bind fun w=>if w=true then(am P call h (d.getD 0) ty op c.1.val c.1.wk).bind fun p=>some (true,p.1,p.2)else some (false,.tup [],c.1.wk)).bind fun q=>fc P call h ⟨d,some (t,want),ty,op,lk,u,nd,eff,rds,hr,ho⟩ r c acc q.1 q.2.1 q.2.2)=if b=want then(am P call h (d.getD 0) ty op c.1.val c.1.wk).bind fun p=>fc P call h ⟨d,some (t,want),ty,op,lk,u,nd,eff,rds,hr,ho⟩ r c acc true p.1 p.2 else fc P call h ⟨d,some (t,want),ty,op,lk,u,nd,eff,rds,hr,ho⟩ r c acc false (.tup []) c.1.wk:=by
  intro b
  by_cases e:b=want
  ·subst e;simp only[xS,beq_self_eq_true,if_true,xX]
  ·have:(b==want)=false:=by simpa using e
   simp only[this,xS,e,if_false,xH]
 generalize c.1.get t=v
 cases v with
 |d x=>
  cases x with
  |bool b=>exact hb b
  |_=>rfl
 |tup l=>
  cases l with
  |nil=>rfl
  |cons _ _=>rfl
 |_=>rfl
@[go_sem] theorem mE{o:LF}{want b:Bool}{c:Cf}:qh P call h o want r c acc (.d (.bool b))=if b=want then(am P call h (o.d.getD 0) o.ty o.op c.1.val c.1.wk).bind fun p=>fc P call h o r c acc true p.1 p.2 else fc P call h o r c acc false (.tup []) c.1.wk:=rfl
@[go_sem] theorem Df{o:LF}{want:Bool}{c:Cf}:qh P call h o want r c acc (.tup [])=fc P call h o r c acc false (.tup []) c.1.wk:=rfl
variable{g:Option (Nat×Bool)}{c:Cf}{w:Bool}{v:SV}{ct':List ((Nat×Nat)×T)}{H':List Ob}{tr:List Tr}
@[go_sem] theorem Dg:fc P call h ⟨d,g,ty,op,lk,[],false,eff,rds,hr,ho⟩ r c acc w v ⟨ct',H',tr⟩=ry P call h r (c.1.fin d v ⟨ct',H',tr⟩,aF c.2 tr d (cG op c.2 v)) (acc++[fp0]):=by
 simp[fc]
@[go_sem] theorem EP{u:List Nat}{n:Nat}:fc P call h ⟨d,g,ty,op,lk,n::u,false,eff,rds,hr,ho⟩ r c acc w v ⟨ct',H',tr⟩=
  if(n::u).all (cQ acc (fpW ⟨d,g,ty,op,lk,n::u,false,eff,rds,hr,ho⟩ c.2 c.1 w v ⟨ct',H',tr⟩))=true then ry P call h r (c.1.fin d v ⟨ct',H',tr⟩,aF c.2 tr d (cG op c.2 v)) (acc++[fp0])else none:=by
 simp[fc]
@[go_sem] theorem J0:fc P call h ⟨d,g,ty,op,lk,u,true,eff,rds,hr,ho⟩ r c acc w v ⟨ct',H',tr⟩=
  if u.all (cQ acc (fpW ⟨d,g,ty,op,lk,u,true,eff,rds,hr,ho⟩ c.2 c.1 w v ⟨ct',H',tr⟩))=true then ry P call h r (c.1.fin d v ⟨ct',H',tr⟩,aF c.2 tr d (cG op c.2 v)) (acc++[fpW ⟨d,g,ty,op,lk,u,true,eff,rds,hr,ho⟩ c.2 c.1 w v ⟨ct',H',tr⟩])else none:=by
 simp[fc]
@[go_sem] theorem Qo{n:Nat}{L:List Root}:aF hi [] (some n) L=(n,L)::hi:=by
 have:∀l:jl,(l.map fun p=>(p.1,bQ [] p.2))=l:=fun l=>by induction l with |nil=>rfl |cons a r ih=>simp only[List.map_cons,ih];rfl
 simp only[aF,this]
@[go_sem] theorem Nr{L:List Root}:aF hi [] none L=hi:=by
 have:∀l:jl,(l.map fun p=>(p.1,bQ [] p.2))=l:=fun l=>by induction l with |nil=>rfl |cons a r ih=>simp only[List.map_cons,ih];rfl
 simp only[aF,this]
def i8(tr:List Tr):jl→jl
 | []=>[]
 |p::r=>(p.1,bQ tr p.2)::i8 tr r
theorem qi(tr:List Tr):∀l:jl,(l.map fun p=>(p.1,bQ tr p.2))=i8 tr l
 | []=>rfl
 |p::r=>by simp only[List.map_cons,i8,qi tr r]
@[go_sem] theorem Qp:i8 tr []=[]:=rfl
@[go_sem] theorem Ns{n:Nat}{l:List Root}{r:jl}:i8 tr ((n,l)::r)=(n,bQ tr l)::i8 tr r:=rfl
@[go_sem] theorem Nt{x:Tr}{n:Nat}{L:List Root}:aF hi (x::tr) (some n) L=(n,L)::i8 (x::tr) hi:=by simp only[aF,qi]
@[go_sem] theorem Mc{x:Tr}{L:List Root}:aF hi (x::tr) none L=i8 (x::tr) hi:=by simp only[aF,qi]
@[go_sem] theorem U6{r:Root}{p:aE}{l:List Root}:Tr.hist (.kill r p) l=l:=rfl
@[go_sem] theorem Sh{r:Root}{n:Nat}{l:List Root}:Tr.hist (.killN r n) l=l:=rfl
@[go_sem] theorem Sj{l:List Root}:Tr.hist .killO l=l:=rfl
@[go_sem] theorem Qq{k t:Nat}{v:List Root}{r:List (Nat×List Root)}:look ((k,v)::r) t=if k=t then some v else look r t:=rfl
attribute [go_sem] pK dz cG fpW bQ aW cm gM SV.srts SV.srtss SV.rts SV.rtss Root.isO Tr.isKillO Tr.isRen Tr.rts cQ apartFp kx Wp SV.unhurt SV.unhurts AC AD MD ME Tr.killAt DT
end
section
variable{P:Program}{nv dst len:Nat}{lit:Bool}{t:TypeId}{k:Wk}
def J1(l:List T):List T:=l
@[go_sem low] theorem U7{x:T}{l:List T}:J1 (x::l)=x::l:=rfl
@[go_sem low] theorem WZ:J1 []=[]:=rfl
@[go_sem] theorem agy{parts:List (Nat×SV)}:bN P nv dst lit t len parts k=(elemOf P t).bind fun e=>(aO P e).bind fun z=>(bU nv parts k).bind fun q=>
  if 0<P.cellsOf e∧q.1.all (fun p=>p.2.nc==P.cellsOf e)=true∧len * P.cellsOf e≤16777216∧z.nc=P.cellsOf e then
   (lO (List.replicate len (T.ofZero z)) q.1).bind fun es=>
    if lit=true then(if parts.all (fun p=>isD p.2)=true then(T.frzs false es).bind fun ds=>some (.d (.sl false ds),q.2)else none)
    else some (.bor (.l dst 0) [] 0 len,q.2.new dst 0 (.own (J1 es)))
  else none:=by
 simp only[bN,xF,J1];rfl
@[go_sem] theorem agz{r:Root}{q:Nat×Nat}{p:aE}{off m:Nat}:ar nv (.bor r (q::p) off m) k=(k.get r).bind fun c=>(c.at (q::p)).bind fun nd=>match nd with
   | .own es=>(T.frzs false es).bind fun l=>(c.put (q::p) (.d (.sl false l))).bind fun c'=>(k.set r c').bind fun(k:Wk)=>some (.d (.sl false (win l off m)),k.tell (.frz r (q::p) l))
   |_=>none:=by
 cases r <;>simp only[ar,xF] <;>rfl
@[go_sem] theorem W2:bU nv [] k=some ([],k):=rfl
@[go_sem] theorem U8{i:Nat}{v:SV}{r:List (Nat×SV)}:bU nv ((i,v)::r) k=(bD nv v k).bind fun p=>(bU nv r p.2).bind fun q=>some ((i,p.1)::q.1,q.2):=by
 simp only[bU,xF];rfl
@[go_sem] theorem U9{l:List T}:lO l []=some l:=rfl
@[go_sem] theorem Sk{l:List T}{i:Nat}{x:T}{r:List (Nat×T)}:lO l ((i,x)::r)=if i<l.length then lO (l.set i x) r else none:=rfl
@[go_sem] theorem agA{x:D}:isD (.d x)=true:=rfl
@[go_sem] theorem adh{b:Bool}{l:List D}:dj nv (.d (.sl b l)) k=some (l.map .d,k):=rfl
@[go_sem] theorem aei{n j off m:Nat}:dj nv (.bor (.l n j) [] off m) k=(k.get (.l n j)).bind fun c=>match c with
  | .own es=>if nv≤n∧off=0∧m=es.length then(k.set (.l n j) .dead).bind fun(k:Wk)=>some (es,k.tell (.kill (.l n j) []))
     else if fx (win es off m)=true then some (win es off m,k)else none
  |_=>none:=by
 simp only[dj]
 cases k.get (.l n j)with
 |none=>rfl
 |some c=>
  simp only[xS,JU]
  cases c with
  |own es=>simp only[xF];rfl
  |_=>rfl
@[go_sem] theorem W3{n off m:Nat}{news:List T}{r:Root}{p:aE}:oz n news (.bor r p off m) k=if off=0 then
   (k.get r).bind fun c=>(c.at p).bind fun nd=>match nd with
    | .own es=>if m≤es.length∧bL n es=true∧Fq m es news=true then(c.put p .dead).bind fun c'=>(k.set r c').bind fun(k:Wk)=>some (es.take m,k.tell (.kill r p))else none
    |_=>none
  else none:=by
 simp only[oz,xF]
 try rfl
@[go_sem] theorem aej{s x:SV}:eo P nv dst t s x k=(elemOf P t).bind fun e=>(aO P e).bind fun z=>(dj nv x k).bind fun q=>
  if 0<P.cellsOf e∧bL (P.cellsOf e) q.1=true∧z.nc=P.cellsOf e then
   (oz (P.cellsOf e) q.1 (trv q.2.tr s) q.2).bind fun o=>
    if(o.1.length+q.1.length) * P.bytesOf e≤140737488355328∧o.1.length+q.1.length≤9223372036854775807 then
     some (.bor (.l dst 0) [] 0 (o.1.length+q.1.length),o.2.new dst 0 (.own (o.1++q.1)))
    else none
  else none:=by
 simp only[eo,xP]
@[go_sem] theorem adi{a b:IntKind}{n m:Int}:v7 P dst t (.d (.int a n)) (.d (.int b m)) k=(elemOf P t).bind fun e=>(aO P e).bind fun z=>
   if 0≤n∧n≤m∧(n=0→m=0)∧(P.bytesOf e:Int) * m≤281474976710656∧m≤9223372036854775807∧0<P.cellsOf e∧z.nc=P.cellsOf e then
    some (.bor (.l dst 0) [] 0 n.toNat,k.new dst 0 (.own (List.replicate n.toNat (T.ofZero z))))
   else none:=rfl
@[go_sem] theorem Sl{v:SV}:dB nv v k=(bD nv v k).bind fun p=>some (p.1.fresh,p.2):=by
 simp only[dB,xF];rfl
attribute [go_sem] T.fresh T.fresh1 List.any_cons List.any_nil
def Qr(P:Program)(t:TypeId)(a:SV)(x:T)(k:Wk):Option Wk:=
 match a with
 | .loc r p i off=>
  if x.nc=P.cellsOf t∧0<x.nc then
   (k.get r).bind fun c=>(c.at p).bind fun nd=>
    match nd with
    | .own es=>(es[i]?).bind fun e=>
     if off+x.nc≤e.nc then
      (c.put p (.own (es.set i (if off=0∧x.nc=e.nc then x else e.setCells off x.cells)))).bind fun c'=>
       (k.set r c').bind fun(k:Wk)=>some (if mb e=true then k.tell (.killN r (p.length+1))else k)
     else none
    |_=>none
  else none
 |_=>none
@[go_sem] theorem W4{a v:SV}:gB P nv t a v k=(dB nv v k).bind fun q=>Qr P t (asLoc (trv q.2.tr a)) q.1 q.2:=by
 simp only[gB,xF]
 try rfl
@[go_sem] theorem Va{r:Root}{p:aE}{i o:Nat}:asLoc (.loc r p i o)=.loc r p i o:=rfl
@[go_sem] theorem Vb{o:Nat}:asLoc (.d (.ptr o))=.loc (.o o) [] 0 0:=rfl
@[go_sem] theorem Vc{r:Root}{p:aE}{i off:Nat}{x:T}:Qr P t (.loc r p i off) x k=if x.nc=P.cellsOf t∧0<x.nc then
   (k.get r).bind fun c=>(c.at p).bind fun nd=>
    match nd with
    | .own es=>(es[i]?).bind fun e=>
     if off+x.nc≤e.nc then
      (c.put p (.own (es.set i (if off=0∧x.nc=e.nc then x else e.setCells off x.cells)))).bind fun c'=>
       (k.set r c').bind fun(k:Wk)=>some (if mb e=true then k.tell (.killN r (p.length+1))else k)
     else none
    |_=>none
  else none:=rfl
@[go_sem] theorem W5{parts:List (Nat×SV)}:sj P t parts=match aO P t with
  |some (.agg z)=>(cI P t).bind fun pl=>(qL pl (z.map .d) parts).bind fun l=>some (SV.mkAgg l)
  |_=>none:=by
 simp only[sj,xF];rfl
@[go_sem] theorem Vd{pl:Nat ⊕ List (Nat×Nat)}{cs:List SV}:qL pl cs []=some cs:=rfl
@[go_sem] theorem So{pl:Nat ⊕ List (Nat×Nat)}{cs:List SV}{i:Nat}{v:SV}{r:List (Nat×SV)}:qL pl cs ((i,v)::r)=(nX pl i).bind fun q=>if v.solid=true∧v.nc=q.2∧q.1+q.2≤cs.length then qL pl (cs.take q.1++v.cells++cs.drop (q.1+q.2)) r else none:=rfl
section
variable{r r':Root}{p p':aE}{off i n m:Nat}{l:List D}{a b:Nat×Nat}
@[go_sem] theorem W6:Tr.sv (.kill r' p') (.bor r p off m)=if r=r' then(if p=p' then .dead else if p'.length<p.length then .dead else .bor r p off m)else .bor r p off m:=by simp only[Tr.sv]
@[go_sem] theorem Ve:Tr.sv (.killN r' n) (.bor r p off m)=if r=r'∧n≤p.length then .dead else .bor r p off m:=by simp only[Tr.sv]
@[go_sem] theorem adj:Tr.sv (.frz r' p' l) (.bor r p off m)=if r=r' then(if p=p' then .d (.sl false ((l.drop off).take m))else if p'.length<p.length then .dead else .bor r p off m)else .bor r p off m:=by simp only[Tr.sv]
@[go_sem] theorem adk:Tr.sv (.ren a b) (.bor r p off m)=if r=.l a.1 a.2 then .bor (.l b.1 b.2) p off m else .bor r p off m:=by simp only[Tr.sv]
@[go_sem] theorem Sp{x:Nat}:Tr.sv .killO (.bor (.o x) p off m)=.dead:=by simp only[Tr.sv]
@[go_sem] theorem W7:Tr.sv (.kill r' p') (.loc r p i off)=if r=r' then(if p=p' then .dead else if p'.length<p.length then .dead else .loc r p i off)else .loc r p i off:=by simp only[Tr.sv]
@[go_sem] theorem Vf:Tr.sv (.killN r' n) (.loc r p i off)=if r=r'∧n≤p.length then .dead else .loc r p i off:=by simp only[Tr.sv]
@[go_sem] theorem adl:Tr.sv (.frz r' p' l) (.loc r p i off)=if r=r' then(if p=p' then .dead else if p'.length<p.length then .dead else .loc r p i off)else .loc r p i off:=by simp only[Tr.sv]
@[go_sem] theorem adm:Tr.sv (.ren a b) (.loc r p i off)=if r=.l a.1 a.2 then .loc (.l b.1 b.2) p i off else .loc r p i off:=by simp only[Tr.sv]
@[go_sem] theorem Sq{x y:Nat}:Tr.sv .killO (.loc (.l x y) p i off)=.loc (.l x y) p i off:=by simp only[Tr.sv]
@[go_sem] theorem Ss{x:Nat}:Tr.sv .killO (.loc (.o x) [] i off)=.loc (.o x) [] i off:=by simp only[Tr.sv]
end
section
variable{call:ak}{h:Hint}{f:FuncId}{ds:List D}{b:Lend}{ct:List ((Nat×Nat)×T)}{H:List Ob}{tr:List Tr}
@[go_sem] theorem W8:cF call h dst f ds b k=if h.ro.contains dst=true then(uE (roD k.H 4) ds).bind fun ds'=>aU call h dst f (D.lends ds') {sn:=true,lk:=List.range k.H.length++b.lk} k else if h.lkn.contains dst=true∧b.sn=true then aU call h dst f ds {b with lk:=b.lk++pI k.H} k else aU call h dst f ds b k:=rfl
@[go_sem] theorem Nu:bB [] H=H:=rfl
@[go_sem] theorem Su{H':List Ob}:dZ H [] H'=H':=rfl
@[go_sem] theorem Md{n:Nat}{r:List Nat}:bB (n::r) H=bB r (H.set n .lock):=rfl
@[go_sem] theorem Qs{n:Nat}{r:List Nat}{H':List Ob}:dZ H (n::r) H'=dZ H r (match H[n]? with |some x=>H'.set n x |none=>H'):=rfl
theorem cn:∀H:List Ob,aS H H=true
 | []=>rfl
 | .box c::r=>by simp[aS,cn r]
 | .map _::r=>by simp[aS,cn r]
 | .iter _ _::r=>by simp[aS,cn r]
 | .miter _::r=>by simp[aS,cn r]
 | .frame .. ::r=>by simp[aS,cn r]
 | .lock::r=>by simp[aS,cn r]
 | .row _::r=>by simp[aS,cn r]
 | .sset _::r=>by simp[aS,cn r]
@[go_sem] theorem Vg{H':List Ob}:aS [] H'=true:=rfl
@[go_sem] theorem Vh{c c':T}{r r':List Ob}:aS (.box c::r) (.box c'::r')=(c.nc==c'.nc&&aS r r'):=rfl
@[go_sem] theorem Vi{c c':List (D×T)}{r r':List Ob}:aS (.map c::r) (.map c'::r')=aS r r':=rfl
variable{x y z w:D}
@[go_sem] theorem aek:iT dst [] k=some (.tup [],k):=rfl
@[go_sem] theorem ael{t:T}:iT dst [t] k=(eU dst 0 t k).bind fun p=>some (p.1,p.2.2):=by
 simp only[iT,cS,xF,xX];rfl
@[go_sem] theorem aem{t u:T}:iT dst [t,u] k=(eU dst 0 t k).bind fun p=>(eU dst p.2.1 u p.2.2).bind fun q=>some (.tup [p.1,q.1],q.2.2):=by
 simp only[iT,cS,xF,xX];rfl
@[go_sem] theorem aen{t u v:T}:iT dst [t,u,v] k=(eU dst 0 t k).bind fun p=>(eU dst p.2.1 u p.2.2).bind fun q=>(eU dst q.2.1 v q.2.2).bind fun r=>some (.tup [p.1,q.1,r.1],r.2.2):=by
 simp only[iT,cS,xF,xX];rfl
@[go_sem] theorem aeo{j:Nat}:eU dst j (.d x) k=some (.d x,j,k):=rfl
@[go_sem] theorem W9{j:Nat}{es:List T}:eU dst j (.own es) k=some (.bor (.l dst j) [] 0 es.length,j+1,k.new dst j (.own es)):=rfl
@[go_sem] theorem Xa{j:Nat}{es:List T}:eU dst j (.agg es) k=(bO dst j es k).bind fun p=>some (.agg p.1,p.2):=by simp only[eU,xF];rfl
@[go_sem] theorem Nv{j:Nat}:bO dst j [] k=some ([],j,k):=rfl
attribute [go_sem] EM
@[go_sem] theorem agB:bH nv (.d x) k b=some (if EM≤nv then x else x.norm,k,b):=rfl
@[go_sem] theorem aep{n j off m:Nat}{q:Nat×Nat}{p:aE}:bH nv (.bor (.l n j) (q::p) off m) k b=(k.get (.l n j)).bind fun c=>(c.at (q::p)).bind fun nd=>match nd with
   | .own es=>if EM≤nv∧es.isEmpty=true then some (.sl false [],k,b)else(T.frzs true es).bind fun l=>some (.sl true (win l off m),k,{b with sn:=true})
   |_=>none:=by
 simp only[bH,xF];rfl
@[go_sem] theorem agC{n off m:Nat}{p:aE}:bH nv (.bor (.o n) p off m) k b=(k.get (.o n)).bind fun c=>(c.at p).bind fun nd=>match nd with
   | .own es=>if EM≤nv∧es.isEmpty=true then some (.sl false [],k,b)else(T.frzs true es).bind fun l=>some (.sl true (win l off m),k,{sn:=true,lk:=n::b.lk})
   |_=>none:=by
 simp only[bH,xF];rfl
@[go_sem] theorem aeq{l:List SV}:om nv (.agg l) k b=(ft nv l k b).bind fun p=>some (.agg p.1,p.2.1,p.2.2):=by simp only[om,xF];rfl
@[go_sem] theorem adn:ft nv [] k b=some ([],k,b):=rfl
@[go_sem] theorem Xb{v:SV}{r:List SV}:ft nv (v::r) k b=(bH nv (trv k.tr v) k b).bind fun p=>(ft nv r p.2.1 p.2.2).bind fun q=>some (p.1::q.1,q.2.1,q.2.2):=by simp only[ft,xF];rfl
end
@[go_sem] theorem Qt{n:Nat}:bL n []=true:=rfl
@[go_sem] theorem Ba{n:Nat}{x:T}{l:List T}:bL n (x::l)=(x.nc==n&&bL n l):=rfl
attribute [go_sem] ik fx nX SV.solid SV.nc SV.cells SV.mkAgg T.mkAgg T.setCells T.putCell T.cells T.ofZero T.ofD1 Fq mb SV.pures T.pures
end
@[go_sem] theorem Vj{P:Program}{t:TypeId}{k:IntKind}{n:Int}{s:List UInt8}:me P t (.d (.str s)) (.d (.int k n))=match P.underlying t with |some .string=>(if 0≤n then(s[n.toNat]?).bind fun b=>some (.d (.int .u8 b.toNat))else none) |_=>none:=by
 simp only[me,xF];rfl
section
variable{α β γ:Type}
theorem xu{c:Prop}[Decidable c]{a b:Option α}{g:α→Option γ}:(if c then a else b).bind g=if c then a.bind g else b.bind g:=by split <;>rfl
theorem J2{o:Option α}{f:α→β}{g:β→Option γ}:(o.map f).bind g=o.bind fun x=>g (f x):=by cases o <;>rfl
theorem kk(K:α→β)(x:α):some (K x)=(some x).map K:=rfl
end
section
variable{P:Program}{call:ak}{h:Hint}{d:Option Nat}{ty:TypeId}{op:Op}{r:List Lite}{env:List (Nat×SV)}{ct:List ((Nat×Nat)×T)}{H:List Ob}{b:Bool}
@[go_sem high] theorem rA:mC P call h d ty op false r ⟨env,ct,H⟩ (.d (.bool b))=if b=true then kP P call h r (St.fin ⟨env,ct,H⟩ d (.tup []) ⟨ct,H,[]⟩)else(am P call h (d.getD 0) ty op (St.val ⟨env,ct,H⟩) ⟨ct,H,[]⟩).bind fun p=>FG P call h d r ⟨env,ct,H⟩ p.1 p.2:=by
 cases b <;>simp[mD]
@[go_sem high] theorem rB{o:LF}{r:List LF}{c:Cf}{acc:List Fp}:qh P call h o false r c acc (.d (.bool b))=if b=true then fc P call h o r c acc false (.tup []) c.1.wk else(am P call h (o.d.getD 0) o.ty o.op c.1.val c.1.wk).bind fun p=>fc P call h o r c acc true p.1 p.2:=by
 cases b <;>simp[mE]
end
@[reducible] def eI(n:Int):D:=.int .i64 n
@[reducible] def eB(b:Bool):D:=.bool b
@[reducible] def eS(s:List UInt8):D:=.str s
@[reducible] def eK(k:IntKind)(n:Int):D:=.int k n
def tl{α:Type}(f:α→D)(l:List α):List T:=l.map fun x=>.d (f x)
section
variable{α:Type}{f:α→D}{l:List α}{x:α}{b:Bool}
attribute [go_sem] D.imm D.imms D.lend D.lends
theorem dM(h:∀x,(f x).imm=true):D.imms (l.map f)=true:=by induction l <;>simp_all [D.imms]
theorem mF{g:α→D}(h:∀x,(f x).lend=g x):D.lends (l.map f)=l.map g:=by induction l <;>simp_all [D.lends]
theorem fJ(h:∀x,(f x).lend=f x):D.lends (l.map f)=l.map f:=mF h
theorem dN{n:Nat}(h:∀x,(f x).low n=true):D.lows n (l.map f)=true:=by induction l <;>simp_all [D.lows]
@[go_sem] theorem kS:tl f []=[]:=rfl
@[go_sem] theorem J3:(tl f l).length=l.length:=by simp[tl]
@[go_sem] theorem aer{i:Nat}:(tl f l)[i]? =(l[i]?).map fun x=>.d (f x):=by simp[tl]
@[go_sem] theorem agD{i:Nat}(h:i<(tl f l).length):(tl f l)[i]=.d (f (l[i]'(by simpa [tl]using h))):=by simp[tl]
theorem uS:tl f l++[.d (f x)]=tl f (l++[x]):=by simp[tl]
@[go_sem] theorem ado{n:Nat}:(tl f l).take n=tl f (l.take n):=by simp[tl,List.map_take]
@[go_sem] theorem adp{n:Nat}:(tl f l).drop n=tl f (l.drop n):=by simp[tl,List.map_drop]
@[go_sem] theorem adq:(l.map (T.d ∘ f))=tl f l:=rfl
theorem cT{n:Nat}(h:∀x,(f x).nc=n):bL n (tl f l)=true:=by
 induction l with
 |nil=>rfl
 |cons a r ih=>simp only[tl,List.map_cons,Ba]at ih ⊢;rw[ih];simp[T.nc,h]
theorem fV(h:∀x,(f x).norm=f x):T.frzs b (tl f l)=some (l.map f):=by
 induction l with
 |nil=>rfl
 |cons a r ih=>simp only[tl,List.map_cons,T.frzs,T.frz,h]at ih ⊢;rw[ih];rfl
theorem Nw{n:Nat}(h:∀x,(f x).low n=true):T.lows n (tl f l)=true:=by
 induction l with
 |nil=>rfl
 |cons a r ih=>simp only[tl,List.map_cons,T.lows,T.low,h]at ih ⊢;simpa using ih
@[go_sem high] theorem Sw{l:List Int}{n:Int}:tl eI l++[.d (.int .i64 n)]=tl eI (l++[n]):=by simp[tl]
@[go_sem] theorem Xc{l:List (List UInt8)}{n:List UInt8}:tl eS l++[.d (.str n)]=tl eS (l++[n]):=by simp[tl]
@[go_sem] theorem adr{l:List (List UInt8)}{i:Nat}{n:List UInt8}:(tl eS l).set i (.d (.str n))=tl eS (l.set i n):=by simp[tl,List.map_set]
def tlo(f:α→D)(l:List (List α)):List T:=l.map fun r=>.own (tl f r)
section
variable{l:List (List α)}{r:List α}
theorem Nx{n:Nat}:tlo f (List.replicate n [])=List.replicate n (.own []):=by simp[tlo,tl]
end
@[go_sem] theorem ads{n:Nat}{z:List UInt8}:List.replicate n (T.d (.str z))=tl eS (List.replicate n z):=by simp[tl]
@[go_sem] theorem Qu{r:Root}{p:aE}{i o:Nat}:eT r p i o []=some []:=rfl
@[go_sem] theorem Ny{r:Root}{p:aE}{i o:Nat}{t:T}{l:List T}:eT r p i o (t::l)=(dy r p i o t).bind fun x=>(eT r p i (o+1) l).bind fun xs=>some (x::xs):=by
 simp only[eT,xF];rfl
attribute [go_sem] cn T.imms T.imm T.lows T.low D.low D.lows
attribute [go_sem] canon eI eB eS eK xu J2 xX ik yE List.getElem?_cons_succ xZ yN List.length_map decide_true decide_false Int.natCast_nonneg xV List.getElem?_map xQ Option.map_none xH win List.take_zero List.drop_zero List.take_succ_cons List.drop_succ_cons
end
inductive CL where
 |skip
 |reg (L:List Lite) (ls:List Nat)
 |regD (L:List LF) (ls:List Nat)
 |regP (L:List Lite) (ls:List Nat)
 |seq (a b:CL)
 |cond (o:Operand) (a b:CL)
 |block (id:Nat) (a:CL)
 |loop (k:Nat)
 |exit (id:Nat)
 |ret
 |cpy (p:Cpy)
def xw(P:Program)(call:ak)(h:Hint):List Lite→St→Option (Option D×St)
 | [],s=>some (none,s)
 |o::r,s=>(cZ P call h (o.d.getD 0) o.ty o.op s.val s.wk).bind fun p=>match p.1 with
  |some d=>some (some d,s.fin none .dead p.2.2)
  |none=>xw P call h r (s.fin o.d p.2.1 p.2.2)
theorem Dh{P:Program}{call:ak}{h:Hint}{ops:List Oper}:∀(l:List Oper) (s:St),l.all (fun o=>o.guard.isNone)=true→ck P call h ops l s=xw P call h (l.map (eb ops)) s
 | [],s,_=>rfl
 |o::l,s,hg=>by
  simp only[List.all_cons,xA,yJ]at hg
  have hw:dK ops s o=some true:=by unfold dK;rw[hg.1]
  simp only[ck,hw,xS,if_true,List.map_cons,xw];have e1:(eb ops o).d=o.dst:=rfl;have e2:(eb ops o).ty=o.type:=rfl;have e3:(eb ops o).op=o.op:=rfl;rw[e1,e2,e3];congr 1;funext p;obtain⟨t,v,k⟩:=p
  cases t with
  |some d=>rfl
  |none=>exact Dh l _ hg.2
def Nz(h:Hint)(ops:List Oper):List (List Nat):=
 (List.range ops.length).map fun i=>(List.range i).filter fun j=>match ops[i]?,ops[j]?,((we ops []).getD [])[i]? with
  |some y,some x,some b=> !(b.testBit j)&& !(slotsApart ops x y&& !cW h (x.dst.getD 0) x.op&& !cW h (y.dst.getD 0) y.op)
  |_,_,_=>true
def Xd(us:List (List Nat))(n:Nat):List Bool:=(List.range n).map fun j=>us.any (·.contains j)
def aJ:Code→Nat
 | .seq a b=>aJ a+aJ b
 | .cond _ a b=>aJ a+aJ b
 | .block _ c=>aJ c
 | .scope c=>aJ c
 | .loop c=>aJ c+1
 |_=>0
def bk:Code→List Code
 | .seq a b=>bk a++bk b
 | .cond _ a b=>bk a++bk b
 | .block _ c=>bk c
 | .scope c=>bk c
 | .loop c=>bk c++[c]
 |_=>[]
theorem bY:∀c,(bk c).length=aJ c
 | .seq a b=>by simp[bk,aJ,bY a,bY b]
 | .cond _ a b=>by simp[bk,aJ,bY a,bY b]
 | .block _ c=>by simp[bk,aJ,bY c]
 | .scope c=>by simp[bk,aJ,bY c]
 | .loop c=>by simp[bk,aJ,bY c]
 | .skip | .region .. | .rangeFunc .. | .exit _ | .label _ | .goto _ | .ret | .refuse _=>rfl
def sL(b:Code)(k:Nat):Code:=((bk b)[k]?).getD .skip
def dJ(h:Hint):Nat→Code→Option (CL×Nat)
 |n,.skip=>some (.skip,n)
 |n,.label _=>some (.skip,n)
 |n,.ret=>some (.ret,n)
 |n,.exit id=>some (.exit id,n)
 |n,.region id ops dr=>
  if(ops.toList.all (fb ops.toList)&&(!dr || pureR h ops.toList)&& !h.pan.contains id&&(!dr || (h.swp id).isNone))=true then some (.reg (ops.toList.map (eb ops.toList)) (h.live id),n)
  else if EL h id (h.live id) (Xd (Nz h ops.toList) ops.toList.length) (Nz h ops.toList) (.region id ops dr)=true then
   some (.regD (lfs h ops.toList (Xd (Nz h ops.toList) ops.toList.length) (Nz h ops.toList) ops.toList) (h.live id),n)
  else if(!dr&&h.pan.contains id&&ops.toList.all (fun o=>o.guard.isNone))=true then some (.regP (ops.toList.map (eb ops.toList)) (h.live id),n)
  else none
 |n,.seq a b=>match tG a b with
  |some p=>some (.cpy p,n+aJ (.seq a b))
  |none=>(dJ h n a).bind fun x=>(dJ h x.2 b).bind fun y=>some (.seq x.1 y.1,y.2)
 |n,.cond o a b=>(dJ h n a).bind fun x=>(dJ h x.2 b).bind fun y=>some (.cond o x.1 y.1,y.2)
 |n,.block id c=>(dJ h n c).bind fun x=>some (.block id x.1,x.2)
 |n,.scope c=>dJ h n c
 |n,.loop c=>some (.loop (n+aJ c),n+aJ c+1)
 |_,_=>none
def rC(h:Hint)(b:Code):Option CL:=(dJ h 0 b).map (·.1)
def Ae(h:Hint)(b:Code)(k:Nat):Option CL:=if k<aJ b then(dJ h (k - aJ (sL b k)) (sL b k)).map (·.1)else none
noncomputable def eN(P:Program)(hints:FuncId→Hint)(h:Hint)(b:Code):CL→St→Option (Ex×St)
 | .skip,s=>some (.normal,s)
 | .ret,s=>some (.ret,s)
 | .exit id,s=>some (.exit id,s)
 | .reg L ls,s=>(kP P (aX P hints) h L s).bind fun s'=>some (.normal,prune ls s')
 | .regD L ls,s=>(ry P (aX P hints) h L (s,gM s) []).bind fun s'=>some (.normal,prune ls s')
 | .regP L ls,s=>(xw P (aX P hints) h L s).bind fun p=>match p.1 with |some d=>some (.pan d,p.2) |none=>some (.normal,prune ls p.2)
 | .seq x y,s=>(eN P hints h b x s).bind fun r=>match r.1 with | .normal=>eN P hints h b y r.2 |e=>some (e,r.2)
 | .cond o x y,s=>match s.val o with | .d (.bool t)=>if t=true then eN P hints h b x s else eN P hints h b y s |_=>none
 | .block id x,s=>(eN P hints h b x s).bind fun r=>some (FC id r.1,r.2)
 | .loop k,s=>aY P hints h (.loop (sL b k)) s
 | .cpy p,s=>B7 P p s
def LpAt(b:Code)(n:Nat)(l:List Code):Prop:=∀i c,l[i]? =some c→sL b (n+i)=c
theorem LpAt.left{b:Code}{n:Nat}{l m:List Code}(h:LpAt b n (l++m)):LpAt b n l:=fun i c e=>h i c (by rw[xO (List.getElem?_eq_some_iff.1 e).1];exact e)
theorem LpAt.right{b:Code}{n:Nat}{l m:List Code}(h:LpAt b n (l++m)):LpAt b (n+l.length) m:=fun i c e=>by
 have:=h (l.length+i) c (by rw[xN (Nat.le_add_right _ _)];simpa using e)
 rwa [←Nat.add_assoc]at this
section
variable{P:Program}{hints:FuncId→Hint}{h:Hint}{b:Code}
theorem gw:∀(c:Code) {n m:Nat} {q:CL},dJ h n c=some (q,m)→m=n+aJ c
 | .skip,n,m,q,e=>by simp only[dJ,xJ,pJ]at e;simp[aJ,e.2]
 | .label _,n,m,q,e=>by simp only[dJ,xJ,pJ]at e;simp[aJ,e.2]
 | .ret,n,m,q,e=>by simp only[dJ,xJ,pJ]at e;simp[aJ,e.2]
 | .exit _,n,m,q,e=>by simp only[dJ,xJ,pJ]at e;simp[aJ,e.2]
 | .region _ _ _,n,m,q,e=>by
  simp only[dJ]at e
  split at e
  ·simp only[xJ,pJ]at e;simp[aJ,e.2]
  ·split at e
   ·simp only[xJ,pJ]at e;simp[aJ,e.2]
   ·split at e
    ·simp only[xJ,pJ]at e;simp[aJ,e.2]
    ·cases e
 | .seq a c,n,m,q,e=>by
  simp only[dJ]at e
  split at e
  ·simp only[xJ,pJ]at e
   exact e.2.symm
  simp only[xB,xJ,pJ]at e
  obtain⟨⟨x,n1⟩,e1,⟨y,n2⟩,e2,_,rfl⟩:=e
  have:=gw a e1;have:=gw c e2
  simp only[aJ]at *;omega
 | .cond _ a c,n,m,q,e=>by
  simp only[dJ,xB,xJ,pJ]at e
  obtain⟨⟨x,n1⟩,e1,⟨y,n2⟩,e2,_,rfl⟩:=e
  have:=gw a e1;have:=gw c e2
  simp only[aJ]at *;omega
 | .block _ c,n,m,q,e=>by
  simp only[dJ,xB,xJ,pJ]at e
  obtain⟨⟨x,n1⟩,e1,_,rfl⟩:=e
  have:=gw c e1
  simp only[aJ]at *;omega
 | .scope c,n,m,q,e=>by simp only[dJ]at e;have:=gw c e;simp only[aJ]at *;omega
 | .loop c,n,m,q,e=>by simp only[dJ,xJ,pJ]at e;simp only[aJ];omega
 | .rangeFunc ..,_,_,_,e=>by simp[dJ]at e
 | .goto _,_,_,_,e=>by simp[dJ]at e
 | .refuse _,_,_,_,e=>by simp[dJ]at e
theorem ja:∀(c:Code) {n m:Nat} {q:CL},dJ h n c=some (q,m)→LpAt b n (bk c)→∀s,aY P hints h c s=eN P hints h b q s
 | .skip,n,m,q,e,_,s=>by simp only[dJ,xJ,pJ]at e;obtain⟨rfl,_⟩:=e;exact xk
 | .label _,n,m,q,e,_,s=>by simp only[dJ,xJ,pJ]at e;obtain⟨rfl,_⟩:=e;exact uj
 | .ret,n,m,q,e,_,s=>by simp only[dJ,xJ,pJ]at e;obtain⟨rfl,_⟩:=e;exact zX
 | .exit _,n,m,q,e,_,s=>by simp only[dJ,xJ,pJ]at e;obtain⟨rfl,_⟩:=e;exact xl
 | .region id ops dr,n,m,q,e,_,s=>by
  simp only[dJ]at e
  split at e
  ·rename_i hc
   simp only[xJ,pJ]at e
   obtain⟨rfl,_⟩:=e;exact WW (id:=id) (ls:=h.live id) (by simp only[xA]at hc;simp only[JW,xA,decide_true,hc.1.1.1,hc.1.1.2,hc.1.2,hc.2,and_self]) rfl s
  ·split at e
   ·rename_i hc
    simp only[xJ,pJ]at e
    obtain⟨rfl,_⟩:=e;exact Sg hc rfl s
   ·split at e
    ·rename_i hc
     simp only[xJ,pJ]at e
     obtain⟨rfl,_⟩:=e;simp only[xA,Bool.not_eq_true']at hc
     obtain⟨⟨rfl,hp⟩,hg⟩:=hc;rw[y8 hp,Dh _ _ hg,xF];show _=(xw _ _ _ _ _).bind _;congr 1;funext p;obtain⟨t,s'⟩:=p
     cases t <;>rfl
    ·cases e
 | .seq a c,n,m,q,e,hl,s=>by
  simp only[dJ]at e
  split at e
  ·rename_i p hp
   simp only[xJ,pJ]at e
   obtain⟨rfl,_⟩:=e;rw[Hc hp];rfl
  rename_i hp;simp only[xB,xJ,pJ]at e
  obtain⟨⟨x,n1⟩,e1,⟨y,n2⟩,e2,rfl,rfl⟩:=e;have h1:=gw a e1;simp only at h1 e2;subst h1;simp only[bk]at hl
  have hl2:=hl.right;rw[bY]at hl2
  rw[zZ hp,ja a e1 hl.left s];simp only[eN];congr 1;funext r;unfold zY;obtain⟨r1,r2⟩:=r
  cases r1 with
  |normal=>exact ja c e2 hl2 _
  |_=>rfl
 | .cond o a c,n,m,q,e,hl,s=>by
  simp only[dJ,xB,xJ,pJ]at e
  obtain⟨⟨x,n1⟩,e1,⟨y,n2⟩,e2,rfl,rfl⟩:=e;have h1:=gw a e1;simp only at h1 e2;subst h1;simp only[bk]at hl
  have hl2:=hl.right;rw[bY]at hl2
  rw[Er];simp only[eN,ja a e1 hl.left s,ja c e2 hl2 s]
  try (
   generalize s.val o=v
   cases v with
   |d x=>cases x <;>rfl
   |_=>rfl)
 | .block id c,n,m,q,e,hl,s=>by
  simp only[dJ,xB,xJ,pJ]at e
  obtain⟨⟨x,n1⟩,e1,rfl,rfl⟩:=e;rw[rm,ja c e1 hl s];rfl
 | .scope c,n,m,q,e,hl,s=>by
  simp only[dJ]at e
  rw[uk];exact ja c e hl s
 | .loop c,n,m,q,e,hl,s=>by
  simp only[dJ,xJ,pJ]at e
  obtain⟨rfl,_⟩:=e
  have:=hl.right 0 c rfl
  rw[bY]at this
  simp only[eN];rw[show n+aJ c=n+aJ c+0 from rfl,this]
 | .rangeFunc ..,_,_,_,e,_,_=>by simp[dJ]at e
 | .goto _,_,_,_,e,_,_=>by simp[dJ]at e
 | .refuse _,_,_,_,e,_,_=>by simp[dJ]at e
theorem xy{q:CL}(e:rC h b=some q)(s:St):aY P hints h b s=eN P hints h b q s:=by
 simp only[rC,xM]at e
 obtain⟨⟨q',n⟩,e1,rfl⟩:=e;exact ja b e1 (fun i c hi=>by simp[sL,hi]) s
theorem J4:∀(b:Code) (k:Nat) (c:Code),(bk b)[k]? =some c→aJ c≤k∧∀i x,(bk c)[i]? =some x→(bk b)[k - aJ c+i]? =some x:=by
 have two:∀(l m:List Code) (h1:∀k c,l[k]? =some c→aJ c≤k∧∀i x,(bk c)[i]? =some x→l[k - aJ c+i]? =some x) (h2:∀k c,m[k]? =some c→aJ c≤k∧∀i x,(bk c)[i]? =some x→m[k - aJ c+i]? =some x) (k:Nat) (c:Code),(l++m)[k]? =some c→aJ c≤k∧∀i x,(bk c)[i]? =some x→(l++m)[k - aJ c+i]? =some x:=by
  intro l m h1 h2 k c e
  by_cases hk:k<l.length
  ·rw[xO hk]at e
   obtain⟨q1,q2⟩:=h1 k c e
   exact⟨q1,fun i x hx=>by
    have:=q2 i x hx
    rw[xO (List.getElem?_eq_some_iff.1 this).1];exact this⟩
  ·rw[xN (by omega)]at e
   obtain⟨q1,q2⟩:=h2 _ c e
   refine⟨by omega,fun i x hx=> ?_⟩
   have:=q2 i x hx
   rw[xN (by omega),←this]
   congr 1;omega
 intro b
 induction b with
 |seq a b iha ihb=>exact fun k c e=>two _ _ iha ihb k c e
 |cond o a b iha ihb=>exact fun k c e=>two _ _ iha ihb k c e
 |block id c ih=>exact ih
 |scope c ih=>exact ih
 |loop c ih=>
  intro k x e;simp only[bk]at e ⊢
  by_cases hk:k<(bk c).length
  ·rw[xO hk]at e
   obtain⟨q1,q2⟩:=ih k x e
   exact⟨q1,fun i y hy=>by
    have:=q2 i y hy
    rw[xO (List.getElem?_eq_some_iff.1 this).1];exact this⟩
  ·rw[xN (by omega)]at e
   have:k - (bk c).length=0:=by
    rcases Nat.eq_zero_or_pos (k - (bk c).length)with h0 |h0
    ·exact h0
    ·rw[List.getElem?_eq_none (by simp only[List.length_singleton];omega)]at e;cases e
   rw[this]at e
   simp only[yE,xJ]at e
   subst e;have hl:=bY c
   refine⟨by omega,fun i y hy=> ?_⟩
   have hi:=(List.getElem?_eq_some_iff.1 hy).1;rw[xO (by omega),←hy]
   congr 1;omega
 |_=>intro k c e;simp[bk]at e
theorem Di{k:Nat}{q:CL}(e:Ae h b k=some q)(s:St):aY P hints h (sL b k) s=eN P hints h b q s:=by
 unfold Ae at e
 split at e
 ·rename_i hk
  simp only[xM]at e
  obtain⟨⟨q',n⟩,e1,rfl⟩:=e;refine ja _ e1 (fun i c hi=> ?_) s
  have hk':(bk b)[k]? =some (sL b k):=by
   rw[←bY]at hk
   simp[sL,hk]
  have:=(J4 b k _ hk').2 i c hi
  show((bk b)[k - aJ (sL b k)+i]?).getD .skip=c
  rw[this];rfl
 ·cases e
end
end Go.Am
