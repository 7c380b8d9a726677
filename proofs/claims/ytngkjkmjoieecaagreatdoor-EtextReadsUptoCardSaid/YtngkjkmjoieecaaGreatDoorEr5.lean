/- A part of the proof: texts of mine, merged by a program (wip/dev/merge.py). -/
import Derived.Test.YtngkjkmjoieecaaGreatDoorEr4
set_option linter.unusedSimpArgs false
set_option linter.unusedVariables false
namespace Go.Am
open Go
section
variable{P:Program}{nv dst len:Nat}{lit:Bool}{t:TypeId}{k:Wk}
def rowT(l:List T):List T:=l
@[go_sem low] theorem rowT_nil:rowT []=[]:=rfl
@[go_sem] theorem bs_eq{parts:List (Nat×SV)}:buildSliceE P nv dst lit t len parts k=(elemOf P t).bind fun e=>(zeroOf P e).bind fun z=>(absorbP nv parts k).bind fun q=>
  if 0<P.cellsOf e∧q.1.all (fun p=>p.2.nc==P.cellsOf e)=true∧len * P.cellsOf e≤16777216∧z.nc=P.cellsOf e then
   (setAt (List.replicate len (T.ofZero z)) q.1).bind fun es=>
    if lit=true then(if parts.all (fun p=>isD p.2)=true then(T.frzs false es).bind fun ds=>some (.d (.sl false ds),q.2)else none)
    else some (.bor (.l dst 0) [] 0 len,q.2.new dst 0 (.own (rowT es)))
  else none:=by
 simp only[buildSliceE,xF,rowT];rfl
@[go_sem] theorem ab1_p{r:Root}{q:Nat×Nat}{p:Path}{off m:Nat}:absorb1 nv (.bor r (q::p) off m) k=(k.get r).bind fun c=>(c.at (q::p)).bind fun nd=>match nd with
   | .own es=>(T.frzs false es).bind fun l=>(c.put (q::p) (.d (.sl false l))).bind fun c'=>(k.set r c').bind fun(k:Wk)=>some (.d (.sl false (win l off m)),k.tell (.frz r (q::p) l))
   |_=>none:=by
 cases r <;>simp only[absorb1,xF] <;>rfl
@[go_sem] theorem absP_nil:absorbP nv [] k=some ([],k):=rfl
@[go_sem] theorem absP_cons{i:Nat}{v:SV}{r:List (Nat×SV)}:absorbP nv ((i,v)::r) k=(absorb nv v k).bind fun p=>(absorbP nv r p.2).bind fun q=>some ((i,p.1)::q.1,q.2):=by
 simp only[absorbP,xF];rfl
@[go_sem] theorem setAt_nil{l:List T}:setAt l []=some l:=rfl
@[go_sem] theorem setAt_cons{l:List T}{i:Nat}{x:T}{r:List (Nat×T)}:setAt l ((i,x)::r)=if i<l.length then setAt (l.set i x) r else none:=rfl
@[go_sem] theorem isD_d{x:D}:isD (.d x)=true:=rfl
@[go_sem] theorem news_sl{b:Bool}{l:List D}:newsE nv (.d (.sl b l)) k=some (l.map .d,k):=rfl
@[go_sem] theorem news_l{n j off m:Nat}:newsE nv (.bor (.l n j) [] off m) k=(k.get (.l n j)).bind fun c=>match c with
  | .own es=>if nv≤n∧off=0∧m=es.length then(k.set (.l n j) .dead).bind fun(k:Wk)=>some (es,k.tell (.kill (.l n j) []))
     else if plainT (win es off m)=true then some (win es off m,k)else none
  |_=>none:=by
 simp only[newsE]
 cases k.get (.l n j)with
 |none=>rfl
 |some c=>
  simp only[xS,at_nil]
  cases c with
  |own es=>simp only[xF];rfl
  |_=>rfl
@[go_sem] theorem olds_bor{n off m:Nat}{news:List T}{r:Root}{p:Path}:oldsE n news (.bor r p off m) k=if off=0 then
   (k.get r).bind fun c=>(c.at p).bind fun nd=>match nd with
    | .own es=>if m≤es.length∧uniform n es=true∧okLen m es news=true then(c.put p .dead).bind fun c'=>(k.set r c').bind fun(k:Wk)=>some (es.take m,k.tell (.kill r p))else none
    |_=>none
  else none:=by
 simp only[oldsE,xF]
 try rfl
@[go_sem] theorem app_eq{s x:SV}:appendE P nv dst t s x k=(elemOf P t).bind fun e=>(zeroOf P e).bind fun z=>(newsE nv x k).bind fun q=>
  if 0<P.cellsOf e∧uniform (P.cellsOf e) q.1=true∧z.nc=P.cellsOf e then
   (oldsE (P.cellsOf e) q.1 (trv q.2.tr s) q.2).bind fun o=>
    if(o.1.length+q.1.length) * P.bytesOf e≤140737488355328∧o.1.length+q.1.length≤9223372036854775807 then
     some (.bor (.l dst 0) [] 0 (o.1.length+q.1.length),o.2.new dst 0 (.own (o.1++q.1)))
    else none
  else none:=by
 simp only[appendE,xP]
@[go_sem] theorem absorbF_eq{v:SV}:absorbF nv v k=(absorb nv v k).bind fun p=>some (p.1.fresh,p.2):=by
 simp only[absorbF,xF];rfl
attribute [go_sem] T.fresh T.fresh1 List.any_cons List.any_nil
def stoAt(P:Program)(t:TypeId)(a:SV)(x:T)(k:Wk):Option Wk:=
 match a with
 | .loc r p i off=>
  if x.nc=P.cellsOf t∧0<x.nc then
   (k.get r).bind fun c=>(c.at p).bind fun nd=>
    match nd with
    | .own es=>(es[i]?).bind fun e=>
     if off+x.nc≤e.nc then
      (c.put p (.own (es.set i (if off=0∧x.nc=e.nc then x else e.setCells off x.cells)))).bind fun c'=>
       (k.set r c').bind fun(k:Wk)=>some (if isOwn e=true then k.tell (.killN r (p.length+1))else k)
     else none
    |_=>none
  else none
 |_=>none
@[go_sem] theorem store_eq{a v:SV}:storeE P nv t a v k=(absorbF nv v k).bind fun q=>stoAt P t (asLoc (trv q.2.tr a)) q.1 q.2:=by
 simp only[storeE,xF]
 try rfl
@[go_sem] theorem asLoc_loc{r:Root}{p:Path}{i o:Nat}:asLoc (.loc r p i o)=.loc r p i o:=rfl
@[go_sem] theorem asLoc_ptr{o:Nat}:asLoc (.d (.ptr o))=.loc (.o o) [] 0 0:=rfl
@[go_sem] theorem stoAt_loc{r:Root}{p:Path}{i off:Nat}{x:T}:stoAt P t (.loc r p i off) x k=if x.nc=P.cellsOf t∧0<x.nc then
   (k.get r).bind fun c=>(c.at p).bind fun nd=>
    match nd with
    | .own es=>(es[i]?).bind fun e=>
     if off+x.nc≤e.nc then
      (c.put p (.own (es.set i (if off=0∧x.nc=e.nc then x else e.setCells off x.cells)))).bind fun c'=>
       (k.set r c').bind fun(k:Wk)=>some (if isOwn e=true then k.tell (.killN r (p.length+1))else k)
     else none
    |_=>none
  else none:=rfl
@[go_sem] theorem build_eq{parts:List (Nat×SV)}:buildE P t parts=match zeroOf P t with
  |some (.agg z)=>(placesOf P t).bind fun pl=>(fillE pl (z.map .d) parts).bind fun l=>some (SV.mkAgg l)
  |_=>none:=by
 simp only[buildE,xF];rfl
@[go_sem] theorem fillE_nil{pl:Nat ⊕ List (Nat×Nat)}{cs:List SV}:fillE pl cs []=some cs:=rfl
@[go_sem] theorem fillE_cons{pl:Nat ⊕ List (Nat×Nat)}{cs:List SV}{i:Nat}{v:SV}{r:List (Nat×SV)}:fillE pl cs ((i,v)::r)=(placeAt pl i).bind fun q=>if v.solid=true∧v.nc=q.2∧q.1+q.2≤cs.length then fillE pl (cs.take q.1++v.cells++cs.drop (q.1+q.2)) r else none:=rfl
section
variable{r r':Root}{p p':Path}{off i n m:Nat}{l:List D}{a b:Nat×Nat}
@[go_sem] theorem kill_bor:Tr.sv (.kill r' p') (.bor r p off m)=if r=r' then(if p=p' then .dead else if p'.length<p.length then .dead else .bor r p off m)else .bor r p off m:=by simp only[Tr.sv]
@[go_sem] theorem killN_bor:Tr.sv (.killN r' n) (.bor r p off m)=if r=r'∧n≤p.length then .dead else .bor r p off m:=by simp only[Tr.sv]
@[go_sem] theorem frz_bor:Tr.sv (.frz r' p' l) (.bor r p off m)=if r=r' then(if p=p' then .d (.sl false ((l.drop off).take m))else if p'.length<p.length then .dead else .bor r p off m)else .bor r p off m:=by simp only[Tr.sv]
@[go_sem] theorem ren_bor:Tr.sv (.ren a b) (.bor r p off m)=if r=.l a.1 a.2 then .bor (.l b.1 b.2) p off m else .bor r p off m:=by simp only[Tr.sv]
@[go_sem] theorem killO_borO{x:Nat}:Tr.sv .killO (.bor (.o x) p off m)=.dead:=by simp only[Tr.sv]
@[go_sem] theorem kill_loc:Tr.sv (.kill r' p') (.loc r p i off)=if r=r' then(if p=p' then .dead else if p'.length<p.length then .dead else .loc r p i off)else .loc r p i off:=by simp only[Tr.sv]
@[go_sem] theorem killN_loc:Tr.sv (.killN r' n) (.loc r p i off)=if r=r'∧n≤p.length then .dead else .loc r p i off:=by simp only[Tr.sv]
@[go_sem] theorem frz_loc:Tr.sv (.frz r' p' l) (.loc r p i off)=if r=r' then(if p=p' then .dead else if p'.length<p.length then .dead else .loc r p i off)else .loc r p i off:=by simp only[Tr.sv]
@[go_sem] theorem ren_loc:Tr.sv (.ren a b) (.loc r p i off)=if r=.l a.1 a.2 then .loc (.l b.1 b.2) p i off else .loc r p i off:=by simp only[Tr.sv]
@[go_sem] theorem killO_locL{x y:Nat}:Tr.sv .killO (.loc (.l x y) p i off)=.loc (.l x y) p i off:=by simp only[Tr.sv]
@[go_sem] theorem killO_locN{x:Nat}:Tr.sv .killO (.loc (.o x) [] i off)=.loc (.o x) [] i off:=by simp only[Tr.sv]
end
section
variable{call:CallF}{h:Hint}{f:FuncId}{ds:List D}{b:Lend}{ct:List ((Nat×Nat)×T)}{H:List Ob}{tr:List Tr}
@[go_sem] theorem callE_ro:callE call h dst f ds b k=if h.ro.contains dst=true then(mapO (roD k.H 4) ds).bind fun ds'=>callE0 call h dst f (D.lends ds') {sn:=true,lk:=List.range k.H.length++b.lk} k else if h.lkn.contains dst=true∧b.sn=true then callE0 call h dst f ds {b with lk:=b.lk++nonImm k.H} k else callE0 call h dst f ds b k:=rfl
@[go_sem] theorem lockSome_nil:lockSome [] H=H:=rfl
@[go_sem] theorem unlock_nil{H':List Ob}:unlock H [] H'=H':=rfl
@[go_sem] theorem lockSome_cons{n:Nat}{r:List Nat}:lockSome (n::r) H=lockSome r (H.set n .lock):=rfl
@[go_sem] theorem unlock_cons{n:Nat}{r:List Nat}{H':List Ob}:unlock H (n::r) H'=unlock H r (match H[n]? with |some x=>H'.set n x |none=>H'):=rfl
theorem sameObs_self:∀H:List Ob,sameObs H H=true
 | []=>rfl
 | .box c::r=>by simp[sameObs,sameObs_self r]
 | .map _::r=>by simp[sameObs,sameObs_self r]
 | .iter _ _::r=>by simp[sameObs,sameObs_self r]
 | .miter _::r=>by simp[sameObs,sameObs_self r]
 | .frame .. ::r=>by simp[sameObs,sameObs_self r]
 | .lock::r=>by simp[sameObs,sameObs_self r]
 | .row _::r=>by simp[sameObs,sameObs_self r]
@[go_sem] theorem sameObs_n{H':List Ob}:sameObs [] H'=true:=rfl
@[go_sem] theorem sameObs_b{c c':T}{r r':List Ob}:sameObs (.box c::r) (.box c'::r')=(c.nc==c'.nc&&sameObs r r'):=rfl
@[go_sem] theorem sameObs_m{c c':List (D×T)}{r r':List Ob}:sameObs (.map c::r) (.map c'::r')=sameObs r r':=rfl
variable{x y z w:D}
@[go_sem] theorem resE_0:resE dst [] k=some (.tup [],k):=rfl
@[go_sem] theorem resE_1{t:T}:resE dst [t] k=(res1 dst 0 t k).bind fun p=>some (p.1,p.2.2):=by
 simp only[resE,resAll,xF,xX];rfl
@[go_sem] theorem resE_2{t u:T}:resE dst [t,u] k=(res1 dst 0 t k).bind fun p=>(res1 dst p.2.1 u p.2.2).bind fun q=>some (.tup [p.1,q.1],q.2.2):=by
 simp only[resE,resAll,xF,xX];rfl
@[go_sem] theorem resE_3{t u v:T}:resE dst [t,u,v] k=(res1 dst 0 t k).bind fun p=>(res1 dst p.2.1 u p.2.2).bind fun q=>(res1 dst q.2.1 v q.2.2).bind fun r=>some (.tup [p.1,q.1,r.1],r.2.2):=by
 simp only[resE,resAll,xF,xX];rfl
@[go_sem] theorem res1_d{j:Nat}:res1 dst j (.d x) k=some (.d x,j,k):=rfl
@[go_sem] theorem res1_own{j:Nat}{es:List T}:res1 dst j (.own es) k=some (.bor (.l dst j) [] 0 es.length,j+1,k.new dst j (.own es)):=rfl
attribute [go_sem] EM
@[go_sem] theorem sn1_o{n off m:Nat}{p:Path}:snap1 nv (.bor (.o n) p off m) k b=(k.get (.o n)).bind fun c=>(c.at p).bind fun nd=>match nd with
   | .own es=>if EM≤nv∧es.isEmpty=true then some (.sl false [],k,b)else(T.frzs true es).bind fun l=>some (.sl true (win l off m),k,{sn:=true,lk:=n::b.lk})
   |_=>none:=by
 simp only[snap1,xF];rfl
end
@[go_sem] theorem uniform_nil{n:Nat}:uniform n []=true:=rfl
@[go_sem] theorem uniform_cons{n:Nat}{x:T}{l:List T}:uniform n (x::l)=(x.nc==n&&uniform n l):=rfl
attribute [go_sem] trunc plainT placeAt SV.solid SV.nc SV.cells SV.mkAgg T.mkAgg T.setCells T.putCell T.cells T.ofZero T.ofD1 okLen isOwn SV.pures T.pures
end
@[go_sem] theorem index_str{P:Program}{t:TypeId}{k:IntKind}{n:Int}{s:List UInt8}:indexE P t (.d (.str s)) (.d (.int k n))=match P.underlying t with |some .string=>(if 0≤n then(s[n.toNat]?).bind fun b=>some (.d (.int .u8 b.toNat))else none) |_=>none:=by
 simp only[indexE,xF]
 rfl
end Go.Am
namespace Go.Am
open Go
section
variable{α β γ:Type}
theorem bind_ite{c:Prop}[Decidable c]{a b:Option α}{g:α→Option γ}:(if c then a else b).bind g=if c then a.bind g else b.bind g:=by split <;>rfl
theorem bind_map{o:Option α}{f:α→β}{g:β→Option γ}:(o.map f).bind g=o.bind fun x=>g (f x):=by cases o <;>rfl
end
section
variable{P:Program}{call:CallF}{h:Hint}{d:Option Nat}{ty:TypeId}{op:Op}{r:List Lite}{env:List (Nat×SV)}{ct:List ((Nat×Nat)×T)}{H:List Ob}{b:Bool}
@[go_sem high] theorem guardL_boolF:guardL P call h d ty op false r ⟨env,ct,H⟩ (.d (.bool b))=if b=true then runL P call h r (St.fin ⟨env,ct,H⟩ d (.tup []) ⟨ct,H,[]⟩)else(stepE P call h (d.getD 0) ty op (St.val ⟨env,ct,H⟩) ⟨ct,H,[]⟩).bind fun p=>nextL P call h d r ⟨env,ct,H⟩ p.1 p.2:=by
 cases b <;>simp[guardL_bool]
@[go_sem high] theorem guardC_boolF{o:LF}{r:List LF}{c:Cf}{acc:List Fp}:guardC P call h o false r c acc (.d (.bool b))=if b=true then nextC P call h o r c acc false (.tup []) c.1.wk else(stepE P call h (o.d.getD 0) o.ty o.op c.1.val c.1.wk).bind fun p=>nextC P call h o r c acc true p.1 p.2:=by
 cases b <;>simp[guardC_bool]
end
@[reducible] def eI(n:Int):D:=.int .i64 n
@[reducible] def eB(b:Bool):D:=.bool b
@[reducible] def eS(s:List UInt8):D:=.str s
@[reducible] def eK(k:IntKind)(n:Int):D:=.int k n
def tl{α:Type}(f:α→D)(l:List α):List T:=l.map fun x=>.d (f x)
section
variable{α:Type}{f:α→D}{l:List α}{x:α}{b:Bool}
attribute [go_sem] D.imm D.imms D.lend D.lends
theorem imms_map(h:∀x,(f x).imm=true):D.imms (l.map f)=true:=by induction l <;>simp_all [D.imms]
theorem lends_to{g:α→D}(h:∀x,(f x).lend=g x):D.lends (l.map f)=l.map g:=by induction l <;>simp_all [D.lends]
theorem lends_same(h:∀x,(f x).lend=f x):D.lends (l.map f)=l.map f:=lends_to h
theorem lows_map{n:Nat}(h:∀x,(f x).low n=true):D.lows n (l.map f)=true:=by induction l <;>simp_all [D.lows]
@[go_sem] theorem tl_nil:tl f []=[]:=rfl
@[go_sem] theorem tl_len:(tl f l).length=l.length:=by simp[tl]
@[go_sem] theorem tl_get{i:Nat}:(tl f l)[i]? =(l[i]?).map fun x=>.d (f x):=by simp[tl]
@[go_sem] theorem tl_at{i:Nat}(h:i<(tl f l).length):(tl f l)[i]=.d (f (l[i]'(by simpa [tl]using h))):=by simp[tl]
theorem tl_snoc:tl f l++[.d (f x)]=tl f (l++[x]):=by simp[tl]
@[go_sem] theorem tl_app{m:List α}:tl f l++tl f m=tl f (l++m):=by simp[tl]
@[go_sem] theorem tl_take{n:Nat}:(tl f l).take n=tl f (l.take n):=by simp[tl,List.map_take]
@[go_sem] theorem tl_drop{n:Nat}:(tl f l).drop n=tl f (l.drop n):=by simp[tl,List.map_drop]
@[go_sem] theorem tl_map':((l.map f).map T.d)=tl f l:=by simp[tl]
theorem uniform_tl{n:Nat}(h:∀x,(f x).nc=n):uniform n (tl f l)=true:=by
 induction l with
 |nil=>rfl
 |cons a r ih=>simp only[tl,List.map_cons,uniform_cons]at ih ⊢;rw[ih];simp[T.nc,h]
theorem frzs_tl(h:∀x,(f x).norm=f x):T.frzs b (tl f l)=some (l.map f):=by
 induction l with
 |nil=>rfl
 |cons a r ih=>simp only[tl,List.map_cons,T.frzs,T.frz,h]at ih ⊢;rw[ih];rfl
theorem lowT_tl{n:Nat}(h:∀x,(f x).low n=true):T.lows n (tl f l)=true:=by
 induction l with
 |nil=>rfl
 |cons a r ih=>simp only[tl,List.map_cons,T.lows,T.low,h]at ih ⊢;simpa using ih
@[go_sem] theorem take_snoc:(l++[x]).take (l.length+1)=l++[x]:=List.take_of_length_le (by simp)
@[go_sem high] theorem tlI64_snoc{l:List Int}{n:Int}:tl eI l++[.d (.int .i64 n)]=tl eI (l++[n]):=by simp[tl]
@[go_sem] theorem bytesO_cons{n:Int}{r:List D}:bytesO (.int .u8 n::r)=(bytesO r).bind fun l=>some (UInt8.ofNat n.toNat::l):=by
 simp only[bytesO,xF];rfl
@[go_sem] theorem bytesO_nil:bytesO []=some []:=rfl
def tlo(f:α→D)(l:List (List α)):List T:=l.map fun r=>.own (tl f r)
section
variable{l:List (List α)}{r:List α}
theorem tlo_rep{n:Nat}:tlo f (List.replicate n [])=List.replicate n (.own []):=by simp[tlo,tl]
end
@[go_sem] theorem cellsSV_nil{r:Root}{p:Path}{i o:Nat}:cellsSV r p i o []=some []:=rfl
@[go_sem] theorem cellsSV_cons{r:Root}{p:Path}{i o:Nat}{t:T}{l:List T}:cellsSV r p i o (t::l)=(cellSV r p i o t).bind fun x=>(cellsSV r p i (o+1) l).bind fun xs=>some (x::xs):=by
 simp only[cellsSV,xF];rfl
attribute [go_sem] sameObs_self T.imms T.imm T.lows T.low D.low D.lows
attribute [go_sem] canon eI eB eS eK bind_ite bind_map xX trunc yE List.getElem?_cons_succ xZ yN List.length_map decide_true decide_false Int.natCast_nonneg xV List.getElem?_map xQ Option.map_none xH win List.take_zero List.drop_zero List.take_succ_cons List.drop_succ_cons
end
end Go.Am
namespace Go.Am
open Go
inductive CL where
 |skip
 |reg (L:List Lite) (ls:List Nat)
 |regD (L:List LF) (ls:List Nat)
 |regP (L:List Lite) (ls:List Nat)
 |seq (a b:CL)
 |cond (o:Operand) (a b:CL)
 |block (id:Nat) (a:CL)
 |loop (k:Nat)
 |exit (id:Nat)
 |ret
def runLP(P:Program)(call:CallF)(h:Hint):List Lite→St→Option (Option D×St)
 | [],s=>some (none,s)
 |o::r,s=>(stepP P call h (o.d.getD 0) o.ty o.op s.val s.wk).bind fun p=>match p.1 with
  |some d=>some (some d,s.fin none .dead p.2.2)
  |none=>runLP P call h r (s.fin o.d p.2.1 p.2.2)
theorem runLP_eq{P:Program}{call:CallF}{h:Hint}{ops:List Oper}:∀(l:List Oper) (s:St),l.all (fun o=>o.guard.isNone)=true→runOpsP P call h ops l s=runLP P call h (l.map (liteOf ops)) s
 | [],s,_=>rfl
 |o::l,s,hg=>by
  simp only[List.all_cons,xA,yJ]at hg
  have hw:wantE ops s o=some true:=by unfold wantE;rw[hg.1]
  simp only[runOpsP,hw,xS,if_true,List.map_cons,runLP]
  have e1:(liteOf ops o).d=o.dst:=rfl
  have e2:(liteOf ops o).ty=o.type:=rfl
  have e3:(liteOf ops o).op=o.op:=rfl
  rw[e1,e2,e3]
  congr 1
  funext p
  obtain⟨t,v,k⟩:=p
  cases t with
  |some d=>rfl
  |none=>exact runLP_eq l _ hg.2
def usOf(h:Hint)(ops:List Oper):List (List Nat):=
 (List.range ops.length).map fun i=>(List.range i).filter fun j=>match ops[i]?,ops[j]?,((befs ops []).getD [])[i]? with
  |some y,some x,some b=> !(b.testBit j)&& !(slotsApart ops x y&& !effOf h (x.dst.getD 0) x.op&& !effOf h (y.dst.getD 0) y.op)
  |_,_,_=>true
def nsOf(us:List (List Nat))(n:Nat):List Bool:=(List.range n).map fun j=>us.any (·.contains j)
def nloops:Code→Nat
 | .seq a b=>nloops a+nloops b
 | .cond _ a b=>nloops a+nloops b
 | .block _ c=>nloops c
 | .scope c=>nloops c
 | .loop c=>nloops c+1
 |_=>0
def loopsC:Code→List Code
 | .seq a b=>loopsC a++loopsC b
 | .cond _ a b=>loopsC a++loopsC b
 | .block _ c=>loopsC c
 | .scope c=>loopsC c
 | .loop c=>loopsC c++[c]
 |_=>[]
theorem nloops_len:∀c,(loopsC c).length=nloops c
 | .seq a b=>by simp[loopsC,nloops,nloops_len a,nloops_len b]
 | .cond _ a b=>by simp[loopsC,nloops,nloops_len a,nloops_len b]
 | .block _ c=>by simp[loopsC,nloops,nloops_len c]
 | .scope c=>by simp[loopsC,nloops,nloops_len c]
 | .loop c=>by simp[loopsC,nloops,nloops_len c]
 | .skip | .region .. | .rangeFunc .. | .exit _ | .label _ | .goto _ | .ret | .refuse _=>rfl
def lpAt(b:Code)(k:Nat):Code:=((loopsC b)[k]?).getD .skip
def comp(h:Hint):Nat→Code→Option (CL×Nat)
 |n,.skip=>some (.skip,n)
 |n,.label _=>some (.skip,n)
 |n,.ret=>some (.ret,n)
 |n,.exit id=>some (.exit id,n)
 |n,.region id ops dr=>
  if(ops.toList.all (guardOk ops.toList)&&(!dr || pureR h ops.toList)&& !h.pan.contains id&&(!dr || (h.swp id).isNone))=true then some (.reg (ops.toList.map (liteOf ops.toList)) (h.live id),n)
  else if regOkD h id (h.live id) (nsOf (usOf h ops.toList) ops.toList.length) (usOf h ops.toList) (.region id ops dr)=true then
   some (.regD (lfs h ops.toList (nsOf (usOf h ops.toList) ops.toList.length) (usOf h ops.toList) ops.toList) (h.live id),n)
  else if(!dr&&h.pan.contains id&&ops.toList.all (fun o=>o.guard.isNone))=true then some (.regP (ops.toList.map (liteOf ops.toList)) (h.live id),n)
  else none
 |n,.seq a b=>(comp h n a).bind fun x=>(comp h x.2 b).bind fun y=>some (.seq x.1 y.1,y.2)
 |n,.cond o a b=>(comp h n a).bind fun x=>(comp h x.2 b).bind fun y=>some (.cond o x.1 y.1,y.2)
 |n,.block id c=>(comp h n c).bind fun x=>some (.block id x.1,x.2)
 |n,.scope c=>comp h n c
 |n,.loop c=>some (.loop (n+nloops c),n+nloops c+1)
 |_,_=>none
def compF(h:Hint)(b:Code):Option CL:=(comp h 0 b).map (·.1)
def compL(h:Hint)(b:Code)(k:Nat):Option CL:=if k<nloops b then(comp h (k - nloops (lpAt b k)) (lpAt b k)).map (·.1)else none
noncomputable def codeC(P:Program)(hints:FuncId→Hint)(h:Hint)(b:Code):CL→St→Option (Ex×St)
 | .skip,s=>some (.normal,s)
 | .ret,s=>some (.ret,s)
 | .exit id,s=>some (.exit id,s)
 | .reg L ls,s=>(runL P (callX P hints) h L s).bind fun s'=>some (.normal,prune ls s')
 | .regD L ls,s=>(runC P (callX P hints) h L (s,hist0 s) []).bind fun s'=>some (.normal,prune ls s')
 | .regP L ls,s=>(runLP P (callX P hints) h L s).bind fun p=>match p.1 with |some d=>some (.pan d,p.2) |none=>some (.normal,prune ls p.2)
 | .seq x y,s=>(codeC P hints h b x s).bind fun r=>match r.1 with | .normal=>codeC P hints h b y r.2 |e=>some (e,r.2)
 | .cond o x y,s=>match s.val o with | .d (.bool t)=>if t=true then codeC P hints h b x s else codeC P hints h b y s |_=>none
 | .block id x,s=>(codeC P hints h b x s).bind fun r=>some (exOut id r.1,r.2)
 | .loop k,s=>codeX P hints h (.loop (lpAt b k)) s
def LpAt(b:Code)(n:Nat)(l:List Code):Prop:=∀i c,l[i]? =some c→lpAt b (n+i)=c
theorem LpAt.left{b:Code}{n:Nat}{l m:List Code}(h:LpAt b n (l++m)):LpAt b n l:=fun i c e=>h i c (by rw[xO (List.getElem?_eq_some_iff.1 e).1];exact e)
theorem LpAt.right{b:Code}{n:Nat}{l m:List Code}(h:LpAt b n (l++m)):LpAt b (n+l.length) m:=fun i c e=>by
 have:=h (l.length+i) c (by rw[xN (Nat.le_add_right _ _)];simpa using e)
 rwa [←Nat.add_assoc]at this
section
variable{P:Program}{hints:FuncId→Hint}{h:Hint}{b:Code}
theorem comp_num:∀(c:Code) {n m:Nat} {q:CL},comp h n c=some (q,m)→m=n+nloops c
 | .skip,n,m,q,e=>by simp only[comp,xJ,pJ]at e;simp[nloops,e.2]
 | .label _,n,m,q,e=>by simp only[comp,xJ,pJ]at e;simp[nloops,e.2]
 | .ret,n,m,q,e=>by simp only[comp,xJ,pJ]at e;simp[nloops,e.2]
 | .exit _,n,m,q,e=>by simp only[comp,xJ,pJ]at e;simp[nloops,e.2]
 | .region _ _ _,n,m,q,e=>by
  simp only[comp]at e
  split at e
  ·simp only[xJ,pJ]at e;simp[nloops,e.2]
  ·split at e
   ·simp only[xJ,pJ]at e;simp[nloops,e.2]
   ·split at e
    ·simp only[xJ,pJ]at e;simp[nloops,e.2]
    ·cases e
 | .seq a c,n,m,q,e=>by
  simp only[comp,xB,xJ,pJ]at e
  obtain⟨⟨x,n1⟩,e1,⟨y,n2⟩,e2,_,rfl⟩:=e
  have:=comp_num a e1;have:=comp_num c e2
  simp only[nloops]at *;omega
 | .cond _ a c,n,m,q,e=>by
  simp only[comp,xB,xJ,pJ]at e
  obtain⟨⟨x,n1⟩,e1,⟨y,n2⟩,e2,_,rfl⟩:=e
  have:=comp_num a e1;have:=comp_num c e2
  simp only[nloops]at *;omega
 | .block _ c,n,m,q,e=>by
  simp only[comp,xB,xJ,pJ]at e
  obtain⟨⟨x,n1⟩,e1,_,rfl⟩:=e
  have:=comp_num c e1
  simp only[nloops]at *;omega
 | .scope c,n,m,q,e=>by simp only[comp]at e;have:=comp_num c e;simp only[nloops]at *;omega
 | .loop c,n,m,q,e=>by simp only[comp,xJ,pJ]at e;simp only[nloops];omega
 | .rangeFunc ..,_,_,_,e=>by simp[comp]at e
 | .goto _,_,_,_,e=>by simp[comp]at e
 | .refuse _,_,_,_,e=>by simp[comp]at e
theorem comp_ok:∀(c:Code) {n m:Nat} {q:CL},comp h n c=some (q,m)→LpAt b n (loopsC c)→∀s,codeX P hints h c s=codeC P hints h b q s
 | .skip,n,m,q,e,_,s=>by simp only[comp,xJ,pJ]at e;obtain⟨rfl,_⟩:=e;exact codeX_skip
 | .label _,n,m,q,e,_,s=>by simp only[comp,xJ,pJ]at e;obtain⟨rfl,_⟩:=e;exact codeX_label
 | .ret,n,m,q,e,_,s=>by simp only[comp,xJ,pJ]at e;obtain⟨rfl,_⟩:=e;exact codeX_ret
 | .exit _,n,m,q,e,_,s=>by simp only[comp,xJ,pJ]at e;obtain⟨rfl,_⟩:=e;exact codeX_exit
 | .region id ops dr,n,m,q,e,_,s=>by
  simp only[comp]at e
  split at e
  ·rename_i hc
   simp only[xJ,pJ]at e
   obtain⟨rfl,_⟩:=e
   exact rg_eq (id:=id) (ls:=h.live id) (by simp only[xA]at hc;simp only[regOk,xA,decide_true,hc.1.1.1,hc.1.1.2,hc.1.2,hc.2,and_self]) rfl s
  ·split at e
   ·rename_i hc
    simp only[xJ,pJ]at e
    obtain⟨rfl,_⟩:=e
    exact rgD_eq hc rfl s
   ·split at e
    ·rename_i hc
     simp only[xJ,pJ]at e
     obtain⟨rfl,_⟩:=e
     simp only[xA,Bool.not_eq_true']at hc
     obtain⟨⟨rfl,hp⟩,hg⟩:=hc
     rw[codeX_regionP hp,runLP_eq _ _ hg,xF]
     show _=(runLP _ _ _ _ _).bind _
     congr 1
     funext p
     obtain⟨t,s'⟩:=p
     cases t <;>rfl
    ·cases e
 | .seq a c,n,m,q,e,hl,s=>by
  simp only[comp,xB,xJ,pJ]at e
  obtain⟨⟨x,n1⟩,e1,⟨y,n2⟩,e2,rfl,rfl⟩:=e
  have h1:=comp_num a e1
  simp only at h1 e2
  subst h1
  simp only[loopsC]at hl
  have hl2:=hl.right
  rw[nloops_len]at hl2
  rw[codeX_seq,comp_ok a e1 hl.left s]
  simp only[codeC]
  congr 1
  funext r
  unfold thenX
  split
  ·rename_i hr;simp only[hr];exact comp_ok c e2 hl2 _
  ·rename_i hr;split
   ·rename_i hr2;exact absurd hr2 hr
   ·rfl
 | .cond o a c,n,m,q,e,hl,s=>by
  simp only[comp,xB,xJ,pJ]at e
  obtain⟨⟨x,n1⟩,e1,⟨y,n2⟩,e2,rfl,rfl⟩:=e
  have h1:=comp_num a e1
  simp only at h1 e2
  subst h1
  simp only[loopsC]at hl
  have hl2:=hl.right
  rw[nloops_len]at hl2
  rw[codeX_cond]
  simp only[codeC,comp_ok a e1 hl.left s,comp_ok c e2 hl2 s]
  generalize s.val o=v
  cases v with
  |d x=>cases x <;>rfl
  |_=>rfl
 | .block id c,n,m,q,e,hl,s=>by
  simp only[comp,xB,xJ,pJ]at e
  obtain⟨⟨x,n1⟩,e1,rfl,rfl⟩:=e
  rw[codeX_block',comp_ok c e1 hl s];rfl
 | .scope c,n,m,q,e,hl,s=>by
  simp only[comp]at e
  rw[codeX_scope];exact comp_ok c e hl s
 | .loop c,n,m,q,e,hl,s=>by
  simp only[comp,xJ,pJ]at e
  obtain⟨rfl,_⟩:=e
  have:=hl.right 0 c rfl
  rw[nloops_len]at this
  simp only[codeC]
  rw[show n+nloops c=n+nloops c+0 from rfl,this]
 | .rangeFunc ..,_,_,_,e,_,_=>by simp[comp]at e
 | .goto _,_,_,_,e,_,_=>by simp[comp]at e
 | .refuse _,_,_,_,e,_,_=>by simp[comp]at e
theorem compF_ok{q:CL}(e:compF h b=some q)(s:St):codeX P hints h b s=codeC P hints h b q s:=by
 simp only[compF,xM]at e
 obtain⟨⟨q',n⟩,e1,rfl⟩:=e
 exact comp_ok b e1 (fun i c hi=>by simp[lpAt,hi]) s
theorem loops_in:∀(b:Code) (k:Nat) (c:Code),(loopsC b)[k]? =some c→nloops c≤k∧∀i x,(loopsC c)[i]? =some x→(loopsC b)[k - nloops c+i]? =some x:=by
 have two:∀(l m:List Code) (h1:∀k c,l[k]? =some c→nloops c≤k∧∀i x,(loopsC c)[i]? =some x→l[k - nloops c+i]? =some x) (h2:∀k c,m[k]? =some c→nloops c≤k∧∀i x,(loopsC c)[i]? =some x→m[k - nloops c+i]? =some x) (k:Nat) (c:Code),(l++m)[k]? =some c→nloops c≤k∧∀i x,(loopsC c)[i]? =some x→(l++m)[k - nloops c+i]? =some x:=by
  intro l m h1 h2 k c e
  by_cases hk:k<l.length
  ·rw[xO hk]at e
   obtain⟨q1,q2⟩:=h1 k c e
   exact⟨q1,fun i x hx=>by
    have:=q2 i x hx
    rw[xO (List.getElem?_eq_some_iff.1 this).1];exact this⟩
  ·rw[xN (by omega)]at e
   obtain⟨q1,q2⟩:=h2 _ c e
   refine⟨by omega,fun i x hx=> ?_⟩
   have:=q2 i x hx
   rw[xN (by omega),←this]
   congr 1;omega
 intro b
 induction b with
 |seq a b iha ihb=>exact fun k c e=>two _ _ iha ihb k c e
 |cond o a b iha ihb=>exact fun k c e=>two _ _ iha ihb k c e
 |block id c ih=>exact ih
 |scope c ih=>exact ih
 |loop c ih=>
  intro k x e
  simp only[loopsC]at e ⊢
  by_cases hk:k<(loopsC c).length
  ·rw[xO hk]at e
   obtain⟨q1,q2⟩:=ih k x e
   exact⟨q1,fun i y hy=>by
    have:=q2 i y hy
    rw[xO (List.getElem?_eq_some_iff.1 this).1];exact this⟩
  ·rw[xN (by omega)]at e
   have:k - (loopsC c).length=0:=by
    rcases Nat.eq_zero_or_pos (k - (loopsC c).length)with h0 |h0
    ·exact h0
    ·rw[List.getElem?_eq_none (by simp only[List.length_singleton];omega)]at e;cases e
   rw[this]at e
   simp only[yE,xJ]at e
   subst e
   have hl:=nloops_len c
   refine⟨by omega,fun i y hy=> ?_⟩
   have hi:=(List.getElem?_eq_some_iff.1 hy).1
   rw[xO (by omega),←hy]
   congr 1;omega
 |_=>intro k c e;simp[loopsC]at e
theorem compL_ok{k:Nat}{q:CL}(e:compL h b k=some q)(s:St):codeX P hints h (lpAt b k) s=codeC P hints h b q s:=by
 unfold compL at e
 split at e
 ·rename_i hk
  simp only[xM]at e
  obtain⟨⟨q',n⟩,e1,rfl⟩:=e
  refine comp_ok _ e1 (fun i c hi=> ?_) s
  have hk':(loopsC b)[k]? =some (lpAt b k):=by
   rw[←nloops_len]at hk
   simp[lpAt,hk]
  have:=(loops_in b k _ hk').2 i c hi
  show((loopsC b)[k - nloops (lpAt b k)+i]?).getD .skip=c
  rw[this];rfl
 ·cases e
end
end Go.Am
