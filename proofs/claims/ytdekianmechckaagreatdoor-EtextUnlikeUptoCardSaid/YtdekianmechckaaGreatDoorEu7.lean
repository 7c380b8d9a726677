/- A part of the proof: texts of mine, merged by a program (wip/dev/merge.py). -/
import Derived.Test.YtdekianmechckaaGreatDoorEu6
import Derived.KernelRfl
import Derived.Below
import Derived.Lib.ItoaNum
import Derived.Lib.AtoiAll
import Derived.Test.YtdekianmechckaaGreatDoorChecked
set_option linter.unusedSimpArgs false
set_option linter.unusedVariables false
namespace Go.Am
open Go
section
variable{P:Program}{t:TypeId}{lo hi:Option SV}{k:Wk}{b:Bool}{xs:List D}{r:Root}{p:Path}{o len:Nat}
@[go_sem] theorem bound_n{d:Nat}:boundE none d=some d:=rfl
@[go_sem] theorem bound_i{q:IntKind}{n:Int}{d:Nat}:boundE (some (.d (.int q n))) d=if 0≤n then some n.toNat else none:=rfl
@[go_sem] theorem slice_bor:sliceE P t (.bor r p o len) lo hi none k=(elemOf P t).bind fun e=>(boundE lo 0).bind fun l=>(boundE hi len).bind fun h=>if l≤h∧h≤len∧(P.info? e).isSome∧winOk (P.cellsOf e) r p (o+l) (h - l) k then some (.bor r p (o+l) (h - l))else none:=by
 unfold sliceE elemOf
 cases P.underlying t with
 |none=>rfl
 |some d=>cases d <;>rfl
@[go_sem] theorem winOk_eq{n o m:Nat}:winOk n r p o m k=(((k.get r).bind fun c=>c.at p).any fun nd=>match nd with | .own es=>headT n (win es o m) |_=>false):=by
 unfold winOk
 cases(k.get r).bind fun c=>c.at p with
 |none=>rfl
 |some x=>cases x <;>rfl
theorem headT_tl{α:Type}{f:α→D}{l:List α}{n:Nat}(h:∀x,(f x).nc=n):headT n (tl f l)=true:=by
 cases l with
 |nil=>rfl
 |cons x l=>simp[tl,headT,T.nc,h]
@[go_sem] theorem headT_I{l:List Int}{q:IntKind}:headT 1 (tl (eK q) l)=true:=headT_tl fun _=>rfl
@[go_sem] theorem map_take'{α β:Type}{f:α→β}{l:List α}{n:Nat}:(l.map f).take n=(l.take n).map f:=by rw[List.map_take]
@[go_sem] theorem map_drop'{α β:Type}{f:α→β}{l:List α}{n:Nat}:(l.map f).drop n=(l.drop n).map f:=by rw[List.map_drop]
end
@[go_sem] theorem val_strC{s:St}{b:ByteArray}:s.val (.const (.string b))=.d (.str b.data.toList):=rfl
end Go.Am
namespace Go.Am
open Go
section
variable{P:Program}{hints:FuncId→Hint}{h:Hint}{ρ:Type}{B:Code}
def kLv(P:Program)(own:Bool)(rs:List ResultVar)(n:Nat)(κ:List T×List Ob→Option ρ):Ex×St→Option ρ:=fun r=>(leaveR P own rs n r).bind κ
@[go_sem] theorem kLv_r{own:Bool}{rs:List ResultVar}{n:Nat}{κ:List T×List Ob→Option ρ}{s:St}:kLv P own rs n κ (.ret,s)=(leaveR P own rs n (.ret,s)).bind κ:=rfl
theorem ge_of{f:FuncId}{fn:Func}{q:CL}{n:Nat}{rs:List ResultVar}{own:Bool}(hy:f<1099511627776)(hrc:h.rcv=false)(hxt:h.ext=none)(hf:P.funcs[f]? =some fn)(hb:fn.body=some B)(hq:compF h B=some q)(hh:hints f=h)(hw:h.own=own)(hn:fn.params.size+fn.nfree=n)(hr:fn.results.toList=rs)
  (hk:codeOk fn.ntmps B=true) (hg:(fn.name== "runtime.NumGoroutine")=false) (ds:List D) (H:List Ob) (κ:List T×List Ob→Option ρ) (hl:ds.length=n) (hx:(decide (h.nilt≠0)&&emptyArg ds)=false):
  cbK (callX P hints f ds H) κ=go P hints h B q (enter ds H) (kLv P own rs H.length κ):=by
 unfold cbK
 subst hh hw
 rw[callX_leave hy hrc hxt hf hb (hl.trans hn.symm) hk hg hr hx,compF_ok hq,xX]
 rfl
theorem gr_of{f:FuncId}{fn:Func}{q:CL}{n:Nat}{rs:List ResultVar}{own:Bool}(hy:f<1099511627776)(hxt:h.ext=none)(hf:P.funcs[f]? =some fn)(hb:fn.body=some B)(hq:compF h B=some q)(hh:hints f=h)(hw:h.own=own)(hn:fn.params.size+fn.nfree=n+1)(hr:fn.results.toList=rs)
  (hk:codeOk fn.ntmps B=true) (hg:(fn.name== "runtime.NumGoroutine")=false) (ds:List D) (es:List T) (κ:List T×List Ob→Option ρ) (hl:ds.length=n):
  cbK (callX P hints f ds [.row es]) κ=go P hints h B q (enterR es ds) (kLv P own rs 0 κ):=by
 unfold cbK
 subst hh hw
 rw[callX_leaveR hy hxt hf hb (by omega) hk hg hr,compF_ok hq,xX]
 rfl
end
theorem extB{P:Program}{hints:FuncId→Hint}{ρ:Type}{f:FuncId}{ds:List D}{H:List Ob}{κ:List T×List Ob→Option ρ}{F:List D→Option (List T)}(hy:f<1099511627776)(hx:(hints f).ext=some F):cbK (callX P hints f ds H) κ=(F ds).bind fun rs=>if isPanT rs=true then none else κ (rs,H):=by
 unfold cbK
 rw[callX_ext (Nat.not_le.2 hy) hx,xX]
 congr 1
 funext rs
 split <;>rfl
theorem viaR{α:Type}{a b:α}(h:∀r,b=r→a=r):a=b:=h b rfl
def LX{A:Type}(p:Bool→A→Prop):Type:={Φ:A×A // p false Φ.1∧p true Φ.2}
def LX.f{A:Type}{p:Bool→A→Prop}(x:LX p)(β:Bool):A:=match β with |false=>x.1.1 |true=>x.1.2
theorem LX.ok{A:Type}{p:Bool→A→Prop}(x:LX p)(β:Bool):p β (x.f β):=by cases β;exact x.2.1;exact x.2.2
def mkL{A:Type}{p:Bool→A→Prop}(Φ₀ Φ₁:A)
  (h₀:p false Φ₀:=by intro R g κ hR;intros;simp only[go_sem]at hR;refine viaR fun r hr=> ?_;simp -implicitDefEqProofs (maxSteps:=1000000) [go_sem,hR,-List.map_append,-List.map_take,-List.map_drop,-List.map_set];exact hr)
  (h₁:p true Φ₁:=by intro R g κ hR;intros;simp only[go_sem]at hR;refine viaR fun r hr=> ?_;simp -implicitDefEqProofs (maxSteps:=1000000) [go_sem,hR,-List.map_append,-List.map_take,-List.map_drop,-List.map_set];exact hr):LX p:=⟨(Φ₀,Φ₁),h₀,h₁⟩
def mkF{P:Program}{hints:FuncId→Hint}{h:Hint}{B:Code}{q:CL}{f:FuncId}{n:Nat}{rs:List ResultVar}{own:Bool}{ρ G:Type}{p:Bool→(List T×List Ob→Option ρ)→G→Prop}{ds:Bool→List D}
  (e:∀(ds:List D) (H:List Ob) (κ:List T×List Ob→Option ρ),ds.length=n→cbK (callX P hints f ds H) κ=go P hints h B q (enter ds H) (kLv P own rs H.length κ)) (hl:∀β,(ds β).length=n) (Φ:G→Option ρ)
  (hΦ:∀β κ g,p β κ g→go P hints h B q (enter (ds β) []) (kLv P own rs 0 κ)=Φ g:=by intro β κ g hg;simp only[go_sem]at hg;refine viaR fun r hr=> ?_;cases β;all_goals (simp -implicitDefEqProofs (maxSteps:=1000000) [go_sem,hg,-List.map_append,-List.map_take,-List.map_drop,-List.map_set];exact hr)):
  {Φ:G→Option ρ // ∀β κ g,p β κ g→cbK (callX P hints f (ds β) []) κ=Φ g}:=⟨Φ,fun β κ g hg=>(e _ _ _ (hl β)).trans (hΦ β κ g hg)⟩
end Go.Am
namespace Go.Am
open Go Go.RowKit
def GW(G:Nat→Option D)(w:World):Prop:=∀g d,G g=some d→∃vs:List Value,GH w g vs∧GV d vs
theorem RetAll.data{c:Cx}:∀(xs:List D) (vs:List Value),VVs c xs vs→RetAll c (xs.map T.d) vs []
 | [],vs,h=>⟨h,rfl⟩
 |x::xs,vs,h=>by
  simp only[VVs]at h
  obtain⟨v,r,rfl,h1,h2,h3⟩:=h
  exact⟨v,r,[],[],rfl,rfl,by simp only[TC];exact⟨trivial,h1⟩,h2,RetAll.data xs r h3⟩
theorem ext_given{P:Program}{G:Nat→Option D}{f:FuncId}{F:List D→Option (List T)}{fn:Func}(hf:P.funcs[f]? =some fn)(hb:fn.body.isSome=true)(hn:(fn.name== "runtime.NumGoroutine")=false)(hy:¬YB≤f)
  (h:∀(ds:List D) (rs:List T) (c:Cx) (args:Array Value),F ds=some rs→GW G c.w→VVs c ds args.toList→Calls P f args c.w fun e w'=>∃(xs:List D) (vs:List Value),e=.returned (tupV vs)∧rs=xs.map T.d∧(∀c,VVs c xs vs)∧RowKit.Below c.w.heap.size c.w w'):ExtOK P G f F:=by
 refine⟨.inr ⟨fn,hf,hb,hn⟩,fun ds rs H e hp A S hd args hA hG hkr hargs=> ?_⟩
 unfold CallsY
 rw[if_neg hy]
 refine Calls.mono (h ds rs _ args e (fun g d hg=> ?_) hargs) fun en w' he=> ?_
 ·obtain⟨_,_,_,vs,h4,h5⟩:=hG g d hg
  exact⟨vs,h4,h5⟩
 ·obtain⟨xs,vs,rfl,rfl,hv,hbl⟩:=he
  obtain⟨k1,_⟩:=KR.world (w':=w') (M:=[]) (M':=[]) (fl:=[]) hbl.os hbl.tape hbl.output hbl.size (Recs.old hbl.block) (show KR A A.ρ0 S hd ([]++[]) _ _ A.w0 from hkr) (fun b hb _=>hbl.block b hb) (by simp) (by simp)
  refine⟨_,rfl,A.ρ0,S,hd,[],vs,k1,RetAll.data xs vs (hv _),rfl⟩
end Go.Am
namespace Go.Tr7
open Go Go.Am
def decF:Nat→Nat→List UInt8
 |0,_=>[]
 |k+1,u=>if u<10 then [UInt8.ofNat (48+u)]else decF k (u / 10)++[UInt8.ofNat (48+u % 10)]
def decI(n:Int):List UInt8:=if n<0 then 45::decF 20 n.natAbs else decF 20 n.toNat
def inR(n:Int):Bool:=decide (-9223372036854775808≤n)&&decide (n≤9223372036854775807)
def inB(n:Int):Bool:=decide (-1048576≤n∧n≤1048576)
def extDec:List D→Option (List T)
 | [.int .i64 n]=>if inR n=true then some [.d (.str (decI n))]else none
 |_=>none
def numF(s:List UInt8):Int×Bool:=match Lib.atoiAll s with
 | .ok v=>if(inB v&&decide (decI v=s))=true then(v,true)else(0,false)
 |_=>(0,false)
def extNum:List D→Option (List T)
 | [.str s]=>if decide (s.length≤1000000)=true then some [.d (.int .i64 (numF s).1),.d (.bool (numF s).2)]else none
 |_=>none
end Go.Tr7
namespace Go.Etx
set_option maxRecDepth 20000
open Go Go.Am Go.Proofs
noncomputable abbrev P:Program:=Tryz.prog
def glob:Nat→Option D:=fun g=>Am.look [(0,.agg [.str [115,101,108,102],.str [110,111,110,101],.str [108,101,110],.str [97,116]]),(1,.agg [.str [58,61],.str [61,61],.str [33,61],.str [60,61],.str [45,62],.str [38,38],.str [124,124],.str [61,62],.str [40],.str [41],.str [91],.str [93],.str [123],.str [125],.str [59],.str [44],.str [58],.str [46],.str [60],.str [43],.str [45],.str [42],.str [33],.str [63],.str [64]])] g
def hint3:Hint:={nv:=9,keep:=[11,13,17,23,35],live:=fun id=>(Am.look [(0,[0,3]),(1,[0,3,12]),(2,[4]),(3,[0,3,5,6]),(4,[5,6,7,8]),(5,[4])] id).getD []}
def hint4:Hint:={nv:=11,keep:=[13,18,21,25,31,40,45,47,48,51],live:=fun id=>(Am.look [(0,[0,1,5]),(1,[0,1,5,20]),(2,[6]),(3,[0,1,5,7,8]),(4,[0,1,7,8,9,10]),(5,[0,1,7,9,39]),(6,[6]),(7,[6])] id).getD []}
def hint5:Hint:={nv:=4,live:=fun id=>(Am.look [(0,[0,3]),(1,[37]),(2,[4]),(3,[4])] id).getD []}
def hint6:Hint:={nv:=15,keep:=[23,24,28,29,34,35,40,41,49,50],lits:=[48],live:=fun id=>(Am.look [(0,[]),(1,[1]),(2,[2,3]),(3,[2,3,4,6]),(4,[2,3,4,6,8,9]),(5,[2,3,4,6,8,9,11,12]),(6,[2,3,4,6,8,9,11,12,13,14]),(7,[0])] id).getD [],pan:=[2,3,4,5,6]}
def hint7:Hint:={nv:=13,keep:=[16,31,41,51,57],live:=fun id=>(Am.look [(0,[0,3]),(1,[0,3,7]),(2,[0,3,7,20]),(3,[4,5]),(4,[0,3,8]),(5,[3,8,22,23,24]),(6,[3,8,22,23,24,25]),(7,[3,8,10,22,23,24]),(8,[3,8,10,11,12,22,23,24]),(9,[3,8,10,11,22,23,24,53]),(10,[4,5]),(11,[3,8,22,23,24]),(12,[3,8,22,23,24]),(13,[4,5])] id).getD [],pan:=[11],mv:=[57]}
def hint8:Hint:={nv:=11,keep:=[14,32,39,63],live:=fun id=>(Am.look [(0,[0,3]),(1,[0,3,7]),(2,[0,3,7,18]),(3,[4,5]),(4,[0,3,8]),(5,[0,3,8,23]),(6,[0,3,8]),(7,[0,3,8,9,10]),(8,[0,3,8,57]),(9,[4,5]),(10,[4,5])] id).getD []}
def hint9:Hint:={nv:=6,live:=fun id=>(Am.look [(0,[0,1]),(1,[0,1,10]),(2,[4]),(3,[0,1,12,13]),(4,[0,1,12,13,14]),(5,[0,1,5,12,13]),(6,[0,1,12,13,24]),(7,[4]),(8,[0,1,12,13]),(9,[4])] id).getD []}
def hint10:Hint:={nv:=6,lits:=[39],live:=fun id=>(Am.look [(0,[0]),(1,[0,3]),(2,[0,3,4]),(3,[0,3,4,9]),(4,[0,3,4]),(5,[0,3,4,5]),(6,[0,3,4,5,30]),(7,[0,3,4,5]),(8,[0,3,4]),(9,[2])] id).getD []}
def hint11:Hint:={nv:=0,lits:=[3],live:=fun id=>(Am.look [(0,[0]),(1,[0])] id).getD []}
def hint12:Hint:={nv:=15,objs:=[30],keep:=[17,68,80,93],live:=fun id=>(Am.look [(0,[0,3]),(1,[0,3,7,8,9]),(2,[0,3,7,8,9,22]),(3,[4,5,6]),(4,[0,3,7,10]),(5,[0,3,7,10]),(6,[0,3,10,46]),(7,[0,3,10]),(8,[0,3,10,53]),(9,[4,5,6]),(10,[0,3,10,12]),(11,[0,3,10,12,72]),(12,[4,5,6]),(13,[0,10,13,14]),(14,[0,10,13,14,83]),(15,[4,5,6]),(16,[0,10,13,87]),(17,[4,5,6]),(18,[4,5,6])] id).getD [],pan:=[1,13]}
def hint13:Hint:={nv:=7,objs:=[3,8,6],live:=fun id=>(Am.look [(0,[0,3]),(1,[0,3,6]),(2,[4,5])] id).getD []}
def hint14:Hint:={nv:=15,keep:=[30,54,78,95,112],live:=fun id=>(Am.look [(0,[2,3]),(1,[2,3,16]),(2,[2,3,16,17]),(3,[2,3,16,17]),(4,[2,3,6]),(5,[2,6,7,8]),(6,[4,5]),(7,[2,3,16,42]),(8,[2,3,9]),(9,[2,9,10,11]),(10,[4,5]),(11,[2,3,16,66]),(12,[2,3,12]),(13,[4,5]),(14,[2,3,16,82]),(15,[2,3,13]),(16,[4,5]),(17,[2,3,100]),(18,[2,3,14]),(19,[4,5]),(20,[4,5])] id).getD []}
def hint15:Hint:={nv:=5,keep:=[16],live:=fun id=>(Am.look [(0,[0]),(1,[0,25]),(2,[2]),(3,[0,26,27]),(4,[0,26,27,28]),(5,[0,4,26,27]),(6,[0,26,27,32]),(7,[2]),(8,[0,26,27]),(9,[2])] id).getD [],gl:=glob}
def hint16:Hint:={nv:=2,live:=fun id=>(Am.look [(0,[0]),(1,[2])] id).getD []}
def hint17:Hint:={nv:=12,keep:=[52,79,89,109,115],lits:=[35,57,84,110,116],own:=true,live:=fun id=>(Am.look [(0,[0,2,4]),(1,[0,2,4,7]),(2,[0,2,4,7,15]),(3,[0,2,4,7,15,16]),(4,[6]),(5,[0,2,4,7,15,37]),(6,[0,4,7,8]),(7,[6]),(8,[0,2,4,7,59]),(9,[0,4,7,9]),(10,[6]),(11,[0,2,4,7,11]),(12,[0,2,4,7,92]),(13,[6]),(14,[6])] id).getD []}
def hint18:Hint:={nv:=12,keep:=[29,45,61,82],lits:=[96],live:=fun id=>(Am.look [(0,[0,3]),(1,[0,3,14]),(2,[4,5]),(3,[0,3,17]),(4,[4,5]),(5,[0,3,6]),(6,[0,3,6,7]),(7,[0,3,6,7,21]),(8,[0,3,6,7]),(9,[0,3,6,7,8]),(10,[0,3,6,7,8,9]),(11,[0,3,6,7,8,9,33]),(12,[4,5]),(13,[0,3,6,7,8,9,36]),(14,[4,5]),(15,[0,3,6,7,8,9,10]),(16,[0,3,6,7,8,9,10,11]),(17,[0,3,6,7,8,9,10,11,38]),(18,[0,3,6,7,8,9,10,11]),(19,[0,3,6,7,8,9,10,11,49]),(20,[0,3,6,7,8,9,10,11]),(21,[0,3,6,7,8,9,10,11,65]),(22,[0,3,6,7,8,9,10,11]),(23,[0,3,6,7,8,9,10,11,86]),(24,[4,5]),(25,[0,3,6,7]),(26,[0,3,6,7,100]),(27,[4,5]),(28,[6,103]),(29,[4,5]),(30,[4,5])] id).getD []}
def hint19:Hint:={nv:=4,keep:=[26,47,68,91,113],live:=fun id=>(Am.look [(0,[2,3]),(1,[2,3,7]),(2,[2,3,7,8]),(3,[2,3,7,8]),(4,[4,5]),(5,[2,3,7,30]),(6,[4,5]),(7,[2,3,7,51]),(8,[4,5]),(9,[2,3,7,72]),(10,[4,5]),(11,[2,3,96]),(12,[4,5]),(13,[4,5])] id).getD []}
def hint20:Hint:={nv:=5,keep:=[30],live:=fun id=>(Am.look [(0,[0]),(1,[0,27]),(2,[2]),(3,[0,3,4]),(4,[2])] id).getD []}
def hint21:Hint:={nv:=18,keep:=[25,30,39,52,70,84,90,92,100,106,117,120,131,137,153,155,159,166,168],live:=fun id=>(Am.look [(0,[0,2,4]),(1,[0,2,4,7]),(2,[0,2,4,7,8]),(3,[0,2,4,7,8,10]),(4,[0,2,4,7,8,10,34]),(5,[0,2,4,7,8,10,34,35]),(6,[6]),(7,[0,2,4,7,8,10,34,40]),(8,[0,2,4,7,8,10,34,40]),(9,[6]),(10,[0,2,4,7,8,10,34,44]),(11,[6]),(12,[0,2,4,7,8,10,34,55]),(13,[6]),(14,[0,2,4,7,8,10,34,57]),(15,[6]),(16,[0,2,4,7,8,10,34,62]),(17,[6]),(18,[0,2,4,7,8,10,34,73]),(19,[6]),(20,[0,2,4,7,10,34,78]),(21,[6]),(22,[0,2,4,7,10,94]),(23,[6]),(24,[0,2,4,7,10,12]),(25,[0,2,4,7,12,13]),(26,[0,2,4,7,12,13,14,15]),(27,[0,2,4,7,12,13,14,15,16,17]),(28,[0,2,4,7,13,14,15,16,17,145]),(29,[0,2,4,7,13,16,17]),(30,[6])] id).getD []}
def hint22:Hint:={nv:=9,keep:=[13,32,22],lits:=[43],live:=fun id=>(Am.look [(0,[0]),(1,[0,11]),(2,[2,3,4]),(3,[0,5]),(4,[0,5,6]),(5,[0,5,6,17]),(6,[0,5,6]),(7,[0,5,6,26]),(8,[2,3,4]),(9,[0,5,6,7,8]),(10,[0,5,6,7,8,36]),(11,[2,3,4]),(12,[0,5,6,7]),(13,[0,5,6,7]),(14,[0,5,6]),(15,[2,3,4])] id).getD [],pan:=[9]}
def hint23:Hint:={nv:=2,live:=fun id=>(Am.look [(0,[])] id).getD []}
def hint24:Hint:={nv:=4,live:=fun id=>(Am.look [(0,[0,1,8]),(1,[0]),(2,[0,29]),(3,[])] id).getD []}
def hint25:Hint:={nv:=6,live:=fun id=>(Am.look [(0,[0,1]),(1,[0,1,5]),(2,[0,1,5,24]),(3,[0,1,5]),(4,[4])] id).getD []}
def hint26:Hint:={nv:=13,live:=fun id=>(Am.look [(0,[0,1,2,3]),(1,[0,1,2,3,13]),(2,[8,9]),(3,[0,1,2,3,17]),(4,[8,9]),(5,[0,1,2,3]),(6,[0,2,3,25,26,27]),(7,[0,2,3,25,26,27,28]),(8,[0,2,3,11,25,26,27]),(9,[0,2,3,12,25,26,27]),(10,[0,2,3,12,25,26,27,37]),(11,[8,9]),(12,[0,2,3,25,26,27]),(13,[0,45]),(14,[8,9]),(15,[8,9])] id).getD []}
def hint27:Hint:={nv:=4,live:=fun id=>(Am.look [(0,[1,2,3]),(1,[4,5])] id).getD []}
def hint28:Hint:={nv:=14,keep:=[28,20,45],live:=fun id=>(Am.look [(0,[0,4,5]),(1,[0,4,5,8]),(2,[0,4,5,8,17]),(3,[6,7]),(4,[0,4,5,8,17,23]),(5,[10]),(6,[32]),(7,[6,7]),(8,[6,7]),(9,[0,4,5,8,17,33]),(10,[0,4,5,8]),(11,[0,4,5,8,17,37]),(12,[0,4,5,8,37]),(13,[0,4,11,12,13]),(14,[0,4,11,12,49]),(15,[6,7]),(16,[4,11,12,52]),(17,[11,52]),(18,[6,7]),(19,[6,7])] id).getD []}
def hint29:Hint:={nv:=8,live:=fun id=>(Am.look [(0,[1,2]),(1,[1,2,8,9,10]),(2,[1,2,8,9,10,11]),(3,[1,2,7,8,9,10]),(4,[1,2,8,9,10,29]),(5,[4,5]),(6,[1,2,8,9,10]),(7,[4,5])] id).getD []}
def hint30:Hint:={nv:=8,live:=fun id=>(Am.look [(0,[0,3]),(1,[0,3,6]),(2,[0,3,6,14]),(3,[4,5]),(4,[7]),(5,[7,22]),(6,[4,5]),(7,[4,5])] id).getD []}
def hint31:Hint:={nv:=4,objs:=[2],live:=fun id=>(Am.look [(0,[2,3]),(1,[4])] id).getD []}
def hint32:Hint:={nv:=4,objs:=[2],live:=fun id=>(Am.look [(0,[2,3]),(1,[4])] id).getD []}
def hint33:Hint:={nv:=4,objs:=[2],live:=fun id=>(Am.look [(0,[2,3]),(1,[4])] id).getD []}
def hint34:Hint:={nv:=2,live:=fun id=>(Am.look [(0,[0]),(1,[2])] id).getD []}
def hint35:Hint:={nv:=7,live:=fun id=>(Am.look [(0,[0,1]),(1,[0,1,8]),(2,[0,1,8,9,10]),(3,[0,1,5,6,8]),(4,[0,1,5,8,16]),(5,[4]),(6,[4])] id).getD []}
def hint36:Hint:={nv:=2,keep:=[4,7],live:=fun id=>(Am.look [(0,[0]),(1,[2])] id).getD []}
def hint37:Hint:={nv:=4,live:=fun id=>(Am.look [(0,[1,2]),(1,[2,5]),(2,[4]),(3,[4])] id).getD []}
def hint38:Hint:={nv:=2,live:=fun id=>(Am.look [(0,[0,2]),(1,[2,4]),(2,[2,4,5]),(3,[2,3]),(4,[2,4,8]),(5,[2,3]),(6,[2,4,11]),(7,[2,3]),(8,[2,4,14]),(9,[2,3]),(10,[2,4,17]),(11,[2,3]),(12,[2,4,20]),(13,[2,3]),(14,[2,4,23]),(15,[2,3]),(16,[2,4,26]),(17,[2,3]),(18,[2,29]),(19,[2,3]),(20,[2,3])] id).getD []}
def hint39:Hint:={nv:=11,keep:=[13,37,45],live:=fun id=>(Am.look [(0,[0,4,5,6]),(1,[0,4,5,6,7]),(2,[0,4,5,6,7,9,10]),(3,[0,4,5,6,7,9,10,28]),(4,[0,4,5,6,7,9,10]),(5,[6])] id).getD []}
def hint40:Hint:={nv:=6,keep:=[15,43],live:=fun id=>(Am.look [(0,[1,2,4]),(1,[1,2,4,5]),(2,[1,2,4,5,10]),(3,[1,2,4,5,10,11]),(4,[2,4,5]),(5,[4,5,19]),(6,[4,5]),(7,[1,2,4,5,10,21]),(8,[1,2,4,5,10,21]),(9,[4,5]),(10,[1,2,4,5,10,26]),(11,[4,5]),(12,[1,2,4,5,10,29]),(13,[4,5]),(14,[1,2,4,5,10,35]),(15,[4,5]),(16,[1,4,5,47]),(17,[4,5]),(18,[4])] id).getD []}
def hint41:Hint:={nv:=2,live:=fun id=>(Am.look [(0,[0]),(1,[3]),(2,[3,4]),(3,[3,4]),(4,[3,4]),(5,[3,4]),(6,[3,4]),(7,[3,4]),(8,[3,4]),(9,[2]),(10,[3,12]),(11,[3,12]),(12,[3,12]),(13,[2]),(14,[3,16]),(15,[3,16]),(16,[3,16]),(17,[3,16]),(18,[3,16]),(19,[3,16]),(20,[3,16]),(21,[3,16]),(22,[16]),(23,[2]),(24,[2])] id).getD []}
def hint42:Hint:={nv:=11,keep:=[38,48,71],live:=fun id=>(Am.look [(0,[2,3]),(1,[2,3,12]),(2,[2,3,12,13]),(3,[22]),(4,[4,5]),(5,[4,5]),(6,[2,3,12,23]),(7,[2,3,12,23]),(8,[2,3,6]),(9,[2,3,6,30]),(10,[2,3,6]),(11,[7,8]),(12,[7,42]),(13,[4,5]),(14,[7,45]),(15,[4,5]),(16,[4,5]),(17,[2,3,12,49]),(18,[3,61]),(19,[4,5]),(20,[4,5]),(21,[2,3,12,65]),(22,[10]),(23,[75]),(24,[4,5]),(25,[4,5]),(26,[2,3,76]),(27,[103]),(28,[4,5]),(29,[4,5]),(30,[2,114]),(31,[4,5]),(32,[4,5])] id).getD []}
def hint43:Hint:={nv:=10,keep:=[19,36],live:=fun id=>(Am.look [(0,[1,3,5]),(1,[1,3,5,12]),(2,[1,8,9]),(3,[1,8,23]),(4,[6,7]),(5,[8,33]),(6,[6,7]),(7,[6,7]),(8,[1,3,43]),(9,[6,7]),(10,[50]),(11,[6,7]),(12,[6,7])] id).getD []}
def hint44:Hint:={nv:=6,live:=fun id=>(Am.look [(0,[0,1,2]),(1,[0,1,10]),(2,[6,7]),(3,[1,11]),(4,[13]),(5,[6,7]),(6,[1,11,14]),(7,[1,11,14]),(8,[6,7]),(9,[1,11,17]),(10,[1,11,17]),(11,[21]),(12,[6,7]),(13,[1,11,22]),(14,[1,22]),(15,[26]),(16,[6,7]),(17,[6,7])] id).getD []}
def hint45:Hint:={nv:=6,keep:=[14],live:=fun id=>(Am.look [(0,[1,2]),(1,[1,2,5]),(2,[1,2,5,16]),(3,[1,2,5]),(4,[1,2,5,26]),(5,[4]),(6,[4])] id).getD []}
def hint46:Hint:={nv:=6,live:=fun id=>(Am.look [(0,[1,2]),(1,[1,2,5]),(2,[1,2,5,10]),(3,[1,2,5]),(4,[1,2,5,20]),(5,[4]),(6,[4])] id).getD []}
def hint47:Hint:={nv:=6,live:=fun id=>(Am.look [(0,[1,2]),(1,[1,2,5]),(2,[1,2,5,10]),(3,[1,2,5]),(4,[1,2,5,20]),(5,[4]),(6,[4])] id).getD []}
def hint48:Hint:={nv:=6,live:=fun id=>(Am.look [(0,[1,2]),(1,[1,2,5]),(2,[1,2,5,10]),(3,[1,2,5]),(4,[1,2,5,20]),(5,[4]),(6,[4])] id).getD []}
def hint49:Hint:={nv:=6,live:=fun id=>(Am.look [(0,[1,2]),(1,[1,2,5]),(2,[1,2,5,10]),(3,[1,2,5]),(4,[1,2,5,20]),(5,[4]),(6,[4])] id).getD []}
def hint50:Hint:={nv:=9,keep:=[13,22,27,44,53,60],live:=fun id=>(Am.look [(0,[0,1]),(1,[0,1,6]),(2,[0,1,6,13]),(3,[0,1,6,35]),(4,[0,1,6]),(5,[4,5]),(6,[0,1,6,44]),(7,[0,1,6,54]),(8,[0,1,6]),(9,[4,5]),(10,[0,1,7]),(11,[0,1,7,8]),(12,[0,1,7,8,64]),(13,[0,1,7,8]),(14,[0,1,7,8,93]),(15,[4,5]),(16,[4,5])] id).getD []}
def hint51:Hint:={nv:=9,keep:=[20],lits:=[38],live:=fun id=>(Am.look [(0,[0]),(1,[0,4]),(2,[0,4,5]),(3,[0,4,5,12]),(4,[0,4,5]),(5,[0,4,5,6]),(6,[0,4,5,6,22]),(7,[2,3]),(8,[0,4,5,6,7]),(9,[0,4,5,6,7,8]),(10,[0,4,5,6,7,8,26]),(11,[0,4,5,6,7,8]),(12,[0,4,5,6,7,8,30]),(13,[2,3]),(14,[0,4,5,6,7,8]),(15,[0,4,5]),(16,[4,51]),(17,[2,3]),(18,[2,3])] id).getD []}
def hint52:Hint:={nv:=6,lits:=[18],live:=fun id=>(Am.look [(0,[0]),(1,[0,3]),(2,[0,3,4]),(3,[0,3,4,8]),(4,[0,3,4,5]),(5,[0,3,4,5,12]),(6,[0,3,4,5]),(7,[0,3,4]),(8,[0,3,4]),(9,[0,3,25]),(10,[2]),(11,[3,27]),(12,[2]),(13,[2])] id).getD []}
def hint53:Hint:={nv:=4,live:=fun id=>(Am.look [(0,[0,1]),(1,[0,5]),(2,[4]),(3,[4])] id).getD []}
def hint54:Hint:={nv:=2,live:=fun id=>(Am.look [(0,[1]),(1,[1,4]),(2,[1,4,5]),(3,[2]),(4,[1,4,7]),(5,[2]),(6,[1,4,9]),(7,[1,4,9]),(8,[1,4,9]),(9,[1,4,9]),(10,[2]),(11,[1,4,14]),(12,[1,4,14]),(13,[2]),(14,[1,4,17]),(15,[2]),(16,[1,4,19]),(17,[1,4,19]),(18,[2]),(19,[1,22]),(20,[26]),(21,[2]),(22,[2])] id).getD []}
def hint55:Hint:={nv:=2,live:=fun id=>(Am.look [(0,[0]),(1,[3]),(2,[3,4]),(3,[2]),(4,[3,6]),(5,[2]),(6,[3,8]),(7,[2]),(8,[3,10]),(9,[2]),(10,[3,12]),(11,[2]),(12,[3,14]),(13,[2]),(14,[3,16]),(15,[2]),(16,[18]),(17,[2]),(18,[2])] id).getD []}
def hint56:Hint:={nv:=4,live:=fun id=>(Am.look [(0,[0]),(1,[0,3]),(2,[0,3,7]),(3,[0,3,10]),(4,[2]),(5,[0,3,10,12]),(6,[0,3,10,12]),(7,[0,3]),(8,[0,3,17]),(9,[0,3]),(10,[2])] id).getD []}
def hint57:Hint:={nv:=10,keep:=[18,35,52],live:=fun id=>(Am.look [(0,[0,2]),(1,[0,2,4]),(2,[0,2,4,19]),(3,[0,2,4,21]),(4,[2,3]),(5,[2,3]),(6,[0,2,5]),(7,[0,2,5,30]),(8,[0,2,5,6,7]),(9,[0,2,5,6,39]),(10,[2,3]),(11,[2,3]),(12,[0,2,46,47]),(13,[0,2,46,47,48]),(14,[0,2,9,46,47]),(15,[0,2,9,46,47,52]),(16,[2,3]),(17,[0,2,46,47]),(18,[2,3])] id).getD [],pan:=[8],gl:=glob}
def hint58:Hint:={nv:=4,objs:=[2,3],live:=fun id=>(Am.look [(0,[2,3]),(1,[]),(2,[2,3,10]),(3,[]),(4,[2,3,15]),(5,[])] id).getD []}
def hint59:Hint:={nv:=0,live:=fun id=>(Am.look [(0,[]),(1,[0])] id).getD []}
def hint60:Hint:={nv:=14,lits:=[84],live:=fun id=>(Am.look [(0,[0,2,3,5]),(1,[0,2,3,5,9]),(2,[0,2,3,5,9,21]),(3,[8]),(4,[0,2,3,5,9,24]),(5,[8]),(6,[0,2,3,5,9]),(7,[0,2,3,5,9]),(8,[0,2,3,5,9,12,13]),(9,[0,2,3,5,9,12,42]),(10,[0,9,10,11]),(11,[0,9,10,11]),(12,[0,9,10,11,68]),(13,[8]),(14,[0]),(15,[93]),(16,[8]),(17,[8])] id).getD [],lkn:=[58,64]}
def hint61:Hint:={nv:=4,live:=fun id=>(Am.look [(0,[0,1]),(1,[4,5])] id).getD []}
def hint62:Hint:={nv:=8,keep:=[48],live:=fun id=>(Am.look [(0,[2,3]),(1,[2,3,9]),(2,[2,3,9,10]),(3,[3,22]),(4,[4,5]),(5,[2,3,9,26]),(6,[2,3,38]),(7,[7]),(8,[51]),(9,[4,5]),(10,[2,3,9,52]),(11,[79]),(12,[4,5]),(13,[2,3,80]),(14,[2,92]),(15,[4,5]),(16,[4,5])] id).getD []}
def hint63:Hint:={nv:=11,keep:=[26,36],live:=fun id=>(Am.look [(0,[0,1,5]),(1,[0,1,5,18]),(2,[6,7,8]),(3,[0,1,5,6,9]),(4,[6,7,9,10]),(5,[6,7,8])] id).getD []}
def hint64:Hint:={nv:=2,live:=fun id=>(Am.look [(0,[0]),(1,[2])] id).getD []}
def hint65:Hint:={nv:=6,live:=fun id=>(Am.look [(0,[0,1]),(1,[0,1,7,8]),(2,[0,1,7,8,9]),(3,[0,1,5,7,8]),(4,[0,1,5,7,8,16]),(5,[4]),(6,[0,1,7,8]),(7,[4])] id).getD []}
def hint66:Hint:={nv:=2,objs:=[1],live:=fun id=>(Am.look [(0,[1]),(1,[2])] id).getD []}
def hint67:Hint:={nv:=6,live:=fun id=>(Am.look [(0,[0,1]),(1,[0,1,7,8]),(2,[0,1,7,8,9]),(3,[0,1,5,7,8]),(4,[0,1,5,7,8,16]),(5,[4]),(6,[0,1,7,8]),(7,[4])] id).getD []}
def hint68:Hint:={nv:=3,live:=fun id=>(Am.look [(0,[1,2]),(1,[3])] id).getD []}
def hint69:Hint:={nv:=6,live:=fun id=>(Am.look [(0,[0,1]),(1,[0,1,7,8]),(2,[0,1,7,8,9]),(3,[0,1,5,7,8]),(4,[0,1,5,7,8,16]),(5,[4]),(6,[0,1,7,8]),(7,[4])] id).getD []}
def hint70:Hint:={nv:=3,live:=fun id=>(Am.look [(0,[1,2]),(1,[3])] id).getD []}
def hint71:Hint:={nv:=6,live:=fun id=>(Am.look [(0,[0,1]),(1,[0,1,7,8]),(2,[0,1,7,8,9]),(3,[0,1,5,7,8]),(4,[0,1,5,7,8,16]),(5,[4]),(6,[0,1,7,8]),(7,[4])] id).getD []}
def hint72:Hint:={nv:=3,live:=fun id=>(Am.look [(0,[1,2]),(1,[3])] id).getD []}
def hint73:Hint:={nv:=2,live:=fun id=>(Am.look [(0,[0]),(1,[2])] id).getD []}
def hint74:Hint:={nv:=2,keep:=[4],live:=fun id=>(Am.look [(0,[0]),(1,[2])] id).getD [],ext:=some Go.Tr7.extDec}
def hint75:Hint:={nv:=6,keep:=[23,33],live:=fun id=>(Am.look [(0,[0,1,5,6]),(1,[0,1,6,35]),(2,[6,7]),(3,[6,7])] id).getD []}
def hint76:Hint:={nv:=2,live:=fun id=>(Am.look [(0,[0]),(1,[0,4]),(2,[2]),(3,[2])] id).getD []}
def hint77:Hint:={nv:=4,keep:=[23],live:=fun id=>(Am.look [(0,[0,3,4]),(1,[0,3,4,25]),(2,[4,5]),(3,[4,5])] id).getD []}
def hint78:Hint:={nv:=2,live:=fun id=>(Am.look [(0,[0]),(1,[2])] id).getD []}
def hint79:Hint:={nv:=2,live:=fun id=>(Am.look [(0,[0]),(1,[2])] id).getD []}
def hint80:Hint:={nv:=0,live:=fun id=>(Am.look [(0,[]),(1,[0])] id).getD []}
def hint81:Hint:={nv:=2,live:=fun id=>(Am.look [(0,[0]),(1,[2])] id).getD []}
def hint82:Hint:={nv:=6,keep:=[16,21],lits:=[15],live:=fun id=>(Am.look [(0,[0]),(1,[0,4,5]),(2,[4,24]),(3,[2,3]),(4,[2,3])] id).getD [],ext:=some Go.Tr7.extNum,pan:=[1,2]}
def hint83:Hint:={nv:=4,keep:=[7],live:=fun id=>(Am.look [(0,[0,1]),(1,[4])] id).getD []}
def hint84:Hint:={nv:=3,live:=fun id=>(Am.look [(0,[]),(1,[0,5]),(2,[0]),(3,[0]),(4,[]),(5,[0,19]),(6,[0]),(7,[0,2]),(8,[0,2,33]),(9,[0,2]),(10,[]),(11,[0]),(12,[])] id).getD []}
def hint85:Hint:={nv:=3,live:=fun id=>(Am.look [(0,[0,2]),(1,[]),(2,[0,2,7]),(3,[0,2,13]),(4,[0,2]),(5,[]),(6,[0,2,28]),(7,[0]),(8,[0]),(9,[]),(10,[0,2,42]),(11,[])] id).getD []}
def hint86:Hint:={nv:=10,keep:=[22],live:=fun id=>(Am.look [(0,[0,1,2,3]),(1,[0,1,2,3,16]),(2,[0,1,2,3,8,9]),(3,[0,1,2,3,8,32]),(4,[0,1,2,3,8]),(5,[0,1,2,3,8]),(6,[0,1,2,3]),(7,[0,1,2,3,46])] id).getD []}
def hint87:Hint:={nv:=2,live:=fun id=>(Am.look [(0,[])] id).getD []}
def hint88:Hint:={nv:=4,keep:=[8],live:=fun id=>(Am.look [(0,[0]),(1,[4,5])] id).getD []}
def hint89:Hint:={nv:=2,live:=fun id=>(Am.look [(0,[0]),(1,[3]),(2,[2]),(3,[2])] id).getD []}
def hint90:Hint:={nv:=4,keep:=[7],live:=fun id=>(Am.look [(0,[0]),(1,[4,5])] id).getD []}
def hint91:Hint:={nv:=4,live:=fun id=>(Am.look [(0,[0,1]),(1,[4,5])] id).getD []}
def hint92:Hint:={nv:=4,live:=fun id=>(Am.look [(0,[0,1]),(1,[4,5])] id).getD []}
def hint93:Hint:={nv:=4,objs:=[3],live:=fun id=>(Am.look [(0,[0,3,4]),(1,[4])] id).getD []}
def hint94:Hint:={nv:=4,live:=fun id=>(Am.look [(0,[0,1]),(1,[4])] id).getD []}
def hint95:Hint:={nv:=4,live:=fun id=>(Am.look [(0,[0,1]),(1,[4])] id).getD []}
def hint96:Hint:={nv:=4,live:=fun id=>(Am.look [(0,[0,1]),(1,[4])] id).getD []}
def hint97:Hint:={nv:=4,live:=fun id=>(Am.look [(0,[0,1]),(1,[4])] id).getD []}
def hint98:Hint:={nv:=4,live:=fun id=>(Am.look [(0,[0,1]),(1,[4])] id).getD []}
def hint99:Hint:={nv:=4,live:=fun id=>(Am.look [(0,[0,1]),(1,[4])] id).getD []}
def hint100:Hint:={nv:=7,live:=fun id=>(Am.look [(0,[0,1]),(1,[0,1,7]),(2,[4]),(3,[0,1,10]),(4,[4]),(5,[5,6]),(6,[5,23]),(7,[4]),(8,[4])] id).getD []}
def hint101:Hint:={nv:=4,live:=fun id=>(Am.look [(0,[0,1]),(1,[4])] id).getD []}
def hint102:Hint:={nv:=9,keep:=[12,21],lits:=[11,20],live:=fun id=>(Am.look [(0,[1,2,3]),(1,[1,2,3,13]),(2,[6,7]),(3,[8]),(4,[8,22]),(5,[6,7]),(6,[6,7])] id).getD []}
def hint103:Hint:={nv:=4,live:=fun id=>(Am.look [(0,[0,3]),(1,[0,3,6]),(2,[4,5]),(3,[0,9]),(4,[4,5]),(5,[4,5])] id).getD []}
def hint104:Hint:={nv:=3,live:=fun id=>(Am.look [(0,[1,2]),(1,[3])] id).getD []}
def hint106:Hint:={nv:=4,live:=fun id=>(Am.look [(0,[0,3]),(1,[4])] id).getD []}
def hint108:Hint:={nv:=5,live:=fun id=>(Am.look [(0,[0]),(1,[5,6,7]),(2,[5,6,7,8]),(3,[4,5,6,7]),(4,[5,6,7,16]),(5,[2]),(6,[5,6,7]),(7,[2])] id).getD []}
def hint109:Hint:={nv:=4,live:=fun id=>(Am.look [(0,[0,1]),(1,[4])] id).getD []}
def hint110:Hint:={nv:=8,live:=fun id=>(Am.look [(0,[0,1,2]),(1,[0,1,2,7]),(2,[6])] id).getD []}
def hint111:Hint:={nv:=6,lits:=[19],live:=fun id=>(Am.look [(0,[0,1,2,10]),(1,[])] id).getD []}
def hint112:Hint:={nv:=2,live:=fun id=>(Am.look [(0,[0,2]),(1,[0,2,12]),(2,[2]),(3,[2])] id).getD []}
def hint113:Hint:={nv:=4,live:=fun id=>(Am.look [(0,[0,7]),(1,[]),(2,[])] id).getD []}
def hint114:Hint:={nv:=9,keep:=[34],live:=fun id=>(Am.look [(0,[0,1,4]),(1,[0,1,5,6]),(2,[0,1,5,17]),(3,[0,5]),(4,[]),(5,[0,7,8]),(6,[0,7,8,38]),(7,[]),(8,[0,7,8]),(9,[0,7,8,53]),(10,[0,8]),(11,[0,8]),(12,[0,8]),(13,[0,7,8]),(14,[])] id).getD []}
def hint115:Hint:={nv:=9,keep:=[15],live:=fun id=>(Am.look [(0,[0,1]),(1,[0,1,6]),(2,[0,1,6,10]),(3,[0,1,6]),(4,[0,1,6,7,8]),(5,[0,1,6,30]),(6,[4,5]),(7,[4,5])] id).getD []}
def hint116:Hint:={nv:=4,live:=fun id=>(Am.look [(0,[0,1]),(1,[4])] id).getD []}
def hint117:Hint:={nv:=4,live:=fun id=>(Am.look [(0,[0,1]),(1,[4])] id).getD []}
def hint118:Hint:={nv:=5,keep:=[11],live:=fun id=>(Am.look [(0,[0,1,2]),(1,[5,6])] id).getD []}
def hint122:Hint:={nv:=2,live:=fun id=>(Am.look [(0,[])] id).getD []}
def hint123:Hint:={nv:=3,live:=fun id=>(Am.look [(0,[0]),(1,[0,2]),(2,[0,2]),(3,[])] id).getD []}
def hint124:Hint:={nv:=5,live:=fun id=>(Am.look [(0,[0]),(1,[0,2]),(2,[0,2]),(3,[0,2,3]),(4,[0,2,27]),(5,[0,2]),(6,[0,2,4]),(7,[0,2,4]),(8,[])] id).getD []}
def hint125:Hint:={nv:=3,live:=fun id=>(Am.look [(0,[0]),(1,[0,2]),(2,[0,2]),(3,[])] id).getD []}
def hint132:Hint:={nv:=6,live:=fun id=>(Am.look [(0,[0,1]),(1,[0,1,16]),(2,[]),(3,[4]),(4,[0,5]),(5,[0,5,29]),(6,[]),(7,[4]),(8,[5]),(9,[4])] id).getD []}
def hint133:Hint:={nv:=6,live:=fun id=>(Am.look [(0,[0,1,4]),(1,[0,1,4,5]),(2,[0,4,5,18]),(3,[4]),(4,[4]),(5,[4,5]),(6,[4])] id).getD []}
def hints:FuncId→Hint:=fun f=>match f with
 |3=>hint3
 |4=>hint4
 |5=>hint5
 |6=>hint6
 |7=>hint7
 |8=>hint8
 |9=>hint9
 |10=>hint10
 |11=>hint11
 |12=>hint12
 |13=>hint13
 |14=>hint14
 |15=>hint15
 |16=>hint16
 |17=>hint17
 |18=>hint18
 |19=>hint19
 |20=>hint20
 |21=>hint21
 |22=>hint22
 |23=>hint23
 |24=>hint24
 |25=>hint25
 |26=>hint26
 |27=>hint27
 |28=>hint28
 |29=>hint29
 |30=>hint30
 |31=>hint31
 |32=>hint32
 |33=>hint33
 |34=>hint34
 |35=>hint35
 |36=>hint36
 |37=>hint37
 |38=>hint38
 |39=>hint39
 |40=>hint40
 |41=>hint41
 |42=>hint42
 |43=>hint43
 |44=>hint44
 |45=>hint45
 |46=>hint46
 |47=>hint47
 |48=>hint48
 |49=>hint49
 |50=>hint50
 |51=>hint51
 |52=>hint52
 |53=>hint53
 |54=>hint54
 |55=>hint55
 |56=>hint56
 |57=>hint57
 |58=>hint58
 |59=>hint59
 |60=>hint60
 |61=>hint61
 |62=>hint62
 |63=>hint63
 |64=>hint64
 |65=>hint65
 |66=>hint66
 |67=>hint67
 |68=>hint68
 |69=>hint69
 |70=>hint70
 |71=>hint71
 |72=>hint72
 |73=>hint73
 |74=>hint74
 |75=>hint75
 |76=>hint76
 |77=>hint77
 |78=>hint78
 |79=>hint79
 |80=>hint80
 |81=>hint81
 |82=>hint82
 |83=>hint83
 |84=>hint84
 |85=>hint85
 |86=>hint86
 |87=>hint87
 |88=>hint88
 |89=>hint89
 |90=>hint90
 |91=>hint91
 |92=>hint92
 |93=>hint93
 |94=>hint94
 |95=>hint95
 |96=>hint96
 |97=>hint97
 |98=>hint98
 |99=>hint99
 |100=>hint100
 |101=>hint101
 |102=>hint102
 |103=>hint103
 |104=>hint104
 |106=>hint106
 |108=>hint108
 |109=>hint109
 |110=>hint110
 |111=>hint111
 |112=>hint112
 |113=>hint113
 |114=>hint114
 |115=>hint115
 |116=>hint116
 |117=>hint117
 |118=>hint118
 |122=>hint122
 |123=>hint123
 |124=>hint124
 |125=>hint125
 |132=>hint132
 |133=>hint133
 |_=>{nv:=0,objs:=[],keep:=[],lits:=[],own:=false,live:=fun _=>[]}
noncomputable abbrev call:CallF:=callX P hints
@[go_sem] theorem hn4:hint4.nv=11:=rfl
@[go_sem] theorem ho4:hint4.objs=[]:=rfl
@[go_sem] theorem hk4:hint4.keep=[13,18,21,25,31,40,45,47,48,51]:=rfl
@[go_sem] theorem hl4:hint4.lits=[]:=rfl
@[go_sem] theorem hr4:hint4.ro=[]:=rfl
@[go_sem] theorem he4:hint4.emp=[]:=rfl
@[go_sem] theorem hv4:hint4.lkn=[]:=rfl
@[go_sem] theorem hn5:hint5.nv=4:=rfl
@[go_sem] theorem ho5:hint5.objs=[]:=rfl
@[go_sem] theorem hl5:hint5.lits=[]:=rfl
@[go_sem] theorem hn7:hint7.nv=13:=rfl
@[go_sem] theorem ho7:hint7.objs=[]:=rfl
@[go_sem] theorem hk7:hint7.keep=[16,31,41,51,57]:=rfl
@[go_sem] theorem hl7:hint7.lits=[]:=rfl
@[go_sem] theorem hr7:hint7.ro=[]:=rfl
@[go_sem] theorem he7:hint7.emp=[]:=rfl
@[go_sem] theorem hv7:hint7.lkn=[]:=rfl
@[go_sem] theorem hw7:hint7.mv=[57]:=rfl
@[go_sem] theorem hl9:hint9.lits=[]:=rfl
@[go_sem] theorem hn10:hint10.nv=6:=rfl
@[go_sem] theorem ho10:hint10.objs=[]:=rfl
@[go_sem] theorem hl10:hint10.lits=[39]:=rfl
@[go_sem] theorem hn13:hint13.nv=7:=rfl
@[go_sem] theorem ho13:hint13.objs=[3,8,6]:=rfl
@[go_sem] theorem hk13:hint13.keep=[]:=rfl
@[go_sem] theorem hl13:hint13.lits=[]:=rfl
@[go_sem] theorem hr13:hint13.ro=[]:=rfl
@[go_sem] theorem he13:hint13.emp=[]:=rfl
@[go_sem] theorem hv13:hint13.lkn=[]:=rfl
@[go_sem] theorem hn14:hint14.nv=15:=rfl
@[go_sem] theorem ho14:hint14.objs=[]:=rfl
@[go_sem] theorem hk14:hint14.keep=[30,54,78,95,112]:=rfl
@[go_sem] theorem hl14:hint14.lits=[]:=rfl
@[go_sem] theorem hr14:hint14.ro=[]:=rfl
@[go_sem] theorem he14:hint14.emp=[]:=rfl
@[go_sem] theorem hv14:hint14.lkn=[]:=rfl
@[go_sem] theorem hn15:hint15.nv=5:=rfl
@[go_sem] theorem hk15:hint15.keep=[16]:=rfl
@[go_sem] theorem hr15:hint15.ro=[]:=rfl
@[go_sem] theorem he15:hint15.emp=[]:=rfl
@[go_sem] theorem hv15:hint15.lkn=[]:=rfl
@[go_sem] theorem hn17:hint17.nv=12:=rfl
@[go_sem] theorem ho17:hint17.objs=[]:=rfl
@[go_sem] theorem hk17:hint17.keep=[52,79,89,109,115]:=rfl
@[go_sem] theorem hl17:hint17.lits=[35,57,84,110,116]:=rfl
@[go_sem] theorem hr17:hint17.ro=[]:=rfl
@[go_sem] theorem he17:hint17.emp=[]:=rfl
@[go_sem] theorem hv17:hint17.lkn=[]:=rfl
@[go_sem] theorem hn26:hint26.nv=13:=rfl
@[go_sem] theorem ho26:hint26.objs=[]:=rfl
@[go_sem] theorem hk26:hint26.keep=[]:=rfl
@[go_sem] theorem hl26:hint26.lits=[]:=rfl
@[go_sem] theorem hr26:hint26.ro=[]:=rfl
@[go_sem] theorem he26:hint26.emp=[]:=rfl
@[go_sem] theorem hv26:hint26.lkn=[]:=rfl
@[go_sem] theorem hn27:hint27.nv=4:=rfl
@[go_sem] theorem ho27:hint27.objs=[]:=rfl
@[go_sem] theorem hk27:hint27.keep=[]:=rfl
@[go_sem] theorem hl27:hint27.lits=[]:=rfl
@[go_sem] theorem hr27:hint27.ro=[]:=rfl
@[go_sem] theorem he27:hint27.emp=[]:=rfl
@[go_sem] theorem hv27:hint27.lkn=[]:=rfl
@[go_sem] theorem hn28:hint28.nv=14:=rfl
@[go_sem] theorem ho28:hint28.objs=[]:=rfl
@[go_sem] theorem hk28:hint28.keep=[28,20,45]:=rfl
@[go_sem] theorem hl28:hint28.lits=[]:=rfl
@[go_sem] theorem hr28:hint28.ro=[]:=rfl
@[go_sem] theorem he28:hint28.emp=[]:=rfl
@[go_sem] theorem hv28:hint28.lkn=[]:=rfl
@[go_sem] theorem hn29:hint29.nv=8:=rfl
@[go_sem] theorem ho29:hint29.objs=[]:=rfl
@[go_sem] theorem hl29:hint29.lits=[]:=rfl
@[go_sem] theorem hn30:hint30.nv=8:=rfl
@[go_sem] theorem ho30:hint30.objs=[]:=rfl
@[go_sem] theorem hk30:hint30.keep=[]:=rfl
@[go_sem] theorem hl30:hint30.lits=[]:=rfl
@[go_sem] theorem hr30:hint30.ro=[]:=rfl
@[go_sem] theorem he30:hint30.emp=[]:=rfl
@[go_sem] theorem hv30:hint30.lkn=[]:=rfl
@[go_sem] theorem hn31:hint31.nv=4:=rfl
@[go_sem] theorem ho31:hint31.objs=[2]:=rfl
@[go_sem] theorem hk31:hint31.keep=[]:=rfl
@[go_sem] theorem hl31:hint31.lits=[]:=rfl
@[go_sem] theorem hr31:hint31.ro=[]:=rfl
@[go_sem] theorem he31:hint31.emp=[]:=rfl
@[go_sem] theorem hv31:hint31.lkn=[]:=rfl
@[go_sem] theorem hn32:hint32.nv=4:=rfl
@[go_sem] theorem ho32:hint32.objs=[2]:=rfl
@[go_sem] theorem hk32:hint32.keep=[]:=rfl
@[go_sem] theorem hl32:hint32.lits=[]:=rfl
@[go_sem] theorem hr32:hint32.ro=[]:=rfl
@[go_sem] theorem he32:hint32.emp=[]:=rfl
@[go_sem] theorem hv32:hint32.lkn=[]:=rfl
@[go_sem] theorem hn33:hint33.nv=4:=rfl
@[go_sem] theorem ho33:hint33.objs=[2]:=rfl
@[go_sem] theorem hk33:hint33.keep=[]:=rfl
@[go_sem] theorem hl33:hint33.lits=[]:=rfl
@[go_sem] theorem hr33:hint33.ro=[]:=rfl
@[go_sem] theorem he33:hint33.emp=[]:=rfl
@[go_sem] theorem hv33:hint33.lkn=[]:=rfl
@[go_sem] theorem hn35:hint35.nv=7:=rfl
@[go_sem] theorem hk35:hint35.keep=[]:=rfl
@[go_sem] theorem hr35:hint35.ro=[]:=rfl
@[go_sem] theorem he35:hint35.emp=[]:=rfl
@[go_sem] theorem hv35:hint35.lkn=[]:=rfl
@[go_sem] theorem hn36:hint36.nv=2:=rfl
@[go_sem] theorem hk36:hint36.keep=[4,7]:=rfl
@[go_sem] theorem hr36:hint36.ro=[]:=rfl
@[go_sem] theorem he36:hint36.emp=[]:=rfl
@[go_sem] theorem hv36:hint36.lkn=[]:=rfl
@[go_sem] theorem hn37:hint37.nv=4:=rfl
@[go_sem] theorem ho37:hint37.objs=[]:=rfl
@[go_sem] theorem hl37:hint37.lits=[]:=rfl
@[go_sem] theorem hn38:hint38.nv=2:=rfl
@[go_sem] theorem ho38:hint38.objs=[]:=rfl
@[go_sem] theorem hn39:hint39.nv=11:=rfl
@[go_sem] theorem ho39:hint39.objs=[]:=rfl
@[go_sem] theorem hk39:hint39.keep=[13,37,45]:=rfl
@[go_sem] theorem hl39:hint39.lits=[]:=rfl
@[go_sem] theorem hr39:hint39.ro=[]:=rfl
@[go_sem] theorem he39:hint39.emp=[]:=rfl
@[go_sem] theorem hv39:hint39.lkn=[]:=rfl
@[go_sem] theorem hn40:hint40.nv=6:=rfl
@[go_sem] theorem ho40:hint40.objs=[]:=rfl
@[go_sem] theorem hk40:hint40.keep=[15,43]:=rfl
@[go_sem] theorem hl40:hint40.lits=[]:=rfl
@[go_sem] theorem hr40:hint40.ro=[]:=rfl
@[go_sem] theorem he40:hint40.emp=[]:=rfl
@[go_sem] theorem hv40:hint40.lkn=[]:=rfl
@[go_sem] theorem hn59:hint59.nv=0:=rfl
@[go_sem] theorem hk59:hint59.keep=[]:=rfl
@[go_sem] theorem hr59:hint59.ro=[]:=rfl
@[go_sem] theorem he59:hint59.emp=[]:=rfl
@[go_sem] theorem hv59:hint59.lkn=[]:=rfl
@[go_sem] theorem hn60:hint60.nv=14:=rfl
@[go_sem] theorem ho60:hint60.objs=[]:=rfl
@[go_sem] theorem hk60:hint60.keep=[]:=rfl
@[go_sem] theorem hl60:hint60.lits=[84]:=rfl
@[go_sem] theorem hr60:hint60.ro=[]:=rfl
@[go_sem] theorem he60:hint60.emp=[]:=rfl
@[go_sem] theorem hv60:hint60.lkn=[58,64]:=rfl
@[go_sem] theorem hn61:hint61.nv=4:=rfl
@[go_sem] theorem hk61:hint61.keep=[]:=rfl
@[go_sem] theorem hr61:hint61.ro=[]:=rfl
@[go_sem] theorem he61:hint61.emp=[]:=rfl
@[go_sem] theorem hv61:hint61.lkn=[]:=rfl
@[go_sem] theorem hn62:hint62.nv=8:=rfl
@[go_sem] theorem ho62:hint62.objs=[]:=rfl
@[go_sem] theorem hk62:hint62.keep=[48]:=rfl
@[go_sem] theorem hl62:hint62.lits=[]:=rfl
@[go_sem] theorem hr62:hint62.ro=[]:=rfl
@[go_sem] theorem he62:hint62.emp=[]:=rfl
@[go_sem] theorem hv62:hint62.lkn=[]:=rfl
@[go_sem] theorem hn63:hint63.nv=11:=rfl
@[go_sem] theorem ho63:hint63.objs=[]:=rfl
@[go_sem] theorem hk63:hint63.keep=[26,36]:=rfl
@[go_sem] theorem hl63:hint63.lits=[]:=rfl
@[go_sem] theorem hr63:hint63.ro=[]:=rfl
@[go_sem] theorem he63:hint63.emp=[]:=rfl
@[go_sem] theorem hv63:hint63.lkn=[]:=rfl
@[go_sem] theorem hl64:hint64.lits=[]:=rfl
@[go_sem] theorem hn65:hint65.nv=6:=rfl
@[go_sem] theorem hk65:hint65.keep=[]:=rfl
@[go_sem] theorem hl65:hint65.lits=[]:=rfl
@[go_sem] theorem hr65:hint65.ro=[]:=rfl
@[go_sem] theorem he65:hint65.emp=[]:=rfl
@[go_sem] theorem hv65:hint65.lkn=[]:=rfl
@[go_sem] theorem hn66:hint66.nv=2:=rfl
@[go_sem] theorem ho66:hint66.objs=[1]:=rfl
@[go_sem] theorem hn67:hint67.nv=6:=rfl
@[go_sem] theorem hk67:hint67.keep=[]:=rfl
@[go_sem] theorem hl67:hint67.lits=[]:=rfl
@[go_sem] theorem hr67:hint67.ro=[]:=rfl
@[go_sem] theorem he67:hint67.emp=[]:=rfl
@[go_sem] theorem hv67:hint67.lkn=[]:=rfl
@[go_sem] theorem hn68:hint68.nv=3:=rfl
@[go_sem] theorem ho68:hint68.objs=[]:=rfl
@[go_sem] theorem hl68:hint68.lits=[]:=rfl
@[go_sem] theorem hn69:hint69.nv=6:=rfl
@[go_sem] theorem hk69:hint69.keep=[]:=rfl
@[go_sem] theorem hl69:hint69.lits=[]:=rfl
@[go_sem] theorem hr69:hint69.ro=[]:=rfl
@[go_sem] theorem he69:hint69.emp=[]:=rfl
@[go_sem] theorem hv69:hint69.lkn=[]:=rfl
@[go_sem] theorem hn70:hint70.nv=3:=rfl
@[go_sem] theorem ho70:hint70.objs=[]:=rfl
@[go_sem] theorem hl70:hint70.lits=[]:=rfl
@[go_sem] theorem hn71:hint71.nv=6:=rfl
@[go_sem] theorem hk71:hint71.keep=[]:=rfl
@[go_sem] theorem hl71:hint71.lits=[]:=rfl
@[go_sem] theorem hr71:hint71.ro=[]:=rfl
@[go_sem] theorem he71:hint71.emp=[]:=rfl
@[go_sem] theorem hv71:hint71.lkn=[]:=rfl
@[go_sem] theorem hn72:hint72.nv=3:=rfl
@[go_sem] theorem ho72:hint72.objs=[]:=rfl
@[go_sem] theorem hl72:hint72.lits=[]:=rfl
@[go_sem] theorem hn93:hint93.nv=4:=rfl
@[go_sem] theorem ho93:hint93.objs=[3]:=rfl
@[go_sem] theorem hn100:hint100.nv=7:=rfl
@[go_sem] theorem ho100:hint100.objs=[]:=rfl
@[go_sem] theorem hl100:hint100.lits=[]:=rfl
@[go_sem] theorem hn102:hint102.nv=9:=rfl
@[go_sem] theorem ho102:hint102.objs=[]:=rfl
@[go_sem] theorem hk102:hint102.keep=[12,21]:=rfl
@[go_sem] theorem hl102:hint102.lits=[11,20]:=rfl
@[go_sem] theorem hr102:hint102.ro=[]:=rfl
@[go_sem] theorem he102:hint102.emp=[]:=rfl
@[go_sem] theorem hv102:hint102.lkn=[]:=rfl
@[go_sem] theorem hn103:hint103.nv=4:=rfl
@[go_sem] theorem ho103:hint103.objs=[]:=rfl
@[go_sem] theorem hl103:hint103.lits=[]:=rfl
@[go_sem] theorem hn104:hint104.nv=3:=rfl
@[go_sem] theorem ho104:hint104.objs=[]:=rfl
@[go_sem] theorem hl104:hint104.lits=[]:=rfl
@[go_sem] theorem hl108:hint108.lits=[]:=rfl
@[go_sem] theorem el0:Am.elemOf P 0=none:=by kernel_rfl
@[go_sem] theorem ag3:aggO P 3=some false:=by kernel_rfl
@[go_sem] theorem el3:Am.elemOf P 3=none:=by kernel_rfl
@[go_sem] theorem ce3:P.cellsOf 3=1:=by kernel_rfl
@[go_sem] theorem by3:P.bytesOf 3=8:=by kernel_rfl
@[go_sem] theorem in3:(P.info? 3).isSome=true:=by kernel_rfl
@[go_sem] theorem ze3:zeroOf P 3=some (.int .i64 (0)):=by kernel_rfl
@[go_sem] theorem ki3:kindOf P 3=some 0:=by kernel_rfl
@[go_sem] theorem un3:P.underlying 3=some (.int .i64):=by kernel_rfl
@[go_sem] theorem el4:Am.elemOf P 4=none:=by kernel_rfl
@[go_sem] theorem un4:P.underlying 4=some .bool:=by kernel_rfl
@[go_sem] theorem ag9:aggO P 9=some false:=by kernel_rfl
@[go_sem] theorem el9:Am.elemOf P 9=none:=by kernel_rfl
@[go_sem] theorem ce9:P.cellsOf 9=1:=by kernel_rfl
@[go_sem] theorem un9:P.underlying 9=some .string:=by kernel_rfl
@[go_sem] theorem el21:Am.elemOf P 21=none:=by kernel_rfl
@[go_sem] theorem el22:Am.elemOf P 22=some 37:=by kernel_rfl
@[go_sem] theorem un22:P.underlying 22=some (.slice 37):=by kernel_rfl
@[go_sem] theorem ag23:aggO P 23=some false:=by kernel_rfl
@[go_sem] theorem ce23:P.cellsOf 23=1:=by kernel_rfl
@[go_sem] theorem un23:P.underlying 23=some (.slice 85):=by kernel_rfl
@[go_sem] theorem ag24:aggO P 24=some false:=by kernel_rfl
@[go_sem] theorem el24:Am.elemOf P 24=some 55:=by kernel_rfl
@[go_sem] theorem ce24:P.cellsOf 24=1:=by kernel_rfl
@[go_sem] theorem un24:P.underlying 24=some (.slice 55):=by kernel_rfl
@[go_sem] theorem ag25:aggO P 25=some false:=by kernel_rfl
@[go_sem] theorem ce25:P.cellsOf 25=1:=by kernel_rfl
@[go_sem] theorem un25:P.underlying 25=some (.slice 79):=by kernel_rfl
@[go_sem] theorem ag26:aggO P 26=some false:=by kernel_rfl
@[go_sem] theorem ce26:P.cellsOf 26=1:=by kernel_rfl
@[go_sem] theorem un26:P.underlying 26=some (.slice 83):=by kernel_rfl
@[go_sem] theorem ag28:aggO P 28=some true:=by kernel_rfl
@[go_sem] theorem ce28:P.cellsOf 28=6:=by kernel_rfl
@[go_sem] theorem fi28_0:fieldOf P 28 0=some (0,1,false):=by kernel_rfl
@[go_sem] theorem fi28_1:fieldOf P 28 1=some (1,1,false):=by kernel_rfl
@[go_sem] theorem fi28_2:fieldOf P 28 2=some (2,1,false):=by kernel_rfl
@[go_sem] theorem fi28_3:fieldOf P 28 3=some (3,1,false):=by kernel_rfl
@[go_sem] theorem fi28_4:fieldOf P 28 4=some (4,1,false):=by kernel_rfl
@[go_sem] theorem fi28_5:fieldOf P 28 5=some (5,1,false):=by kernel_rfl
@[go_sem] theorem el31:Am.elemOf P 31=none:=by kernel_rfl
@[go_sem] theorem ag37:aggO P 37=some true:=by kernel_rfl
@[go_sem] theorem ce37:P.cellsOf 37=2:=by kernel_rfl
@[go_sem] theorem by37:P.bytesOf 37=16:=by kernel_rfl
@[go_sem] theorem ze37:zeroOf P 37=some (.agg [.int .i64 (0),.int .i64 (0)]):=by kernel_rfl
@[go_sem] theorem fi37_0:fieldOf P 37 0=some (0,1,false):=by kernel_rfl
@[go_sem] theorem fi37_1:fieldOf P 37 1=some (1,1,false):=by kernel_rfl
@[go_sem] theorem pl37:placesOf P 37=some (.inr [(0,1),(1,1)]):=by kernel_rfl
@[go_sem] theorem ps37:plainS P 37=some [0,0]:=by kernel_rfl
@[go_sem] theorem el45:Am.elemOf P 45=some 52:=by kernel_rfl
@[go_sem] theorem ag52:aggO P 52=some true:=by kernel_rfl
@[go_sem] theorem ce52:P.cellsOf 52=3:=by kernel_rfl
@[go_sem] theorem by52:P.bytesOf 52=32:=by kernel_rfl
@[go_sem] theorem in52:(P.info? 52).isSome=true:=by kernel_rfl
@[go_sem] theorem ze52:zeroOf P 52=some (.agg [.str [],.int .i64 (0),.int .i64 (0)]):=by kernel_rfl
@[go_sem] theorem fi52_0:fieldOf P 52 0=some (0,1,false):=by kernel_rfl
@[go_sem] theorem fi52_1:fieldOf P 52 1=some (1,1,false):=by kernel_rfl
@[go_sem] theorem fi52_2:fieldOf P 52 2=some (2,1,false):=by kernel_rfl
@[go_sem] theorem pl52:placesOf P 52=some (.inr [(0,1),(1,1),(2,1)]):=by kernel_rfl
@[go_sem] theorem ag55:aggO P 55=some true:=by kernel_rfl
@[go_sem] theorem ce55:P.cellsOf 55=6:=by kernel_rfl
@[go_sem] theorem fi55_0:fieldOf P 55 0=some (0,1,false):=by kernel_rfl
@[go_sem] theorem fi55_1:fieldOf P 55 1=some (1,1,false):=by kernel_rfl
@[go_sem] theorem fi55_2:fieldOf P 55 2=some (2,1,false):=by kernel_rfl
@[go_sem] theorem ag64:aggO P 64=some false:=by kernel_rfl
@[go_sem] theorem ce64:P.cellsOf 64=1:=by kernel_rfl
@[go_sem] theorem ze64:zeroOf P 64=some (.nilp):=by kernel_rfl
@[go_sem] theorem ag65:aggO P 65=some false:=by kernel_rfl
@[go_sem] theorem el65:Am.elemOf P 65=some 3:=by kernel_rfl
@[go_sem] theorem ce65:P.cellsOf 65=1:=by kernel_rfl
@[go_sem] theorem ag66:aggO P 66=some false:=by kernel_rfl
@[go_sem] theorem el66:Am.elemOf P 66=none:=by kernel_rfl
@[go_sem] theorem ce66:P.cellsOf 66=1:=by kernel_rfl
@[go_sem] theorem ma66:mapOf P 66=some (3,74):=by kernel_rfl
@[go_sem] theorem ce68:P.cellsOf 68=2:=by kernel_rfl
@[go_sem] theorem ze68:zeroOf P 68=some (.agg [.nils,.nilm]):=by kernel_rfl
@[go_sem] theorem fi68_0:fieldOf P 68 0=some (0,1,false):=by kernel_rfl
@[go_sem] theorem fi68_1:fieldOf P 68 1=some (1,1,false):=by kernel_rfl
@[go_sem] theorem pl68:placesOf P 68=some (.inr [(0,1),(1,1)]):=by kernel_rfl
@[go_sem] theorem ag74:aggO P 74=some true:=by kernel_rfl
@[go_sem] theorem ce74:P.cellsOf 74=4:=by kernel_rfl
@[go_sem] theorem ze74:zeroOf P 74=some (.agg [.int .i64 (0),.int .i64 (0),.int .i64 (0),.nilf]):=by kernel_rfl
@[go_sem] theorem fi74_0:fieldOf P 74 0=some (0,1,false):=by kernel_rfl
@[go_sem] theorem fi74_1:fieldOf P 74 1=some (1,1,false):=by kernel_rfl
@[go_sem] theorem fi74_2:fieldOf P 74 2=some (2,1,false):=by kernel_rfl
@[go_sem] theorem pl74:placesOf P 74=some (.inr [(0,1),(1,1),(2,1),(3,1)]):=by kernel_rfl
@[go_sem] theorem ag79:aggO P 79=some true:=by kernel_rfl
@[go_sem] theorem ce79:P.cellsOf 79=6:=by kernel_rfl
@[go_sem] theorem fi79_0:fieldOf P 79 0=some (0,1,false):=by kernel_rfl
@[go_sem] theorem fi79_1:fieldOf P 79 1=some (1,1,false):=by kernel_rfl
@[go_sem] theorem un81:P.underlying 81=some (.slice 212):=by kernel_rfl
@[go_sem] theorem ag83:aggO P 83=some true:=by kernel_rfl
@[go_sem] theorem ce83:P.cellsOf 83=5:=by kernel_rfl
@[go_sem] theorem fi83_0:fieldOf P 83 0=some (0,1,false):=by kernel_rfl
@[go_sem] theorem fi83_2:fieldOf P 83 2=some (2,1,false):=by kernel_rfl
@[go_sem] theorem ag85:aggO P 85=some true:=by kernel_rfl
@[go_sem] theorem ce85:P.cellsOf 85=2:=by kernel_rfl
@[go_sem] theorem fi85_0:fieldOf P 85 0=some (0,1,false):=by kernel_rfl
@[go_sem] theorem ag88:aggO P 88=some true:=by kernel_rfl
@[go_sem] theorem ce88:P.cellsOf 88=4:=by kernel_rfl
@[go_sem] theorem ag91:aggO P 91=some true:=by kernel_rfl
@[go_sem] theorem ce91:P.cellsOf 91=2:=by kernel_rfl
@[go_sem] theorem ze91:zeroOf P 91=some (.agg [.str [],.int .i64 (0)]):=by kernel_rfl
@[go_sem] theorem fi91_0:fieldOf P 91 0=some (0,1,false):=by kernel_rfl
@[go_sem] theorem fi91_1:fieldOf P 91 1=some (1,1,false):=by kernel_rfl
@[go_sem] theorem pl91:placesOf P 91=some (.inr [(0,1),(1,1)]):=by kernel_rfl
@[go_sem] theorem el119:Am.elemOf P 119=none:=by kernel_rfl
@[go_sem] theorem ce141:P.cellsOf 141=1:=by kernel_rfl
@[go_sem] theorem ag144:aggO P 144=some false:=by kernel_rfl
@[go_sem] theorem ce144:P.cellsOf 144=1:=by kernel_rfl
@[go_sem] theorem ce146:P.cellsOf 146=1:=by kernel_rfl
@[go_sem] theorem ze146:zeroOf P 146=some (.agg [.nilf]):=by kernel_rfl
@[go_sem] theorem fi146_0:fieldOf P 146 0=some (0,1,false):=by kernel_rfl
@[go_sem] theorem pl146:placesOf P 146=some (.inr [(0,1)]):=by kernel_rfl
@[go_sem] theorem un210:P.underlying 210=some (.slice 215):=by kernel_rfl
noncomputable def b3:Code:=Tryz.f3.body.getD .skip
@[go_sem] def q3:{q // compF hint3 b3=some q}:=by refine⟨?q,?h⟩;case h=>conv=>lhs;cbv
noncomputable def b4:Code:=Tryz.f4.body.getD .skip
@[go_sem] def q4:{q // compF hint4 b4=some q}:=by refine⟨?q,?h⟩;case h=>conv=>lhs;cbv
theorem ge4{ρ:Type}(ds:List D)(H:List Ob)(κ:List T×List Ob→Option ρ)(hl:ds.length=3):cbK (call 4 ds H) κ=go P hints hint4 b4 q4.1 (enter ds H) (kLv P false [.tmp 6] H.length κ):=
 ge_of (by decide) rfl rfl Tryz.func4 (by kernel_rfl) q4.2 rfl rfl (by kernel_rfl) rfl (by kernel_rfl) (by kernel_rfl) ds H κ hl rfl
@[go_sem] theorem xt5:extOf P 5=none:=extOf_none Tryz.func5 (by kernel_rfl)
noncomputable def b5:Code:=Tryz.f5.body.getD .skip
@[go_sem] def q5:{q // compF hint5 b5=some q}:=by refine⟨?q,?h⟩;case h=>conv=>lhs;cbv
theorem ge5{ρ:Type}(ds:List D)(H:List Ob)(κ:List T×List Ob→Option ρ)(hl:ds.length=2):cbK (call 5 ds H) κ=go P hints hint5 b5 q5.1 (enter ds H) (kLv P false [.tmp 4] H.length κ):=
 ge_of (by decide) rfl rfl Tryz.func5 (by kernel_rfl) q5.2 rfl rfl (by kernel_rfl) rfl (by kernel_rfl) (by kernel_rfl) ds H κ hl rfl
@[go_sem] theorem xt6:extOf P 6=none:=extOf_none Tryz.func6 (by kernel_rfl)
@[go_sem] theorem xt7:extOf P 7=none:=extOf_none Tryz.func7 (by kernel_rfl)
noncomputable def b7:Code:=Tryz.f7.body.getD .skip
def q7:{q // compF hint7 b7=some q}:=by refine⟨?q,?h⟩;case h=>conv=>lhs;cbv
def q7_0:{q // compL hint7 b7 0=some q}:=by refine⟨?q,?h⟩;case h=>conv=>lhs;cbv
attribute [go_sem] q7 q7_0
theorem ge7{ρ:Type}(ds:List D)(H:List Ob)(κ:List T×List Ob→Option ρ)(hl:ds.length=2):cbK (call 7 ds H) κ=go P hints hint7 b7 q7.1 (enter ds H) (kLv P false [.tmp 4,.tmp 5] H.length κ):=
 ge_of (by decide) rfl rfl Tryz.func7 (by kernel_rfl) q7.2 rfl rfl (by kernel_rfl) rfl (by kernel_rfl) (by kernel_rfl) ds H κ hl rfl
@[go_sem] theorem xt9:extOf P 9=none:=extOf_none Tryz.func9 (by kernel_rfl)
noncomputable def b9:Code:=Tryz.f9.body.getD .skip
def q9:{q // compF hint9 b9=some q}:=by refine⟨?q,?h⟩;case h=>conv=>lhs;cbv
def q9_0:{q // compL hint9 b9 0=some q}:=by refine⟨?q,?h⟩;case h=>conv=>lhs;cbv
attribute [go_sem] q9 q9_0
theorem ge9{ρ:Type}(ds:List D)(H:List Ob)(κ:List T×List Ob→Option ρ)(hl:ds.length=2):cbK (call 9 ds H) κ=go P hints hint9 b9 q9.1 (enter ds H) (kLv P false [.tmp 4] H.length κ):=
 ge_of (by decide) rfl rfl Tryz.func9 (by kernel_rfl) q9.2 rfl rfl (by kernel_rfl) rfl (by kernel_rfl) (by kernel_rfl) ds H κ hl rfl
@[go_sem] theorem xt10:extOf P 10=none:=extOf_none Tryz.func10 (by kernel_rfl)
noncomputable def b10:Code:=Tryz.f10.body.getD .skip
def q10:{q // compF hint10 b10=some q}:=by refine⟨?q,?h⟩;case h=>conv=>lhs;cbv
def q10_0:{q // compL hint10 b10 0=some q}:=by refine⟨?q,?h⟩;case h=>conv=>lhs;cbv
attribute [go_sem] q10 q10_0
theorem ge10{ρ:Type}(ds:List D)(H:List Ob)(κ:List T×List Ob→Option ρ)(hl:ds.length=1):cbK (call 10 ds H) κ=go P hints hint10 b10 q10.1 (enter ds H) (kLv P false [.tmp 2] H.length κ):=
 ge_of (by decide) rfl rfl Tryz.func10 (by kernel_rfl) q10.2 rfl rfl (by kernel_rfl) rfl (by kernel_rfl) (by kernel_rfl) ds H κ hl rfl
@[go_sem] theorem xt13:extOf P 13=none:=extOf_none Tryz.func13 (by kernel_rfl)
noncomputable def b13:Code:=Tryz.f13.body.getD .skip
@[go_sem] def q13:{q // compF hint13 b13=some q}:=by refine⟨?q,?h⟩;case h=>conv=>lhs;cbv
theorem ge13{ρ:Type}(ds:List D)(H:List Ob)(κ:List T×List Ob→Option ρ)(hl:ds.length=2):cbK (call 13 ds H) κ=go P hints hint13 b13 q13.1 (enter ds H) (kLv P false [.tmp 4,.tmp 5] H.length κ):=
 ge_of (by decide) rfl rfl Tryz.func13 (by kernel_rfl) q13.2 rfl rfl (by kernel_rfl) rfl (by kernel_rfl) (by kernel_rfl) ds H κ hl rfl
@[go_sem] theorem xt14:extOf P 14=none:=extOf_none Tryz.func14 (by kernel_rfl)
noncomputable def b14:Code:=Tryz.f14.body.getD .skip
@[go_sem] def q14:{q // compF hint14 b14=some q}:=by refine⟨?q,?h⟩;case h=>conv=>lhs;cbv
theorem ge14{ρ:Type}(ds:List D)(H:List Ob)(κ:List T×List Ob→Option ρ)(hl:ds.length=2):cbK (call 14 ds H) κ=go P hints hint14 b14 q14.1 (enter ds H) (kLv P false [.tmp 4,.tmp 5] H.length κ):=
 ge_of (by decide) rfl rfl Tryz.func14 (by kernel_rfl) q14.2 rfl rfl (by kernel_rfl) rfl (by kernel_rfl) (by kernel_rfl) ds H κ hl rfl
@[go_sem] theorem xt15:extOf P 15=none:=extOf_none Tryz.func15 (by kernel_rfl)
noncomputable def b15:Code:=Tryz.f15.body.getD .skip
def q15:{q // compF hint15 b15=some q}:=by refine⟨?q,?h⟩;case h=>conv=>lhs;cbv
def q15_0:{q // compL hint15 b15 0=some q}:=by refine⟨?q,?h⟩;case h=>conv=>lhs;cbv
attribute [go_sem] q15 q15_0
theorem ge15{ρ:Type}(ds:List D)(H:List Ob)(κ:List T×List Ob→Option ρ)(hl:ds.length=1):cbK (call 15 ds H) κ=go P hints hint15 b15 q15.1 (enter ds H) (kLv P false [.tmp 2] H.length κ):=
 ge_of (by decide) rfl rfl Tryz.func15 (by kernel_rfl) q15.2 rfl rfl (by kernel_rfl) rfl (by kernel_rfl) (by kernel_rfl) ds H κ hl rfl
@[go_sem] theorem xt16:extOf P 16=none:=extOf_none Tryz.func16 (by kernel_rfl)
noncomputable def b16:Code:=Tryz.f16.body.getD .skip
@[go_sem] def q16:{q // compF hint16 b16=some q}:=by refine⟨?q,?h⟩;case h=>conv=>lhs;cbv
theorem ge16{ρ:Type}(ds:List D)(H:List Ob)(κ:List T×List Ob→Option ρ)(hl:ds.length=1):cbK (call 16 ds H) κ=go P hints hint16 b16 q16.1 (enter ds H) (kLv P false [.tmp 2] H.length κ):=
 ge_of (by decide) rfl rfl Tryz.func16 (by kernel_rfl) q16.2 rfl rfl (by kernel_rfl) rfl (by kernel_rfl) (by kernel_rfl) ds H κ hl rfl
noncomputable def b17:Code:=Tryz.f17.body.getD .skip
@[go_sem] def q17:{q // compF hint17 b17=some q}:=by refine⟨?q,?h⟩;case h=>conv=>lhs;cbv
theorem gr17{ρ:Type}(ds:List D)(es:List T)(κ:List T×List Ob→Option ρ)(hl:ds.length=2):cbK (call 17 ds [.row es]) κ=go P hints hint17 b17 q17.1 (enterR es ds) (kLv P true [.tmp 6] 0 κ):=
 gr_of (by decide) rfl Tryz.func17 (by kernel_rfl) q17.2 rfl rfl (by kernel_rfl) rfl (by kernel_rfl) (by kernel_rfl) ds es κ hl
@[go_sem] theorem xt26:extOf P 26=none:=extOf_none Tryz.func26 (by kernel_rfl)
noncomputable def b26:Code:=Tryz.f26.body.getD .skip
def q26:{q // compF hint26 b26=some q}:=by refine⟨?q,?h⟩;case h=>conv=>lhs;cbv
def q26_0:{q // compL hint26 b26 0=some q}:=by refine⟨?q,?h⟩;case h=>conv=>lhs;cbv
attribute [go_sem] q26 q26_0
theorem ge26{ρ:Type}(ds:List D)(H:List Ob)(κ:List T×List Ob→Option ρ)(hl:ds.length=4):cbK (call 26 ds H) κ=go P hints hint26 b26 q26.1 (enter ds H) (kLv P false [.tmp 8,.tmp 9] H.length κ):=
 ge_of (by decide) rfl rfl Tryz.func26 (by kernel_rfl) q26.2 rfl rfl (by kernel_rfl) rfl (by kernel_rfl) (by kernel_rfl) ds H κ hl rfl
@[go_sem] theorem xt27:extOf P 27=none:=extOf_none Tryz.func27 (by kernel_rfl)
noncomputable def b27:Code:=Tryz.f27.body.getD .skip
@[go_sem] def q27:{q // compF hint27 b27=some q}:=by refine⟨?q,?h⟩;case h=>conv=>lhs;cbv
theorem ge27{ρ:Type}(ds:List D)(H:List Ob)(κ:List T×List Ob→Option ρ)(hl:ds.length=3):cbK (call 27 ds H) κ=go P hints hint27 b27 q27.1 (enter ds H) (kLv P false [.tmp 4,.tmp 5] H.length κ):=
 ge_of (by decide) rfl rfl Tryz.func27 (by kernel_rfl) q27.2 rfl rfl (by kernel_rfl) rfl (by kernel_rfl) (by kernel_rfl) ds H κ hl rfl
@[go_sem] theorem xt28:extOf P 28=none:=extOf_none Tryz.func28 (by kernel_rfl)
noncomputable def b28:Code:=Tryz.f28.body.getD .skip
@[go_sem] def q28:{q // compF hint28 b28=some q}:=by refine⟨?q,?h⟩;case h=>conv=>lhs;cbv
theorem ge28{ρ:Type}(ds:List D)(H:List Ob)(κ:List T×List Ob→Option ρ)(hl:ds.length=3):cbK (call 28 ds H) κ=go P hints hint28 b28 q28.1 (enter ds H) (kLv P false [.tmp 6,.tmp 7] H.length κ):=
 ge_of (by decide) rfl rfl Tryz.func28 (by kernel_rfl) q28.2 rfl rfl (by kernel_rfl) rfl (by kernel_rfl) (by kernel_rfl) ds H κ hl rfl
@[go_sem] theorem xt29:extOf P 29=none:=extOf_none Tryz.func29 (by kernel_rfl)
noncomputable def b29:Code:=Tryz.f29.body.getD .skip
def q29:{q // compF hint29 b29=some q}:=by refine⟨?q,?h⟩;case h=>conv=>lhs;cbv
def q29_0:{q // compL hint29 b29 0=some q}:=by refine⟨?q,?h⟩;case h=>conv=>lhs;cbv
attribute [go_sem] q29 q29_0
theorem ge29{ρ:Type}(ds:List D)(H:List Ob)(κ:List T×List Ob→Option ρ)(hl:ds.length=2):cbK (call 29 ds H) κ=go P hints hint29 b29 q29.1 (enter ds H) (kLv P false [.tmp 4,.tmp 5] H.length κ):=
 ge_of (by decide) rfl rfl Tryz.func29 (by kernel_rfl) q29.2 rfl rfl (by kernel_rfl) rfl (by kernel_rfl) (by kernel_rfl) ds H κ hl rfl
@[go_sem] theorem xt30:extOf P 30=none:=extOf_none Tryz.func30 (by kernel_rfl)
noncomputable def b30:Code:=Tryz.f30.body.getD .skip
@[go_sem] def q30:{q // compF hint30 b30=some q}:=by refine⟨?q,?h⟩;case h=>conv=>lhs;cbv
theorem ge30{ρ:Type}(ds:List D)(H:List Ob)(κ:List T×List Ob→Option ρ)(hl:ds.length=2):cbK (call 30 ds H) κ=go P hints hint30 b30 q30.1 (enter ds H) (kLv P false [.tmp 4,.tmp 5] H.length κ):=
 ge_of (by decide) rfl rfl Tryz.func30 (by kernel_rfl) q30.2 rfl rfl (by kernel_rfl) rfl (by kernel_rfl) (by kernel_rfl) ds H κ hl rfl
@[go_sem] theorem xt31:extOf P 31=none:=extOf_none Tryz.func31 (by kernel_rfl)
noncomputable def b31:Code:=Tryz.f31.body.getD .skip
@[go_sem] def q31:{q // compF hint31 b31=some q}:=by refine⟨?q,?h⟩;case h=>conv=>lhs;cbv
theorem ge31{ρ:Type}(ds:List D)(H:List Ob)(κ:List T×List Ob→Option ρ)(hl:ds.length=2):cbK (call 31 ds H) κ=go P hints hint31 b31 q31.1 (enter ds H) (kLv P false [.tmp 4] H.length κ):=
 ge_of (by decide) rfl rfl Tryz.func31 (by kernel_rfl) q31.2 rfl rfl (by kernel_rfl) rfl (by kernel_rfl) (by kernel_rfl) ds H κ hl rfl
@[go_sem] theorem xt32:extOf P 32=none:=extOf_none Tryz.func32 (by kernel_rfl)
noncomputable def b32:Code:=Tryz.f32.body.getD .skip
@[go_sem] def q32:{q // compF hint32 b32=some q}:=by refine⟨?q,?h⟩;case h=>conv=>lhs;cbv
theorem ge32{ρ:Type}(ds:List D)(H:List Ob)(κ:List T×List Ob→Option ρ)(hl:ds.length=2):cbK (call 32 ds H) κ=go P hints hint32 b32 q32.1 (enter ds H) (kLv P false [.tmp 4] H.length κ):=
 ge_of (by decide) rfl rfl Tryz.func32 (by kernel_rfl) q32.2 rfl rfl (by kernel_rfl) rfl (by kernel_rfl) (by kernel_rfl) ds H κ hl rfl
@[go_sem] theorem xt33:extOf P 33=none:=extOf_none Tryz.func33 (by kernel_rfl)
noncomputable def b33:Code:=Tryz.f33.body.getD .skip
@[go_sem] def q33:{q // compF hint33 b33=some q}:=by refine⟨?q,?h⟩;case h=>conv=>lhs;cbv
theorem ge33{ρ:Type}(ds:List D)(H:List Ob)(κ:List T×List Ob→Option ρ)(hl:ds.length=2):cbK (call 33 ds H) κ=go P hints hint33 b33 q33.1 (enter ds H) (kLv P false [.tmp 4] H.length κ):=
 ge_of (by decide) rfl rfl Tryz.func33 (by kernel_rfl) q33.2 rfl rfl (by kernel_rfl) rfl (by kernel_rfl) (by kernel_rfl) ds H κ hl rfl
@[go_sem] theorem xt34:extOf P 34=none:=extOf_none Tryz.func34 (by kernel_rfl)
noncomputable def b34:Code:=Tryz.f34.body.getD .skip
@[go_sem] def q34:{q // compF hint34 b34=some q}:=by refine⟨?q,?h⟩;case h=>conv=>lhs;cbv
theorem ge34{ρ:Type}(ds:List D)(H:List Ob)(κ:List T×List Ob→Option ρ)(hl:ds.length=1):cbK (call 34 ds H) κ=go P hints hint34 b34 q34.1 (enter ds H) (kLv P false [.tmp 2] H.length κ):=
 ge_of (by decide) rfl rfl Tryz.func34 (by kernel_rfl) q34.2 rfl rfl (by kernel_rfl) rfl (by kernel_rfl) (by kernel_rfl) ds H κ hl rfl
@[go_sem] theorem xt35:extOf P 35=none:=extOf_none Tryz.func35 (by kernel_rfl)
noncomputable def b35:Code:=Tryz.f35.body.getD .skip
def q35:{q // compF hint35 b35=some q}:=by refine⟨?q,?h⟩;case h=>conv=>lhs;cbv
def q35_0:{q // compL hint35 b35 0=some q}:=by refine⟨?q,?h⟩;case h=>conv=>lhs;cbv
attribute [go_sem] q35 q35_0
theorem ge35{ρ:Type}(ds:List D)(H:List Ob)(κ:List T×List Ob→Option ρ)(hl:ds.length=2):cbK (call 35 ds H) κ=go P hints hint35 b35 q35.1 (enter ds H) (kLv P false [.tmp 4] H.length κ):=
 ge_of (by decide) rfl rfl Tryz.func35 (by kernel_rfl) q35.2 rfl rfl (by kernel_rfl) rfl (by kernel_rfl) (by kernel_rfl) ds H κ hl rfl
@[go_sem] theorem xt36:extOf P 36=none:=extOf_none Tryz.func36 (by kernel_rfl)
noncomputable def b36:Code:=Tryz.f36.body.getD .skip
@[go_sem] def q36:{q // compF hint36 b36=some q}:=by refine⟨?q,?h⟩;case h=>conv=>lhs;cbv
theorem ge36{ρ:Type}(ds:List D)(H:List Ob)(κ:List T×List Ob→Option ρ)(hl:ds.length=1):cbK (call 36 ds H) κ=go P hints hint36 b36 q36.1 (enter ds H) (kLv P false [.tmp 2] H.length κ):=
 ge_of (by decide) rfl rfl Tryz.func36 (by kernel_rfl) q36.2 rfl rfl (by kernel_rfl) rfl (by kernel_rfl) (by kernel_rfl) ds H κ hl rfl
@[go_sem] theorem xt37:extOf P 37=none:=extOf_none Tryz.func37 (by kernel_rfl)
noncomputable def b37:Code:=Tryz.f37.body.getD .skip
@[go_sem] def q37:{q // compF hint37 b37=some q}:=by refine⟨?q,?h⟩;case h=>conv=>lhs;cbv
theorem ge37{ρ:Type}(ds:List D)(H:List Ob)(κ:List T×List Ob→Option ρ)(hl:ds.length=2):cbK (call 37 ds H) κ=go P hints hint37 b37 q37.1 (enter ds H) (kLv P false [.tmp 4] H.length κ):=
 ge_of (by decide) rfl rfl Tryz.func37 (by kernel_rfl) q37.2 rfl rfl (by kernel_rfl) rfl (by kernel_rfl) (by kernel_rfl) ds H κ hl rfl
@[go_sem] theorem xt38:extOf P 38=none:=extOf_none Tryz.func38 (by kernel_rfl)
noncomputable def b38:Code:=Tryz.f38.body.getD .skip
@[go_sem] def q38:{q // compF hint38 b38=some q}:=by refine⟨?q,?h⟩;case h=>conv=>lhs;cbv
theorem ge38{ρ:Type}(ds:List D)(H:List Ob)(κ:List T×List Ob→Option ρ)(hl:ds.length=1):cbK (call 38 ds H) κ=go P hints hint38 b38 q38.1 (enter ds H) (kLv P false [.cell 2 91,.tmp 3] H.length κ):=
 ge_of (by decide) rfl rfl Tryz.func38 (by kernel_rfl) q38.2 rfl rfl (by kernel_rfl) rfl (by kernel_rfl) (by kernel_rfl) ds H κ hl rfl
@[go_sem] theorem xt39:extOf P 39=none:=extOf_none Tryz.func39 (by kernel_rfl)
noncomputable def b39:Code:=Tryz.f39.body.getD .skip
@[go_sem] def q39:{q // compF hint39 b39=some q}:=by refine⟨?q,?h⟩;case h=>conv=>lhs;cbv
theorem ge39{ρ:Type}(ds:List D)(H:List Ob)(κ:List T×List Ob→Option ρ)(hl:ds.length=3):cbK (call 39 ds H) κ=go P hints hint39 b39 q39.1 (enter ds H) (kLv P false [.cell 6 52] H.length κ):=
 ge_of (by decide) rfl rfl Tryz.func39 (by kernel_rfl) q39.2 rfl rfl (by kernel_rfl) rfl (by kernel_rfl) (by kernel_rfl) ds H κ hl rfl
@[go_sem] theorem xt40:extOf P 40=none:=extOf_none Tryz.func40 (by kernel_rfl)
noncomputable def b40:Code:=Tryz.f40.body.getD .skip
@[go_sem] def q40:{q // compF hint40 b40=some q}:=by refine⟨?q,?h⟩;case h=>conv=>lhs;cbv
theorem ge40{ρ:Type}(ds:List D)(H:List Ob)(κ:List T×List Ob→Option ρ)(hl:ds.length=2):cbK (call 40 ds H) κ=go P hints hint40 b40 q40.1 (enter ds H) (kLv P false [.cell 4 52] H.length κ):=
 ge_of (by decide) rfl rfl Tryz.func40 (by kernel_rfl) q40.2 rfl rfl (by kernel_rfl) rfl (by kernel_rfl) (by kernel_rfl) ds H κ hl rfl
@[go_sem] theorem xt59:extOf P 59=none:=extOf_none Tryz.func59 (by kernel_rfl)
noncomputable def b59:Code:=Tryz.f59.body.getD .skip
@[go_sem] def q59:{q // compF hint59 b59=some q}:=by refine⟨?q,?h⟩;case h=>conv=>lhs;cbv
theorem ge59{ρ:Type}(ds:List D)(H:List Ob)(κ:List T×List Ob→Option ρ)(hl:ds.length=0):cbK (call 59 ds H) κ=go P hints hint59 b59 q59.1 (enter ds H) (kLv P false [.tmp 0] H.length κ):=
 ge_of (by decide) rfl rfl Tryz.func59 (by kernel_rfl) q59.2 rfl rfl (by kernel_rfl) rfl (by kernel_rfl) (by kernel_rfl) ds H κ hl rfl
@[go_sem] theorem xt60:extOf P 60=none:=extOf_none Tryz.func60 (by kernel_rfl)
noncomputable def b60:Code:=Tryz.f60.body.getD .skip
@[go_sem] def q60:{q // compF hint60 b60=some q}:=by refine⟨?q,?h⟩;case h=>conv=>lhs;cbv
theorem ge60{ρ:Type}(ds:List D)(H:List Ob)(κ:List T×List Ob→Option ρ)(hl:ds.length=4):cbK (call 60 ds H) κ=go P hints hint60 b60 q60.1 (enter ds H) (kLv P false [.tmp 8] H.length κ):=
 ge_of (by decide) rfl rfl Tryz.func60 (by kernel_rfl) q60.2 rfl rfl (by kernel_rfl) rfl (by kernel_rfl) (by kernel_rfl) ds H κ hl rfl
@[go_sem] theorem xt61:extOf P 61=none:=extOf_none Tryz.func61 (by kernel_rfl)
noncomputable def b61:Code:=Tryz.f61.body.getD .skip
@[go_sem] def q61:{q // compF hint61 b61=some q}:=by refine⟨?q,?h⟩;case h=>conv=>lhs;cbv
theorem ge61{ρ:Type}(ds:List D)(H:List Ob)(κ:List T×List Ob→Option ρ)(hl:ds.length=2):cbK (call 61 ds H) κ=go P hints hint61 b61 q61.1 (enter ds H) (kLv P false [.tmp 4,.tmp 5] H.length κ):=
 ge_of (by decide) rfl rfl Tryz.func61 (by kernel_rfl) q61.2 rfl rfl (by kernel_rfl) rfl (by kernel_rfl) (by kernel_rfl) ds H κ hl rfl
@[go_sem] theorem xt62:extOf P 62=none:=extOf_none Tryz.func62 (by kernel_rfl)
noncomputable def b62:Code:=Tryz.f62.body.getD .skip
@[go_sem] def q62:{q // compF hint62 b62=some q}:=by refine⟨?q,?h⟩;case h=>conv=>lhs;cbv
theorem ge62{ρ:Type}(ds:List D)(H:List Ob)(κ:List T×List Ob→Option ρ)(hl:ds.length=2):cbK (call 62 ds H) κ=go P hints hint62 b62 q62.1 (enter ds H) (kLv P false [.tmp 4,.tmp 5] H.length κ):=
 ge_of (by decide) rfl rfl Tryz.func62 (by kernel_rfl) q62.2 rfl rfl (by kernel_rfl) rfl (by kernel_rfl) (by kernel_rfl) ds H κ hl rfl
@[go_sem] theorem xt63:extOf P 63=none:=extOf_none Tryz.func63 (by kernel_rfl)
noncomputable def b63:Code:=Tryz.f63.body.getD .skip
@[go_sem] def q63:{q // compF hint63 b63=some q}:=by refine⟨?q,?h⟩;case h=>conv=>lhs;cbv
theorem ge63{ρ:Type}(ds:List D)(H:List Ob)(κ:List T×List Ob→Option ρ)(hl:ds.length=3):cbK (call 63 ds H) κ=go P hints hint63 b63 q63.1 (enter ds H) (kLv P false [.tmp 6,.tmp 7,.tmp 8] H.length κ):=
 ge_of (by decide) rfl rfl Tryz.func63 (by kernel_rfl) q63.2 rfl rfl (by kernel_rfl) rfl (by kernel_rfl) (by kernel_rfl) ds H κ hl rfl
@[go_sem] theorem xt64:extOf P 64=none:=extOf_none Tryz.func64 (by kernel_rfl)
noncomputable def b64:Code:=Tryz.f64.body.getD .skip
@[go_sem] def q64:{q // compF hint64 b64=some q}:=by refine⟨?q,?h⟩;case h=>conv=>lhs;cbv
theorem ge64{ρ:Type}(ds:List D)(H:List Ob)(κ:List T×List Ob→Option ρ)(hl:ds.length=1):cbK (call 64 ds H) κ=go P hints hint64 b64 q64.1 (enter ds H) (kLv P false [.tmp 2] H.length κ):=
 ge_of (by decide) rfl rfl Tryz.func64 (by kernel_rfl) q64.2 rfl rfl (by kernel_rfl) rfl (by kernel_rfl) (by kernel_rfl) ds H κ hl rfl
@[go_sem] theorem xt65:extOf P 65=none:=extOf_none Tryz.func65 (by kernel_rfl)
noncomputable def b65:Code:=Tryz.f65.body.getD .skip
def q65:{q // compF hint65 b65=some q}:=by refine⟨?q,?h⟩;case h=>conv=>lhs;cbv
def q65_0:{q // compL hint65 b65 0=some q}:=by refine⟨?q,?h⟩;case h=>conv=>lhs;cbv
attribute [go_sem] q65 q65_0
theorem ge65{ρ:Type}(ds:List D)(H:List Ob)(κ:List T×List Ob→Option ρ)(hl:ds.length=2):cbK (call 65 ds H) κ=go P hints hint65 b65 q65.1 (enter ds H) (kLv P false [.tmp 4] H.length κ):=
 ge_of (by decide) rfl rfl Tryz.func65 (by kernel_rfl) q65.2 rfl rfl (by kernel_rfl) rfl (by kernel_rfl) (by kernel_rfl) ds H κ hl rfl
@[go_sem] theorem xt66:extOf P 66=none:=extOf_none Tryz.func66 (by kernel_rfl)
noncomputable def b66:Code:=Tryz.f66.body.getD .skip
@[go_sem] def q66:{q // compF hint66 b66=some q}:=by refine⟨?q,?h⟩;case h=>conv=>lhs;cbv
theorem ge66{ρ:Type}(ds:List D)(H:List Ob)(κ:List T×List Ob→Option ρ)(hl:ds.length=1):cbK (call 66 ds H) κ=go P hints hint66 b66 q66.1 (enter ds H) (kLv P false [.tmp 2] H.length κ):=
 ge_of (by decide) rfl rfl Tryz.func66 (by kernel_rfl) q66.2 rfl rfl (by kernel_rfl) rfl (by kernel_rfl) (by kernel_rfl) ds H κ hl rfl
@[go_sem] theorem xt67:extOf P 67=none:=extOf_none Tryz.func67 (by kernel_rfl)
noncomputable def b67:Code:=Tryz.f67.body.getD .skip
def q67:{q // compF hint67 b67=some q}:=by refine⟨?q,?h⟩;case h=>conv=>lhs;cbv
def q67_0:{q // compL hint67 b67 0=some q}:=by refine⟨?q,?h⟩;case h=>conv=>lhs;cbv
attribute [go_sem] q67 q67_0
theorem ge67{ρ:Type}(ds:List D)(H:List Ob)(κ:List T×List Ob→Option ρ)(hl:ds.length=2):cbK (call 67 ds H) κ=go P hints hint67 b67 q67.1 (enter ds H) (kLv P false [.tmp 4] H.length κ):=
 ge_of (by decide) rfl rfl Tryz.func67 (by kernel_rfl) q67.2 rfl rfl (by kernel_rfl) rfl (by kernel_rfl) (by kernel_rfl) ds H κ hl rfl
@[go_sem] theorem xt68:extOf P 68=none:=extOf_none Tryz.func68 (by kernel_rfl)
noncomputable def b68:Code:=Tryz.f68.body.getD .skip
@[go_sem] def q68:{q // compF hint68 b68=some q}:=by refine⟨?q,?h⟩;case h=>conv=>lhs;cbv
theorem ge68{ρ:Type}(ds:List D)(H:List Ob)(κ:List T×List Ob→Option ρ)(hl:ds.length=2):cbK (call 68 ds H) κ=go P hints hint68 b68 q68.1 (enter ds H) (kLv P false [.tmp 3] H.length κ):=
 ge_of (by decide) rfl rfl Tryz.func68 (by kernel_rfl) q68.2 rfl rfl (by kernel_rfl) rfl (by kernel_rfl) (by kernel_rfl) ds H κ hl rfl
@[go_sem] theorem xt69:extOf P 69=none:=extOf_none Tryz.func69 (by kernel_rfl)
noncomputable def b69:Code:=Tryz.f69.body.getD .skip
def q69:{q // compF hint69 b69=some q}:=by refine⟨?q,?h⟩;case h=>conv=>lhs;cbv
def q69_0:{q // compL hint69 b69 0=some q}:=by refine⟨?q,?h⟩;case h=>conv=>lhs;cbv
attribute [go_sem] q69 q69_0
theorem ge69{ρ:Type}(ds:List D)(H:List Ob)(κ:List T×List Ob→Option ρ)(hl:ds.length=2):cbK (call 69 ds H) κ=go P hints hint69 b69 q69.1 (enter ds H) (kLv P false [.tmp 4] H.length κ):=
 ge_of (by decide) rfl rfl Tryz.func69 (by kernel_rfl) q69.2 rfl rfl (by kernel_rfl) rfl (by kernel_rfl) (by kernel_rfl) ds H κ hl rfl
@[go_sem] theorem xt70:extOf P 70=none:=extOf_none Tryz.func70 (by kernel_rfl)
noncomputable def b70:Code:=Tryz.f70.body.getD .skip
@[go_sem] def q70:{q // compF hint70 b70=some q}:=by refine⟨?q,?h⟩;case h=>conv=>lhs;cbv
theorem ge70{ρ:Type}(ds:List D)(H:List Ob)(κ:List T×List Ob→Option ρ)(hl:ds.length=2):cbK (call 70 ds H) κ=go P hints hint70 b70 q70.1 (enter ds H) (kLv P false [.tmp 3] H.length κ):=
 ge_of (by decide) rfl rfl Tryz.func70 (by kernel_rfl) q70.2 rfl rfl (by kernel_rfl) rfl (by kernel_rfl) (by kernel_rfl) ds H κ hl rfl
@[go_sem] theorem xt71:extOf P 71=none:=extOf_none Tryz.func71 (by kernel_rfl)
noncomputable def b71:Code:=Tryz.f71.body.getD .skip
def q71:{q // compF hint71 b71=some q}:=by refine⟨?q,?h⟩;case h=>conv=>lhs;cbv
def q71_0:{q // compL hint71 b71 0=some q}:=by refine⟨?q,?h⟩;case h=>conv=>lhs;cbv
attribute [go_sem] q71 q71_0
theorem ge71{ρ:Type}(ds:List D)(H:List Ob)(κ:List T×List Ob→Option ρ)(hl:ds.length=2):cbK (call 71 ds H) κ=go P hints hint71 b71 q71.1 (enter ds H) (kLv P false [.tmp 4] H.length κ):=
 ge_of (by decide) rfl rfl Tryz.func71 (by kernel_rfl) q71.2 rfl rfl (by kernel_rfl) rfl (by kernel_rfl) (by kernel_rfl) ds H κ hl rfl
@[go_sem] theorem xt72:extOf P 72=none:=extOf_none Tryz.func72 (by kernel_rfl)
noncomputable def b72:Code:=Tryz.f72.body.getD .skip
@[go_sem] def q72:{q // compF hint72 b72=some q}:=by refine⟨?q,?h⟩;case h=>conv=>lhs;cbv
theorem ge72{ρ:Type}(ds:List D)(H:List Ob)(κ:List T×List Ob→Option ρ)(hl:ds.length=2):cbK (call 72 ds H) κ=go P hints hint72 b72 q72.1 (enter ds H) (kLv P false [.tmp 3] H.length κ):=
 ge_of (by decide) rfl rfl Tryz.func72 (by kernel_rfl) q72.2 rfl rfl (by kernel_rfl) rfl (by kernel_rfl) (by kernel_rfl) ds H κ hl rfl
@[go_sem] theorem xt73:extOf P 73=none:=extOf_none Tryz.func73 (by kernel_rfl)
noncomputable def b73:Code:=Tryz.f73.body.getD .skip
@[go_sem] def q73:{q // compF hint73 b73=some q}:=by refine⟨?q,?h⟩;case h=>conv=>lhs;cbv
theorem ge73{ρ:Type}(ds:List D)(H:List Ob)(κ:List T×List Ob→Option ρ)(hl:ds.length=1):cbK (call 73 ds H) κ=go P hints hint73 b73 q73.1 (enter ds H) (kLv P false [.tmp 2] H.length κ):=
 ge_of (by decide) rfl rfl Tryz.func73 (by kernel_rfl) q73.2 rfl rfl (by kernel_rfl) rfl (by kernel_rfl) (by kernel_rfl) ds H κ hl rfl
@[go_sem] theorem ge74{ρ:Type}(ds:List D)(H:List Ob)(κ:List T×List Ob→Option ρ):cbK (call 74 ds H) κ=(Go.Tr7.extDec ds).bind fun rs=>if isPanT rs=true then none else κ (rs,H):=extB (by decide) rfl
@[go_sem] theorem xt74:extOf P 74=none:=extOf_none Tryz.func74 (by kernel_rfl)
@[go_sem] theorem xt93:extOf P 93=none:=extOf_none Tryz.func93 (by kernel_rfl)
noncomputable def b93:Code:=Tryz.f93.body.getD .skip
@[go_sem] def q93:{q // compF hint93 b93=some q}:=by refine⟨?q,?h⟩;case h=>conv=>lhs;cbv
theorem ge93{ρ:Type}(ds:List D)(H:List Ob)(κ:List T×List Ob→Option ρ)(hl:ds.length=2):cbK (call 93 ds H) κ=go P hints hint93 b93 q93.1 (enter ds H) (kLv P false [.cell 4 74] H.length κ):=
 ge_of (by decide) rfl rfl Tryz.func93 (by kernel_rfl) q93.2 rfl rfl (by kernel_rfl) rfl (by kernel_rfl) (by kernel_rfl) ds H κ hl rfl
@[go_sem] theorem xt100:extOf P 100=none:=extOf_none Tryz.func100 (by kernel_rfl)
noncomputable def b100:Code:=Tryz.f100.body.getD .skip
@[go_sem] def q100:{q // compF hint100 b100=some q}:=by refine⟨?q,?h⟩;case h=>conv=>lhs;cbv
theorem ge100{ρ:Type}(ds:List D)(H:List Ob)(κ:List T×List Ob→Option ρ)(hl:ds.length=2):cbK (call 100 ds H) κ=go P hints hint100 b100 q100.1 (enter ds H) (kLv P false [.tmp 4] H.length κ):=
 ge_of (by decide) rfl rfl Tryz.func100 (by kernel_rfl) q100.2 rfl rfl (by kernel_rfl) rfl (by kernel_rfl) (by kernel_rfl) ds H κ hl rfl
@[go_sem] theorem xt101:extOf P 101=none:=extOf_none Tryz.func101 (by kernel_rfl)
noncomputable def b101:Code:=Tryz.f101.body.getD .skip
@[go_sem] def q101:{q // compF hint101 b101=some q}:=by refine⟨?q,?h⟩;case h=>conv=>lhs;cbv
theorem ge101{ρ:Type}(ds:List D)(H:List Ob)(κ:List T×List Ob→Option ρ)(hl:ds.length=2):cbK (call 101 ds H) κ=go P hints hint101 b101 q101.1 (enter ds H) (kLv P false [.tmp 4] H.length κ):=
 ge_of (by decide) rfl rfl Tryz.func101 (by kernel_rfl) q101.2 rfl rfl (by kernel_rfl) rfl (by kernel_rfl) (by kernel_rfl) ds H κ hl rfl
@[go_sem] theorem xt102:extOf P 102=none:=extOf_none Tryz.func102 (by kernel_rfl)
noncomputable def b102:Code:=Tryz.f102.body.getD .skip
@[go_sem] def q102:{q // compF hint102 b102=some q}:=by refine⟨?q,?h⟩;case h=>conv=>lhs;cbv
theorem ge102{ρ:Type}(ds:List D)(H:List Ob)(κ:List T×List Ob→Option ρ)(hl:ds.length=3):cbK (call 102 ds H) κ=go P hints hint102 b102 q102.1 (enter ds H) (kLv P false [.tmp 6,.tmp 7] H.length κ):=
 ge_of (by decide) rfl rfl Tryz.func102 (by kernel_rfl) q102.2 rfl rfl (by kernel_rfl) rfl (by kernel_rfl) (by kernel_rfl) ds H κ hl rfl
@[go_sem] theorem xt103:extOf P 103=none:=extOf_none Tryz.func103 (by kernel_rfl)
noncomputable def b103:Code:=Tryz.f103.body.getD .skip
@[go_sem] def q103:{q // compF hint103 b103=some q}:=by refine⟨?q,?h⟩;case h=>conv=>lhs;cbv
theorem ge103{ρ:Type}(ds:List D)(H:List Ob)(κ:List T×List Ob→Option ρ)(hl:ds.length=2):cbK (call 103 ds H) κ=go P hints hint103 b103 q103.1 (enter ds H) (kLv P false [.tmp 4,.tmp 5] H.length κ):=
 ge_of (by decide) rfl rfl Tryz.func103 (by kernel_rfl) q103.2 rfl rfl (by kernel_rfl) rfl (by kernel_rfl) (by kernel_rfl) ds H κ hl rfl
@[go_sem] theorem xt104:extOf P 104=none:=extOf_none Tryz.func104 (by kernel_rfl)
noncomputable def b104:Code:=Tryz.f104.body.getD .skip
@[go_sem] def q104:{q // compF hint104 b104=some q}:=by refine⟨?q,?h⟩;case h=>conv=>lhs;cbv
theorem ge104{ρ:Type}(ds:List D)(H:List Ob)(κ:List T×List Ob→Option ρ)(hl:ds.length=2):cbK (call 104 ds H) κ=go P hints hint104 b104 q104.1 (enter ds H) (kLv P false [.tmp 3] H.length κ):=
 ge_of (by decide) rfl rfl Tryz.func104 (by kernel_rfl) q104.2 rfl rfl (by kernel_rfl) rfl (by kernel_rfl) (by kernel_rfl) ds H κ hl rfl
@[go_sem] theorem xt108:extOf P 108=none:=extOf_none Tryz.func108 (by kernel_rfl)
noncomputable def b108:Code:=Tryz.f108.body.getD .skip
def q108:{q // compF hint108 b108=some q}:=by refine⟨?q,?h⟩;case h=>conv=>lhs;cbv
def q108_0:{q // compL hint108 b108 0=some q}:=by refine⟨?q,?h⟩;case h=>conv=>lhs;cbv
attribute [go_sem] q108 q108_0
theorem ge108{ρ:Type}(ds:List D)(H:List Ob)(κ:List T×List Ob→Option ρ)(hl:ds.length=1):cbK (call 108 ds H) κ=go P hints hint108 b108 q108.1 (enter ds H) (kLv P false [.tmp 2] H.length κ):=
 ge_of (by decide) rfl rfl Tryz.func108 (by kernel_rfl) q108.2 rfl rfl (by kernel_rfl) rfl (by kernel_rfl) (by kernel_rfl) ds H κ hl rfl
end Go.Etx
namespace Go.Etx
open Go Go.Am Go.Proofs
structure GNode where
 Op:Int
 N:Int
 deriving DecidableEq
@[go_sem] def eNode(x:GNode):D:=.agg [eI x.Op,eI x.N]
@[go_sem] theorem eta_Node(x:GNode):(GNode.mk x.Op x.N)=x:=rfl
structure Gpart where
 text:List UInt8
 op:Int
 binds:Int
 deriving DecidableEq
@[go_sem] def epart(x:Gpart):D:=.agg [eS x.text,eI x.op,eI x.binds]
@[go_sem] theorem eta_etext_part(x:Gpart):(Gpart.mk x.text x.op x.binds)=x:=rfl
structure GVar where
 Name:List UInt8
 Scalar:Int
 Over:Int
 Lo:Int
 Hi:Int
 Init:Int
 deriving DecidableEq
@[go_sem] def eVar(x:GVar):D:=.agg [eS x.Name,eI x.Scalar,eI x.Over,eI x.Lo,eI x.Hi,eI x.Init]
@[go_sem] def esi64(b:Bool)(l:List (Int)):D:=.sl b (List.map eI l)
@[go_sem] theorem imms_si64(l:List (Int)):D.imms (List.map eI l)=true:=imms_map fun x=>by simp[go_sem]
@[go_sem] theorem lends_si64(l:List (Int)):D.lends (List.map eI l)=List.map eI l:=lends_same fun x=>by simp[go_sem]
@[go_sem] theorem lows_si64(n:Nat)(l:List (Int)):D.lows n (List.map eI l)=true:=lows_map fun x=>by simp[go_sem,D.low,D.lows]
@[go_sem] theorem unif_si64(l:List (Int)):uniform 1 (tl eI l)=true:=uniform_tl fun x=>by simp[go_sem,D.nc]
@[go_sem] theorem frzs_si64(b:Bool)(l:List (Int)):T.frzs b (tl eI l)=some (List.map eI l):=frzs_tl fun x=>by simp[go_sem,D.norm,D.norm1]
@[go_sem] theorem lowT_si64(n:Nat)(l:List (Int)):T.lows n (tl eI l)=true:=lowT_tl fun x=>by simp[go_sem,D.low,D.lows]
structure GChan where
 Name:List UInt8
 Scalar:Int
 Cap:Int
 Lo:Int
 Hi:Int
 Lossy:Bool
 deriving DecidableEq
@[go_sem] def eChan(x:GChan):D:=.agg [eS x.Name,eI x.Scalar,eI x.Cap,eI x.Lo,eI x.Hi,eB x.Lossy]
structure GScalar where
 Name:List UInt8
 Size:Int
 deriving DecidableEq
@[go_sem] def eScalar(x:GScalar):D:=.agg [eS x.Name,eI x.Size]
@[go_sem] def esNode(b:Bool)(l:List (GNode)):D:=.sl b (List.map eNode l)
@[go_sem] theorem imms_sNode(l:List (GNode)):D.imms (List.map eNode l)=true:=imms_map fun x=>by simp[go_sem]
@[go_sem] theorem lends_sNode(l:List (GNode)):D.lends (List.map eNode l)=List.map eNode l:=lends_same fun x=>by simp[go_sem]
@[go_sem] theorem lows_sNode(n:Nat)(l:List (GNode)):D.lows n (List.map eNode l)=true:=lows_map fun x=>by simp[go_sem,D.low,D.lows]
@[go_sem] theorem unif_sNode(l:List (GNode)):uniform 2 (tl eNode l)=true:=uniform_tl fun x=>by simp[go_sem,D.nc]
@[go_sem] theorem frzs_sNode(b:Bool)(l:List (GNode)):T.frzs b (tl eNode l)=some (List.map eNode l):=frzs_tl fun x=>by simp[go_sem,D.norm,D.norm1]
@[go_sem] theorem snoc_sNode(l:List GNode)(x0:Int)(x1:Int):tl eNode l++[.d (.agg [eI x0,eI x1])]=tl eNode (l++[(GNode.mk x0 x1)]):=tl_snoc (x:=(GNode.mk x0 x1))
@[go_sem] def esScalar(b:Bool)(l:List (GScalar)):D:=.sl b (List.map eScalar l)
@[go_sem] theorem imms_sScalar(l:List (GScalar)):D.imms (List.map eScalar l)=true:=imms_map fun x=>by simp[go_sem]
@[go_sem] theorem lends_sScalar(l:List (GScalar)):D.lends (List.map eScalar l)=List.map eScalar l:=lends_same fun x=>by simp[go_sem]
@[go_sem] theorem lows_sScalar(n:Nat)(l:List (GScalar)):D.lows n (List.map eScalar l)=true:=lows_map fun x=>by simp[go_sem,D.low,D.lows]
@[go_sem] def esVar(b:Bool)(l:List (GVar)):D:=.sl b (List.map eVar l)
@[go_sem] theorem imms_sVar(l:List (GVar)):D.imms (List.map eVar l)=true:=imms_map fun x=>by simp[go_sem]
@[go_sem] theorem lends_sVar(l:List (GVar)):D.lends (List.map eVar l)=List.map eVar l:=lends_same fun x=>by simp[go_sem]
@[go_sem] theorem lows_sVar(n:Nat)(l:List (GVar)):D.lows n (List.map eVar l)=true:=lows_map fun x=>by simp[go_sem,D.low,D.lows]
@[go_sem] def esChan(b:Bool)(l:List (GChan)):D:=.sl b (List.map eChan l)
@[go_sem] theorem imms_sChan(l:List (GChan)):D.imms (List.map eChan l)=true:=imms_map fun x=>by simp[go_sem]
@[go_sem] theorem lends_sChan(l:List (GChan)):D.lends (List.map eChan l)=List.map eChan l:=lends_same fun x=>by simp[go_sem]
@[go_sem] theorem lows_sChan(n:Nat)(l:List (GChan)):D.lows n (List.map eChan l)=true:=lows_map fun x=>by simp[go_sem,D.low,D.lows]
structure GAct where
 Kind:Int
 To:Int
 Local:Int
 Index:List GNode
 Value:List GNode
 deriving DecidableEq
@[go_sem] def eAct(b:Bool)(x:GAct):D:=.agg [eI x.Kind,eI x.To,eI x.Local,(esNode b) x.Index,(esNode b) x.Value]
@[go_sem] def esAct(b:Bool)(l:List (GAct)):D:=.sl b (List.map (eAct b) l)
@[go_sem] theorem imms_sAct(l:List (GAct)):D.imms (List.map (eAct false) l)=true:=imms_map fun x=>by simp[go_sem]
@[go_sem] theorem lends_sAct(b:Bool)(l:List (GAct)):D.lends (List.map (eAct b) l)=List.map (eAct true) l:=lends_to fun x=>by simp[go_sem]
@[go_sem] theorem lows_sAct(b:Bool)(n:Nat)(l:List (GAct)):D.lows n (List.map (eAct b) l)=true:=lows_map fun x=>by simp[go_sem,D.low,D.lows]
structure GCmd where
 Name:List UInt8
 From:Int
 To:Int
 Guard:List GNode
 Acts:List GAct
 Fair:Bool
 deriving DecidableEq
@[go_sem] def eCmd(b:Bool)(x:GCmd):D:=.agg [eS x.Name,eI x.From,eI x.To,(esNode b) x.Guard,(esAct b) x.Acts,eB x.Fair]
@[go_sem] def esCmd(b:Bool)(l:List (GCmd)):D:=.sl b (List.map (eCmd b) l)
@[go_sem] theorem imms_sCmd(l:List (GCmd)):D.imms (List.map (eCmd false) l)=true:=imms_map fun x=>by simp[go_sem]
@[go_sem] theorem lends_sCmd(b:Bool)(l:List (GCmd)):D.lends (List.map (eCmd b) l)=List.map (eCmd true) l:=lends_to fun x=>by simp[go_sem]
@[go_sem] theorem lows_sCmd(b:Bool)(n:Nat)(l:List (GCmd)):D.lows n (List.map (eCmd b) l)=true:=lows_map fun x=>by simp[go_sem,D.low,D.lows]
structure GProc where
 Name:List UInt8
 Over:Int
 Locs:Int
 Vars:List GVar
 Cmds:List GCmd
 deriving DecidableEq
@[go_sem] def eProc(b:Bool)(x:GProc):D:=.agg [eS x.Name,eI x.Over,eI x.Locs,(esVar b) x.Vars,(esCmd b) x.Cmds]
@[go_sem] def esProc(b:Bool)(l:List (GProc)):D:=.sl b (List.map (eProc b) l)
@[go_sem] theorem imms_sProc(l:List (GProc)):D.imms (List.map (eProc false) l)=true:=imms_map fun x=>by simp[go_sem]
@[go_sem] theorem lends_sProc(b:Bool)(l:List (GProc)):D.lends (List.map (eProc b) l)=List.map (eProc true) l:=lends_to fun x=>by simp[go_sem]
@[go_sem] theorem lows_sProc(b:Bool)(n:Nat)(l:List (GProc)):D.lows n (List.map (eProc b) l)=true:=lows_map fun x=>by simp[go_sem,D.low,D.lows]
structure GScope where
 Scalars:List GScalar
 Vars:List GVar
 Chans:List GChan
 Procs:List GProc
 Locals:List GVar
 Self:Int
 deriving DecidableEq
@[go_sem] def eScope(b:Bool)(x:GScope):D:=.agg [(esScalar b) x.Scalars,(esVar b) x.Vars,(esChan b) x.Chans,(esProc b) x.Procs,(esVar b) x.Locals,eI x.Self]
@[go_sem] theorem eta_Scope(x:GScope):(GScope.mk x.Scalars x.Vars x.Chans x.Procs x.Locals x.Self)=x:=rfl
end Go.Etx
namespace Go.Am
open Go
section
variable{α β σ τ ρ:Type}
theorem wrapS{k:Nat}(h:k<4611686018427387904):IntKind.i64.wrap ((k:Int)+1)=((k+1:Nat):Int):=by rw[wrap_i64 (by omega) (by omega)];omega
theorem iterC_find{Φ:τ→(τ→Option ρ)→Option ρ}(N:Nat)(mk:Nat→τ)(p:Nat→Option (Option ρ))(fin:Option ρ)
  (hs:∀i k,i<N→Φ (mk i) k=match p i with |some r=>r |none=>k (mk (i+1))) (hf:∀k,Φ (mk N) k=fin):iterC Φ (mk 0)=((List.range N).findSome? p).getD fin:=by
 have key:∀n j,j≤N→N - j<n→iterCN Φ n (mk j)=((List.range' j (N - j)).findSome? p).getD fin:=by
  intro n
  induction n with
  |zero=>intro j _ h;omega
  |succ n ih=>
   intro j hj h
   show Φ (mk j) (iterCN Φ n)=_
   by_cases hjN:j=N
   ·subst hjN;rw[hf,Nat.sub_self];rfl
   ·rw[hs j _ (by omega),show N - j=(N - (j+1))+1 by omega,List.range'_succ,List.findSome?_cons]
    cases p j with
    |some r=>rfl
    |none=>exact ih (j+1) (by omega) (by omega)
 refine limE_eq (N+1) fun n hn=> ?_
 rw[key n 0 (by omega) (by omega),List.range_eq_range']
 rfl
theorem iterC_run{Φ:τ→(τ→Option ρ)→Option ρ}(N:Nat)(mk:Nat→τ)(fin:Option ρ)
  (hs:∀i k,i<N→Φ (mk i) k=k (mk (i+1))) (hf:∀k,Φ (mk N) k=fin):iterC Φ (mk 0)=fin:=by
 rw[iterC_find N mk (fun _=>none) fin (fun i k h=>hs i k h) hf]
 have:∀l:List Nat,l.findSome? (fun _=>(none:Option (Option ρ)))=none:=fun l=>by induction l with |nil=>rfl |cons a l ih=>exact ih
 rw[this];rfl
theorem find_all{p:Nat→Bool}{x fin:Option ρ}(N:Nat):((List.range N).findSome? fun i=>if p i=true then none else some x).getD fin=if ∀i,i<N→p i=true then fin else x:=by
 have:∀l:List Nat,(l.findSome? fun i=>if p i=true then none else some x).getD fin=if ∀i∈l,p i=true then fin else x:=fun l=>by
  induction l with
  |nil=>simp
  |cons a l ih=>
   rw[List.findSome?_cons]
   cases ha:p a
   ·simp[ha]
   ·simp only[if_true,ih,List.forall_mem_cons,ha,true_and]
 rw[this]
 simp only[List.mem_range]
theorem iterC_all{Φ:τ→(τ→Option ρ)→Option ρ}(N:Nat)(mk:Nat→τ)(p:Nat→Bool)(x fin:Option ρ)
  (hs:∀i k,i<N→Φ (mk i) k=if p i=true then k (mk (i+1))else x) (hf:∀k,Φ (mk N) k=fin):iterC Φ (mk 0)=if ∀i,i<N→p i=true then fin else x:=by
 rw[iterC_find N mk (fun i=>if p i=true then none else some x) fin (fun i k h=>by rw[hs i k h];cases p i <;>rfl) hf,find_all]
theorem loop_run{Φ:τ→(τ→Option ρ)→Option ρ}(N:Nat)(mk:Nat→τ)
  (hs:∀i k,i<N→Φ (mk i) k=k (mk (i+1))) (hf:∀k,Φ (mk N) k=Φ (mk N) fun _=>none):iterC Φ (mk 0)=Φ (mk N) fun _=>none:=iterC_run N mk _ hs hf
theorem loop_all{Φ:τ→(τ→Option ρ)→Option ρ}(N:Nat)(mk:Nat→τ)(p:Nat→Bool)(x:Option ρ)
  (hs:∀i k,i<N→Φ (mk i) k=if p i=true then k (mk (i+1))else x) (hf:∀k,Φ (mk N) k=Φ (mk N) fun _=>none):iterC Φ (mk 0)=if ∀i,i<N→p i=true then Φ (mk N) fun _=>none else x:=iterC_all N mk p x _ hs hf
theorem loop_runE{Φ:τ→(τ→Option ρ)→Option ρ}{v:τ}(N:Nat)(mk:Nat→τ)(h0:v=mk 0)
  (hs:∀i k,i<N→Φ (mk i) k=k (mk (i+1))) (hf:∀k,Φ (mk N) k=Φ (mk N) fun _=>none):iterC Φ v=Φ (mk N) fun _=>none:=by rw[h0];exact loop_run N mk hs hf
end
end Go.Am
namespace Go.Etx
open Go Go.Am Go.Tr7
@[go_sem] theorem ext_dec{n:Int}:extDec [.int .i64 n]=if inR n=true then some [.d (.str (decI n))]else none:=rfl
@[go_sem] theorem nc_nilp:D.nc .nilp=1:=rfl
def rune(s:List UInt8)(p:Nat):Nat×Nat:=Utf8.decode ⟨s.toArray⟩ p
section
variable{Q:Program}{call:CallF}{h:Hint}{dst:Nat}{ty:TypeId}{ρ:Operand→SV}{k:Wk}
@[go_sem] theorem st_range{t:TypeId}{x:Operand}:stepE Q call h dst ty (.range t x) ρ k=rangeE Q t (ρ x) k:=rfl
@[go_sem] theorem st_next{x:Operand}{b:Bool}:stepE Q call h dst ty (.next x b) ρ k=nextE (ρ x) b k:=rfl
@[go_sem] theorem range_str{t:TypeId}{s:List UInt8}:rangeE Q t (.d (.str s)) k=match Q.underlying t with |some .string=>some (.d (.ptr k.H.length),{k with H:=k.H++[.iter s 0]}) |_=>none:=by
 unfold rangeE
 cases Q.underlying t with
 |none=>rfl
 |some d=>cases d <;>rfl
@[go_sem] theorem next_str{i:Nat}:nextE (.d (.ptr i)) true k=match k.H[i]? with
  |some (.iter s p)=>if p<s.length then some (.tup [.d (.bool true),.d (.int .i64 p),.d (.int .i32 (rune s p).1)],{k with H:=k.H.set i (.iter s (p+(rune s p).2))})else some (.tup [.d (.bool false)],k)
  |_=>none:=by
 simp only[nextE,rune]
 cases k.H[i]? with
 |none=>rfl
 |some o=>cases o with
  |miter m=>cases m <;>rfl
  |_=>rfl
end
@[go_sem] theorem index_agg{Q:Program}{t:TypeId}{k:IntKind}{n:Int}{l:List D}:indexE Q t (.d (.agg l)) (.d (.int k n))=match Q.underlying t with
  |some (.array len e)=>if 0≤n∧n<len∧0<Q.cellsOf e then
    (aggO Q e).bind fun ag=>(if ag then(if n.toNat * Q.cellsOf e+Q.cellsOf e≤l.length then some (.d (.agg (win l (n.toNat * Q.cellsOf e) (Q.cellsOf e))))else none)else(l[n.toNat * Q.cellsOf e]?).bind D.sv1)else none
  |_=>none:=by
 simp only[indexE]
 cases Q.underlying t with
 |none=>rfl
 |some d=>cases d <;>rfl
def sgL:List (List UInt8):=[[58,61],[61,61],[33,61],[60,61],[45,62],[38,38],[124,124],[61,62],[40],[41],[91],[93],[123],[125],[59],[44],[58],[46],[60],[43],[45],[42],[33],[63],[64]]
def ownL:List (List UInt8):=[[115,101,108,102],[110,111,110,101],[108,101,110],[97,116]]
theorem key3(a b:Int):keyEq P 3 (.int .i64 a) (.int .i64 b)=some (decide (a=b)):=by
 show((kindOf P 3).bind fun n=>eqK n (.int .i64 a) (.int .i64 b))=_
 rw[ki3]
 exact congrArg some (Bool.eq_iff_iff.2 (by simp only[beq_iff_eq,yD]))
attribute [go_sem] key3
@[go_sem] theorem put66_nil{a:Int}{v:D}:putOb P 66 (.map []) (.int .i64 a) v=some [(.int .i64 a,.d v)]:=by
 simp only[putOb,ma66,xS,key3,Option.isSome_some,if_true,putK]
@[go_sem] theorem put66_cons{a b:Int}{v:D}{t:T}{r:List (D×T)}:putOb P 66 (.map ((.int .i64 b,t)::r)) (.int .i64 a) v=if a=b then some ((.int .i64 a,.d v)::r)else(putOb P 66 (.map r) (.int .i64 a) v).bind fun q=>some ((.int .i64 b,t)::q):=by
 simp only[putOb,ma66,xS,key3,Option.isSome_some,if_true,putK]
 by_cases h:a=b
 ·simp[h]
 ·simp only[h,decide_false,xH,if_false,xF]
  rfl
def opsL:List (D×T):=[(D.int IntKind.i64 9,T.d (D.agg [D.int IntKind.i64 1,D.int IntKind.i64 1,D.int IntKind.i64 1,D.fn (Fn.func 88) [] []])),(D.int IntKind.i64 10,T.d (D.agg [D.int IntKind.i64 1,D.int IntKind.i64 0,D.int IntKind.i64 0,D.fn (Fn.func 90) [] []])),(D.int IntKind.i64 11,T.d (D.agg [D.int IntKind.i64 2,D.int IntKind.i64 0,D.int IntKind.i64 0,D.fn (Fn.func 61) [] []])),(D.int IntKind.i64 12,T.d (D.agg [D.int IntKind.i64 2,D.int IntKind.i64 0,D.int IntKind.i64 0,D.fn (Fn.func 91) [] []])),(D.int IntKind.i64 13,T.d (D.agg [D.int IntKind.i64 2,D.int IntKind.i64 0,D.int IntKind.i64 0,D.fn (Fn.func 92) [] []])),(D.int IntKind.i64 14,T.d (D.agg [D.int IntKind.i64 2,D.int IntKind.i64 (-1),D.int IntKind.i64 1,D.fn (Fn.func 118) [] [D.ptr 4]])),(D.int IntKind.i64 15,T.d (D.agg [D.int IntKind.i64 2,D.int IntKind.i64 (-1),D.int IntKind.i64 1,D.fn (Fn.func 118) [] [D.ptr 5]])),(D.int IntKind.i64 16,T.d (D.agg [D.int IntKind.i64 2,D.int IntKind.i64 0,D.int IntKind.i64 1,D.fn (Fn.func 118) [] [D.ptr 6]])),(D.int IntKind.i64 17,T.d (D.agg [D.int IntKind.i64 2,D.int IntKind.i64 0,D.int IntKind.i64 1,D.fn (Fn.func 118) [] [D.ptr 7]])),(D.int IntKind.i64 18,T.d (D.agg [D.int IntKind.i64 2,D.int IntKind.i64 1,D.int IntKind.i64 1,D.fn (Fn.func 118) [] [D.ptr 8]])),(D.int IntKind.i64 19,T.d (D.agg [D.int IntKind.i64 2,D.int IntKind.i64 1,D.int IntKind.i64 1,D.fn (Fn.func 118) [] [D.ptr 9]]))]
@[go_sem] theorem fold_ops:Ob.map [(D.int IntKind.i64 9,T.d (D.agg [D.int IntKind.i64 1,D.int IntKind.i64 1,D.int IntKind.i64 1,D.fn (Fn.func 88) [] []])),(D.int IntKind.i64 10,T.d (D.agg [D.int IntKind.i64 1,D.int IntKind.i64 0,D.int IntKind.i64 0,D.fn (Fn.func 90) [] []])),(D.int IntKind.i64 11,T.d (D.agg [D.int IntKind.i64 2,D.int IntKind.i64 0,D.int IntKind.i64 0,D.fn (Fn.func 61) [] []])),(D.int IntKind.i64 12,T.d (D.agg [D.int IntKind.i64 2,D.int IntKind.i64 0,D.int IntKind.i64 0,D.fn (Fn.func 91) [] []])),(D.int IntKind.i64 13,T.d (D.agg [D.int IntKind.i64 2,D.int IntKind.i64 0,D.int IntKind.i64 0,D.fn (Fn.func 92) [] []])),(D.int IntKind.i64 14,T.d (D.agg [D.int IntKind.i64 2,D.int IntKind.i64 (-1),D.int IntKind.i64 1,D.fn (Fn.func 118) [] [D.ptr 4]])),(D.int IntKind.i64 15,T.d (D.agg [D.int IntKind.i64 2,D.int IntKind.i64 (-1),D.int IntKind.i64 1,D.fn (Fn.func 118) [] [D.ptr 5]])),(D.int IntKind.i64 16,T.d (D.agg [D.int IntKind.i64 2,D.int IntKind.i64 0,D.int IntKind.i64 1,D.fn (Fn.func 118) [] [D.ptr 6]])),(D.int IntKind.i64 17,T.d (D.agg [D.int IntKind.i64 2,D.int IntKind.i64 0,D.int IntKind.i64 1,D.fn (Fn.func 118) [] [D.ptr 7]])),(D.int IntKind.i64 18,T.d (D.agg [D.int IntKind.i64 2,D.int IntKind.i64 1,D.int IntKind.i64 1,D.fn (Fn.func 118) [] [D.ptr 8]])),(D.int IntKind.i64 19,T.d (D.agg [D.int IntKind.i64 2,D.int IntKind.i64 1,D.int IntKind.i64 1,D.fn (Fn.func 118) [] [D.ptr 9]]))]=Ob.map opsL:=rfl
def opP(x:Int):Int:=if x=9 then 1 else if x=10 then 1 else if x=11 then 2 else if x=12 then 2 else if x=13 then 2 else if x=14 then 2 else if x=15 then 2 else if x=16 then 2 else if x=17 then 2 else if x=18 then 2 else if x=19 then 2 else 0
def opT(x:Int):Int:=if x=9 then 1 else if x=10 then 0 else if x=11 then 0 else if x=12 then 0 else if x=13 then 0 else if x=14 then(-1)else if x=15 then(-1)else if x=16 then 0 else if x=17 then 0 else if x=18 then 1 else if x=19 then 1 else 0
def opM(x:Int):Int:=if x=9 then 1 else if x=10 then 0 else if x=11 then 0 else if x=12 then 0 else if x=13 then 0 else if x=14 then 1 else if x=15 then 1 else if x=16 then 1 else if x=17 then 1 else if x=18 then 1 else if x=19 then 1 else 0
def opId(x:Int):Nat:=if x=9 then 88 else if x=10 then 90 else if x=11 then 61 else if x=12 then 91 else if x=13 then 92 else if x=14 then 118 else if x=15 then 118 else if x=16 then 118 else if x=17 then 118 else if x=18 then 118 else if x=19 then 118 else 0
def opCp(x:Int):List D:=if x=14 then [D.ptr 4]else if x=15 then [D.ptr 5]else if x=16 then [D.ptr 6]else if x=17 then [D.ptr 7]else if x=18 then [D.ptr 8]else if x=19 then [D.ptr 9]else []
def opH(x:Int):Bool:=decide (x=9) || decide (x=10) || decide (x=11) || decide (x=12) || decide (x=13) || decide (x=14) || decide (x=15) || decide (x=16) || decide (x=17) || decide (x=18) || decide (x=19)
@[go_sem] theorem look_ops(x:Int)(ok:Bool):lookOb P 66 (.map opsL) (.int .i64 x) ok=if opH x=true then some (if ok=true then .tup [.d (.agg [.int .i64 (opP x),.int .i64 (opT x),.int .i64 (opM x),.fn (.func (opId x)) [] (opCp x)]),.d (.bool true)]else .d (.agg [.int .i64 (opP x),.int .i64 (opT x),.int .i64 (opM x),.fn (.func (opId x)) [] (opCp x)]))else some (if ok=true then .tup [.d (.agg [.int .i64 0,.int .i64 0,.int .i64 0,.nilf]),.d (.bool false)]else .d (.agg [.int .i64 0,.int .i64 0,.int .i64 0,.nilf])):=by
 simp only[lookOb,ma66,xS,key3,Option.isSome_some,if_true,opsL,findK,ze74]
 by_cases h9:x=9
 ·subst h9;cases ok <;>rfl
 by_cases h10:x=10
 ·subst h10;cases ok <;>rfl
 by_cases h11:x=11
 ·subst h11;cases ok <;>rfl
 by_cases h12:x=12
 ·subst h12;cases ok <;>rfl
 by_cases h13:x=13
 ·subst h13;cases ok <;>rfl
 by_cases h14:x=14
 ·subst h14;cases ok <;>rfl
 by_cases h15:x=15
 ·subst h15;cases ok <;>rfl
 by_cases h16:x=16
 ·subst h16;cases ok <;>rfl
 by_cases h17:x=17
 ·subst h17;cases ok <;>rfl
 by_cases h18:x=18
 ·subst h18;cases ok <;>rfl
 by_cases h19:x=19
 ·subst h19;cases ok <;>rfl
 have hh:opH x=false:=by simp[opH,h9,h10,h11,h12,h13,h14,h15,h16,h17,h18,h19]
 simp only[h9,h10,h11,h12,h13,h14,h15,h16,h17,h18,h19,hh,decide_false,xH,if_false,xS]
 cases ok <;>rfl
@[go_sem] theorem gl15:hint15.gl 0=some (.agg (List.map eS ownL)):=rfl
@[go_sem] theorem len_own:ownL.length=4:=rfl
def nonImmA:Nat→List Ob→List Nat
 |_,[]=>[]
 |i,o::r=>if obsImm [o]=true then nonImmA (i+1) r else i::nonImmA (i+1) r
theorem nonImmA_eq(H:List Ob):∀pre:List Ob,((List.range' pre.length H.length).filter fun n=>match (pre++H)[n]? with |some ob=> !obsImm [ob] |none=>false)=nonImmA pre.length H:=by
 induction H with
 |nil=>intro pre;rfl
 |cons o r ih=>
  intro pre
  have h:=ih (pre++[o])
  rw[xK,xP,List.singleton_append,List.length_singleton]at h
  rw[xZ,List.range'_succ,List.filter_cons,h,nonImmA]
  have e:(pre++o::r)[pre.length]? =some o:=by simp
  rw[e]
  cases h:obsImm [o] <;>simp[h]
@[go_sem] theorem nonImm_A(H:List Ob):nonImm H=nonImmA 0 H:=by
 have h:=nonImmA_eq H []
 unfold nonImm
 rw[List.range_eq_range']
 exact h
@[go_sem] theorem nonImmA_nil{i:Nat}:nonImmA i []=[]:=rfl
@[go_sem] theorem nonImmA_cons{i:Nat}{o:Ob}{r:List Ob}:nonImmA i (o::r)=if obsImm [o]=true then nonImmA (i+1) r else i::nonImmA (i+1) r:=rfl
@[go_sem] theorem imms_tlI{l:List Int}:T.imms (tl eI l)=true:=by
 induction l with
 |nil=>rfl
 |cons n l ih=>
  simp only[tl,List.map_cons]at ih ⊢
  simp[T.imms,T.imm,D.imm,ih,eI,eK]
end Go.Etx
