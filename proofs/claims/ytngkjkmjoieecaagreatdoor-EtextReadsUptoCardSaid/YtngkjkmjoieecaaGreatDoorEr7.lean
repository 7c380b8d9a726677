/- A part of the proof: texts of mine, merged by a program (wip/dev/merge.py). -/
import Derived.Test.YtngkjkmjoieecaaGreatDoorEr6
import Derived.KernelRfl
import Derived.Below
import Derived.Lib.ItoaNum
import Derived.Lib.AtoiAll
import Derived.Test.YtngkjkmjoieecaaGreatDoorChecked
set_option linter.defProp false
set_option linter.unusedSimpArgs false
set_option linter.unusedVariables false
namespace Go.Am
open Go
section
variable{P:Program}{t:TypeId}{lo hi:Option SV}{k:Wk}{b:Bool}{xs:List D}{r:Root}{p:Path}{o len:Nat}
@[go_sem] theorem bound_n{d:Nat}:boundE none d=some d:=rfl
@[go_sem] theorem bound_i{q:IntKind}{n:Int}{d:Nat}:boundE (some (.d (.int q n))) d=if 0≤n then some n.toNat else none:=rfl
@[go_sem] theorem slice_bor:sliceE P t (.bor r p o len) lo hi none k=(elemOf P t).bind fun e=>(boundE lo 0).bind fun l=>(boundE hi len).bind fun h=>if l≤h∧h≤len∧(P.info? e).isSome∧winOk (P.cellsOf e) r p (o+l) (h - l) k then some (.bor r p (o+l) (h - l))else none:=by
 unfold sliceE elemOf
 cases P.underlying t with
 |none=>rfl
 |some d=>cases d <;>rfl
@[go_sem] theorem slice_str{s:List UInt8}:sliceE P t (.d (.str s)) lo hi none k=match P.underlying t with |some .string=>(boundE lo 0).bind fun l=>(boundE hi s.length).bind fun h=>if l≤h∧h≤s.length then some (.d (.str (win s l (h - l))))else none |_=>none:=by
 unfold sliceE
 cases P.underlying t with
 |none=>rfl
 |some d=>cases d <;>rfl
@[go_sem] theorem winOk_eq{n o m:Nat}:winOk n r p o m k=(((k.get r).bind fun c=>c.at p).any fun nd=>match nd with | .own es=>headT n (win es o m) |_=>false):=by
 unfold winOk
 cases(k.get r).bind fun c=>c.at p with
 |none=>rfl
 |some x=>cases x <;>rfl
theorem headT_tl{α:Type}{f:α→D}{l:List α}{n:Nat}(h:∀x,(f x).nc=n):headT n (tl f l)=true:=by
 cases l with
 |nil=>rfl
 |cons x l=>simp[tl,headT,T.nc,h]
@[go_sem] theorem headT_I{l:List Int}{q:IntKind}:headT 1 (tl (eK q) l)=true:=headT_tl fun _=>rfl
@[go_sem] theorem map_take'{α β:Type}{f:α→β}{l:List α}{n:Nat}:(l.map f).take n=(l.take n).map f:=by rw[List.map_take]
@[go_sem] theorem map_drop'{α β:Type}{f:α→β}{l:List α}{n:Nat}:(l.map f).drop n=(l.drop n).map f:=by rw[List.map_drop]
end
@[go_sem] theorem val_strC{s:St}{b:ByteArray}:s.val (.const (.string b))=.d (.str b.data.toList):=rfl
end Go.Am
namespace Go.Am
open Go
section
variable{P:Program}{hints:FuncId→Hint}{h:Hint}{ρ:Type}{B:Code}
def kLv(P:Program)(own:Bool)(rs:List ResultVar)(n:Nat)(κ:List T×List Ob→Option ρ):Ex×St→Option ρ:=fun r=>(leaveR P own rs n r).bind κ
@[congr] theorem kLv_congr{own:Bool}{rs:List ResultVar}{n:Nat}{κ:List T×List Ob→Option ρ}{r r':Ex×St}(e:r=r'):kLv P own rs n κ r=kLv P own rs n κ r':=by rw[e]
@[go_sem] theorem kLv_n{own:Bool}{rs:List ResultVar}{n:Nat}{κ:List T×List Ob→Option ρ}{s:St}:kLv P own rs n κ (.normal,s)=(leaveR P own rs n (.ret,s)).bind κ:=rfl
@[go_sem] theorem kLv_r{own:Bool}{rs:List ResultVar}{n:Nat}{κ:List T×List Ob→Option ρ}{s:St}:kLv P own rs n κ (.ret,s)=(leaveR P own rs n (.ret,s)).bind κ:=rfl
theorem ge_of{f:FuncId}{fn:Func}{q:CL}{n:Nat}{rs:List ResultVar}{own:Bool}(hy:f<1099511627776)(hrc:h.rcv=false)(hxt:h.ext=none)(hf:P.funcs[f]? =some fn)(hb:fn.body=some B)(hq:compF h B=some q)(hh:hints f=h)(hw:h.own=own)(hn:fn.params.size+fn.nfree=n)(hr:fn.results.toList=rs)
  (hk:codeOk fn.ntmps B=true) (hg:(fn.name== "runtime.NumGoroutine")=false) (ds:List D) (H:List Ob) (κ:List T×List Ob→Option ρ) (hl:ds.length=n) (hx:(decide (h.nilt≠0)&&emptyArg ds)=false):
  cbK (callX P hints f ds H) κ=go P hints h B q (enter ds H) (kLv P own rs H.length κ):=by
 unfold cbK
 subst hh hw
 rw[callX_leave hy hrc hxt hf hb (hl.trans hn.symm) hk hg hr hx,compF_ok hq,xX]
 rfl
theorem gr_of{f:FuncId}{fn:Func}{q:CL}{n:Nat}{rs:List ResultVar}{own:Bool}(hy:f<1099511627776)(hxt:h.ext=none)(hf:P.funcs[f]? =some fn)(hb:fn.body=some B)(hq:compF h B=some q)(hh:hints f=h)(hw:h.own=own)(hn:fn.params.size+fn.nfree=n+1)(hr:fn.results.toList=rs)
  (hk:codeOk fn.ntmps B=true) (hg:(fn.name== "runtime.NumGoroutine")=false) (ds:List D) (es:List T) (κ:List T×List Ob→Option ρ) (hl:ds.length=n):
  cbK (callX P hints f ds [.row es]) κ=go P hints h B q (enterR es ds) (kLv P own rs 0 κ):=by
 unfold cbK
 subst hh hw
 rw[callX_leaveR hy hxt hf hb (by omega) hk hg hr,compF_ok hq,xX]
 rfl
end
theorem extB{P:Program}{hints:FuncId→Hint}{ρ:Type}{f:FuncId}{ds:List D}{H:List Ob}{κ:List T×List Ob→Option ρ}{F:List D→Option (List T)}(hy:f<1099511627776)(hx:(hints f).ext=some F):cbK (callX P hints f ds H) κ=(F ds).bind fun rs=>if isPanT rs=true then none else κ (rs,H):=by
 unfold cbK
 rw[callX_ext (Nat.not_le.2 hy) hx,xX]
 congr 1
 funext rs
 split <;>rfl
abbrev KT(ρ:Type):=List T×List Ob→Option ρ
abbrev XT(ρ:Type):=Ex×St→Option ρ
abbrev HF(h:Hint)(n:Nat)(k l:List Nat:=[])(o r e v:List Nat:=[]):Prop:=h.nv=n∧h.keep=k∧h.lits=l∧h.objs=o∧h.ro=r∧h.emp=e∧h.lkn=v
abbrev TF(P:Program)(t:TypeId)(a:Option Bool)(e:Option TypeId)(c b:Nat)(k:Option Nat:=none)(i:Bool:=true):Prop:=aggO P t=a∧Am.elemOf P t=e∧P.cellsOf t=c∧P.bytesOf t=b∧kindOf P t=k∧(P.info? t).isSome=i
theorem tf{P:Program}{t:TypeId}{a:Option Bool}{e:Option TypeId}{c b:Nat}{k:Option Nat}{i:Bool}(h:(aggO P t,Am.elemOf P t,P.cellsOf t,P.bytesOf t,kindOf P t,(P.info? t).isSome)=(a,e,c,b,k,i)):TF P t a e c b k i:=by simpa only[pJ,TF]using h
theorem extAll{P:Program}{n:Nat}{es:List Nat}(h:((List.range n).all fun f=>(extOf P f).isNone || es.contains f)=true){f:Nat}(hf:f<n)(he:es.contains f=false):extOf P f=none:=by
 have:=List.all_eq_true.1 h f (List.mem_range.2 hf)
 rw[he,Bool.or_false]at this
 simpa using this
def lv(l:List (List Nat))(id:Nat):List Nat:=l.getD id []
@[go_sem] def mkQ(h:Hint)(b:Code)(q:CL)(e:compF h b=some q:=by conv=>lhs;cbv):{q // compF h b=some q}:=⟨q,e⟩
@[go_sem] def mkR(h:Hint)(b:Code)(k:Nat)(q:CL)(e:compL h b k=some q:=by conv=>lhs;cbv):{q // compL h b k=some q}:=⟨q,e⟩
abbrev GE(ρ:Type)(P:Program)(hints:FuncId→Hint)(f n:Nat)(own:Bool)(rs:List ResultVar)(h:Hint)(B:Code)(q:CL):Prop:=∀(ds:List D) (H:List Ob) (κ:KT ρ),ds.length=n→cbK (callX P hints f ds H) κ=go P hints h B q (enter ds H) (kLv P own rs H.length κ)
theorem ge_ok{ρ:Type}{P:Program}{hints:FuncId→Hint}{h:Hint}{B:Code}{f:FuncId}{fn:Func}{q:CL}{n:Nat}{rs:List ResultVar}{own:Bool}(hf:P.funcs[f]? =some fn)(hb:fn.body=some B)(hq:compF h B=some q)(hh:hints f=h)(hr:fn.results.toList=rs)
  (hc:(decide (f<1099511627776)&& !h.rcv&&h.ext.isNone&&(h.own==own)&&(h.nilt==0)&&(fn.params.size+fn.nfree==n)&&codeOk fn.ntmps B&& !(fn.name== "runtime.NumGoroutine"))=true):GE ρ P hints f n own rs h B q:=by
 simp only[xA,yD,Bool.not_eq_true',beq_iff_eq,yJ]at hc
 obtain⟨⟨⟨⟨⟨⟨⟨c1,c2⟩,c3⟩,c4⟩,c5⟩,c6⟩,c7⟩,c8⟩:=hc
 intro ds H κ hl
 exact ge_of c1 c2 c3 hf hb hq hh c4 c6 hr c7 c8 ds H κ hl (by rw[c5];rfl)
theorem wk{ρ G:Type}{a:Option ρ}(Φ:G→Option ρ){g:G}(h:a=Φ g){q:Prop}(e:a=Φ g→q:=by intro h;(try simp only[go_sem]at h);exact h):q:=e h
theorem goLp_n{ρ:Type}{k:Nat}{κ:Ex×St→Option ρ}{r:Option ρ}{n m:Nat}{P:Program}{hints:FuncId→Hint}{h:Hint}{B:Code}(S:Nat→St)(e:n=m)(q:goLp P hints h B k (S m) κ=r):goLp P hints h B k (S n) κ=r:=by subst e;exact q
theorem viaR{α:Type}{a b:α}(h:∀r,b=r→a=r):a=b:=h b rfl
def LX{A:Type}(p:Bool→A→Prop):Type:={Φ:A×A // p false Φ.1∧p true Φ.2}
def LX.f{A:Type}{p:Bool→A→Prop}(x:LX p)(β:Bool):A:=match β with |false=>x.1.1 |true=>x.1.2
theorem LX.ok{A:Type}{p:Bool→A→Prop}(x:LX p)(β:Bool):p β (x.f β):=by cases β;exact x.2.1;exact x.2.2
def mkL{A:Type}{p:Bool→A→Prop}(Φ₀ Φ₁:A)
  (h₀:p false Φ₀:=by intro R g κ hR;intros;simp only[go_sem]at hR;refine viaR fun r hr=> ?_;simp -implicitDefEqProofs (maxSteps:=1000000) [go_sem,hR,-List.map_append,-List.map_take,-List.map_drop,-List.map_set];exact hr)
  (h₁:p true Φ₁:=by intro R g κ hR;intros;simp only[go_sem]at hR;refine viaR fun r hr=> ?_;simp -implicitDefEqProofs (maxSteps:=1000000) [go_sem,hR,-List.map_append,-List.map_take,-List.map_drop,-List.map_set];exact hr):LX p:=⟨(Φ₀,Φ₁),h₀,h₁⟩
theorem wl{p q:Prop}(h:p)(e:p→q:=by intro h;simp only[go_sem,mkL,LX.f,tl_nil,tlo_rep,ents_nil,entsB_nil]at h;exact h):q:=e h
def mkF{P:Program}{hints:FuncId→Hint}{h:Hint}{B:Code}{q:CL}{f:FuncId}{n:Nat}{rs:List ResultVar}{own:Bool}{ρ G:Type}{p:Bool→(List T×List Ob→Option ρ)→G→Prop}{ds:Bool→List D}
  (e:∀(ds:List D) (H:List Ob) (κ:List T×List Ob→Option ρ),ds.length=n→cbK (callX P hints f ds H) κ=go P hints h B q (enter ds H) (kLv P own rs H.length κ)) (hl:∀β,(ds β).length=n) (Φ:G→Option ρ)
  (hΦ:∀β κ g,p β κ g→go P hints h B q (enter (ds β) []) (kLv P own rs 0 κ)=Φ g:=by intro β κ g hg;(try simp only[go_sem]at hg);refine viaR fun r hr=> ?_;cases β;all_goals (simp -implicitDefEqProofs (maxSteps:=1000000) [go_sem,hg,-List.map_append,-List.map_take,-List.map_drop,-List.map_set];exact hr)):
  {Φ:G→Option ρ // ∀β κ g,p β κ g→cbK (callX P hints f (ds β) []) κ=Φ g}:=⟨Φ,fun β κ g hg=>(e _ _ _ (hl β)).trans (hΦ β κ g hg)⟩
end Go.Am
namespace Go.Am
open Go Go.RowKit
def GW(G:Nat→Option D)(w:World):Prop:=∀g d,G g=some d→∃vs:List Value,GH w g vs∧GV d vs
theorem RetAll.data{c:Cx}:∀(xs:List D) (vs:List Value),VVs c xs vs→RetAll c (xs.map T.d) vs []
 | [],vs,h=>⟨h,rfl⟩
 |x::xs,vs,h=>by
  simp only[VVs]at h
  obtain⟨v,r,rfl,h1,h2,h3⟩:=h
  exact⟨v,r,[],[],rfl,rfl,by simp only[TC];exact⟨trivial,h1⟩,h2,RetAll.data xs r h3⟩
theorem ext_given{P:Program}{G:Nat→Option D}{f:FuncId}{F:List D→Option (List T)}{fn:Func}(hf:P.funcs[f]? =some fn)(hb:fn.body.isSome=true)(hn:(fn.name== "runtime.NumGoroutine")=false)(hy:¬YB≤f)
  (h:∀(ds:List D) (rs:List T) (c:Cx) (args:Array Value),F ds=some rs→GW G c.w→VVs c ds args.toList→Calls P f args c.w fun e w'=>∃(xs:List D) (vs:List Value),e=.returned (tupV vs)∧rs=xs.map T.d∧(∀c,VVs c xs vs)∧RowKit.Below c.w.heap.size c.w w'):ExtOK P G f F:=by
 refine⟨.inr ⟨fn,hf,hb,hn⟩,fun ds rs H e hp A S hd args hA hG hkr hargs=> ?_⟩
 unfold CallsY
 rw[if_neg hy]
 refine Calls.mono (h ds rs _ args e (fun g d hg=> ?_) hargs) fun en w' he=> ?_
 ·obtain⟨_,_,_,vs,h4,h5⟩:=hG g d hg
  exact⟨vs,h4,h5⟩
 ·obtain⟨xs,vs,rfl,rfl,hv,hbl⟩:=he
  obtain⟨k1,_⟩:=KR.world (w':=w') (M:=[]) (M':=[]) (fl:=[]) hbl.os hbl.tape hbl.output hbl.size (Recs.old hbl.block) (show KR A A.ρ0 S hd ([]++[]) _ _ A.w0 from hkr) (fun b hb _=>hbl.block b hb) (by simp) (by simp)
  refine⟨_,rfl,A.ρ0,S,hd,[],vs,k1,RetAll.data xs vs (hv _),rfl⟩
end Go.Am
namespace Go.Tr7
open Go Go.Am
def decF:Nat→Nat→List UInt8
 |0,_=>[]
 |k+1,u=>if u<10 then [UInt8.ofNat (48+u)]else decF k (u / 10)++[UInt8.ofNat (48+u % 10)]
def decI(n:Int):List UInt8:=if n<0 then 45::decF 20 n.natAbs else decF 20 n.toNat
def inR(n:Int):Bool:=decide (-9223372036854775808≤n)&&decide (n≤9223372036854775807)
def inB(n:Int):Bool:=decide (-1048576≤n∧n≤1048576)
def extDec:List D→Option (List T)
 | [.int .i64 n]=>if inR n=true then some [.d (.str (decI n))]else none
 |_=>none
def numF(s:List UInt8):Int×Bool:=match Lib.atoiAll s with
 | .ok v=>if(inB v&&decide (decI v=s))=true then(v,true)else(0,false)
 |_=>(0,false)
def extNum:List D→Option (List T)
 | [.str s]=>if decide (s.length≤1000000)=true then some [.d (.int .i64 (numF s).1),.d (.bool (numF s).2)]else none
 |_=>none
end Go.Tr7
namespace Go.Etx
set_option maxRecDepth 20000
open Go Go.Am Go.Proofs
noncomputable abbrev P:Program:=Tryz.prog
def glob:Nat→Option D:=fun g=>Am.look [(0,.agg [.str [115,101,108,102],.str [110,111,110,101],.str [108,101,110],.str [97,116]]),(1,.agg [.str [58,61],.str [61,61],.str [33,61],.str [60,61],.str [45,62],.str [38,38],.str [124,124],.str [61,62],.str [40],.str [41],.str [91],.str [93],.str [123],.str [125],.str [59],.str [44],.str [58],.str [46],.str [60],.str [43],.str [45],.str [42],.str [33],.str [63],.str [64]])] g
def hint3:Hint:={nv:=12,keep:=[17,20,24,34,39,45,60],live:=lv [[0,3],[0,3,19],[4],[0,3,5,7],[0,3,5,29],[4],[0,3,5,8,9],[0,8,9,11],[4]]}
def hint4:Hint:={nv:=11,keep:=[16,19,23,30,36,48],live:=lv [[0,3],[0,3,18],[4],[0,3,5,6,7],[5,6,7,8,9,10],[4]]}
def hint5:Hint:={nv:=10,keep:=[12,14,18,23,27,33,34,44],live:=lv [[0,3],[0,3,13],[4],[0,3,5,6],[0,3,5,22],[4],[0,7,8,9],[4]]}
def hint6:Hint:={nv:=4,live:=lv [[0,3],[37],[4],[4]]}
def hint7:Hint:={nv:=15,keep:=[23,24,28,29,34,35,40,41,49,50],lits:=[48],live:=lv [[],[1],[2,3],[2,3,4,6],[2,3,4,6,8,9],[2,3,4,6,8,9,11,12],[2,3,4,6,8,9,11,12,13,14],[0]],pan:=[2,3,4,5,6]}
def hint8:Hint:={nv:=15,objs:=[30],keep:=[17,68,80,93],live:=lv [[0,3],[0,3,7,8,9],[0,3,7,8,9,22],[4,5,6],[0,3,7,10],[0,3,7,10],[0,3,10,46],[0,3,10],[0,3,10,53],[4,5,6],[0,3,10,12],[0,3,10,12,72],[4,5,6],[0,10,13,14],[0,10,13,14,83],[4,5,6],[0,10,13,87],[4,5,6],[4,5,6]]}
def hint9:Hint:={nv:=13,keep:=[16,31,41,51,57],live:=lv [[0,3],[0,3,7],[0,3,7,20],[4,5],[0,3,8],[3,8,22,23,24],[3,8,22,23,24,25],[3,8,10,22,23,24],[3,8,10,11,12,22,23,24],[3,8,10,11,22,23,24,53],[4,5],[3,8,22,23,24],[3,8,22,23,24],[4,5]],pan:=[11],mv:=[57]}
def hint10:Hint:={nv:=12,keep:=[29,45,61,82],lits:=[96],live:=lv [[0,3],[0,3,14],[4,5],[0,3,17],[4,5],[0,3,6],[0,3,6,7],[0,3,6,7,21],[0,3,6,7],[0,3,6,7,8],[0,3,6,7,8,9],[0,3,6,7,8,9,33],[4,5],[0,3,6,7,8,9,36],[4,5],[0,3,6,7,8,9,10],[0,3,6,7,8,9,10,11],[0,3,6,7,8,9,10,11,38],[0,3,6,7,8,9,10,11],[0,3,6,7,8,9,10,11,49],[0,3,6,7,8,9,10,11],[0,3,6,7,8,9,10,11,65],[0,3,6,7,8,9,10,11],[0,3,6,7,8,9,10,11,86],[4,5],[0,3,6,7],[0,3,6,7,100],[4,5],[6,103],[4,5],[4,5]]}
def hint11:Hint:={nv:=16,keep:=[18,32,46,58,68,79],live:=lv [[0,3],[0,3,7,8,9],[0,3,7,8,9,23],[4,5,6],[0,3,7,10],[0,3,7,10,11],[0,3,10,11,42],[0,3,11],[0,3,11,49],[4,5,6],[0,3,11,13],[0,3,11,13,62],[4,5,6],[0,11,14,15],[0,11,14,15,72],[4,5,6],[0,11,14,76],[4,5,6],[4,5,6]]}
def hint12:Hint:={nv:=6,live:=lv [[0,1],[0,1,10],[4],[0,1,12,13],[0,1,12,13,14],[0,1,5,12,13],[0,1,12,13,24],[4],[0,1,12,13],[4]]}
def hint13:Hint:={nv:=6,lits:=[39],live:=lv [[0],[0,3],[0,3,4],[0,3,4,9],[0,3,4],[0,3,4,5],[0,3,4,5,30],[0,3,4,5],[0,3,4],[2]]}
def hint14:Hint:={nv:=0,lits:=[3],live:=lv [[0],[0]]}
def hint15:Hint:={nv:=9,keep:=[13,32,22],lits:=[43],live:=lv [[0],[0,11],[2,3,4],[0,5],[0,5,6],[0,5,6,17],[0,5,6],[0,5,6,26],[2,3,4],[0,5,6,7,8],[0,5,6,7,8,36],[2,3,4],[0,5,6,7],[0,5,6,7],[0,5,6],[2,3,4]]}
def hint16:Hint:={nv:=2,live:=lv [[]]}
def hint17:Hint:={nv:=4,live:=lv [[0,1,8],[0],[0,29],[]]}
def hint18:Hint:={nv:=7,objs:=[3,8,6],live:=lv [[0,3],[0,3,6],[4,5]]}
def hint19:Hint:={nv:=6,live:=lv [[0,1],[0,1,5],[0,1,5,24],[0,1,5],[4]]}
def hint20:Hint:={nv:=15,keep:=[30,54,78,95,112],live:=lv [[2,3],[2,3,16],[2,3,16,17],[2,3,16,17],[2,3,6],[2,6,7,8],[4,5],[2,3,16,42],[2,3,9],[2,9,10,11],[4,5],[2,3,16,66],[2,3,12],[4,5],[2,3,16,82],[2,3,13],[4,5],[2,3,100],[2,3,14],[4,5],[4,5]]}
def hint21:Hint:={nv:=5,keep:=[16],live:=lv [[0],[0,25],[2],[0,26,27],[0,26,27,28],[0,4,26,27],[0,26,27,32],[2],[0,26,27],[2]],gl:=glob}
def hint22:Hint:={nv:=2,live:=lv [[0],[2]]}
def hint23:Hint:={nv:=12,keep:=[52,79,89,109,115],lits:=[35,57,84,110,116],own:=true,live:=lv [[0,2,4],[0,2,4,7],[0,2,4,7,15],[0,2,4,7,15,16],[6],[0,2,4,7,15,37],[0,4,7,8],[6],[0,2,4,7,59],[0,4,7,9],[6],[0,2,4,7,11],[0,2,4,7,92],[6],[6]]}
def hint24:Hint:={nv:=2,live:=lv [[0],[3],[3,4],[3,4],[3,4],[3,4],[3,4],[3,4],[3,4],[2],[3,12],[3,12],[3,12],[2],[3,16],[3,16],[3,16],[3,16],[3,16],[3,16],[3,16],[3,16],[16],[2],[2]]}
def hint25:Hint:={nv:=11,keep:=[38,48,71],live:=lv [[2,3],[2,3,12],[2,3,12,13],[22],[4,5],[4,5],[2,3,12,23],[2,3,12,23],[2,3,6],[2,3,6,30],[2,3,6],[7,8],[7,42],[4,5],[7,45],[4,5],[4,5],[2,3,12,49],[3,61],[4,5],[4,5],[2,3,12,65],[10],[75],[4,5],[4,5],[2,3,76],[103],[4,5],[4,5],[2,114],[4,5],[4,5]]}
def hint26:Hint:={nv:=10,keep:=[19,36],live:=lv [[1,3,5],[1,3,5,12],[1,8,9],[1,8,23],[6,7],[8,33],[6,7],[6,7],[1,3,43],[6,7],[50],[6,7],[6,7]]}
def hint27:Hint:={nv:=6,live:=lv [[0,1,2],[0,1,10],[6,7],[1,11],[13],[6,7],[1,11,14],[1,11,14],[6,7],[1,11,17],[1,11,17],[21],[6,7],[1,11,22],[1,22],[26],[6,7],[6,7]]}
def hint28:Hint:={nv:=12,keep:=[16,24,55,71],lits:=[65],live:=lv [[0],[0,14],[2,3,4],[0,5],[0,5,6],[0,5,6,20],[0,5,6,7,8],[0,5,6,7,8,29],[2,3,4],[0,5,6,7,8,32],[2,3,4],[0,5,6,7,8,9],[0,5,6,7,8,9,48],[2,3,4],[0,5,6,7,9,51],[0,5,6,7,9,10,11],[0,5,6,7,9,10,59],[2,3,4],[0,5,6,7,9],[0,5,6,7],[0,5,6],[2,3,4]]}
def hint29:Hint:={nv:=9,keep:=[14,19,22,27,32,35,69,73],lits:=[63,84],live:=lv [[1,2,3,6],[1,2,3,6,10],[6],[1,3,6,16],[6],[1,3,6,29],[6],[1,3,6,53],[6],[1,3,6,7],[1,3,6,7,69],[1,3,6,7],[6,7,8],[6,7,8,76],[6],[6]]}
def hint30:Hint:={nv:=6,live:=lv [[1,2,3,6],[1,2,3,6,11],[6],[6]]}
def hint31:Hint:={nv:=11,keep:=[14,32,39,63],live:=lv [[0,3],[0,3,7],[0,3,7,18],[4,5],[0,3,8],[0,3,8,23],[0,3,8],[0,3,8,9,10],[0,3,8,57],[4,5],[4,5]]}
def hint32:Hint:={nv:=6,live:=lv [[0,1],[0,1,5],[0,1,5,24],[0,1,5],[4]]}
def hint33:Hint:={nv:=4,live:=lv [[0],[0,3],[0,3,7],[0,3,10],[2],[0,3,10,12],[0,3,10,12],[0,3],[0,3,17],[0,3],[2]]}
def hint34:Hint:={nv:=10,keep:=[18,35,52],live:=lv [[0,2],[0,2,4],[0,2,4,19],[0,2,4,21],[2,3],[2,3],[0,2,5],[0,2,5,30],[0,2,5,6,7],[0,2,5,6,39],[2,3],[2,3],[0,2,46,47],[0,2,46,47,48],[0,2,9,46,47],[0,2,9,46,47,52],[2,3],[0,2,46,47],[2,3]],gl:=glob}
def hint35:Hint:={nv:=4,objs:=[2,3],live:=lv [[2,3],[],[2,3,10],[],[2,3,15],[]]}
def hint36:Hint:={nv:=13,live:=lv [[0,1,2,3],[0,1,2,3,13],[8,9],[0,1,2,3,17],[8,9],[0,1,2,3],[0,2,3,25,26,27],[0,2,3,25,26,27,28],[0,2,3,11,25,26,27],[0,2,3,12,25,26,27],[0,2,3,12,25,26,27,37],[8,9],[0,2,3,25,26,27],[0,45],[8,9],[8,9]]}
def hint37:Hint:={nv:=4,live:=lv [[1,2,3],[4,5]]}
def hint38:Hint:={nv:=14,keep:=[28,20,45],live:=lv [[0,4,5],[0,4,5,8],[0,4,5,8,17],[6,7],[0,4,5,8,17,23],[10],[32],[6,7],[6,7],[0,4,5,8,17,33],[0,4,5,8],[0,4,5,8,17,37],[0,4,5,8,37],[0,4,11,12,13],[0,4,11,12,49],[6,7],[4,11,12,52],[11,52],[6,7],[6,7]]}
def hint39:Hint:={nv:=8,live:=lv [[1,2],[1,2,8,9,10],[1,2,8,9,10,11],[1,2,7,8,9,10],[1,2,8,9,10,29],[4,5],[1,2,8,9,10],[4,5]]}
def hint40:Hint:={nv:=8,live:=lv [[0,3],[0,3,6],[0,3,6,14],[4,5],[7],[7,22],[4,5],[4,5]]}
def hint41:Hint:={nv:=4,objs:=[2],live:=lv [[2,3],[4]]}
def hint42:Hint:={nv:=4,objs:=[2],live:=lv [[2,3],[4]]}
def hint43:Hint:={nv:=4,objs:=[2],live:=lv [[2,3],[4]]}
def hint44:Hint:={nv:=2,live:=lv [[0],[2]]}
def hint45:Hint:={nv:=7,live:=lv [[0,1],[0,1,8],[0,1,8,9,10],[0,1,5,6,8],[0,1,5,8,16],[4],[4]]}
def hint46:Hint:={nv:=2,keep:=[4,7],live:=lv [[0],[2]]}
def hint47:Hint:={nv:=4,live:=lv [[1,2],[2,5],[4],[4]]}
def hint48:Hint:={nv:=2,live:=lv [[0,2],[2,4],[2,4,5],[2,3],[2,4,8],[2,3],[2,4,11],[2,3],[2,4,14],[2,3],[2,4,17],[2,3],[2,4,20],[2,3],[2,4,23],[2,3],[2,4,26],[2,3],[2,29],[2,3],[2,3]]}
def hint49:Hint:={nv:=11,keep:=[13,37,45],live:=lv [[0,4,5,6],[0,4,5,6,7],[0,4,5,6,7,9,10],[0,4,5,6,7,9,10,28],[0,4,5,6,7,9,10],[6]]}
def hint50:Hint:={nv:=6,keep:=[15,43],live:=lv [[1,2,4],[1,2,4,5],[1,2,4,5,10],[1,2,4,5,10,11],[2,4,5],[4,5,19],[4,5],[1,2,4,5,10,21],[1,2,4,5,10,21],[4,5],[1,2,4,5,10,26],[4,5],[1,2,4,5,10,29],[4,5],[1,2,4,5,10,35],[4,5],[1,4,5,47],[4,5],[4]]}
def hint51:Hint:={nv:=6,keep:=[23,33],live:=lv [[0,1,5,6],[0,1,6,35],[6,7],[6,7]]}
def hint52:Hint:={nv:=2,live:=lv [[0],[0,4],[2],[2]]}
def hint53:Hint:={nv:=4,keep:=[23],live:=lv [[0,3,4],[0,3,4,25],[4,5],[4,5]]}
def hint54:Hint:={nv:=4,live:=lv [[0,1],[0,1,26],[0,1,30],[0,1,40],[0,1],[0,1],[4]]}
def hint55:Hint:={nv:=9,keep:=[13,22,27,44,53,60],live:=lv [[0,1],[0,1,6],[0,1,6,13],[0,1,6,35],[0,1,6],[4,5],[0,1,6,44],[0,1,6,54],[0,1,6],[4,5],[0,1,7],[0,1,7,8],[0,1,7,8,64],[0,1,7,8],[0,1,7,8,93],[4,5],[4,5]]}
def hint56:Hint:={nv:=7,keep:=[51,56],live:=lv [[0],[0,4],[0,4,5],[0,4,5,6],[0,4,5,6,10],[0,4,5,6],[0,4,5,6,26],[0,4,5,6],[0,4,5,6],[0,4,5,44],[0,4,5],[4,59],[2,3],[2,3]]}
def hint57:Hint:={nv:=11,keep:=[15,24,39,46],lits:=[60],live:=lv [[1,2,3,6],[2,3,6,7],[2,3,6,7,8],[2,3,6,7,8,34],[2,3,6,7,8,9],[2,3,6,7,8,9,10],[2,3,6,7,8,9,10,49],[6],[2,3,6,7,8],[2,3,6,7,8],[6]]}
def hint58:Hint:={nv:=6,keep:=[13,55,58,64,69,70],lits:=[25,36],live:=lv [[1,2,4],[1,2,4,10],[4],[1,2,4,5],[1,2,4,5,21],[4],[1,2,4,5,31],[1,2,4,5,34],[4],[1,2,4,52],[4],[4],[1,2,4,61],[4],[4]]}
def hint59:Hint:={nv:=6,live:=lv [[1,2,3],[6]]}
def hint60:Hint:={nv:=4,keep:=[26,47,68,91,113],live:=lv [[2,3],[2,3,7],[2,3,7,8],[2,3,7,8],[4,5],[2,3,7,30],[4,5],[2,3,7,51],[4,5],[2,3,7,72],[4,5],[2,3,96],[4,5],[4,5]]}
def hint61:Hint:={nv:=5,keep:=[30],live:=lv [[0],[0,27],[2],[0,3,4],[2]]}
def hint62:Hint:={nv:=18,keep:=[25,30,39,52,70,84,90,92,100,106,117,120,131,137,153,155,159,166,168],live:=lv [[0,2,4],[0,2,4,7],[0,2,4,7,8],[0,2,4,7,8,10],[0,2,4,7,8,10,34],[0,2,4,7,8,10,34,35],[6],[0,2,4,7,8,10,34,40],[0,2,4,7,8,10,34,40],[6],[0,2,4,7,8,10,34,44],[6],[0,2,4,7,8,10,34,55],[6],[0,2,4,7,8,10,34,57],[6],[0,2,4,7,8,10,34,62],[6],[0,2,4,7,8,10,34,73],[6],[0,2,4,7,10,34,78],[6],[0,2,4,7,10,94],[6],[0,2,4,7,10,12],[0,2,4,7,12,13],[0,2,4,7,12,13,14,15],[0,2,4,7,12,13,14,15,16,17],[0,2,4,7,13,14,15,16,17,145],[0,2,4,7,13,16,17],[6]]}
def hint63:Hint:={nv:=2,live:=lv [[0],[2]]}
def hint64:Hint:={nv:=2,live:=lv [[0],[2]]}
def hint65:Hint:={nv:=6,keep:=[16,21],lits:=[15],live:=lv [[0],[0,4,5],[4,24],[2,3],[2,3]],ext:=some Go.Tr7.extNum,pan:=[1,2]}
def hint66:Hint:={nv:=4,keep:=[7],live:=lv [[0,1],[4]]}
def hint67:Hint:={nv:=3,live:=lv [[],[0,5],[0],[0],[],[0,19],[0],[0,2],[0,2,33],[0,2],[],[0],[]]}
def hint68:Hint:={nv:=3,live:=lv [[0,2],[],[0,2,7],[0,2,13],[0,2],[],[0,2,28],[0],[0],[],[0,2,42],[]]}
def hint69:Hint:={nv:=10,keep:=[22],live:=lv [[0,1,2,3],[0,1,2,3,16],[0,1,2,3,8,9],[0,1,2,3,8,32],[0,1,2,3,8],[0,1,2,3,8],[0,1,2,3],[0,1,2,3,46]]}
def hint70:Hint:={nv:=2,live:=lv [[]]}
def hint71:Hint:={nv:=0,live:=lv [[],[0]]}
def hint72:Hint:={nv:=14,lits:=[84],live:=lv [[0,2,3,5],[0,2,3,5,9],[0,2,3,5,9,21],[8],[0,2,3,5,9,24],[8],[0,2,3,5,9],[0,2,3,5,9],[0,2,3,5,9,12,13],[0,2,3,5,9,12,42],[0,9,10,11],[0,9,10,11],[0,9,10,11,68],[8],[0],[93],[8],[8]],lkn:=[58,64]}
def hint73:Hint:={nv:=4,live:=lv [[0,1],[4,5]]}
def hint74:Hint:={nv:=8,keep:=[48],live:=lv [[2,3],[2,3,9],[2,3,9,10],[3,22],[4,5],[2,3,9,26],[2,3,38],[7],[51],[4,5],[2,3,9,52],[79],[4,5],[2,3,80],[2,92],[4,5],[4,5]]}
def hint75:Hint:={nv:=11,keep:=[26,36],live:=lv [[0,1,5],[0,1,5,18],[6,7,8],[0,1,5,6,9],[6,7,9,10],[6,7,8]]}
def hint76:Hint:={nv:=2,live:=lv [[0],[2]]}
def hint77:Hint:={nv:=6,live:=lv [[0,1],[0,1,7,8],[0,1,7,8,9],[0,1,5,7,8],[0,1,5,7,8,16],[4],[0,1,7,8],[4]]}
def hint78:Hint:={nv:=2,objs:=[1],live:=lv [[1],[2]]}
def hint79:Hint:={nv:=6,live:=lv [[0,1],[0,1,7,8],[0,1,7,8,9],[0,1,5,7,8],[0,1,5,7,8,16],[4],[0,1,7,8],[4]]}
def hint80:Hint:={nv:=3,live:=lv [[1,2],[3]]}
def hint81:Hint:={nv:=6,live:=lv [[0,1],[0,1,7,8],[0,1,7,8,9],[0,1,5,7,8],[0,1,5,7,8,16],[4],[0,1,7,8],[4]]}
def hint82:Hint:={nv:=3,live:=lv [[1,2],[3]]}
def hint83:Hint:={nv:=6,live:=lv [[0,1],[0,1,7,8],[0,1,7,8,9],[0,1,5,7,8],[0,1,5,7,8,16],[4],[0,1,7,8],[4]]}
def hint84:Hint:={nv:=3,live:=lv [[1,2],[3]]}
def hint85:Hint:={nv:=2,keep:=[4],live:=lv [[0],[2]],ext:=some Go.Tr7.extDec}
def hint86:Hint:={nv:=4,live:=lv [[0,3],[4]]}
def hint87:Hint:={nv:=2,live:=lv [[0],[2]]}
def hint88:Hint:={nv:=2,live:=lv [[0],[2]]}
def hint89:Hint:={nv:=0,live:=lv [[],[0]]}
def hint90:Hint:={nv:=2,live:=lv [[0],[2]]}
def hint91:Hint:={nv:=6,lits:=[18],live:=lv [[0],[0,3],[0,3,4],[0,3,4,8],[0,3,4,5],[0,3,4,5,12],[0,3,4,5],[0,3,4],[0,3,4],[0,3,25],[2],[3,27],[2],[2]]}
def hint92:Hint:={nv:=8,keep:=[17,41,42],live:=lv [[1,2,3],[1,2,3,7],[1,2,3,7,9],[1,2,3,7],[1,2,3,7,43],[6],[6]]}
def hint93:Hint:={nv:=10,keep:=[19,24,44,55,61,67,73,80,84,104,116,136],lits:=[133],live:=lv [[1,2,4],[1,2,4,5],[1,2,4,5,20],[4],[1,2,4,5,40],[4],[1,2,4,5,6],[1,2,4,5,6,7,8],[1,2,4,5,6,7,8,57],[1,2,4,5,6,7,8],[1,2,4,5,6,7,8,63],[1,2,4,5,7,8],[1,2,4,5,7,8,69],[4],[2,4,5,7,8,9],[2,4,7,8,9,77],[2,4,7,8,9,81],[4],[2,4,7,8,9,100],[4],[2,4,7,8,9,112],[4],[2,4,7,8,9],[2,4,7,8,9],[4]]}
def hint94:Hint:={nv:=8,keep:=[17,29,34,38,50,51],lits:=[22,42,62],live:=lv [[1,2,4],[1,2,4,5],[1,2,4,5,6],[1,2,4,5,6,19],[4],[1,2,4,6],[1,2,4,6,31],[4],[1,2,4,6,39],[4],[4,6,7],[4,6,7,54],[4],[4]]}
def hint95:Hint:={nv:=6,keep:=[15,20],live:=lv [[2,3,4,6],[2,3,4,6,9],[6],[3,4,6,16],[6],[6]]}
def hint96:Hint:={nv:=6,keep:=[14],live:=lv [[1,2],[1,2,5],[1,2,5,16],[1,2,5],[1,2,5,26],[4],[4]]}
def hint97:Hint:={nv:=6,live:=lv [[1,2],[1,2,5],[1,2,5,10],[1,2,5],[1,2,5,20],[4],[4]]}
def hint98:Hint:={nv:=6,live:=lv [[1,2],[1,2,5],[1,2,5,10],[1,2,5],[1,2,5,20],[4],[4]]}
def hint99:Hint:={nv:=6,live:=lv [[1,2],[1,2,5],[1,2,5,10],[1,2,5],[1,2,5,20],[4],[4]]}
def hint100:Hint:={nv:=6,live:=lv [[1,2],[1,2,5],[1,2,5,10],[1,2,5],[1,2,5,20],[4],[4]]}
def hint101:Hint:={nv:=9,keep:=[20],lits:=[38],live:=lv [[0],[0,4],[0,4,5],[0,4,5,12],[0,4,5],[0,4,5,6],[0,4,5,6,22],[2,3],[0,4,5,6,7],[0,4,5,6,7,8],[0,4,5,6,7,8,26],[0,4,5,6,7,8],[0,4,5,6,7,8,30],[2,3],[0,4,5,6,7,8],[0,4,5],[4,51],[2,3],[2,3]]}
def hint102:Hint:={nv:=4,live:=lv [[0,1],[0,5],[4],[4]]}
def hint103:Hint:={nv:=2,live:=lv [[1],[1,4],[1,4,5],[2],[1,4,7],[2],[1,4,9],[1,4,9],[1,4,9],[1,4,9],[2],[1,4,14],[1,4,14],[2],[1,4,17],[2],[1,4,19],[1,4,19],[2],[1,22],[26],[2],[2]]}
def hint104:Hint:={nv:=2,live:=lv [[0],[3],[3,4],[2],[3,6],[2],[3,8],[2],[3,10],[2],[3,12],[2],[3,14],[2],[3,16],[2],[18],[2],[2]]}
def hint106:Hint:={nv:=5,live:=lv [[0],[5,6,7],[5,6,7,8],[4,5,6,7],[5,6,7,16],[2],[5,6,7],[2]]}
def hint107:Hint:={nv:=4,live:=lv [[0,1],[4]]}
def hint108:Hint:={nv:=8,live:=lv [[0,1,2],[0,1,2,7],[6]]}
def hint109:Hint:={nv:=6,lits:=[19],live:=lv [[0,1,2,10],[]]}
def hint110:Hint:={nv:=2,live:=lv [[0,2],[0,2,12],[2],[2]]}
def hint111:Hint:={nv:=4,live:=lv [[0,7],[],[]]}
def hint112:Hint:={nv:=9,keep:=[34],live:=lv [[0,1,4],[0,1,5,6],[0,1,5,17],[0,5],[],[0,7,8],[0,7,8,38],[],[0,7,8],[0,7,8,53],[0,8],[0,8],[0,8],[0,7,8],[]]}
def hint113:Hint:={nv:=9,keep:=[15],live:=lv [[0,1],[0,1,6],[0,1,6,10],[0,1,6],[0,1,6,7,8],[0,1,6,30],[4,5],[4,5]]}
def hint114:Hint:={nv:=4,keep:=[8],live:=lv [[0],[4,5]]}
def hint115:Hint:={nv:=2,live:=lv [[0],[3],[2],[2]]}
def hint116:Hint:={nv:=4,keep:=[7],live:=lv [[0],[4,5]]}
def hint117:Hint:={nv:=4,live:=lv [[0,1],[4,5]]}
def hint118:Hint:={nv:=4,live:=lv [[0,1],[4,5]]}
def hint119:Hint:={nv:=4,objs:=[3],live:=lv [[0,3,4],[4]]}
def hint120:Hint:={nv:=4,live:=lv [[0,1],[4]]}
def hint121:Hint:={nv:=4,live:=lv [[0,1],[4]]}
def hint122:Hint:={nv:=4,live:=lv [[0,1],[4]]}
def hint123:Hint:={nv:=4,live:=lv [[0,1],[4]]}
def hint124:Hint:={nv:=4,live:=lv [[0,1],[4]]}
def hint125:Hint:={nv:=4,live:=lv [[0,1],[4]]}
def hint126:Hint:={nv:=7,live:=lv [[0,1],[0,1,7],[4],[0,1,10],[4],[5,6],[5,23],[4],[4]]}
def hint127:Hint:={nv:=4,live:=lv [[0,1],[4]]}
def hint128:Hint:={nv:=9,keep:=[12,21],lits:=[11,20],live:=lv [[1,2,3],[1,2,3,13],[6,7],[8],[8,22],[6,7],[6,7]]}
def hint129:Hint:={nv:=4,live:=lv [[0,3],[0,3,6],[4,5],[0,9],[4,5],[4,5]]}
def hint130:Hint:={nv:=3,live:=lv [[1,2],[3]]}
def hint134:Hint:={nv:=2,live:=lv [[]]}
def hint135:Hint:={nv:=3,live:=lv [[0],[0,2],[0,2],[]]}
def hint136:Hint:={nv:=5,live:=lv [[0],[0,2],[0,2],[0,2,3],[0,2,27],[0,2],[0,2,4],[0,2,4],[]]}
def hint137:Hint:={nv:=3,live:=lv [[0],[0,2],[0,2],[]]}
def hint138:Hint:={nv:=4,live:=lv [[0,1],[4]]}
def hint139:Hint:={nv:=4,live:=lv [[0,1],[4]]}
def hint140:Hint:={nv:=5,keep:=[11],live:=lv [[0,1,2],[5,6]]}
def hint147:Hint:={nv:=6,keep:=[21,27],live:=lv [[0,1],[0,1,16],[],[4],[0,5],[0,5,29],[],[4],[5],[4]],ro:=[21]}
def hint148:Hint:={nv:=6,live:=lv [[0,1,4],[0,1,4,5],[0,4,5,18],[4],[4],[4,5],[4]]}
def hints:FuncId→Hint:=fun f=>match f with
 |3=>hint3
 |4=>hint4
 |5=>hint5
 |6=>hint6
 |7=>hint7
 |8=>hint8
 |9=>hint9
 |10=>hint10
 |11=>hint11
 |12=>hint12
 |13=>hint13
 |14=>hint14
 |15=>hint15
 |16=>hint16
 |17=>hint17
 |18=>hint18
 |19=>hint19
 |20=>hint20
 |21=>hint21
 |22=>hint22
 |23=>hint23
 |24=>hint24
 |25=>hint25
 |26=>hint26
 |27=>hint27
 |28=>hint28
 |29=>hint29
 |30=>hint30
 |31=>hint31
 |32=>hint32
 |33=>hint33
 |34=>hint34
 |35=>hint35
 |36=>hint36
 |37=>hint37
 |38=>hint38
 |39=>hint39
 |40=>hint40
 |41=>hint41
 |42=>hint42
 |43=>hint43
 |44=>hint44
 |45=>hint45
 |46=>hint46
 |47=>hint47
 |48=>hint48
 |49=>hint49
 |50=>hint50
 |51=>hint51
 |52=>hint52
 |53=>hint53
 |54=>hint54
 |55=>hint55
 |56=>hint56
 |57=>hint57
 |58=>hint58
 |59=>hint59
 |60=>hint60
 |61=>hint61
 |62=>hint62
 |63=>hint63
 |64=>hint64
 |65=>hint65
 |66=>hint66
 |67=>hint67
 |68=>hint68
 |69=>hint69
 |70=>hint70
 |71=>hint71
 |72=>hint72
 |73=>hint73
 |74=>hint74
 |75=>hint75
 |76=>hint76
 |77=>hint77
 |78=>hint78
 |79=>hint79
 |80=>hint80
 |81=>hint81
 |82=>hint82
 |83=>hint83
 |84=>hint84
 |85=>hint85
 |86=>hint86
 |87=>hint87
 |88=>hint88
 |89=>hint89
 |90=>hint90
 |91=>hint91
 |92=>hint92
 |93=>hint93
 |94=>hint94
 |95=>hint95
 |96=>hint96
 |97=>hint97
 |98=>hint98
 |99=>hint99
 |100=>hint100
 |101=>hint101
 |102=>hint102
 |103=>hint103
 |104=>hint104
 |106=>hint106
 |107=>hint107
 |108=>hint108
 |109=>hint109
 |110=>hint110
 |111=>hint111
 |112=>hint112
 |113=>hint113
 |114=>hint114
 |115=>hint115
 |116=>hint116
 |117=>hint117
 |118=>hint118
 |119=>hint119
 |120=>hint120
 |121=>hint121
 |122=>hint122
 |123=>hint123
 |124=>hint124
 |125=>hint125
 |126=>hint126
 |127=>hint127
 |128=>hint128
 |129=>hint129
 |130=>hint130
 |134=>hint134
 |135=>hint135
 |136=>hint136
 |137=>hint137
 |138=>hint138
 |139=>hint139
 |140=>hint140
 |147=>hint147
 |148=>hint148
 |_=>{nv:=0,objs:=[],keep:=[],lits:=[],own:=false,live:=fun _=>[]}
noncomputable abbrev call:CallF:=callX P hints
@[go_sem] theorem h3:HF hint3 12 [17,20,24,34,39,45,60]:=⟨rfl,rfl,rfl,rfl,rfl,rfl,rfl⟩
@[go_sem] theorem h4:HF hint4 11 [16,19,23,30,36,48]:=⟨rfl,rfl,rfl,rfl,rfl,rfl,rfl⟩
@[go_sem] theorem h5:HF hint5 10 [12,14,18,23,27,33,34,44]:=⟨rfl,rfl,rfl,rfl,rfl,rfl,rfl⟩
@[go_sem] theorem h6:HF hint6 4:=⟨rfl,rfl,rfl,rfl,rfl,rfl,rfl⟩
@[go_sem] theorem h8:HF hint8 15 [17,68,80,93] [] [30]:=⟨rfl,rfl,rfl,rfl,rfl,rfl,rfl⟩
@[go_sem] theorem h9:HF hint9 13 [16,31,41,51,57]:=⟨rfl,rfl,rfl,rfl,rfl,rfl,rfl⟩
@[go_sem] theorem hw9:hint9.mv=[57]:=rfl
@[go_sem] theorem h10:HF hint10 12 [29,45,61,82] [96]:=⟨rfl,rfl,rfl,rfl,rfl,rfl,rfl⟩
@[go_sem] theorem h11:HF hint11 16 [18,32,46,58,68,79]:=⟨rfl,rfl,rfl,rfl,rfl,rfl,rfl⟩
@[go_sem] theorem h12:HF hint12 6:=⟨rfl,rfl,rfl,rfl,rfl,rfl,rfl⟩
@[go_sem] theorem h13:HF hint13 6 [] [39]:=⟨rfl,rfl,rfl,rfl,rfl,rfl,rfl⟩
@[go_sem] theorem h15:HF hint15 9 [13,32,22] [43]:=⟨rfl,rfl,rfl,rfl,rfl,rfl,rfl⟩
@[go_sem] theorem h16:HF hint16 2:=⟨rfl,rfl,rfl,rfl,rfl,rfl,rfl⟩
@[go_sem] theorem h17:HF hint17 4:=⟨rfl,rfl,rfl,rfl,rfl,rfl,rfl⟩
@[go_sem] theorem h18:HF hint18 7 [] [] [3,8,6]:=⟨rfl,rfl,rfl,rfl,rfl,rfl,rfl⟩
@[go_sem] theorem h19:HF hint19 6:=⟨rfl,rfl,rfl,rfl,rfl,rfl,rfl⟩
@[go_sem] theorem h20:HF hint20 15 [30,54,78,95,112]:=⟨rfl,rfl,rfl,rfl,rfl,rfl,rfl⟩
@[go_sem] theorem h21:HF hint21 5 [16]:=⟨rfl,rfl,rfl,rfl,rfl,rfl,rfl⟩
@[go_sem] theorem h23:HF hint23 12 [52,79,89,109,115] [35,57,84,110,116]:=⟨rfl,rfl,rfl,rfl,rfl,rfl,rfl⟩
@[go_sem] theorem h24:HF hint24 2:=⟨rfl,rfl,rfl,rfl,rfl,rfl,rfl⟩
@[go_sem] theorem h25:HF hint25 11 [38,48,71]:=⟨rfl,rfl,rfl,rfl,rfl,rfl,rfl⟩
@[go_sem] theorem h26:HF hint26 10 [19,36]:=⟨rfl,rfl,rfl,rfl,rfl,rfl,rfl⟩
@[go_sem] theorem h28:HF hint28 12 [16,24,55,71] [65]:=⟨rfl,rfl,rfl,rfl,rfl,rfl,rfl⟩
@[go_sem] theorem h29:HF hint29 9 [14,19,22,27,32,35,69,73] [63,84]:=⟨rfl,rfl,rfl,rfl,rfl,rfl,rfl⟩
@[go_sem] theorem h30:HF hint30 6:=⟨rfl,rfl,rfl,rfl,rfl,rfl,rfl⟩
@[go_sem] theorem h31:HF hint31 11 [14,32,39,63]:=⟨rfl,rfl,rfl,rfl,rfl,rfl,rfl⟩
@[go_sem] theorem h32:HF hint32 6:=⟨rfl,rfl,rfl,rfl,rfl,rfl,rfl⟩
@[go_sem] theorem h33:HF hint33 4:=⟨rfl,rfl,rfl,rfl,rfl,rfl,rfl⟩
@[go_sem] theorem h34:HF hint34 10 [18,35,52]:=⟨rfl,rfl,rfl,rfl,rfl,rfl,rfl⟩
@[go_sem] theorem h35:HF hint35 4 [] [] [2,3]:=⟨rfl,rfl,rfl,rfl,rfl,rfl,rfl⟩
@[go_sem] theorem h36:HF hint36 13:=⟨rfl,rfl,rfl,rfl,rfl,rfl,rfl⟩
@[go_sem] theorem h37:HF hint37 4:=⟨rfl,rfl,rfl,rfl,rfl,rfl,rfl⟩
@[go_sem] theorem h38:HF hint38 14 [28,20,45]:=⟨rfl,rfl,rfl,rfl,rfl,rfl,rfl⟩
@[go_sem] theorem h39:HF hint39 8:=⟨rfl,rfl,rfl,rfl,rfl,rfl,rfl⟩
@[go_sem] theorem h40:HF hint40 8:=⟨rfl,rfl,rfl,rfl,rfl,rfl,rfl⟩
@[go_sem] theorem h41:HF hint41 4 [] [] [2]:=⟨rfl,rfl,rfl,rfl,rfl,rfl,rfl⟩
@[go_sem] theorem h42:HF hint42 4 [] [] [2]:=⟨rfl,rfl,rfl,rfl,rfl,rfl,rfl⟩
@[go_sem] theorem h43:HF hint43 4 [] [] [2]:=⟨rfl,rfl,rfl,rfl,rfl,rfl,rfl⟩
@[go_sem] theorem h45:HF hint45 7:=⟨rfl,rfl,rfl,rfl,rfl,rfl,rfl⟩
@[go_sem] theorem h46:HF hint46 2 [4,7]:=⟨rfl,rfl,rfl,rfl,rfl,rfl,rfl⟩
@[go_sem] theorem h47:HF hint47 4:=⟨rfl,rfl,rfl,rfl,rfl,rfl,rfl⟩
@[go_sem] theorem h48:HF hint48 2:=⟨rfl,rfl,rfl,rfl,rfl,rfl,rfl⟩
@[go_sem] theorem h49:HF hint49 11 [13,37,45]:=⟨rfl,rfl,rfl,rfl,rfl,rfl,rfl⟩
@[go_sem] theorem h50:HF hint50 6 [15,43]:=⟨rfl,rfl,rfl,rfl,rfl,rfl,rfl⟩
@[go_sem] theorem h51:HF hint51 6 [23,33]:=⟨rfl,rfl,rfl,rfl,rfl,rfl,rfl⟩
@[go_sem] theorem h53:HF hint53 4 [23]:=⟨rfl,rfl,rfl,rfl,rfl,rfl,rfl⟩
@[go_sem] theorem h55:HF hint55 9 [13,22,27,44,53,60]:=⟨rfl,rfl,rfl,rfl,rfl,rfl,rfl⟩
@[go_sem] theorem h56:HF hint56 7 [51,56]:=⟨rfl,rfl,rfl,rfl,rfl,rfl,rfl⟩
@[go_sem] theorem h57:HF hint57 11 [15,24,39,46] [60]:=⟨rfl,rfl,rfl,rfl,rfl,rfl,rfl⟩
@[go_sem] theorem h58:HF hint58 6 [13,55,58,64,69,70] [25,36]:=⟨rfl,rfl,rfl,rfl,rfl,rfl,rfl⟩
@[go_sem] theorem h59:HF hint59 6:=⟨rfl,rfl,rfl,rfl,rfl,rfl,rfl⟩
@[go_sem] theorem h60:HF hint60 4 [26,47,68,91,113]:=⟨rfl,rfl,rfl,rfl,rfl,rfl,rfl⟩
@[go_sem] theorem h61:HF hint61 5 [30]:=⟨rfl,rfl,rfl,rfl,rfl,rfl,rfl⟩
@[go_sem] theorem h62:HF hint62 18 [25,30,39,52,70,84,90,92,100,106,117,120,131,137,153,155,159,166,168]:=⟨rfl,rfl,rfl,rfl,rfl,rfl,rfl⟩
@[go_sem] theorem h63:HF hint63 2:=⟨rfl,rfl,rfl,rfl,rfl,rfl,rfl⟩
@[go_sem] theorem h66:HF hint66 4 [7]:=⟨rfl,rfl,rfl,rfl,rfl,rfl,rfl⟩
@[go_sem] theorem h67:HF hint67 3:=⟨rfl,rfl,rfl,rfl,rfl,rfl,rfl⟩
@[go_sem] theorem h68:HF hint68 3:=⟨rfl,rfl,rfl,rfl,rfl,rfl,rfl⟩
@[go_sem] theorem h69:HF hint69 10 [22]:=⟨rfl,rfl,rfl,rfl,rfl,rfl,rfl⟩
@[go_sem] theorem h70:HF hint70 2:=⟨rfl,rfl,rfl,rfl,rfl,rfl,rfl⟩
@[go_sem] theorem h71:HF hint71 0:=⟨rfl,rfl,rfl,rfl,rfl,rfl,rfl⟩
@[go_sem] theorem h72:HF hint72 14 [] [84] [] [] [] [58,64]:=⟨rfl,rfl,rfl,rfl,rfl,rfl,rfl⟩
@[go_sem] theorem h73:HF hint73 4:=⟨rfl,rfl,rfl,rfl,rfl,rfl,rfl⟩
@[go_sem] theorem h74:HF hint74 8 [48]:=⟨rfl,rfl,rfl,rfl,rfl,rfl,rfl⟩
@[go_sem] theorem h75:HF hint75 11 [26,36]:=⟨rfl,rfl,rfl,rfl,rfl,rfl,rfl⟩
@[go_sem] theorem h76:HF hint76 2:=⟨rfl,rfl,rfl,rfl,rfl,rfl,rfl⟩
@[go_sem] theorem h77:HF hint77 6:=⟨rfl,rfl,rfl,rfl,rfl,rfl,rfl⟩
@[go_sem] theorem h78:HF hint78 2 [] [] [1]:=⟨rfl,rfl,rfl,rfl,rfl,rfl,rfl⟩
@[go_sem] theorem h79:HF hint79 6:=⟨rfl,rfl,rfl,rfl,rfl,rfl,rfl⟩
@[go_sem] theorem h80:HF hint80 3:=⟨rfl,rfl,rfl,rfl,rfl,rfl,rfl⟩
@[go_sem] theorem h81:HF hint81 6:=⟨rfl,rfl,rfl,rfl,rfl,rfl,rfl⟩
@[go_sem] theorem h82:HF hint82 3:=⟨rfl,rfl,rfl,rfl,rfl,rfl,rfl⟩
@[go_sem] theorem h83:HF hint83 6:=⟨rfl,rfl,rfl,rfl,rfl,rfl,rfl⟩
@[go_sem] theorem h84:HF hint84 3:=⟨rfl,rfl,rfl,rfl,rfl,rfl,rfl⟩
@[go_sem] theorem h86:HF hint86 4:=⟨rfl,rfl,rfl,rfl,rfl,rfl,rfl⟩
@[go_sem] theorem h89:HF hint89 0:=⟨rfl,rfl,rfl,rfl,rfl,rfl,rfl⟩
@[go_sem] theorem h91:HF hint91 6 [] [18]:=⟨rfl,rfl,rfl,rfl,rfl,rfl,rfl⟩
@[go_sem] theorem h92:HF hint92 8 [17,41,42]:=⟨rfl,rfl,rfl,rfl,rfl,rfl,rfl⟩
@[go_sem] theorem h93:HF hint93 10 [19,24,44,55,61,67,73,80,84,104,116,136] [133]:=⟨rfl,rfl,rfl,rfl,rfl,rfl,rfl⟩
@[go_sem] theorem h94:HF hint94 8 [17,29,34,38,50,51] [22,42,62]:=⟨rfl,rfl,rfl,rfl,rfl,rfl,rfl⟩
@[go_sem] theorem h95:HF hint95 6 [15,20]:=⟨rfl,rfl,rfl,rfl,rfl,rfl,rfl⟩
@[go_sem] theorem h96:HF hint96 6 [14]:=⟨rfl,rfl,rfl,rfl,rfl,rfl,rfl⟩
@[go_sem] theorem h97:HF hint97 6:=⟨rfl,rfl,rfl,rfl,rfl,rfl,rfl⟩
@[go_sem] theorem h98:HF hint98 6:=⟨rfl,rfl,rfl,rfl,rfl,rfl,rfl⟩
@[go_sem] theorem h99:HF hint99 6:=⟨rfl,rfl,rfl,rfl,rfl,rfl,rfl⟩
@[go_sem] theorem h100:HF hint100 6:=⟨rfl,rfl,rfl,rfl,rfl,rfl,rfl⟩
@[go_sem] theorem h101:HF hint101 9 [20] [38]:=⟨rfl,rfl,rfl,rfl,rfl,rfl,rfl⟩
@[go_sem] theorem h103:HF hint103 2:=⟨rfl,rfl,rfl,rfl,rfl,rfl,rfl⟩
@[go_sem] theorem h106:HF hint106 5:=⟨rfl,rfl,rfl,rfl,rfl,rfl,rfl⟩
@[go_sem] theorem h107:HF hint107 4:=⟨rfl,rfl,rfl,rfl,rfl,rfl,rfl⟩
@[go_sem] theorem h108:HF hint108 8:=⟨rfl,rfl,rfl,rfl,rfl,rfl,rfl⟩
@[go_sem] theorem h109:HF hint109 6 [] [19]:=⟨rfl,rfl,rfl,rfl,rfl,rfl,rfl⟩
@[go_sem] theorem h110:HF hint110 2:=⟨rfl,rfl,rfl,rfl,rfl,rfl,rfl⟩
@[go_sem] theorem h111:HF hint111 4:=⟨rfl,rfl,rfl,rfl,rfl,rfl,rfl⟩
@[go_sem] theorem h112:HF hint112 9 [34]:=⟨rfl,rfl,rfl,rfl,rfl,rfl,rfl⟩
@[go_sem] theorem h113:HF hint113 9 [15]:=⟨rfl,rfl,rfl,rfl,rfl,rfl,rfl⟩
@[go_sem] theorem h119:HF hint119 4 [] [] [3]:=⟨rfl,rfl,rfl,rfl,rfl,rfl,rfl⟩
@[go_sem] theorem h126:HF hint126 7:=⟨rfl,rfl,rfl,rfl,rfl,rfl,rfl⟩
@[go_sem] theorem h128:HF hint128 9 [12,21] [11,20]:=⟨rfl,rfl,rfl,rfl,rfl,rfl,rfl⟩
@[go_sem] theorem h129:HF hint129 4:=⟨rfl,rfl,rfl,rfl,rfl,rfl,rfl⟩
@[go_sem] theorem h130:HF hint130 3:=⟨rfl,rfl,rfl,rfl,rfl,rfl,rfl⟩
@[go_sem] theorem h134:HF hint134 2:=⟨rfl,rfl,rfl,rfl,rfl,rfl,rfl⟩
@[go_sem] theorem h135:HF hint135 3:=⟨rfl,rfl,rfl,rfl,rfl,rfl,rfl⟩
@[go_sem] theorem h136:HF hint136 5:=⟨rfl,rfl,rfl,rfl,rfl,rfl,rfl⟩
@[go_sem] theorem h137:HF hint137 3:=⟨rfl,rfl,rfl,rfl,rfl,rfl,rfl⟩
@[go_sem] theorem h147:HF hint147 6 [21,27] [] [] [21]:=⟨rfl,rfl,rfl,rfl,rfl,rfl,rfl⟩
@[go_sem] theorem h148:HF hint148 6:=⟨rfl,rfl,rfl,rfl,rfl,rfl,rfl⟩
@[go_sem] theorem t0:TF P 0 (some false) none 1 0:=tf (by kernel_rfl)
@[go_sem] theorem t1:TF P 1 (some false) none 1 8:=tf (by kernel_rfl)
@[go_sem] theorem t3:TF P 3 (some false) none 1 8 (some 0):=tf (by kernel_rfl)
@[go_sem] theorem ze3:zeroOf P 3=some (.int .i64 (0)):=by kernel_rfl
@[go_sem] theorem un3:P.underlying 3=some (.int .i64):=by kernel_rfl
@[go_sem] theorem t4:TF P 4 (some false) none 1 1 (some 2):=tf (by kernel_rfl)
@[go_sem] theorem un4:P.underlying 4=some .bool:=by kernel_rfl
@[go_sem] theorem t5:TF P 5 (some false) none 1 1 (some 0):=tf (by kernel_rfl)
@[go_sem] theorem ze5:zeroOf P 5=some (.int .u8 (0)):=by kernel_rfl
@[go_sem] theorem t9:TF P 9 (some false) none 1 16 (some 1):=tf (by kernel_rfl)
@[go_sem] theorem ze9:zeroOf P 9=some (.str []):=by kernel_rfl
@[go_sem] theorem un9:P.underlying 9=some .string:=by kernel_rfl
@[go_sem] theorem t21:TF P 21 (some false) none 1 4 (some 0):=tf (by kernel_rfl)
@[go_sem] theorem t22:TF P 22 (some false) (some 102) 1 24:=tf (by kernel_rfl)
@[go_sem] theorem un22:P.underlying 22=some (.slice 102):=by kernel_rfl
@[go_sem] theorem t23:TF P 23 (some false) (some 76) 1 24:=tf (by kernel_rfl)
@[go_sem] theorem un23:P.underlying 23=some (.slice 76):=by kernel_rfl
@[go_sem] theorem t24:TF P 24 (some false) (some 96) 1 24:=tf (by kernel_rfl)
@[go_sem] theorem un24:P.underlying 24=some (.slice 96):=by kernel_rfl
@[go_sem] theorem t25:TF P 25 (some false) (some 100) 1 24:=tf (by kernel_rfl)
@[go_sem] theorem un25:P.underlying 25=some (.slice 100):=by kernel_rfl
@[go_sem] theorem t27:TF P 27 (some true) none 6 128:=tf (by kernel_rfl)
@[go_sem] theorem fi27:fieldOf P 27 0=some (0,1,false)∧fieldOf P 27 1=some (1,1,false)∧fieldOf P 27 2=some (2,1,false)∧fieldOf P 27 3=some (3,1,false)∧fieldOf P 27 4=some (4,1,false)∧fieldOf P 27 5=some (5,1,false):=⟨by kernel_rfl,by kernel_rfl,by kernel_rfl,by kernel_rfl,by kernel_rfl,by kernel_rfl⟩
@[go_sem] theorem t30:TF P 30 (some false) (some 41) 1 24:=tf (by kernel_rfl)
@[go_sem] theorem un30:P.underlying 30=some (.slice 41):=by kernel_rfl
@[go_sem] theorem t31:TF P 31 (some false) none 1 8 (some 0):=tf (by kernel_rfl)
@[go_sem] theorem t41:TF P 41 (some true) none 2 16:=tf (by kernel_rfl)
@[go_sem] theorem ze41:zeroOf P 41=some (.agg [.int .i64 (0),.int .i64 (0)]):=by kernel_rfl
@[go_sem] theorem fi41:fieldOf P 41 0=some (0,1,false)∧fieldOf P 41 1=some (1,1,false):=⟨by kernel_rfl,by kernel_rfl⟩
@[go_sem] theorem pl41:placesOf P 41=some (.inr [(0,1),(1,1)]):=by kernel_rfl
@[go_sem] theorem ps41:plainS P 41=some [0,0]:=by kernel_rfl
@[go_sem] theorem t45:TF P 45 (some false) (some 79) 1 24:=tf (by kernel_rfl)
@[go_sem] theorem t46:TF P 46 (some false) none 1 0:=tf (by kernel_rfl)
@[go_sem] theorem t48:TF P 48 (some false) none 1 8:=tf (by kernel_rfl)
@[go_sem] theorem t50:TF P 50 (some true) none 12 208:=tf (by kernel_rfl)
@[go_sem] theorem ze50:zeroOf P 50=some (.agg [.nils,.int .i64 (0),.nils,.nils,.nils,.nils,.nils,.int .i64 (0),.int .i64 (0),.int .i64 (0),.int .i64 (0),.nils]):=by kernel_rfl
@[go_sem] theorem fi50:fieldOf P 50 0=some (0,1,false)∧fieldOf P 50 1=some (1,1,false)∧fieldOf P 50 2=some (2,6,true)∧fieldOf P 50 3=some (8,1,false)∧fieldOf P 50 4=some (9,1,false)∧fieldOf P 50 5=some (10,1,false)∧fieldOf P 50 6=some (11,1,false):=⟨by kernel_rfl,by kernel_rfl,by kernel_rfl,by kernel_rfl,by kernel_rfl,by kernel_rfl,by kernel_rfl⟩
@[go_sem] theorem pl50:placesOf P 50=some (.inr [(0,1),(1,1),(2,6),(8,1),(9,1),(10,1),(11,1)]):=by kernel_rfl
@[go_sem] theorem t53:TF P 53 (some false) (some 60) 1 24:=tf (by kernel_rfl)
@[go_sem] theorem t60:TF P 60 (some true) none 3 32:=tf (by kernel_rfl)
@[go_sem] theorem ze60:zeroOf P 60=some (.agg [.str [],.int .i64 (0),.int .i64 (0)]):=by kernel_rfl
@[go_sem] theorem fi60:fieldOf P 60 0=some (0,1,false)∧fieldOf P 60 1=some (1,1,false)∧fieldOf P 60 2=some (2,1,false):=⟨by kernel_rfl,by kernel_rfl,by kernel_rfl⟩
@[go_sem] theorem pl60:placesOf P 60=some (.inr [(0,1),(1,1),(2,1)]):=by kernel_rfl
@[go_sem] theorem t61:TF P 61 (some false) (some 3) 1 24:=tf (by kernel_rfl)
@[go_sem] theorem t66:TF P 66 (some false) (some 119) 1 24:=tf (by kernel_rfl)
@[go_sem] theorem t70:TF P 70 (some true) none 8 160:=tf (by kernel_rfl)
@[go_sem] theorem ze70:zeroOf P 70=some (.agg [.nils,.nils,.nils,.nils,.nils,.nils,.int .i64 (0),.int .i64 (0)]):=by kernel_rfl
@[go_sem] theorem fi70:fieldOf P 70 0=some (0,1,false)∧fieldOf P 70 1=some (1,6,true)∧fieldOf P 70 2=some (7,1,false):=⟨by kernel_rfl,by kernel_rfl,by kernel_rfl⟩
@[go_sem] theorem pl70:placesOf P 70=some (.inr [(0,1),(1,6),(7,1)]):=by kernel_rfl
@[go_sem] theorem t72:TF P 72 (some true) none 4 48:=tf (by kernel_rfl)
@[go_sem] theorem ze72:zeroOf P 72=some (.agg [.nils,.int .i64 (0),.int .i64 (0),.int .i64 (0)]):=by kernel_rfl
@[go_sem] theorem fi72:fieldOf P 72 0=some (0,1,false)∧fieldOf P 72 1=some (1,1,false)∧fieldOf P 72 2=some (2,1,false)∧fieldOf P 72 3=some (3,1,false):=⟨by kernel_rfl,by kernel_rfl,by kernel_rfl,by kernel_rfl⟩
@[go_sem] theorem pl72:placesOf P 72=some (.inr [(0,1),(1,1),(2,1),(3,1)]):=by kernel_rfl
@[go_sem] theorem t76:TF P 76 (some true) none 6 56:=tf (by kernel_rfl)
@[go_sem] theorem ze76:zeroOf P 76=some (.agg [.str [],.int .i64 (0),.int .i64 (0),.int .i64 (0),.int .i64 (0),.int .i64 (0)]):=by kernel_rfl
@[go_sem] theorem fi76:fieldOf P 76 0=some (0,1,false)∧fieldOf P 76 1=some (1,1,false)∧fieldOf P 76 2=some (2,1,false)∧fieldOf P 76 3=some (3,1,false)∧fieldOf P 76 4=some (4,1,false)∧fieldOf P 76 5=some (5,1,false):=⟨by kernel_rfl,by kernel_rfl,by kernel_rfl,by kernel_rfl,by kernel_rfl,by kernel_rfl⟩
@[go_sem] theorem pl76:placesOf P 76=some (.inr [(0,1),(1,1),(2,1),(3,1),(4,1),(5,1)]):=by kernel_rfl
@[go_sem] theorem t79:TF P 79 (some true) none 4 40:=tf (by kernel_rfl)
@[go_sem] theorem ze79:zeroOf P 79=some (.agg [.int .i64 (0),.int .i64 (0),.int .i64 (0),.str []]):=by kernel_rfl
@[go_sem] theorem fi79:fieldOf P 79 0=some (0,1,false)∧fieldOf P 79 1=some (1,1,false)∧fieldOf P 79 2=some (2,1,false)∧fieldOf P 79 3=some (3,1,false):=⟨by kernel_rfl,by kernel_rfl,by kernel_rfl,by kernel_rfl⟩
@[go_sem] theorem pl79:placesOf P 79=some (.inr [(0,1),(1,1),(2,1),(3,1)]):=by kernel_rfl
@[go_sem] theorem t80:TF P 80 (some false) none 1 0:=tf (by kernel_rfl)
@[go_sem] theorem t83:TF P 83 (some false) none 1 8:=tf (by kernel_rfl)
@[go_sem] theorem ze83:zeroOf P 83=some (.nilp):=by kernel_rfl
@[go_sem] theorem t84:TF P 84 (some false) none 1 8:=tf (by kernel_rfl)
@[go_sem] theorem ma84:mapOf P 84=some (3,91):=by kernel_rfl
@[go_sem] theorem t86:TF P 86 (some true) none 2 32:=tf (by kernel_rfl)
@[go_sem] theorem ze86:zeroOf P 86=some (.agg [.nils,.nilm]):=by kernel_rfl
@[go_sem] theorem fi86:fieldOf P 86 0=some (0,1,false)∧fieldOf P 86 1=some (1,1,false):=⟨by kernel_rfl,by kernel_rfl⟩
@[go_sem] theorem pl86:placesOf P 86=some (.inr [(0,1),(1,1)]):=by kernel_rfl
@[go_sem] theorem t91:TF P 91 (some true) none 4 32:=tf (by kernel_rfl)
@[go_sem] theorem ze91:zeroOf P 91=some (.agg [.int .i64 (0),.int .i64 (0),.int .i64 (0),.nilf]):=by kernel_rfl
@[go_sem] theorem fi91:fieldOf P 91 0=some (0,1,false)∧fieldOf P 91 1=some (1,1,false)∧fieldOf P 91 2=some (2,1,false)∧fieldOf P 91 3=some (3,1,false):=⟨by kernel_rfl,by kernel_rfl,by kernel_rfl,by kernel_rfl⟩
@[go_sem] theorem pl91:placesOf P 91=some (.inr [(0,1),(1,1),(2,1),(3,1)]):=by kernel_rfl
@[go_sem] theorem t96:TF P 96 (some true) none 6 56:=tf (by kernel_rfl)
@[go_sem] theorem ze96:zeroOf P 96=some (.agg [.str [],.int .i64 (0),.int .i64 (0),.int .i64 (0),.int .i64 (0),.bool false]):=by kernel_rfl
@[go_sem] theorem fi96:fieldOf P 96 0=some (0,1,false)∧fieldOf P 96 1=some (1,1,false)∧fieldOf P 96 2=some (2,1,false)∧fieldOf P 96 3=some (3,1,false)∧fieldOf P 96 4=some (4,1,false)∧fieldOf P 96 5=some (5,1,false):=⟨by kernel_rfl,by kernel_rfl,by kernel_rfl,by kernel_rfl,by kernel_rfl,by kernel_rfl⟩
@[go_sem] theorem pl96:placesOf P 96=some (.inr [(0,1),(1,1),(2,1),(3,1),(4,1),(5,1)]):=by kernel_rfl
@[go_sem] theorem un98:P.underlying 98=some (.slice 225):=by kernel_rfl
@[go_sem] theorem t100:TF P 100 (some true) none 5 80:=tf (by kernel_rfl)
@[go_sem] theorem fi100:fieldOf P 100 0=some (0,1,false)∧fieldOf P 100 1=some (1,1,false)∧fieldOf P 100 2=some (2,1,false)∧fieldOf P 100 3=some (3,1,false)∧fieldOf P 100 4=some (4,1,false):=⟨by kernel_rfl,by kernel_rfl,by kernel_rfl,by kernel_rfl,by kernel_rfl⟩
@[go_sem] theorem t102:TF P 102 (some true) none 2 24:=tf (by kernel_rfl)
@[go_sem] theorem fi102:fieldOf P 102 0=some (0,1,false)∧fieldOf P 102 1=some (1,1,false):=⟨by kernel_rfl,by kernel_rfl⟩
@[go_sem] theorem t105:TF P 105 (some true) none 4 64:=tf (by kernel_rfl)
@[go_sem] theorem t108:TF P 108 (some true) none 2 24:=tf (by kernel_rfl)
@[go_sem] theorem ze108:zeroOf P 108=some (.agg [.str [],.int .i64 (0)]):=by kernel_rfl
@[go_sem] theorem fi108:fieldOf P 108 0=some (0,1,false)∧fieldOf P 108 1=some (1,1,false):=⟨by kernel_rfl,by kernel_rfl⟩
@[go_sem] theorem pl108:placesOf P 108=some (.inr [(0,1),(1,1)]):=by kernel_rfl
@[go_sem] theorem t119:TF P 119 (some true) none 4 40:=tf (by kernel_rfl)
@[go_sem] theorem ze119:zeroOf P 119=some (.agg [.int .i64 (0),.int .i64 (0),.int .i64 (0),.str []]):=by kernel_rfl
@[go_sem] theorem fi119:fieldOf P 119 0=some (0,1,false)∧fieldOf P 119 1=some (1,1,false)∧fieldOf P 119 2=some (2,1,false)∧fieldOf P 119 3=some (3,1,false):=⟨by kernel_rfl,by kernel_rfl,by kernel_rfl,by kernel_rfl⟩
@[go_sem] theorem pl119:placesOf P 119=some (.inr [(0,1),(1,1),(2,1),(3,1)]):=by kernel_rfl
@[go_sem] theorem t125:TF P 125 (some true) none 25 400:=tf (by kernel_rfl)
@[go_sem] theorem t134:TF P 134 (some false) none 1 8:=tf (by kernel_rfl)
@[go_sem] theorem t145:TF P 145 (some false) (some 9) 1 24:=tf (by kernel_rfl)
@[go_sem] theorem t147:TF P 147 (some false) none 1 8:=tf (by kernel_rfl)
@[go_sem] theorem t165:TF P 165 (some false) none 1 8:=tf (by kernel_rfl)
@[go_sem] theorem t167:TF P 167 (some false) none 1 0:=tf (by kernel_rfl)
@[go_sem] theorem t169:TF P 169 (some true) none 1 8:=tf (by kernel_rfl)
@[go_sem] theorem ze169:zeroOf P 169=some (.agg [.nilf]):=by kernel_rfl
@[go_sem] theorem fi169:fieldOf P 169 0=some (0,1,false):=by kernel_rfl
@[go_sem] theorem pl169:placesOf P 169=some (.inr [(0,1)]):=by kernel_rfl
@[go_sem] theorem t171:TF P 171 (some false) (some 5) 1 24:=tf (by kernel_rfl)
@[go_sem] theorem t173:TF P 173 (some false) none 1 8:=tf (by kernel_rfl)
@[go_sem] theorem ze173:zeroOf P 173=some (.nilf):=by kernel_rfl
@[go_sem] theorem t174:TF P 174 (some false) none 1 8:=tf (by kernel_rfl)
@[go_sem] theorem ma174:mapOf P 174=some (9,173):=by kernel_rfl
@[go_sem] theorem t175:TF P 175 (some false) none 1 0:=tf (by kernel_rfl)
@[go_sem] theorem un223:P.underlying 223=some (.slice 228):=by kernel_rfl
@[go_sem] theorem xt{f:Nat}(h:f<196)(h0:f≠0)(h1:f≠1)(h166:f≠166)(h167:f≠167)(h168:f≠168)(h169:f≠169)(h170:f≠170)(h171:f≠171)(h172:f≠172)(h173:f≠173)(h174:f≠174)(h175:f≠175)(h176:f≠176)(h177:f≠177)(h178:f≠178)(h179:f≠179)(h180:f≠180)(h181:f≠181)(h182:f≠182)(h183:f≠183)(h184:f≠184)(h185:f≠185)(h186:f≠186)(h187:f≠187)(h188:f≠188)(h189:f≠189)(h190:f≠190)(h191:f≠191)(h192:f≠192)(h193:f≠193)(h194:f≠194):extOf P f=none:=extAll (n:=196) (es:=[0,1,166,167,168,169,170,171,172,173,174,175,176,177,178,179,180,181,182,183,184,185,186,187,188,189,190,191,192,193,194]) (by kernel_rfl) h (by simp[h0,h1,h166,h167,h168,h169,h170,h171,h172,h173,h174,h175,h176,h177,h178,h179,h180,h181,h182,h183,h184,h185,h186,h187,h188,h189,h190,h191,h192,h193,h194])
noncomputable section
noncomputable def b3:Code:=Tryz.f3.body.getD .skip
@[go_sem] def q3:=mkQ hint3 b3 _
noncomputable def b4:Code:=Tryz.f4.body.getD .skip
@[go_sem] def q4:=mkQ hint4 b4 _
theorem ge4{ρ:Type}:GE ρ P hints 4 2 false [.tmp 4] hint4 b4 q4.1:=ge_ok Tryz.func4 (by kernel_rfl) q4.2 rfl (by kernel_rfl) (by kernel_rfl)
noncomputable def b5:Code:=Tryz.f5.body.getD .skip
@[go_sem] def q5:=mkQ hint5 b5 _
noncomputable def b6:Code:=Tryz.f6.body.getD .skip
@[go_sem] def q6:=mkQ hint6 b6 _
theorem ge6{ρ:Type}:GE ρ P hints 6 2 false [.tmp 4] hint6 b6 q6.1:=ge_ok Tryz.func6 (by kernel_rfl) q6.2 rfl (by kernel_rfl) (by kernel_rfl)
noncomputable def b8:Code:=Tryz.f8.body.getD .skip
@[go_sem] def q8:=mkQ hint8 b8 _
theorem ge8{ρ:Type}:GE ρ P hints 8 2 false [.tmp 4,.tmp 5,.tmp 6] hint8 b8 q8.1:=ge_ok Tryz.func8 (by kernel_rfl) q8.2 rfl (by kernel_rfl) (by kernel_rfl)
noncomputable def b9:Code:=Tryz.f9.body.getD .skip
@[go_sem] def q9:=mkQ hint9 b9 _
@[go_sem] def q9_0:=mkR hint9 b9 0 _
theorem ge9{ρ:Type}:GE ρ P hints 9 2 false [.tmp 4,.tmp 5] hint9 b9 q9.1:=ge_ok Tryz.func9 (by kernel_rfl) q9.2 rfl (by kernel_rfl) (by kernel_rfl)
noncomputable def b10:Code:=Tryz.f10.body.getD .skip
@[go_sem] def q10:=mkQ hint10 b10 _
@[go_sem] def q10_0:=mkR hint10 b10 0 _
theorem ge10{ρ:Type}:GE ρ P hints 10 2 false [.tmp 4,.tmp 5] hint10 b10 q10.1:=ge_ok Tryz.func10 (by kernel_rfl) q10.2 rfl (by kernel_rfl) (by kernel_rfl)
noncomputable def b11:Code:=Tryz.f11.body.getD .skip
@[go_sem] def q11:=mkQ hint11 b11 _
theorem ge11{ρ:Type}:GE ρ P hints 11 2 false [.tmp 4,.tmp 5,.tmp 6] hint11 b11 q11.1:=ge_ok Tryz.func11 (by kernel_rfl) q11.2 rfl (by kernel_rfl) (by kernel_rfl)
noncomputable def b12:Code:=Tryz.f12.body.getD .skip
@[go_sem] def q12:=mkQ hint12 b12 _
@[go_sem] def q12_0:=mkR hint12 b12 0 _
theorem ge12{ρ:Type}:GE ρ P hints 12 2 false [.tmp 4] hint12 b12 q12.1:=ge_ok Tryz.func12 (by kernel_rfl) q12.2 rfl (by kernel_rfl) (by kernel_rfl)
noncomputable def b15:Code:=Tryz.f15.body.getD .skip
@[go_sem] def q15:=mkQ hint15 b15 _
@[go_sem] def q15_0:=mkR hint15 b15 0 _
theorem ge15{ρ:Type}:GE ρ P hints 15 1 false [.tmp 2,.tmp 3,.tmp 4] hint15 b15 q15.1:=ge_ok Tryz.func15 (by kernel_rfl) q15.2 rfl (by kernel_rfl) (by kernel_rfl)
noncomputable def b16:Code:=Tryz.f16.body.getD .skip
@[go_sem] def q16:=mkQ hint16 b16 _
theorem ge16{ρ:Type}:GE ρ P hints 16 1 false [] hint16 b16 q16.1:=ge_ok Tryz.func16 (by kernel_rfl) q16.2 rfl (by kernel_rfl) (by kernel_rfl)
noncomputable def b17:Code:=Tryz.f17.body.getD .skip
@[go_sem] def q17:=mkQ hint17 b17 _
theorem ge17{ρ:Type}:GE ρ P hints 17 2 false [] hint17 b17 q17.1:=ge_ok Tryz.func17 (by kernel_rfl) q17.2 rfl (by kernel_rfl) (by kernel_rfl)
noncomputable def b18:Code:=Tryz.f18.body.getD .skip
@[go_sem] def q18:=mkQ hint18 b18 _
theorem ge18{ρ:Type}:GE ρ P hints 18 2 false [.tmp 4,.tmp 5] hint18 b18 q18.1:=ge_ok Tryz.func18 (by kernel_rfl) q18.2 rfl (by kernel_rfl) (by kernel_rfl)
noncomputable def b19:Code:=Tryz.f19.body.getD .skip
@[go_sem] def q19:=mkQ hint19 b19 _
@[go_sem] def q19_0:=mkR hint19 b19 0 _
theorem ge19{ρ:Type}:GE ρ P hints 19 2 false [.tmp 4] hint19 b19 q19.1:=ge_ok Tryz.func19 (by kernel_rfl) q19.2 rfl (by kernel_rfl) (by kernel_rfl)
noncomputable def b20:Code:=Tryz.f20.body.getD .skip
@[go_sem] def q20:=mkQ hint20 b20 _
theorem ge20{ρ:Type}:GE ρ P hints 20 2 false [.tmp 4,.tmp 5] hint20 b20 q20.1:=ge_ok Tryz.func20 (by kernel_rfl) q20.2 rfl (by kernel_rfl) (by kernel_rfl)
noncomputable def b21:Code:=Tryz.f21.body.getD .skip
@[go_sem] def q21:=mkQ hint21 b21 _
@[go_sem] def q21_0:=mkR hint21 b21 0 _
theorem ge21{ρ:Type}:GE ρ P hints 21 1 false [.tmp 2] hint21 b21 q21.1:=ge_ok Tryz.func21 (by kernel_rfl) q21.2 rfl (by kernel_rfl) (by kernel_rfl)
noncomputable def b22:Code:=Tryz.f22.body.getD .skip
@[go_sem] def q22:=mkQ hint22 b22 _
theorem ge22{ρ:Type}:GE ρ P hints 22 1 false [.tmp 2] hint22 b22 q22.1:=ge_ok Tryz.func22 (by kernel_rfl) q22.2 rfl (by kernel_rfl) (by kernel_rfl)
noncomputable def b23:Code:=Tryz.f23.body.getD .skip
@[go_sem] def q23:=mkQ hint23 b23 _
theorem gr23{ρ:Type}(ds:List D)(es:List T)(κ:List T×List Ob→Option ρ)(hl:ds.length=2):cbK (call 23 ds [.row es]) κ=go P hints hint23 b23 q23.1 (enterR es ds) (kLv P true [.tmp 6] 0 κ):=
 gr_of (by decide) rfl Tryz.func23 (by kernel_rfl) q23.2 rfl rfl (by kernel_rfl) rfl (by kernel_rfl) (by kernel_rfl) ds es κ hl
noncomputable def b24:Code:=Tryz.f24.body.getD .skip
@[go_sem] def q24:=mkQ hint24 b24 _
theorem ge24{ρ:Type}:GE ρ P hints 24 1 false [.tmp 2] hint24 b24 q24.1:=ge_ok Tryz.func24 (by kernel_rfl) q24.2 rfl (by kernel_rfl) (by kernel_rfl)
noncomputable def b25:Code:=Tryz.f25.body.getD .skip
@[go_sem] def q25:=mkQ hint25 b25 _
theorem ge25{ρ:Type}:GE ρ P hints 25 2 false [.tmp 4,.tmp 5] hint25 b25 q25.1:=ge_ok Tryz.func25 (by kernel_rfl) q25.2 rfl (by kernel_rfl) (by kernel_rfl)
noncomputable def b26:Code:=Tryz.f26.body.getD .skip
@[go_sem] def q26:=mkQ hint26 b26 _
theorem ge26{ρ:Type}:GE ρ P hints 26 3 false [.tmp 6,.tmp 7] hint26 b26 q26.1:=ge_ok Tryz.func26 (by kernel_rfl) q26.2 rfl (by kernel_rfl) (by kernel_rfl)
noncomputable def b27:Code:=Tryz.f27.body.getD .skip
@[go_sem] def q27:=mkQ hint27 b27 _
theorem ge27{ρ:Type}:GE ρ P hints 27 3 false [.tmp 6,.tmp 7] hint27 b27 q27.1:=ge_ok Tryz.func27 (by kernel_rfl) q27.2 rfl (by kernel_rfl) (by kernel_rfl)
noncomputable def b28:Code:=Tryz.f28.body.getD .skip
@[go_sem] def q28:=mkQ hint28 b28 _
@[go_sem] def q28_0:=mkR hint28 b28 0 _
theorem ge28{ρ:Type}:GE ρ P hints 28 1 false [.tmp 2,.tmp 3,.tmp 4] hint28 b28 q28.1:=ge_ok Tryz.func28 (by kernel_rfl) q28.2 rfl (by kernel_rfl) (by kernel_rfl)
noncomputable def b29:Code:=Tryz.f29.body.getD .skip
@[go_sem] def q29:=mkQ hint29 b29 _
theorem ge29{ρ:Type}:GE ρ P hints 29 3 false [.cell 6 72] hint29 b29 q29.1:=ge_ok Tryz.func29 (by kernel_rfl) q29.2 rfl (by kernel_rfl) (by kernel_rfl)
noncomputable def b30:Code:=Tryz.f30.body.getD .skip
@[go_sem] def q30:=mkQ hint30 b30 _
theorem ge30{ρ:Type}:GE ρ P hints 30 3 false [.cell 6 72] hint30 b30 q30.1:=ge_ok Tryz.func30 (by kernel_rfl) q30.2 rfl (by kernel_rfl) (by kernel_rfl)
noncomputable def b31:Code:=Tryz.f31.body.getD .skip
@[go_sem] def q31:=mkQ hint31 b31 _
@[go_sem] def q31_0:=mkR hint31 b31 0 _
theorem ge31{ρ:Type}:GE ρ P hints 31 2 false [.tmp 4,.tmp 5] hint31 b31 q31.1:=ge_ok Tryz.func31 (by kernel_rfl) q31.2 rfl (by kernel_rfl) (by kernel_rfl)
noncomputable def b32:Code:=Tryz.f32.body.getD .skip
@[go_sem] def q32:=mkQ hint32 b32 _
@[go_sem] def q32_0:=mkR hint32 b32 0 _
theorem ge32{ρ:Type}:GE ρ P hints 32 2 false [.tmp 4] hint32 b32 q32.1:=ge_ok Tryz.func32 (by kernel_rfl) q32.2 rfl (by kernel_rfl) (by kernel_rfl)
noncomputable def b33:Code:=Tryz.f33.body.getD .skip
@[go_sem] def q33:=mkQ hint33 b33 _
@[go_sem] def q33_0:=mkR hint33 b33 0 _
theorem ge33{ρ:Type}:GE ρ P hints 33 1 false [.tmp 2] hint33 b33 q33.1:=ge_ok Tryz.func33 (by kernel_rfl) q33.2 rfl (by kernel_rfl) (by kernel_rfl)
noncomputable def b34:Code:=Tryz.f34.body.getD .skip
@[go_sem] def q34:=mkQ hint34 b34 _
@[go_sem] def q34_0:=mkR hint34 b34 0 _
theorem ge34{ρ:Type}:GE ρ P hints 34 1 false [.cell 2 79,.tmp 3] hint34 b34 q34.1:=ge_ok Tryz.func34 (by kernel_rfl) q34.2 rfl (by kernel_rfl) (by kernel_rfl)
noncomputable def b35:Code:=Tryz.f35.body.getD .skip
@[go_sem] def q35:=mkQ hint35 b35 _
theorem ge35{ρ:Type}:GE ρ P hints 35 2 false [] hint35 b35 q35.1:=ge_ok Tryz.func35 (by kernel_rfl) q35.2 rfl (by kernel_rfl) (by kernel_rfl)
noncomputable def b36:Code:=Tryz.f36.body.getD .skip
@[go_sem] def q36:=mkQ hint36 b36 _
@[go_sem] def q36_0:=mkR hint36 b36 0 _
theorem ge36{ρ:Type}:GE ρ P hints 36 4 false [.tmp 8,.tmp 9] hint36 b36 q36.1:=ge_ok Tryz.func36 (by kernel_rfl) q36.2 rfl (by kernel_rfl) (by kernel_rfl)
noncomputable def b37:Code:=Tryz.f37.body.getD .skip
@[go_sem] def q37:=mkQ hint37 b37 _
theorem ge37{ρ:Type}:GE ρ P hints 37 3 false [.tmp 4,.tmp 5] hint37 b37 q37.1:=ge_ok Tryz.func37 (by kernel_rfl) q37.2 rfl (by kernel_rfl) (by kernel_rfl)
noncomputable def b38:Code:=Tryz.f38.body.getD .skip
@[go_sem] def q38:=mkQ hint38 b38 _
theorem ge38{ρ:Type}:GE ρ P hints 38 3 false [.tmp 6,.tmp 7] hint38 b38 q38.1:=ge_ok Tryz.func38 (by kernel_rfl) q38.2 rfl (by kernel_rfl) (by kernel_rfl)
noncomputable def b39:Code:=Tryz.f39.body.getD .skip
@[go_sem] def q39:=mkQ hint39 b39 _
@[go_sem] def q39_0:=mkR hint39 b39 0 _
theorem ge39{ρ:Type}:GE ρ P hints 39 2 false [.tmp 4,.tmp 5] hint39 b39 q39.1:=ge_ok Tryz.func39 (by kernel_rfl) q39.2 rfl (by kernel_rfl) (by kernel_rfl)
noncomputable def b40:Code:=Tryz.f40.body.getD .skip
@[go_sem] def q40:=mkQ hint40 b40 _
theorem ge40{ρ:Type}:GE ρ P hints 40 2 false [.tmp 4,.tmp 5] hint40 b40 q40.1:=ge_ok Tryz.func40 (by kernel_rfl) q40.2 rfl (by kernel_rfl) (by kernel_rfl)
noncomputable def b41:Code:=Tryz.f41.body.getD .skip
@[go_sem] def q41:=mkQ hint41 b41 _
theorem ge41{ρ:Type}:GE ρ P hints 41 2 false [.tmp 4] hint41 b41 q41.1:=ge_ok Tryz.func41 (by kernel_rfl) q41.2 rfl (by kernel_rfl) (by kernel_rfl)
noncomputable def b42:Code:=Tryz.f42.body.getD .skip
@[go_sem] def q42:=mkQ hint42 b42 _
theorem ge42{ρ:Type}:GE ρ P hints 42 2 false [.tmp 4] hint42 b42 q42.1:=ge_ok Tryz.func42 (by kernel_rfl) q42.2 rfl (by kernel_rfl) (by kernel_rfl)
noncomputable def b43:Code:=Tryz.f43.body.getD .skip
@[go_sem] def q43:=mkQ hint43 b43 _
theorem ge43{ρ:Type}:GE ρ P hints 43 2 false [.tmp 4] hint43 b43 q43.1:=ge_ok Tryz.func43 (by kernel_rfl) q43.2 rfl (by kernel_rfl) (by kernel_rfl)
noncomputable def b44:Code:=Tryz.f44.body.getD .skip
@[go_sem] def q44:=mkQ hint44 b44 _
theorem ge44{ρ:Type}:GE ρ P hints 44 1 false [.tmp 2] hint44 b44 q44.1:=ge_ok Tryz.func44 (by kernel_rfl) q44.2 rfl (by kernel_rfl) (by kernel_rfl)
noncomputable def b45:Code:=Tryz.f45.body.getD .skip
@[go_sem] def q45:=mkQ hint45 b45 _
@[go_sem] def q45_0:=mkR hint45 b45 0 _
theorem ge45{ρ:Type}:GE ρ P hints 45 2 false [.tmp 4] hint45 b45 q45.1:=ge_ok Tryz.func45 (by kernel_rfl) q45.2 rfl (by kernel_rfl) (by kernel_rfl)
noncomputable def b46:Code:=Tryz.f46.body.getD .skip
@[go_sem] def q46:=mkQ hint46 b46 _
theorem ge46{ρ:Type}:GE ρ P hints 46 1 false [.tmp 2] hint46 b46 q46.1:=ge_ok Tryz.func46 (by kernel_rfl) q46.2 rfl (by kernel_rfl) (by kernel_rfl)
noncomputable def b47:Code:=Tryz.f47.body.getD .skip
@[go_sem] def q47:=mkQ hint47 b47 _
theorem ge47{ρ:Type}:GE ρ P hints 47 2 false [.tmp 4] hint47 b47 q47.1:=ge_ok Tryz.func47 (by kernel_rfl) q47.2 rfl (by kernel_rfl) (by kernel_rfl)
noncomputable def b48:Code:=Tryz.f48.body.getD .skip
@[go_sem] def q48:=mkQ hint48 b48 _
theorem ge48{ρ:Type}:GE ρ P hints 48 1 false [.cell 2 108,.tmp 3] hint48 b48 q48.1:=ge_ok Tryz.func48 (by kernel_rfl) q48.2 rfl (by kernel_rfl) (by kernel_rfl)
noncomputable def b49:Code:=Tryz.f49.body.getD .skip
@[go_sem] def q49:=mkQ hint49 b49 _
theorem ge49{ρ:Type}:GE ρ P hints 49 3 false [.cell 6 60] hint49 b49 q49.1:=ge_ok Tryz.func49 (by kernel_rfl) q49.2 rfl (by kernel_rfl) (by kernel_rfl)
noncomputable def b50:Code:=Tryz.f50.body.getD .skip
@[go_sem] def q50:=mkQ hint50 b50 _
theorem ge50{ρ:Type}:GE ρ P hints 50 2 false [.cell 4 60] hint50 b50 q50.1:=ge_ok Tryz.func50 (by kernel_rfl) q50.2 rfl (by kernel_rfl) (by kernel_rfl)
noncomputable def b51:Code:=Tryz.f51.body.getD .skip
@[go_sem] def q51:=mkQ hint51 b51 _
theorem ge51{ρ:Type}:GE ρ P hints 51 3 false [.cell 6 76,.tmp 7] hint51 b51 q51.1:=ge_ok Tryz.func51 (by kernel_rfl) q51.2 rfl (by kernel_rfl) (by kernel_rfl)
noncomputable def b52:Code:=Tryz.f52.body.getD .skip
@[go_sem] def q52:=mkQ hint52 b52 _
theorem ge52{ρ:Type}:GE ρ P hints 52 1 false [.tmp 2] hint52 b52 q52.1:=ge_ok Tryz.func52 (by kernel_rfl) q52.2 rfl (by kernel_rfl) (by kernel_rfl)
noncomputable def b53:Code:=Tryz.f53.body.getD .skip
@[go_sem] def q53:=mkQ hint53 b53 _
theorem ge53{ρ:Type}:GE ρ P hints 53 2 false [.cell 4 96,.tmp 5] hint53 b53 q53.1:=ge_ok Tryz.func53 (by kernel_rfl) q53.2 rfl (by kernel_rfl) (by kernel_rfl)
noncomputable def b54:Code:=Tryz.f54.body.getD .skip
@[go_sem] def q54:=mkQ hint54 b54 _
@[go_sem] def q54_0:=mkR hint54 b54 0 _
@[go_sem] def q54_1:=mkR hint54 b54 1 _
theorem ge54{ρ:Type}:GE ρ P hints 54 2 false [.tmp 4] hint54 b54 q54.1:=ge_ok Tryz.func54 (by kernel_rfl) q54.2 rfl (by kernel_rfl) (by kernel_rfl)
noncomputable def b55:Code:=Tryz.f55.body.getD .skip
@[go_sem] def q55:=mkQ hint55 b55 _
@[go_sem] def q55_0:=mkR hint55 b55 0 _
@[go_sem] def q55_1:=mkR hint55 b55 1 _
@[go_sem] def q55_2:=mkR hint55 b55 2 _
theorem ge55{ρ:Type}:GE ρ P hints 55 2 false [.tmp 4,.tmp 5] hint55 b55 q55.1:=ge_ok Tryz.func55 (by kernel_rfl) q55.2 rfl (by kernel_rfl) (by kernel_rfl)
noncomputable def b56:Code:=Tryz.f56.body.getD .skip
@[go_sem] def q56:=mkQ hint56 b56 _
@[go_sem] def q56_0:=mkR hint56 b56 0 _
theorem ge56{ρ:Type}:GE ρ P hints 56 1 false [.tmp 2,.tmp 3] hint56 b56 q56.1:=ge_ok Tryz.func56 (by kernel_rfl) q56.2 rfl (by kernel_rfl) (by kernel_rfl)
noncomputable def b57:Code:=Tryz.f57.body.getD .skip
@[go_sem] def q57:=mkQ hint57 b57 _
@[go_sem] def q57_0:=mkR hint57 b57 0 _
theorem ge57{ρ:Type}:GE ρ P hints 57 3 false [.cell 6 72] hint57 b57 q57.1:=ge_ok Tryz.func57 (by kernel_rfl) q57.2 rfl (by kernel_rfl) (by kernel_rfl)
noncomputable def b58:Code:=Tryz.f58.body.getD .skip
@[go_sem] def q58:=mkQ hint58 b58 _
theorem ge58{ρ:Type}:GE ρ P hints 58 2 false [.cell 4 72] hint58 b58 q58.1:=ge_ok Tryz.func58 (by kernel_rfl) q58.2 rfl (by kernel_rfl) (by kernel_rfl)
noncomputable def b59:Code:=Tryz.f59.body.getD .skip
@[go_sem] def q59:=mkQ hint59 b59 _
theorem ge59{ρ:Type}:GE ρ P hints 59 3 false [.tmp 6] hint59 b59 q59.1:=ge_ok Tryz.func59 (by kernel_rfl) q59.2 rfl (by kernel_rfl) (by kernel_rfl)
noncomputable def b60:Code:=Tryz.f60.body.getD .skip
@[go_sem] def q60:=mkQ hint60 b60 _
theorem ge60{ρ:Type}:GE ρ P hints 60 2 false [.tmp 4,.tmp 5] hint60 b60 q60.1:=ge_ok Tryz.func60 (by kernel_rfl) q60.2 rfl (by kernel_rfl) (by kernel_rfl)
noncomputable def b61:Code:=Tryz.f61.body.getD .skip
@[go_sem] def q61:=mkQ hint61 b61 _
theorem ge61{ρ:Type}:GE ρ P hints 61 1 false [.tmp 2] hint61 b61 q61.1:=ge_ok Tryz.func61 (by kernel_rfl) q61.2 rfl (by kernel_rfl) (by kernel_rfl)
noncomputable def b62:Code:=Tryz.f62.body.getD .skip
@[go_sem] def q62:=mkQ hint62 b62 _
theorem ge62{ρ:Type}:GE ρ P hints 62 3 false [.tmp 6] hint62 b62 q62.1:=ge_ok Tryz.func62 (by kernel_rfl) q62.2 rfl (by kernel_rfl) (by kernel_rfl)
noncomputable def b63:Code:=Tryz.f63.body.getD .skip
@[go_sem] def q63:=mkQ hint63 b63 _
theorem ge63{ρ:Type}:GE ρ P hints 63 1 false [.tmp 2] hint63 b63 q63.1:=ge_ok Tryz.func63 (by kernel_rfl) q63.2 rfl (by kernel_rfl) (by kernel_rfl)
noncomputable def b64:Code:=Tryz.f64.body.getD .skip
@[go_sem] def q64:=mkQ hint64 b64 _
theorem ge64{ρ:Type}:GE ρ P hints 64 1 false [.tmp 2] hint64 b64 q64.1:=ge_ok Tryz.func64 (by kernel_rfl) q64.2 rfl (by kernel_rfl) (by kernel_rfl)
@[go_sem] theorem ge65{ρ:Type}(ds:List D)(H:List Ob)(κ:List T×List Ob→Option ρ):cbK (call 65 ds H) κ=(Go.Tr7.extNum ds).bind fun rs=>if isPanT rs=true then none else κ (rs,H):=extB (by decide) rfl
noncomputable def b66:Code:=Tryz.f66.body.getD .skip
@[go_sem] def q66:=mkQ hint66 b66 _
theorem ge66{ρ:Type}:GE ρ P hints 66 2 false [.tmp 4] hint66 b66 q66.1:=ge_ok Tryz.func66 (by kernel_rfl) q66.2 rfl (by kernel_rfl) (by kernel_rfl)
noncomputable def b67:Code:=Tryz.f67.body.getD .skip
@[go_sem] def q67:=mkQ hint67 b67 _
theorem ge67{ρ:Type}:GE ρ P hints 67 1 false [] hint67 b67 q67.1:=ge_ok Tryz.func67 (by kernel_rfl) q67.2 rfl (by kernel_rfl) (by kernel_rfl)
noncomputable def b68:Code:=Tryz.f68.body.getD .skip
@[go_sem] def q68:=mkQ hint68 b68 _
theorem ge68{ρ:Type}:GE ρ P hints 68 1 false [] hint68 b68 q68.1:=ge_ok Tryz.func68 (by kernel_rfl) q68.2 rfl (by kernel_rfl) (by kernel_rfl)
noncomputable def b69:Code:=Tryz.f69.body.getD .skip
@[go_sem] def q69:=mkQ hint69 b69 _
@[go_sem] def q69_0:=mkR hint69 b69 0 _
theorem ge69{ρ:Type}:GE ρ P hints 69 4 false [] hint69 b69 q69.1:=ge_ok Tryz.func69 (by kernel_rfl) q69.2 rfl (by kernel_rfl) (by kernel_rfl)
noncomputable def b70:Code:=Tryz.f70.body.getD .skip
@[go_sem] def q70:=mkQ hint70 b70 _
theorem ge70{ρ:Type}:GE ρ P hints 70 2 false [] hint70 b70 q70.1:=ge_ok Tryz.func70 (by kernel_rfl) q70.2 rfl (by kernel_rfl) (by kernel_rfl)
noncomputable def b71:Code:=Tryz.f71.body.getD .skip
@[go_sem] def q71:=mkQ hint71 b71 _
theorem ge71{ρ:Type}:GE ρ P hints 71 0 false [.tmp 0] hint71 b71 q71.1:=ge_ok Tryz.func71 (by kernel_rfl) q71.2 rfl (by kernel_rfl) (by kernel_rfl)
noncomputable def b72:Code:=Tryz.f72.body.getD .skip
@[go_sem] def q72:=mkQ hint72 b72 _
theorem ge72{ρ:Type}:GE ρ P hints 72 4 false [.tmp 8] hint72 b72 q72.1:=ge_ok Tryz.func72 (by kernel_rfl) q72.2 rfl (by kernel_rfl) (by kernel_rfl)
noncomputable def b73:Code:=Tryz.f73.body.getD .skip
@[go_sem] def q73:=mkQ hint73 b73 _
theorem ge73{ρ:Type}:GE ρ P hints 73 2 false [.tmp 4,.tmp 5] hint73 b73 q73.1:=ge_ok Tryz.func73 (by kernel_rfl) q73.2 rfl (by kernel_rfl) (by kernel_rfl)
noncomputable def b74:Code:=Tryz.f74.body.getD .skip
@[go_sem] def q74:=mkQ hint74 b74 _
theorem ge74{ρ:Type}:GE ρ P hints 74 2 false [.tmp 4,.tmp 5] hint74 b74 q74.1:=ge_ok Tryz.func74 (by kernel_rfl) q74.2 rfl (by kernel_rfl) (by kernel_rfl)
noncomputable def b75:Code:=Tryz.f75.body.getD .skip
@[go_sem] def q75:=mkQ hint75 b75 _
theorem ge75{ρ:Type}:GE ρ P hints 75 3 false [.tmp 6,.tmp 7,.tmp 8] hint75 b75 q75.1:=ge_ok Tryz.func75 (by kernel_rfl) q75.2 rfl (by kernel_rfl) (by kernel_rfl)
noncomputable def b76:Code:=Tryz.f76.body.getD .skip
@[go_sem] def q76:=mkQ hint76 b76 _
theorem ge76{ρ:Type}:GE ρ P hints 76 1 false [.tmp 2] hint76 b76 q76.1:=ge_ok Tryz.func76 (by kernel_rfl) q76.2 rfl (by kernel_rfl) (by kernel_rfl)
noncomputable def b77:Code:=Tryz.f77.body.getD .skip
@[go_sem] def q77:=mkQ hint77 b77 _
@[go_sem] def q77_0:=mkR hint77 b77 0 _
theorem ge77{ρ:Type}:GE ρ P hints 77 2 false [.tmp 4] hint77 b77 q77.1:=ge_ok Tryz.func77 (by kernel_rfl) q77.2 rfl (by kernel_rfl) (by kernel_rfl)
noncomputable def b78:Code:=Tryz.f78.body.getD .skip
@[go_sem] def q78:=mkQ hint78 b78 _
theorem ge78{ρ:Type}:GE ρ P hints 78 1 false [.tmp 2] hint78 b78 q78.1:=ge_ok Tryz.func78 (by kernel_rfl) q78.2 rfl (by kernel_rfl) (by kernel_rfl)
noncomputable def b79:Code:=Tryz.f79.body.getD .skip
@[go_sem] def q79:=mkQ hint79 b79 _
@[go_sem] def q79_0:=mkR hint79 b79 0 _
theorem ge79{ρ:Type}:GE ρ P hints 79 2 false [.tmp 4] hint79 b79 q79.1:=ge_ok Tryz.func79 (by kernel_rfl) q79.2 rfl (by kernel_rfl) (by kernel_rfl)
noncomputable def b80:Code:=Tryz.f80.body.getD .skip
@[go_sem] def q80:=mkQ hint80 b80 _
theorem ge80{ρ:Type}:GE ρ P hints 80 2 false [.tmp 3] hint80 b80 q80.1:=ge_ok Tryz.func80 (by kernel_rfl) q80.2 rfl (by kernel_rfl) (by kernel_rfl)
noncomputable def b81:Code:=Tryz.f81.body.getD .skip
@[go_sem] def q81:=mkQ hint81 b81 _
@[go_sem] def q81_0:=mkR hint81 b81 0 _
theorem ge81{ρ:Type}:GE ρ P hints 81 2 false [.tmp 4] hint81 b81 q81.1:=ge_ok Tryz.func81 (by kernel_rfl) q81.2 rfl (by kernel_rfl) (by kernel_rfl)
noncomputable def b82:Code:=Tryz.f82.body.getD .skip
@[go_sem] def q82:=mkQ hint82 b82 _
theorem ge82{ρ:Type}:GE ρ P hints 82 2 false [.tmp 3] hint82 b82 q82.1:=ge_ok Tryz.func82 (by kernel_rfl) q82.2 rfl (by kernel_rfl) (by kernel_rfl)
noncomputable def b83:Code:=Tryz.f83.body.getD .skip
@[go_sem] def q83:=mkQ hint83 b83 _
@[go_sem] def q83_0:=mkR hint83 b83 0 _
theorem ge83{ρ:Type}:GE ρ P hints 83 2 false [.tmp 4] hint83 b83 q83.1:=ge_ok Tryz.func83 (by kernel_rfl) q83.2 rfl (by kernel_rfl) (by kernel_rfl)
noncomputable def b84:Code:=Tryz.f84.body.getD .skip
@[go_sem] def q84:=mkQ hint84 b84 _
theorem ge84{ρ:Type}:GE ρ P hints 84 2 false [.tmp 3] hint84 b84 q84.1:=ge_ok Tryz.func84 (by kernel_rfl) q84.2 rfl (by kernel_rfl) (by kernel_rfl)
@[go_sem] theorem ge85{ρ:Type}(ds:List D)(H:List Ob)(κ:List T×List Ob→Option ρ):cbK (call 85 ds H) κ=(Go.Tr7.extDec ds).bind fun rs=>if isPanT rs=true then none else κ (rs,H):=extB (by decide) rfl
noncomputable def b86:Code:=Tryz.f86.body.getD .skip
@[go_sem] def q86:=mkQ hint86 b86 _
theorem ge86{ρ:Type}:GE ρ P hints 86 2 false [.tmp 4] hint86 b86 q86.1:=ge_ok Tryz.func86 (by kernel_rfl) q86.2 rfl (by kernel_rfl) (by kernel_rfl)
noncomputable def b87:Code:=Tryz.f87.body.getD .skip
@[go_sem] def q87:=mkQ hint87 b87 _
theorem ge87{ρ:Type}:GE ρ P hints 87 1 false [.tmp 2] hint87 b87 q87.1:=ge_ok Tryz.func87 (by kernel_rfl) q87.2 rfl (by kernel_rfl) (by kernel_rfl)
noncomputable def b88:Code:=Tryz.f88.body.getD .skip
@[go_sem] def q88:=mkQ hint88 b88 _
theorem ge88{ρ:Type}:GE ρ P hints 88 1 false [.tmp 2] hint88 b88 q88.1:=ge_ok Tryz.func88 (by kernel_rfl) q88.2 rfl (by kernel_rfl) (by kernel_rfl)
noncomputable def b89:Code:=Tryz.f89.body.getD .skip
@[go_sem] def q89:=mkQ hint89 b89 _
theorem ge89{ρ:Type}:GE ρ P hints 89 0 false [.tmp 0] hint89 b89 q89.1:=ge_ok Tryz.func89 (by kernel_rfl) q89.2 rfl (by kernel_rfl) (by kernel_rfl)
noncomputable def b90:Code:=Tryz.f90.body.getD .skip
@[go_sem] def q90:=mkQ hint90 b90 _
theorem ge90{ρ:Type}:GE ρ P hints 90 1 false [.tmp 2] hint90 b90 q90.1:=ge_ok Tryz.func90 (by kernel_rfl) q90.2 rfl (by kernel_rfl) (by kernel_rfl)
noncomputable def b91:Code:=Tryz.f91.body.getD .skip
@[go_sem] def q91:=mkQ hint91 b91 _
@[go_sem] def q91_0:=mkR hint91 b91 0 _
theorem ge91{ρ:Type}:GE ρ P hints 91 1 false [.tmp 2] hint91 b91 q91.1:=ge_ok Tryz.func91 (by kernel_rfl) q91.2 rfl (by kernel_rfl) (by kernel_rfl)
noncomputable def b92:Code:=Tryz.f92.body.getD .skip
@[go_sem] def q92:=mkQ hint92 b92 _
@[go_sem] def q92_0:=mkR hint92 b92 0 _
theorem ge92{ρ:Type}:GE ρ P hints 92 3 false [.tmp 6] hint92 b92 q92.1:=ge_ok Tryz.func92 (by kernel_rfl) q92.2 rfl (by kernel_rfl) (by kernel_rfl)
noncomputable def b93:Code:=Tryz.f93.body.getD .skip
@[go_sem] def q93:=mkQ hint93 b93 _
theorem ge93{ρ:Type}:GE ρ P hints 93 2 false [.cell 4 72] hint93 b93 q93.1:=ge_ok Tryz.func93 (by kernel_rfl) q93.2 rfl (by kernel_rfl) (by kernel_rfl)
noncomputable def b94:Code:=Tryz.f94.body.getD .skip
@[go_sem] def q94:=mkQ hint94 b94 _
theorem ge94{ρ:Type}:GE ρ P hints 94 2 false [.cell 4 72] hint94 b94 q94.1:=ge_ok Tryz.func94 (by kernel_rfl) q94.2 rfl (by kernel_rfl) (by kernel_rfl)
noncomputable def b95:Code:=Tryz.f95.body.getD .skip
@[go_sem] def q95:=mkQ hint95 b95 _
theorem ge95{ρ:Type}:GE ρ P hints 95 3 false [.cell 6 72] hint95 b95 q95.1:=ge_ok Tryz.func95 (by kernel_rfl) q95.2 rfl (by kernel_rfl) (by kernel_rfl)
noncomputable def b96:Code:=Tryz.f96.body.getD .skip
@[go_sem] def q96:=mkQ hint96 b96 _
@[go_sem] def q96_0:=mkR hint96 b96 0 _
theorem ge96{ρ:Type}:GE ρ P hints 96 2 false [.tmp 4] hint96 b96 q96.1:=ge_ok Tryz.func96 (by kernel_rfl) q96.2 rfl (by kernel_rfl) (by kernel_rfl)
noncomputable def b97:Code:=Tryz.f97.body.getD .skip
@[go_sem] def q97:=mkQ hint97 b97 _
@[go_sem] def q97_0:=mkR hint97 b97 0 _
theorem ge97{ρ:Type}:GE ρ P hints 97 2 false [.tmp 4] hint97 b97 q97.1:=ge_ok Tryz.func97 (by kernel_rfl) q97.2 rfl (by kernel_rfl) (by kernel_rfl)
noncomputable def b98:Code:=Tryz.f98.body.getD .skip
@[go_sem] def q98:=mkQ hint98 b98 _
@[go_sem] def q98_0:=mkR hint98 b98 0 _
theorem ge98{ρ:Type}:GE ρ P hints 98 2 false [.tmp 4] hint98 b98 q98.1:=ge_ok Tryz.func98 (by kernel_rfl) q98.2 rfl (by kernel_rfl) (by kernel_rfl)
noncomputable def b99:Code:=Tryz.f99.body.getD .skip
@[go_sem] def q99:=mkQ hint99 b99 _
@[go_sem] def q99_0:=mkR hint99 b99 0 _
theorem ge99{ρ:Type}:GE ρ P hints 99 2 false [.tmp 4] hint99 b99 q99.1:=ge_ok Tryz.func99 (by kernel_rfl) q99.2 rfl (by kernel_rfl) (by kernel_rfl)
noncomputable def b100:Code:=Tryz.f100.body.getD .skip
@[go_sem] def q100:=mkQ hint100 b100 _
@[go_sem] def q100_0:=mkR hint100 b100 0 _
theorem ge100{ρ:Type}:GE ρ P hints 100 2 false [.tmp 4] hint100 b100 q100.1:=ge_ok Tryz.func100 (by kernel_rfl) q100.2 rfl (by kernel_rfl) (by kernel_rfl)
noncomputable def b101:Code:=Tryz.f101.body.getD .skip
@[go_sem] def q101:=mkQ hint101 b101 _
@[go_sem] def q101_0:=mkR hint101 b101 0 _
@[go_sem] def q101_1:=mkR hint101 b101 1 _
theorem ge101{ρ:Type}:GE ρ P hints 101 1 false [.tmp 2,.tmp 3] hint101 b101 q101.1:=ge_ok Tryz.func101 (by kernel_rfl) q101.2 rfl (by kernel_rfl) (by kernel_rfl)
noncomputable def b102:Code:=Tryz.f102.body.getD .skip
@[go_sem] def q102:=mkQ hint102 b102 _
theorem ge102{ρ:Type}:GE ρ P hints 102 2 false [.tmp 4] hint102 b102 q102.1:=ge_ok Tryz.func102 (by kernel_rfl) q102.2 rfl (by kernel_rfl) (by kernel_rfl)
noncomputable def b103:Code:=Tryz.f103.body.getD .skip
@[go_sem] def q103:=mkQ hint103 b103 _
theorem ge103{ρ:Type}:GE ρ P hints 103 1 false [.tmp 2] hint103 b103 q103.1:=ge_ok Tryz.func103 (by kernel_rfl) q103.2 rfl (by kernel_rfl) (by kernel_rfl)
noncomputable def b104:Code:=Tryz.f104.body.getD .skip
@[go_sem] def q104:=mkQ hint104 b104 _
theorem ge104{ρ:Type}:GE ρ P hints 104 1 false [.tmp 2] hint104 b104 q104.1:=ge_ok Tryz.func104 (by kernel_rfl) q104.2 rfl (by kernel_rfl) (by kernel_rfl)
noncomputable def b106:Code:=Tryz.f106.body.getD .skip
@[go_sem] def q106:=mkQ hint106 b106 _
@[go_sem] def q106_0:=mkR hint106 b106 0 _
theorem ge106{ρ:Type}:GE ρ P hints 106 1 false [.tmp 2] hint106 b106 q106.1:=ge_ok Tryz.func106 (by kernel_rfl) q106.2 rfl (by kernel_rfl) (by kernel_rfl)
noncomputable def b107:Code:=Tryz.f107.body.getD .skip
@[go_sem] def q107:=mkQ hint107 b107 _
theorem ge107{ρ:Type}:GE ρ P hints 107 2 false [.tmp 4] hint107 b107 q107.1:=ge_ok Tryz.func107 (by kernel_rfl) q107.2 rfl (by kernel_rfl) (by kernel_rfl)
noncomputable def b108:Code:=Tryz.f108.body.getD .skip
@[go_sem] def q108:=mkQ hint108 b108 _
theorem ge108{ρ:Type}:GE ρ P hints 108 3 false [.tmp 6] hint108 b108 q108.1:=ge_ok Tryz.func108 (by kernel_rfl) q108.2 rfl (by kernel_rfl) (by kernel_rfl)
noncomputable def b109:Code:=Tryz.f109.body.getD .skip
@[go_sem] def q109:=mkQ hint109 b109 _
theorem ge109{ρ:Type}:GE ρ P hints 109 3 false [] hint109 b109 q109.1:=ge_ok Tryz.func109 (by kernel_rfl) q109.2 rfl (by kernel_rfl) (by kernel_rfl)
noncomputable def b110:Code:=Tryz.f110.body.getD .skip
@[go_sem] def q110:=mkQ hint110 b110 _
theorem ge110{ρ:Type}:GE ρ P hints 110 1 false [.cell 2 79] hint110 b110 q110.1:=ge_ok Tryz.func110 (by kernel_rfl) q110.2 rfl (by kernel_rfl) (by kernel_rfl)
noncomputable def b111:Code:=Tryz.f111.body.getD .skip
@[go_sem] def q111:=mkQ hint111 b111 _
theorem ge111{ρ:Type}:GE ρ P hints 111 2 false [] hint111 b111 q111.1:=ge_ok Tryz.func111 (by kernel_rfl) q111.2 rfl (by kernel_rfl) (by kernel_rfl)
noncomputable def b112:Code:=Tryz.f112.body.getD .skip
@[go_sem] def q112:=mkQ hint112 b112 _
theorem ge112{ρ:Type}:GE ρ P hints 112 2 false [] hint112 b112 q112.1:=ge_ok Tryz.func112 (by kernel_rfl) q112.2 rfl (by kernel_rfl) (by kernel_rfl)
noncomputable def b113:Code:=Tryz.f113.body.getD .skip
@[go_sem] def q113:=mkQ hint113 b113 _
@[go_sem] def q113_0:=mkR hint113 b113 0 _
theorem ge113{ρ:Type}:GE ρ P hints 113 2 false [.tmp 4,.tmp 5] hint113 b113 q113.1:=ge_ok Tryz.func113 (by kernel_rfl) q113.2 rfl (by kernel_rfl) (by kernel_rfl)
noncomputable def b119:Code:=Tryz.f119.body.getD .skip
@[go_sem] def q119:=mkQ hint119 b119 _
theorem ge119{ρ:Type}:GE ρ P hints 119 2 false [.cell 4 91] hint119 b119 q119.1:=ge_ok Tryz.func119 (by kernel_rfl) q119.2 rfl (by kernel_rfl) (by kernel_rfl)
noncomputable def b126:Code:=Tryz.f126.body.getD .skip
@[go_sem] def q126:=mkQ hint126 b126 _
theorem ge126{ρ:Type}:GE ρ P hints 126 2 false [.tmp 4] hint126 b126 q126.1:=ge_ok Tryz.func126 (by kernel_rfl) q126.2 rfl (by kernel_rfl) (by kernel_rfl)
noncomputable def b127:Code:=Tryz.f127.body.getD .skip
@[go_sem] def q127:=mkQ hint127 b127 _
theorem ge127{ρ:Type}:GE ρ P hints 127 2 false [.tmp 4] hint127 b127 q127.1:=ge_ok Tryz.func127 (by kernel_rfl) q127.2 rfl (by kernel_rfl) (by kernel_rfl)
noncomputable def b128:Code:=Tryz.f128.body.getD .skip
@[go_sem] def q128:=mkQ hint128 b128 _
theorem ge128{ρ:Type}:GE ρ P hints 128 3 false [.tmp 6,.tmp 7] hint128 b128 q128.1:=ge_ok Tryz.func128 (by kernel_rfl) q128.2 rfl (by kernel_rfl) (by kernel_rfl)
noncomputable def b129:Code:=Tryz.f129.body.getD .skip
@[go_sem] def q129:=mkQ hint129 b129 _
theorem ge129{ρ:Type}:GE ρ P hints 129 2 false [.tmp 4,.tmp 5] hint129 b129 q129.1:=ge_ok Tryz.func129 (by kernel_rfl) q129.2 rfl (by kernel_rfl) (by kernel_rfl)
noncomputable def b130:Code:=Tryz.f130.body.getD .skip
@[go_sem] def q130:=mkQ hint130 b130 _
theorem ge130{ρ:Type}:GE ρ P hints 130 2 false [.tmp 3] hint130 b130 q130.1:=ge_ok Tryz.func130 (by kernel_rfl) q130.2 rfl (by kernel_rfl) (by kernel_rfl)
noncomputable def b134:Code:=Tryz.f134.body.getD .skip
@[go_sem] def q134:=mkQ hint134 b134 _
theorem ge134{ρ:Type}:GE ρ P hints 134 1 false [] hint134 b134 q134.1:=ge_ok Tryz.func134 (by kernel_rfl) q134.2 rfl (by kernel_rfl) (by kernel_rfl)
noncomputable def b135:Code:=Tryz.f135.body.getD .skip
@[go_sem] def q135:=mkQ hint135 b135 _
theorem ge135{ρ:Type}:GE ρ P hints 135 1 false [] hint135 b135 q135.1:=ge_ok Tryz.func135 (by kernel_rfl) q135.2 rfl (by kernel_rfl) (by kernel_rfl)
noncomputable def b136:Code:=Tryz.f136.body.getD .skip
@[go_sem] def q136:=mkQ hint136 b136 _
theorem ge136{ρ:Type}:GE ρ P hints 136 1 false [] hint136 b136 q136.1:=ge_ok Tryz.func136 (by kernel_rfl) q136.2 rfl (by kernel_rfl) (by kernel_rfl)
noncomputable def b137:Code:=Tryz.f137.body.getD .skip
@[go_sem] def q137:=mkQ hint137 b137 _
theorem ge137{ρ:Type}:GE ρ P hints 137 1 false [] hint137 b137 q137.1:=ge_ok Tryz.func137 (by kernel_rfl) q137.2 rfl (by kernel_rfl) (by kernel_rfl)
noncomputable def b147:Code:=Tryz.f147.body.getD .skip
@[go_sem] def q147:=mkQ hint147 b147 _
theorem ge147{ρ:Type}:GE ρ P hints 147 2 false [.tmp 4] hint147 b147 q147.1:=ge_ok Tryz.func147 (by kernel_rfl) q147.2 rfl (by kernel_rfl) (by kernel_rfl)
noncomputable def b148:Code:=Tryz.f148.body.getD .skip
@[go_sem] def q148:=mkQ hint148 b148 _
theorem ge148{ρ:Type}:GE ρ P hints 148 2 false [.cell 4 79] hint148 b148 q148.1:=ge_ok Tryz.func148 (by kernel_rfl) q148.2 rfl (by kernel_rfl) (by kernel_rfl)
end
end Go.Etx
namespace Go.Etx
open Go Go.Am Go.Proofs
structure GNode where
 Op:Int
 N:Int
 deriving DecidableEq
@[go_sem] def eNode(x:GNode):D:=.agg [eI x.Op,eI x.N]
@[go_sem] theorem eta_Node(x:GNode):(GNode.mk x.Op x.N)=x:=rfl
structure Gpart where
 text:List UInt8
 op:Int
 binds:Int
 deriving DecidableEq
@[go_sem] def epart(x:Gpart):D:=.agg [eS x.text,eI x.op,eI x.binds]
@[go_sem] theorem eta_etext_part(x:Gpart):(Gpart.mk x.text x.op x.binds)=x:=rfl
@[go_sem] def esi64(b:Bool)(l:List (Int)):D:=.sl b (List.map eI l)
@[go_sem] theorem imms_si64(l:List (Int)):D.imms (List.map eI l)=true:=imms_map fun x=>by simp[go_sem]
@[go_sem] theorem lends_si64(l:List (Int)):D.lends (List.map eI l)=List.map eI l:=lends_same fun x=>by simp[go_sem]
@[go_sem] theorem lows_si64(n:Nat)(l:List (Int)):D.lows n (List.map eI l)=true:=lows_map fun x=>by simp[go_sem,D.low,D.lows]
@[go_sem] theorem unif_si64(l:List (Int)):uniform 1 (tl eI l)=true:=uniform_tl fun x=>by simp[go_sem,D.nc]
@[go_sem] theorem frzs_si64(b:Bool)(l:List (Int)):T.frzs b (tl eI l)=some (List.map eI l):=frzs_tl fun x=>by simp[go_sem,D.norm,D.norm1]
@[go_sem] theorem lowT_si64(n:Nat)(l:List (Int)):T.lows n (tl eI l)=true:=lowT_tl fun x=>by simp[go_sem,D.low,D.lows]
structure GVar where
 Name:List UInt8
 Scalar:Int
 Over:Int
 Lo:Int
 Hi:Int
 Init:Int
 deriving DecidableEq
@[go_sem] def eVar(x:GVar):D:=.agg [eS x.Name,eI x.Scalar,eI x.Over,eI x.Lo,eI x.Hi,eI x.Init]
structure Glex_Token where
 Kind:Int
 N:Int
 At:Int
 Text:List UInt8
 deriving DecidableEq
@[go_sem] def elex_Token(x:Glex_Token):D:=.agg [eI x.Kind,eI x.N,eI x.At,eS x.Text]
structure GChan where
 Name:List UInt8
 Scalar:Int
 Cap:Int
 Lo:Int
 Hi:Int
 Lossy:Bool
 deriving DecidableEq
@[go_sem] def eChan(x:GChan):D:=.agg [eS x.Name,eI x.Scalar,eI x.Cap,eI x.Lo,eI x.Hi,eB x.Lossy]
structure GScalar where
 Name:List UInt8
 Size:Int
 deriving DecidableEq
@[go_sem] def eScalar(x:GScalar):D:=.agg [eS x.Name,eI x.Size]
structure Gr09_Token where
 Kind:Int
 N:Int
 At:Int
 Text:List UInt8
 deriving DecidableEq
@[go_sem] def er09_Token(x:Gr09_Token):D:=.agg [eI x.Kind,eI x.N,eI x.At,eS x.Text]
@[go_sem] theorem imms_sstring(l:List (List UInt8)):D.imms (List.map eS l)=true:=imms_map fun x=>by simp[go_sem]
@[go_sem] theorem frzs_sstring(b:Bool)(l:List (List UInt8)):T.frzs b (tl eS l)=some (List.map eS l):=frzs_tl fun x=>by simp[go_sem,D.norm,D.norm1]
@[go_sem] def esScalar(b:Bool)(l:List (GScalar)):D:=.sl b (List.map eScalar l)
@[go_sem] theorem imms_sScalar(l:List (GScalar)):D.imms (List.map eScalar l)=true:=imms_map fun x=>by simp[go_sem]
@[go_sem] theorem lends_sScalar(l:List (GScalar)):D.lends (List.map eScalar l)=List.map eScalar l:=lends_same fun x=>by simp[go_sem]
@[go_sem] theorem lows_sScalar(n:Nat)(l:List (GScalar)):D.lows n (List.map eScalar l)=true:=lows_map fun x=>by simp[go_sem,D.low,D.lows]
@[go_sem] def esVar(b:Bool)(l:List (GVar)):D:=.sl b (List.map eVar l)
@[go_sem] theorem imms_sVar(l:List (GVar)):D.imms (List.map eVar l)=true:=imms_map fun x=>by simp[go_sem]
@[go_sem] theorem lends_sVar(l:List (GVar)):D.lends (List.map eVar l)=List.map eVar l:=lends_same fun x=>by simp[go_sem]
@[go_sem] theorem lows_sVar(n:Nat)(l:List (GVar)):D.lows n (List.map eVar l)=true:=lows_map fun x=>by simp[go_sem,D.low,D.lows]
@[go_sem] def esChan(b:Bool)(l:List (GChan)):D:=.sl b (List.map eChan l)
@[go_sem] theorem imms_sChan(l:List (GChan)):D.imms (List.map eChan l)=true:=imms_map fun x=>by simp[go_sem]
@[go_sem] theorem lends_sChan(l:List (GChan)):D.lends (List.map eChan l)=List.map eChan l:=lends_same fun x=>by simp[go_sem]
@[go_sem] theorem lows_sChan(n:Nat)(l:List (GChan)):D.lows n (List.map eChan l)=true:=lows_map fun x=>by simp[go_sem,D.low,D.lows]
@[go_sem] def esNode(b:Bool)(l:List (GNode)):D:=.sl b (List.map eNode l)
@[go_sem] theorem imms_sNode(l:List (GNode)):D.imms (List.map eNode l)=true:=imms_map fun x=>by simp[go_sem]
@[go_sem] theorem lends_sNode(l:List (GNode)):D.lends (List.map eNode l)=List.map eNode l:=lends_same fun x=>by simp[go_sem]
@[go_sem] theorem lows_sNode(n:Nat)(l:List (GNode)):D.lows n (List.map eNode l)=true:=lows_map fun x=>by simp[go_sem,D.low,D.lows]
@[go_sem] theorem unif_sNode(l:List (GNode)):uniform 2 (tl eNode l)=true:=uniform_tl fun x=>by simp[go_sem,D.nc]
@[go_sem] theorem frzs_sNode(b:Bool)(l:List (GNode)):T.frzs b (tl eNode l)=some (List.map eNode l):=frzs_tl fun x=>by simp[go_sem,D.norm,D.norm1]
@[go_sem] theorem lowT_sNode(n:Nat)(l:List (GNode)):T.lows n (tl eNode l)=true:=lowT_tl fun x=>by simp[go_sem,D.low,D.lows]
@[go_sem] theorem snoc_sNode(l:List GNode)(x0:Int)(x1:Int):tl eNode l++[.d (.agg [eI x0,eI x1])]=tl eNode (l++[(GNode.mk x0 x1)]):=tl_snoc (x:=(GNode.mk x0 x1))
@[go_sem] theorem imms_slex_Token(l:List (Glex_Token)):D.imms (List.map elex_Token l)=true:=imms_map fun x=>by simp[go_sem]
@[go_sem] theorem lends_slex_Token(l:List (Glex_Token)):D.lends (List.map elex_Token l)=List.map elex_Token l:=lends_same fun x=>by simp[go_sem]
@[go_sem] theorem lows_slex_Token(n:Nat)(l:List (Glex_Token)):D.lows n (List.map elex_Token l)=true:=lows_map fun x=>by simp[go_sem,D.low,D.lows]
@[go_sem] theorem unif_slex_Token(l:List (Glex_Token)):uniform 4 (tl elex_Token l)=true:=uniform_tl fun x=>by simp[go_sem,D.nc]
@[go_sem] theorem frzs_slex_Token(b:Bool)(l:List (Glex_Token)):T.frzs b (tl elex_Token l)=some (List.map elex_Token l):=frzs_tl fun x=>by simp[go_sem,D.norm,D.norm1]
@[go_sem] theorem snoc_slex_Token(l:List Glex_Token)(x0:Int)(x1:Int)(x2:Int)(x3:List UInt8):tl elex_Token l++[.d (.agg [eI x0,eI x1,eI x2,eS x3])]=tl elex_Token (l++[(Glex_Token.mk x0 x1 x2 x3)]):=tl_snoc (x:=(Glex_Token.mk x0 x1 x2 x3))
@[go_sem] def esr09_Token(b:Bool)(l:List (Gr09_Token)):D:=.sl b (List.map er09_Token l)
@[go_sem] theorem imms_sr09_Token(l:List (Gr09_Token)):D.imms (List.map er09_Token l)=true:=imms_map fun x=>by simp[go_sem]
@[go_sem] theorem lends_sr09_Token(l:List (Gr09_Token)):D.lends (List.map er09_Token l)=List.map er09_Token l:=lends_same fun x=>by simp[go_sem]
@[go_sem] theorem lows_sr09_Token(n:Nat)(l:List (Gr09_Token)):D.lows n (List.map er09_Token l)=true:=lows_map fun x=>by simp[go_sem,D.low,D.lows]
@[go_sem] theorem unif_sr09_Token(l:List (Gr09_Token)):uniform 4 (tl er09_Token l)=true:=uniform_tl fun x=>by simp[go_sem,D.nc]
@[go_sem] theorem frzs_sr09_Token(b:Bool)(l:List (Gr09_Token)):T.frzs b (tl er09_Token l)=some (List.map er09_Token l):=frzs_tl fun x=>by simp[go_sem,D.norm,D.norm1]
@[go_sem] theorem snoc_sr09_Token(l:List Gr09_Token)(x0:Int)(x1:Int)(x2:Int)(x3:List UInt8):tl er09_Token l++[.d (.agg [eI x0,eI x1,eI x2,eS x3])]=tl er09_Token (l++[(Gr09_Token.mk x0 x1 x2 x3)]):=tl_snoc (x:=(Gr09_Token.mk x0 x1 x2 x3))
structure GAct where
 Kind:Int
 To:Int
 Local:Int
 Index:List GNode
 Value:List GNode
 deriving DecidableEq
@[go_sem] def eAct(b:Bool)(x:GAct):D:=.agg [eI x.Kind,eI x.To,eI x.Local,(esNode b) x.Index,(esNode b) x.Value]
@[go_sem] def esAct(b:Bool)(l:List (GAct)):D:=.sl b (List.map (eAct b) l)
@[go_sem] theorem imms_sAct(l:List (GAct)):D.imms (List.map (eAct false) l)=true:=imms_map fun x=>by simp[go_sem]
@[go_sem] theorem lends_sAct(b:Bool)(l:List (GAct)):D.lends (List.map (eAct b) l)=List.map (eAct true) l:=lends_to fun x=>by simp[go_sem]
@[go_sem] theorem lows_sAct(b:Bool)(n:Nat)(l:List (GAct)):D.lows n (List.map (eAct b) l)=true:=lows_map fun x=>by simp[go_sem,D.low,D.lows]
structure GCmd where
 Name:List UInt8
 From:Int
 To:Int
 Guard:List GNode
 Acts:List GAct
 Fair:Bool
 deriving DecidableEq
@[go_sem] def eCmd(b:Bool)(x:GCmd):D:=.agg [eS x.Name,eI x.From,eI x.To,(esNode b) x.Guard,(esAct b) x.Acts,eB x.Fair]
@[go_sem] def esCmd(b:Bool)(l:List (GCmd)):D:=.sl b (List.map (eCmd b) l)
@[go_sem] theorem imms_sCmd(l:List (GCmd)):D.imms (List.map (eCmd false) l)=true:=imms_map fun x=>by simp[go_sem]
@[go_sem] theorem lends_sCmd(b:Bool)(l:List (GCmd)):D.lends (List.map (eCmd b) l)=List.map (eCmd true) l:=lends_to fun x=>by simp[go_sem]
@[go_sem] theorem lows_sCmd(b:Bool)(n:Nat)(l:List (GCmd)):D.lows n (List.map (eCmd b) l)=true:=lows_map fun x=>by simp[go_sem,D.low,D.lows]
structure GProc where
 Name:List UInt8
 Over:Int
 Locs:Int
 Vars:List GVar
 Cmds:List GCmd
 deriving DecidableEq
@[go_sem] def eProc(b:Bool)(x:GProc):D:=.agg [eS x.Name,eI x.Over,eI x.Locs,(esVar b) x.Vars,(esCmd b) x.Cmds]
@[go_sem] def esProc(b:Bool)(l:List (GProc)):D:=.sl b (List.map (eProc b) l)
@[go_sem] theorem imms_sProc(l:List (GProc)):D.imms (List.map (eProc false) l)=true:=imms_map fun x=>by simp[go_sem]
@[go_sem] theorem lends_sProc(b:Bool)(l:List (GProc)):D.lends (List.map (eProc b) l)=List.map (eProc true) l:=lends_to fun x=>by simp[go_sem]
@[go_sem] theorem lows_sProc(b:Bool)(n:Nat)(l:List (GProc)):D.lows n (List.map (eProc b) l)=true:=lows_map fun x=>by simp[go_sem,D.low,D.lows]
structure GScope where
 Scalars:List GScalar
 Vars:List GVar
 Chans:List GChan
 Procs:List GProc
 Locals:List GVar
 Self:Int
 deriving DecidableEq
@[go_sem] def eScope(b:Bool)(x:GScope):D:=.agg [(esScalar b) x.Scalars,(esVar b) x.Vars,(esChan b) x.Chans,(esProc b) x.Procs,(esVar b) x.Locals,eI x.Self]
@[go_sem] theorem eta_Scope(x:GScope):(GScope.mk x.Scalars x.Vars x.Chans x.Procs x.Locals x.Self)=x:=rfl
structure Gr11_P where
 T:List Gr09_Token
 S:GScope
 End:Int
 deriving DecidableEq
@[go_sem] def er11_P(b:Bool)(x:Gr11_P):D:=.agg [(esr09_Token b) x.T,(esScalar b) x.S.Scalars,(esVar b) x.S.Vars,(esChan b) x.S.Chans,(esProc b) x.S.Procs,(esVar b) x.S.Locals,eI x.S.Self,eI x.End]
@[go_sem] theorem eta_r11_P(x:Gr11_P):(Gr11_P.mk x.T x.S x.End)=x:=rfl
end Go.Etx
namespace Go.Am
open Go
section
variable{α β σ τ ρ:Type}
theorem wrap64{x:Int}(h1:-9223372036854775808≤x)(h2:x≤9223372036854775807):IntKind.i64.wrap x=x:=wrap_i64 h1 h2
theorem wrapS{k:Nat}(h:k<4611686018427387904):IntKind.i64.wrap ((k:Int)+1)=((k+1:Nat):Int):=by rw[wrap_i64 (by omega) (by omega)];omega
theorem wrapP{k:Nat}(h0:0<k)(h:k<4611686018427387904):IntKind.i64.wrap ((k:Int) - 1)=((k - 1:Nat):Int):=by rw[wrap_i64 (by omega) (by omega)];omega
theorem iterC_find{Φ:τ→(τ→Option ρ)→Option ρ}(N:Nat)(mk:Nat→τ)(p:Nat→Option (Option ρ))(fin:Option ρ)
  (hs:∀i k,i<N→Φ (mk i) k=match p i with |some r=>r |none=>k (mk (i+1))) (hf:∀k,Φ (mk N) k=fin):iterC Φ (mk 0)=((List.range N).findSome? p).getD fin:=by
 have key:∀n j,j≤N→N - j<n→iterCN Φ n (mk j)=((List.range' j (N - j)).findSome? p).getD fin:=by
  intro n
  induction n with
  |zero=>intro j _ h;omega
  |succ n ih=>
   intro j hj h
   show Φ (mk j) (iterCN Φ n)=_
   by_cases hjN:j=N
   ·subst hjN;rw[hf,Nat.sub_self];rfl
   ·rw[hs j _ (by omega),show N - j=(N - (j+1))+1 by omega,List.range'_succ,List.findSome?_cons]
    cases p j with
    |some r=>rfl
    |none=>exact ih (j+1) (by omega) (by omega)
 refine limE_eq (N+1) fun n hn=> ?_
 rw[key n 0 (by omega) (by omega),List.range_eq_range']
 rfl
theorem iterC_run{Φ:τ→(τ→Option ρ)→Option ρ}(N:Nat)(mk:Nat→τ)(fin:Option ρ)
  (hs:∀i k,i<N→Φ (mk i) k=k (mk (i+1))) (hf:∀k,Φ (mk N) k=fin):iterC Φ (mk 0)=fin:=by
 rw[iterC_find N mk (fun _=>none) fin (fun i k h=>hs i k h) hf]
 have:∀l:List Nat,l.findSome? (fun _=>(none:Option (Option ρ)))=none:=fun l=>by induction l with |nil=>rfl |cons a l ih=>exact ih
 rw[this];rfl
theorem find_all{p:Nat→Bool}{x fin:Option ρ}(N:Nat):((List.range N).findSome? fun i=>if p i=true then none else some x).getD fin=if ∀i,i<N→p i=true then fin else x:=by
 have:∀l:List Nat,(l.findSome? fun i=>if p i=true then none else some x).getD fin=if ∀i∈l,p i=true then fin else x:=fun l=>by
  induction l with
  |nil=>simp
  |cons a l ih=>
   rw[List.findSome?_cons]
   cases ha:p a
   ·simp[ha]
   ·simp only[if_true,ih,List.forall_mem_cons,ha,true_and]
 rw[this]
 simp only[List.mem_range]
theorem iterC_all{Φ:τ→(τ→Option ρ)→Option ρ}(N:Nat)(mk:Nat→τ)(p:Nat→Bool)(x fin:Option ρ)
  (hs:∀i k,i<N→Φ (mk i) k=if p i=true then k (mk (i+1))else x) (hf:∀k,Φ (mk N) k=fin):iterC Φ (mk 0)=if ∀i,i<N→p i=true then fin else x:=by
 rw[iterC_find N mk (fun i=>if p i=true then none else some x) fin (fun i k h=>by rw[hs i k h];cases p i <;>rfl) hf,find_all]
theorem loop_all{Φ:τ→(τ→Option ρ)→Option ρ}(N:Nat)(mk:Nat→τ)(p:Nat→Bool)(x:Option ρ)
  (hs:∀i k,i<N→Φ (mk i) k=if p i=true then k (mk (i+1))else x) (hf:∀k,Φ (mk N) k=Φ (mk N) fun _=>none):iterC Φ (mk 0)=if ∀i,i<N→p i=true then Φ (mk N) fun _=>none else x:=iterC_all N mk p x _ hs hf
theorem iterC_runE{Φ:τ→(τ→Option ρ)→Option ρ}{v:τ}(N:Nat)(mk:Nat→τ)(h0:v=mk 0){fin:Option ρ}
  (hs:∀i k,i<N→Φ (mk i) k=k (mk (i+1))) (hf:∀k,Φ (mk N) k=fin):iterC Φ v=fin:=by rw[h0];exact iterC_run N mk fin hs hf
theorem take_step{l:List α}{i:Nat}(h:i<l.length):l.take (i+1)=l.take i++[l[i]]:=by rw[List.take_succ_eq_append_getElem h]
theorem foldl_step{l:List α}{i:Nat}(h:i<l.length)(f:σ→α→σ)(s:σ):(l.take (i+1)).foldl f s=f ((l.take i).foldl f s) l[i]:=by rw[take_step h,List.foldl_append];rfl
theorem snoc_ind{P:List α→Prop}(h0:P [])(h1:∀l x,P l→P (l++[x]))(l:List α):P l:=by
 have:∀m:List α,P m.reverse:=by
  intro m
  induction m with
  |nil=>exact h0
  |cons a m ih=>rw[List.reverse_cons];exact h1 _ _ ih
 have h:=this l.reverse
 rwa [List.reverse_reverse]at h
end
end Go.Am
namespace Go.Etx
open Go Go.Am Go.Tr7
@[go_sem] theorem ext_dec{n:Int}:extDec [.int .i64 n]=if inR n=true then some [.d (.str (decI n))]else none:=rfl
@[go_sem] theorem ext_num{s:List UInt8}:extNum [.str s]=if decide (s.length≤1000000)=true then some [.d (.int .i64 (numF s).1),.d (.bool (numF s).2)]else none:=rfl
theorem wrap0:IntKind.i64.wrap 0=0:=by decide
theorem wrap1:IntKind.i64.wrap 1=1:=by decide
attribute [go_sem] wrap0 wrap1
@[go_sem] theorem nc_nilp:D.nc .nilp=1:=rfl
def rune(s:List UInt8)(p:Nat):Nat×Nat:=Utf8.decode ⟨s.toArray⟩ p
section
variable{Q:Program}{call:CallF}{h:Hint}{dst:Nat}{ty:TypeId}{ρ:Operand→SV}{k:Wk}
@[go_sem] theorem st_range{t:TypeId}{x:Operand}:stepE Q call h dst ty (.range t x) ρ k=rangeE Q t (ρ x) k:=rfl
@[go_sem] theorem st_next{x:Operand}{b:Bool}:stepE Q call h dst ty (.next x b) ρ k=nextE (ρ x) b k:=rfl
@[go_sem] theorem range_str{t:TypeId}{s:List UInt8}:rangeE Q t (.d (.str s)) k=match Q.underlying t with |some .string=>some (.d (.ptr k.H.length),{k with H:=k.H++[.iter s 0]}) |_=>none:=by
 unfold rangeE
 cases Q.underlying t with
 |none=>rfl
 |some d=>cases d <;>rfl
@[go_sem] theorem next_str{i:Nat}:nextE (.d (.ptr i)) true k=match k.H[i]? with
  |some (.iter s p)=>if p<s.length then some (.tup [.d (.bool true),.d (.int .i64 p),.d (.int .i32 (rune s p).1)],{k with H:=k.H.set i (.iter s (p+(rune s p).2))})else some (.tup [.d (.bool false)],k)
  |_=>none:=by
 simp only[nextE,rune]
 cases k.H[i]? with
 |none=>rfl
 |some o=>cases o with
  |miter m=>cases m <;>rfl
  |_=>rfl
end
@[go_sem] theorem index_agg{Q:Program}{t:TypeId}{k:IntKind}{n:Int}{l:List D}:indexE Q t (.d (.agg l)) (.d (.int k n))=match Q.underlying t with
  |some (.array len e)=>if 0≤n∧n<len∧0<Q.cellsOf e then
    (aggO Q e).bind fun ag=>(if ag then(if n.toNat * Q.cellsOf e+Q.cellsOf e≤l.length then some (.d (.agg (win l (n.toNat * Q.cellsOf e) (Q.cellsOf e))))else none)else(l[n.toNat * Q.cellsOf e]?).bind D.sv1)else none
  |_=>none:=by
 simp only[indexE]
 cases Q.underlying t with
 |none=>rfl
 |some d=>cases d <;>rfl
def sgL:List (List UInt8):=[[58,61],[61,61],[33,61],[60,61],[45,62],[38,38],[124,124],[61,62],[40],[41],[91],[93],[123],[125],[59],[44],[58],[46],[60],[43],[45],[42],[33],[63],[64]]
def ownL:List (List UInt8):=[[115,101,108,102],[110,111,110,101],[108,101,110],[97,116]]
@[go_sem] theorem fold_sgT:[T.d (D.str [58,61]),T.d (D.str [61,61]),T.d (D.str [33,61]),T.d (D.str [60,61]),T.d (D.str [45,62]),T.d (D.str [38,38]),T.d (D.str [124,124]),T.d (D.str [61,62]),T.d (D.str [40]),T.d (D.str [41]),T.d (D.str [91]),T.d (D.str [93]),T.d (D.str [123]),T.d (D.str [125]),T.d (D.str [59]),T.d (D.str [44]),T.d (D.str [58]),T.d (D.str [46]),T.d (D.str [60]),T.d (D.str [43]),T.d (D.str [45]),T.d (D.str [42]),T.d (D.str [33]),T.d (D.str [63]),T.d (D.str [64])]=tl eS sgL:=rfl
theorem key3(a b:Int):keyEq P 3 (.int .i64 a) (.int .i64 b)=some (decide (a=b)):=by
 show((kindOf P 3).bind fun n=>eqK n (.int .i64 a) (.int .i64 b))=_
 rw[t3.2.2.2.2.1]
 exact congrArg some (Bool.eq_iff_iff.2 (by simp only[beq_iff_eq,yD]))
attribute [go_sem] key3
@[go_sem] theorem put66_nil{a:Int}{v:D}:putOb P 84 (.map []) (.int .i64 a) v=some [(.int .i64 a,.d v)]:=by
 simp only[putOb,ma84,xS,key3,Option.isSome_some,if_true,putK]
@[go_sem] theorem put66_cons{a b:Int}{v:D}{t:T}{r:List (D×T)}:putOb P 84 (.map ((.int .i64 b,t)::r)) (.int .i64 a) v=if a=b then some ((.int .i64 a,.d v)::r)else(putOb P 84 (.map r) (.int .i64 a) v).bind fun q=>some ((.int .i64 b,t)::q):=by
 simp only[putOb,ma84,xS,key3,Option.isSome_some,if_true,putK]
 by_cases h:a=b
 ·simp[h]
 ·simp only[h,decide_false,xH,if_false,xF]
  rfl
def opsL:List (D×T):=[(D.int IntKind.i64 9,T.d (D.agg [D.int IntKind.i64 1,D.int IntKind.i64 1,D.int IntKind.i64 1,D.fn (Fn.func 114) [] []])),(D.int IntKind.i64 10,T.d (D.agg [D.int IntKind.i64 1,D.int IntKind.i64 0,D.int IntKind.i64 0,D.fn (Fn.func 116) [] []])),(D.int IntKind.i64 11,T.d (D.agg [D.int IntKind.i64 2,D.int IntKind.i64 0,D.int IntKind.i64 0,D.fn (Fn.func 73) [] []])),(D.int IntKind.i64 12,T.d (D.agg [D.int IntKind.i64 2,D.int IntKind.i64 0,D.int IntKind.i64 0,D.fn (Fn.func 117) [] []])),(D.int IntKind.i64 13,T.d (D.agg [D.int IntKind.i64 2,D.int IntKind.i64 0,D.int IntKind.i64 0,D.fn (Fn.func 118) [] []])),(D.int IntKind.i64 14,T.d (D.agg [D.int IntKind.i64 2,D.int IntKind.i64 (-1),D.int IntKind.i64 1,D.fn (Fn.func 140) [] [D.ptr 4]])),(D.int IntKind.i64 15,T.d (D.agg [D.int IntKind.i64 2,D.int IntKind.i64 (-1),D.int IntKind.i64 1,D.fn (Fn.func 140) [] [D.ptr 5]])),(D.int IntKind.i64 16,T.d (D.agg [D.int IntKind.i64 2,D.int IntKind.i64 0,D.int IntKind.i64 1,D.fn (Fn.func 140) [] [D.ptr 6]])),(D.int IntKind.i64 17,T.d (D.agg [D.int IntKind.i64 2,D.int IntKind.i64 0,D.int IntKind.i64 1,D.fn (Fn.func 140) [] [D.ptr 7]])),(D.int IntKind.i64 18,T.d (D.agg [D.int IntKind.i64 2,D.int IntKind.i64 1,D.int IntKind.i64 1,D.fn (Fn.func 140) [] [D.ptr 8]])),(D.int IntKind.i64 19,T.d (D.agg [D.int IntKind.i64 2,D.int IntKind.i64 1,D.int IntKind.i64 1,D.fn (Fn.func 140) [] [D.ptr 9]]))]
@[go_sem] theorem fold_ops:Ob.map [(D.int IntKind.i64 9,T.d (D.agg [D.int IntKind.i64 1,D.int IntKind.i64 1,D.int IntKind.i64 1,D.fn (Fn.func 114) [] []])),(D.int IntKind.i64 10,T.d (D.agg [D.int IntKind.i64 1,D.int IntKind.i64 0,D.int IntKind.i64 0,D.fn (Fn.func 116) [] []])),(D.int IntKind.i64 11,T.d (D.agg [D.int IntKind.i64 2,D.int IntKind.i64 0,D.int IntKind.i64 0,D.fn (Fn.func 73) [] []])),(D.int IntKind.i64 12,T.d (D.agg [D.int IntKind.i64 2,D.int IntKind.i64 0,D.int IntKind.i64 0,D.fn (Fn.func 117) [] []])),(D.int IntKind.i64 13,T.d (D.agg [D.int IntKind.i64 2,D.int IntKind.i64 0,D.int IntKind.i64 0,D.fn (Fn.func 118) [] []])),(D.int IntKind.i64 14,T.d (D.agg [D.int IntKind.i64 2,D.int IntKind.i64 (-1),D.int IntKind.i64 1,D.fn (Fn.func 140) [] [D.ptr 4]])),(D.int IntKind.i64 15,T.d (D.agg [D.int IntKind.i64 2,D.int IntKind.i64 (-1),D.int IntKind.i64 1,D.fn (Fn.func 140) [] [D.ptr 5]])),(D.int IntKind.i64 16,T.d (D.agg [D.int IntKind.i64 2,D.int IntKind.i64 0,D.int IntKind.i64 1,D.fn (Fn.func 140) [] [D.ptr 6]])),(D.int IntKind.i64 17,T.d (D.agg [D.int IntKind.i64 2,D.int IntKind.i64 0,D.int IntKind.i64 1,D.fn (Fn.func 140) [] [D.ptr 7]])),(D.int IntKind.i64 18,T.d (D.agg [D.int IntKind.i64 2,D.int IntKind.i64 1,D.int IntKind.i64 1,D.fn (Fn.func 140) [] [D.ptr 8]])),(D.int IntKind.i64 19,T.d (D.agg [D.int IntKind.i64 2,D.int IntKind.i64 1,D.int IntKind.i64 1,D.fn (Fn.func 140) [] [D.ptr 9]]))]=Ob.map opsL:=rfl
def opP(x:Int):Int:=if x=9 then 1 else if x=10 then 1 else if x=11 then 2 else if x=12 then 2 else if x=13 then 2 else if x=14 then 2 else if x=15 then 2 else if x=16 then 2 else if x=17 then 2 else if x=18 then 2 else if x=19 then 2 else 0
def opT(x:Int):Int:=if x=9 then 1 else if x=10 then 0 else if x=11 then 0 else if x=12 then 0 else if x=13 then 0 else if x=14 then(-1)else if x=15 then(-1)else if x=16 then 0 else if x=17 then 0 else if x=18 then 1 else if x=19 then 1 else 0
def opM(x:Int):Int:=if x=9 then 1 else if x=10 then 0 else if x=11 then 0 else if x=12 then 0 else if x=13 then 0 else if x=14 then 1 else if x=15 then 1 else if x=16 then 1 else if x=17 then 1 else if x=18 then 1 else if x=19 then 1 else 0
def opId(x:Int):Nat:=if x=9 then 114 else if x=10 then 116 else if x=11 then 73 else if x=12 then 117 else if x=13 then 118 else if x=14 then 140 else if x=15 then 140 else if x=16 then 140 else if x=17 then 140 else if x=18 then 140 else if x=19 then 140 else 0
def opCp(x:Int):List D:=if x=14 then [D.ptr 4]else if x=15 then [D.ptr 5]else if x=16 then [D.ptr 6]else if x=17 then [D.ptr 7]else if x=18 then [D.ptr 8]else if x=19 then [D.ptr 9]else []
def opH(x:Int):Bool:=decide (x=9) || decide (x=10) || decide (x=11) || decide (x=12) || decide (x=13) || decide (x=14) || decide (x=15) || decide (x=16) || decide (x=17) || decide (x=18) || decide (x=19)
@[go_sem] theorem look_ops(x:Int)(ok:Bool):lookOb P 84 (.map opsL) (.int .i64 x) ok=if opH x=true then some (if ok=true then .tup [.d (.agg [.int .i64 (opP x),.int .i64 (opT x),.int .i64 (opM x),.fn (.func (opId x)) [] (opCp x)]),.d (.bool true)]else .d (.agg [.int .i64 (opP x),.int .i64 (opT x),.int .i64 (opM x),.fn (.func (opId x)) [] (opCp x)]))else some (if ok=true then .tup [.d (.agg [.int .i64 0,.int .i64 0,.int .i64 0,.nilf]),.d (.bool false)]else .d (.agg [.int .i64 0,.int .i64 0,.int .i64 0,.nilf])):=by
 simp only[lookOb,ma84,xS,key3,Option.isSome_some,if_true,opsL,findK,ze91]
 by_cases h9:x=9
 ·subst h9;cases ok <;>rfl
 by_cases h10:x=10
 ·subst h10;cases ok <;>rfl
 by_cases h11:x=11
 ·subst h11;cases ok <;>rfl
 by_cases h12:x=12
 ·subst h12;cases ok <;>rfl
 by_cases h13:x=13
 ·subst h13;cases ok <;>rfl
 by_cases h14:x=14
 ·subst h14;cases ok <;>rfl
 by_cases h15:x=15
 ·subst h15;cases ok <;>rfl
 by_cases h16:x=16
 ·subst h16;cases ok <;>rfl
 by_cases h17:x=17
 ·subst h17;cases ok <;>rfl
 by_cases h18:x=18
 ·subst h18;cases ok <;>rfl
 by_cases h19:x=19
 ·subst h19;cases ok <;>rfl
 have hh:opH x=false:=by simp[opH,h9,h10,h11,h12,h13,h14,h15,h16,h17,h18,h19]
 simp only[h9,h10,h11,h12,h13,h14,h15,h16,h17,h18,h19,hh,decide_false,xH,if_false,xS]
 cases ok <;>rfl
@[go_sem] theorem row_sg:rowT (tl eS sgL)=tl eS sgL:=rfl
@[go_sem] theorem len_sg:sgL.length=25:=rfl
@[go_sem] theorem gl15:hint21.gl 0=some (.agg (List.map eS ownL)):=rfl
@[go_sem] theorem len_own:ownL.length=4:=rfl
def nonImmA:Nat→List Ob→List Nat
 |_,[]=>[]
 |i,o::r=>if obsImm [o]=true then nonImmA (i+1) r else i::nonImmA (i+1) r
theorem nonImmA_eq(H:List Ob):∀pre:List Ob,((List.range' pre.length H.length).filter fun n=>match (pre++H)[n]? with |some ob=> !obsImm [ob] |none=>false)=nonImmA pre.length H:=by
 induction H with
 |nil=>intro pre;rfl
 |cons o r ih=>
  intro pre
  have h:=ih (pre++[o])
  rw[xK,xP,List.singleton_append,List.length_singleton]at h
  rw[xZ,List.range'_succ,List.filter_cons,h,nonImmA]
  have e:(pre++o::r)[pre.length]? =some o:=by simp
  rw[e]
  cases h:obsImm [o] <;>simp[h]
@[go_sem] theorem nonImm_A(H:List Ob):nonImm H=nonImmA 0 H:=by
 have h:=nonImmA_eq H []
 unfold nonImm
 rw[List.range_eq_range']
 exact h
@[go_sem] theorem nonImmA_nil{i:Nat}:nonImmA i []=[]:=rfl
@[go_sem] theorem nonImmA_cons{i:Nat}{o:Ob}{r:List Ob}:nonImmA i (o::r)=if obsImm [o]=true then nonImmA (i+1) r else i::nonImmA (i+1) r:=rfl
@[go_sem] theorem imms_tlI{l:List Int}:T.imms (tl eI l)=true:=by
 induction l with
 |nil=>rfl
 |cons n l ih=>
  simp only[tl,List.map_cons]at ih ⊢
  simp[T.imms,T.imm,D.imm,ih,eI,eK]
end Go.Etx
namespace Go.Etx
open Go Go.Am Go.Proofs
set_option maxHeartbeats 400000
set_option maxRecDepth 20000
noncomputable section
variable{ρ:Type}(β:Bool)(κ:KT ρ)(η:XT ρ)(z0 z1:List GNode)(z2 z3 z11 z12 z18:Int)(z4:List Int)(z5:List GScalar)(z6 z9 z10:List GVar)(z7:List GChan)(z8:List GProc)(z13:Nat)(z14:List (Int))(z15 z17:List UInt8)(z16:Bool)(z19:List (GNode))(z20:List Gr09_Token)
section
variable(p0:List GNode)(p1:List GNode)(p2:Int)
@[go_sem] def S_eN_0(β:Bool)(v0:Int):St:=⟨[(0,.d (.sl β (List.map eNode p0))),(1,.d (.sl β (List.map eNode p1))),(12,.d (.int IntKind.i64 p2)),(13,.d (.int IntKind.i64 v0))],[],[]⟩
@[go_sem] def X_eN_0:=mkL (p:=fun β (Φ:Int→(Int→Option ρ)→XT ρ→Option ρ)=>∀(R:St→Option ρ) g κ,(∀v0,R (S_eN_0 p0 p1 p2 β v0)=g v0)→∀v0,go P hints hint12 b12 q12_0.1 (S_eN_0 p0 p1 p2 β v0) (kLp R κ)=Φ v0 g κ) _ _
def V_eN_0(β:Bool)(κ:XT ρ)(v0:Int):=goLp_iter (κ:=κ) (Φ:=fun v k=>(X_eN_0 p0 p1 p2 (ρ:=ρ)).f β v k κ) q12_0.2 (S:=fun v=>S_eN_0 p0 p1 p2 β v) (by intro R g hR v;exact(X_eN_0 p0 p1 p2 (ρ:=ρ)).ok β R g κ (fun v0=>hR v0) v) v0
end
@[go_sem] def W_eN_0f:=wl (V_eN_0 z0 z1 z2 false η z3)
@[go_sem] def W_eN_0t:=wl (V_eN_0 z0 z1 z2 true η z3)
def F_eN(a0:List GNode)(a1:List GNode):=mkF (p:=fun β (κ:KT ρ) (g:Bool→Option ρ)=>∀y0_0,κ ([.d (.bool y0_0)],[])=g y0_0) (ds:=fun β=>[(esNode β) a0,(esNode β) a1]) ge12 (fun _=>rfl) _
def f_eN(a0:List GNode)(a1:List GNode)(g0):=(F_eN (ρ:=ρ) a0 a1).1 g0
@[go_sem] def W_eN:=wk (f_eN (ρ:=ρ) z0 z1) ((F_eN z0 z1).2 β κ _ (fun _=>rfl))
def F_num_Add_1(a0:Int)(a1:Int):=mkF (p:=fun β (κ:KT ρ) (g:Option ρ)=>κ ([.d (.int IntKind.i64 (IntKind.wrap IntKind.i64 (a0+a1)))],[])=g) (ds:=fun β=>[eI a0,eI a1]) ge127 (fun _=>rfl) _
def f_num_Add_1(a0:Int)(a1:Int)(g0):=(F_num_Add_1 (ρ:=ρ) a0 a1).1 g0
@[go_sem] def W_num_Add_1:=wk (f_num_Add_1 (ρ:=ρ) z2 z3) ((F_num_Add_1 z2 z3).2 true κ _ rfl)
section
variable(p0:List Int)(p1:Int)
@[go_sem] def S_num_within_0(β:Bool)(v0:Int):St:=⟨[(5,.d (.sl β (List.map eI p0))),(6,.d (.int IntKind.i64 p1)),(7,.d (.int IntKind.i64 v0))],[],[]⟩
@[go_sem] def X_num_within_0:=mkL (p:=fun β (Φ:Int→(Int→Option ρ)→XT ρ→Option ρ)=>∀(R:St→Option ρ) g κ,(∀v0,R (S_num_within_0 p0 p1 β v0)=g v0)→∀v0,go P hints hint106 b106 q106_0.1 (S_num_within_0 p0 p1 β v0) (kLp R κ)=Φ v0 g κ) _ _
def V_num_within_0(β:Bool)(κ:XT ρ)(v0:Int):=goLp_iter (κ:=κ) (Φ:=fun v k=>(X_num_within_0 p0 p1 (ρ:=ρ)).f β v k κ) q106_0.2 (S:=fun v=>S_num_within_0 p0 p1 β v) (by intro R g hR v;exact(X_num_within_0 p0 p1 (ρ:=ρ)).ok β R g κ (fun v0=>hR v0) v) v0
end
@[go_sem] def W_num_within_0f:=wl (V_num_within_0 z4 z2 false η z3)
@[go_sem] def W_num_within_0t:=wl (V_num_within_0 z4 z2 true η z3)
def F_num_within(a0:List Int):=mkF (p:=fun β (κ:KT ρ) (g:Bool→Option ρ)=>∀y0_0,κ ([.d (.bool y0_0)],[])=g y0_0) (ds:=fun β=>[(esi64 β) a0]) ge106 (fun _=>rfl) _
def f_num_within(a0:List Int)(g0):=(F_num_within (ρ:=ρ) a0).1 g0
attribute [go_sem] ge128
@[go_sem] def W_num_within_a0n2:=wk (f_num_within (ρ:=ρ) ([z2,z3]:List Int)) ((F_num_within ([z2,z3]:List Int)).2 β κ _ (fun _=>rfl))
@[go_sem] def W_num_within_a0n1:=wk (f_num_within (ρ:=ρ) ([z2]:List Int)) ((F_num_within ([z2]:List Int)).2 β κ _ (fun _=>rfl))
def F_num_Add(a0:Int)(a1:Int):=mkF (p:=fun β (κ:KT ρ) (g:Int→Bool→Option ρ)=>∀y0_0 y0_1,κ ([.d (.int IntKind.i64 y0_0),.d (.bool y0_1)],[])=g y0_0 y0_1) (ds:=fun β=>[eI a0,eI a1]) ge73 (fun _=>rfl) _
def f_num_Add(a0:Int)(a1:Int)(g0):=(F_num_Add (ρ:=ρ) a0 a1).1 g0
@[go_sem] def W_num_Add:=wk (f_num_Add (ρ:=ρ) z2 z3) ((F_num_Add z2 z3).2 true κ _ (fun _ _=>rfl))
def F_expr_scalar(a0:Int)(a1:GScope):=mkF (p:=fun β (κ:KT ρ) (g:Int→Bool→Option ρ)=>∀y0_0 y0_1,κ ([.d (.int IntKind.i64 y0_0),.d (.bool y0_1)],[])=g y0_0 y0_1) (ds:=fun β=>[eI a0,(eScope β) a1]) ge129 (fun _=>rfl) _
def f_expr_scalar(a0:Int)(a1:GScope)(g0):=(F_expr_scalar (ρ:=ρ) a0 a1).1 g0
@[go_sem] def W_expr_scalar:=wk (f_expr_scalar (ρ:=ρ) z2 (GScope.mk z5 z6 z7 z8 z9 z3)) ((F_expr_scalar z2 (GScope.mk z5 z6 z7 z8 z9 z3)).2 β κ _ (fun _ _=>rfl))
def F_expr_variable(a0:List GVar)(a1:Int)(a2:GScope):=mkF (p:=fun β (κ:KT ρ) (g:Int→Int→Bool→Option ρ)=>∀y0_0 y0_1 y0_2,κ ([.d (.int IntKind.i64 y0_0),.d (.int IntKind.i64 y0_1),.d (.bool y0_2)],[])=g y0_0 y0_1 y0_2) (ds:=fun β=>[(esVar β) a0,eI a1,(eScope β) a2]) ge75 (fun _=>rfl) _
def f_expr_variable(a0:List GVar)(a1:Int)(a2:GScope)(g0):=(F_expr_variable (ρ:=ρ) a0 a1 a2).1 g0
@[go_sem] def W_expr_variable:=wk (f_expr_variable (ρ:=ρ) z6 z2 (GScope.mk z5 z9 z7 z8 z10 z3)) ((F_expr_variable z6 z2 (GScope.mk z5 z9 z7 z8 z10 z3)).2 β κ _ (fun _ _ _=>rfl))
def F_expr_named(a0:GNode)(a1:GScope):=mkF (p:=fun β (κ:KT ρ) (g:Int→Int→Option ρ)=>∀y0_0 y0_1,κ ([.d (.int IntKind.i64 y0_0),.d (.int IntKind.i64 y0_1)],[])=g y0_0 y0_1) (ds:=fun β=>[eNode a0,(eScope β) a1]) ge74 (fun _=>rfl) _
def f_expr_named(a0:GNode)(a1:GScope)(g0):=(F_expr_named (ρ:=ρ) a0 a1).1 g0
@[go_sem] def W_expr_named:=wk (f_expr_named (ρ:=ρ) (GNode.mk z2 z3) (GScope.mk z5 z6 z7 z8 z9 z11)) ((F_expr_named (GNode.mk z2 z3) (GScope.mk z5 z6 z7 z8 z9 z11)).2 β κ _ (fun _ _=>rfl))
def F_r10_Takes(a0:Int):=mkF (p:=fun β (κ:KT ρ) (g:Int→Option ρ)=>∀y0_0,κ ([.d (.int IntKind.i64 y0_0)],[])=g y0_0) (ds:=fun β=>[eI a0]) ge24 (fun _=>rfl) _
def f_r10_Takes(a0:Int)(g0):=(F_r10_Takes (ρ:=ρ) a0).1 g0
@[go_sem] def W_r10_Takes:=wk (f_r10_Takes (ρ:=ρ) z2) ((F_r10_Takes z2).2 true κ _ (fun _=>rfl))
def F_r10_scalar(a0:Int)(a1:GScope):=mkF (p:=fun β (κ:KT ρ) (g:Bool→Option ρ)=>∀y0_0,κ ([.d (.bool y0_0)],[])=g y0_0) (ds:=fun β=>[eI a0,(eScope β) a1]) ge86 (fun _=>rfl) _
def f_r10_scalar(a0:Int)(a1:GScope)(g0):=(F_r10_scalar (ρ:=ρ) a0 a1).1 g0
@[go_sem] def W_r10_scalar:=wk (f_r10_scalar (ρ:=ρ) z2 (GScope.mk z5 z6 z7 z8 z9 z3)) ((F_r10_scalar z2 (GScope.mk z5 z6 z7 z8 z9 z3)).2 β κ _ (fun _=>rfl))
def F_r10_Variable(a0:List GVar)(a1:Int)(a2:GScope):=mkF (p:=fun β (κ:KT ρ) (g:(List UInt8)→Int→Int→Int→Int→Int→Bool→Option ρ)=>∀y0_0 y0_1 y0_2 y0_3 y0_4 y0_5 y0_6,κ ([.d (.agg [.str y0_0,.int IntKind.i64 y0_1,.int IntKind.i64 y0_2,.int IntKind.i64 y0_3,.int IntKind.i64 y0_4,.int IntKind.i64 y0_5]),.d (.bool y0_6)],[])=g y0_0 y0_1 y0_2 y0_3 y0_4 y0_5 y0_6) (ds:=fun β=>[(esVar β) a0,eI a1,(eScope β) a2]) ge51 (fun _=>rfl) _
def f_r10_Variable(a0:List GVar)(a1:Int)(a2:GScope)(g0):=(F_r10_Variable (ρ:=ρ) a0 a1 a2).1 g0
@[go_sem] def W_r10_Variable:=wk (f_r10_Variable (ρ:=ρ) z6 z2 (GScope.mk z5 z9 z7 z8 z10 z3)) ((F_r10_Variable z6 z2 (GScope.mk z5 z9 z7 z8 z10 z3)).2 β κ _ (fun _ _ _ _ _ _ _=>rfl))
def F_r10_KindOf(a0:Int):=mkF (p:=fun β (κ:KT ρ) (g:Int→Option ρ)=>∀y0_0,κ ([.d (.int IntKind.i64 y0_0)],[])=g y0_0) (ds:=fun β=>[eI a0]) ge52 (fun _=>rfl) _
def f_r10_KindOf(a0:Int)(g0):=(F_r10_KindOf (ρ:=ρ) a0).1 g0
@[go_sem] def W_r10_KindOf:=wk (f_r10_KindOf (ρ:=ρ) z2) ((F_r10_KindOf z2).2 true κ _ (fun _=>rfl))
def F_r10_Channel(a0:Int)(a1:GScope):=mkF (p:=fun β (κ:KT ρ) (g:(List UInt8)→Int→Int→Int→Int→Bool→Bool→Option ρ)=>∀y0_0 y0_1 y0_2 y0_3 y0_4 y0_5 y0_6,κ ([.d (.agg [.str y0_0,.int IntKind.i64 y0_1,.int IntKind.i64 y0_2,.int IntKind.i64 y0_3,.int IntKind.i64 y0_4,.bool y0_5]),.d (.bool y0_6)],[])=g y0_0 y0_1 y0_2 y0_3 y0_4 y0_5 y0_6) (ds:=fun β=>[eI a0,(eScope β) a1]) ge53 (fun _=>rfl) _
def f_r10_Channel(a0:Int)(a1:GScope)(g0):=(F_r10_Channel (ρ:=ρ) a0 a1).1 g0
@[go_sem] def W_r10_Channel:=wk (f_r10_Channel (ρ:=ρ) z2 (GScope.mk z5 z6 z7 z8 z9 z3)) ((F_r10_Channel z2 (GScope.mk z5 z6 z7 z8 z9 z3)).2 β κ _ (fun _ _ _ _ _ _ _=>rfl))
def F_r10_leaf(a0:GNode)(a1:GScope):=mkF (p:=fun β (κ:KT ρ) (g:Int→Int→Option ρ)=>∀y0_0 y0_1,κ ([.d (.int IntKind.i64 y0_0),.d (.int IntKind.i64 y0_1)],[])=g y0_0 y0_1) (ds:=fun β=>[eNode a0,(eScope β) a1]) ge25 (fun _=>rfl) _
def f_r10_leaf(a0:GNode)(a1:GScope)(g0):=(F_r10_leaf (ρ:=ρ) a0 a1).1 g0
@[go_sem] def W_r10_leaf:=wk (f_r10_leaf (ρ:=ρ) (GNode.mk z2 z3) (GScope.mk z5 z6 z7 z8 z9 z11)) ((F_r10_leaf (GNode.mk z2 z3) (GScope.mk z5 z6 z7 z8 z9 z11)).2 β κ _ (fun _ _=>rfl))
def F_r10_one(a0:GNode)(a1:Int)(a2:GScope):=mkF (p:=fun β (κ:KT ρ) (g:Int→Int→Option ρ)=>∀y0_0 y0_1,κ ([.d (.int IntKind.i64 y0_0),.d (.int IntKind.i64 y0_1)],[])=g y0_0 y0_1) (ds:=fun β=>[eNode a0,eI a1,(eScope β) a2]) ge26 (fun _=>rfl) _
def f_r10_one(a0:GNode)(a1:Int)(a2:GScope)(g0):=(F_r10_one (ρ:=ρ) a0 a1 a2).1 g0
@[go_sem] def W_r10_one:=wk (f_r10_one (ρ:=ρ) (GNode.mk z2 z3) z11 (GScope.mk z5 z6 z7 z8 z9 z12)) ((F_r10_one (GNode.mk z2 z3) z11 (GScope.mk z5 z6 z7 z8 z9 z12)).2 β κ _ (fun _ _=>rfl))
def F_r10_two(a0:Int)(a1:Int)(a2:Int):=mkF (p:=fun β (κ:KT ρ) (g:Int→Int→Option ρ)=>∀y0_0 y0_1,κ ([.d (.int IntKind.i64 y0_0),.d (.int IntKind.i64 y0_1)],[])=g y0_0 y0_1) (ds:=fun β=>[eI a0,eI a1,eI a2]) ge27 (fun _=>rfl) _
def f_r10_two(a0:Int)(a1:Int)(a2:Int)(g0):=(F_r10_two (ρ:=ρ) a0 a1 a2).1 g0
@[go_sem] def W_r10_two:=wk (f_r10_two (ρ:=ρ) z2 z3 z11) ((F_r10_two z2 z3 z11).2 true κ _ (fun _ _=>rfl))
section
variable(p0:List GNode)(p1:List GScalar)(p2:List GVar)(p3:List GChan)(p4:List GProc)(p5:List GVar)(p6:Int)
@[go_sem] def S_r10_Kind_0(β:Bool)(n0:Nat)(v0:Int)(v1:List (Int)):St:=⟨[(0,.d (.sl β (List.map eNode p0))),(3,.loc (Root.l 3 0) [] (0) 0),(6,.bor (.l 6 0) [] 0 n0),(7,.d (.int IntKind.i64 v0))],[((3,0),.own [.d (.agg [.sl β (List.map eScalar p1),.sl β (List.map eVar p2),.sl β (List.map eChan p3),.sl β (List.map (eProc β) p4),.sl β (List.map eVar p5),.int IntKind.i64 p6])]),((6,0),.own (tl eI v1))],[]⟩
@[go_sem] def X_r10_Kind_0:=mkL (p:=fun β (Φ:Int→(List (Int))→((Int)×(List (Int))→Option ρ)→XT ρ→Option ρ)=>∀(R:St→Option ρ) g κ,(∀n0 v0 v1,n0=List.length v1→R (S_r10_Kind_0 p0 p1 p2 p3 p4 p5 p6 β n0 v0 v1)=g (v0,v1))→∀v0 v1,go P hints hint10 b10 q10_0.1 (S_r10_Kind_0 p0 p1 p2 p3 p4 p5 p6 β (List.length v1) v0 v1) (kLp R κ)=Φ v0 v1 g κ) _ _
def V_r10_Kind_0(β:Bool)(κ:XT ρ)(n0:Nat)(v0:Int)(v1:List (Int))(hn0:n0=List.length v1):=goLp_n (S:=fun n0=>S_r10_Kind_0 p0 p1 p2 p3 p4 p5 p6 β n0 v0 v1) hn0 (goLp_iter (κ:=κ) (Φ:=fun v k=>(X_r10_Kind_0 p0 p1 p2 p3 p4 p5 p6 (ρ:=ρ)).f β v.1 v.2 k κ) q10_0.2 (S:=fun v=>S_r10_Kind_0 p0 p1 p2 p3 p4 p5 p6 β (List.length v.2) v.1 v.2) (by intro R g hR v;exact(X_r10_Kind_0 p0 p1 p2 p3 p4 p5 p6 (ρ:=ρ)).ok β R g κ (fun n0 v0 v1 hn0=>by subst hn0;exact hR (v0,v1)) v.1 v.2) (v0,v1))
end
@[go_sem] def W_r10_Kind_0_1f:=wl (V_r10_Kind_0 z0 z5 z6 z7 z8 z9 z2 false η 0 z3 [] rfl)
@[go_sem] def W_r10_Kind_0_1t:=wl (V_r10_Kind_0 z0 z5 z6 z7 z8 z9 z2 true η 0 z3 [] rfl)
def F_r10_Kind(a0:List GNode)(a1:GScope):=mkF (p:=fun β (κ:KT ρ) (g:Int→Int→Option ρ)=>∀y0_0 y0_1,κ ([.d (.int IntKind.i64 y0_0),.d (.int IntKind.i64 y0_1)],[])=g y0_0 y0_1) (ds:=fun β=>[(esNode β) a0,(eScope β) a1]) ge10 (fun _=>rfl) _
def f_r10_Kind(a0:List GNode)(a1:GScope)(g0):=(F_r10_Kind (ρ:=ρ) a0 a1).1 g0
@[go_sem] def W_r10_Kind:=wk (f_r10_Kind (ρ:=ρ) z0 (GScope.mk z5 z6 z7 z8 z9 z2)) ((F_r10_Kind z0 (GScope.mk z5 z6 z7 z8 z9 z2)).2 β κ _ (fun _ _=>rfl))
def F_lex_letter(a0:Int):=mkF (p:=fun β (κ:KT ρ) (g:Bool→Option ρ)=>∀y0_0,κ ([.d (.bool y0_0)],[])=g y0_0) (ds:=fun β=>[(eK .i32) a0]) ge44 (fun _=>rfl) _
def f_lex_letter(a0:Int)(g0):=(F_lex_letter (ρ:=ρ) a0).1 g0
@[go_sem] def W_lex_letter:=wk (f_lex_letter (ρ:=ρ) z2) ((F_lex_letter z2).2 true κ _ (fun _=>rfl))
attribute [go_sem] ge45
attribute [go_sem] ge64
attribute [go_sem] ge46
@[go_sem] theorem T_45_0_1{ρ:Type}{x0 x1 x8:SV}{ct:List ((Nat×Nat)×T)}{H:List Ob}{κ:Ex×St→Option ρ}:goLp P hints hint45 b45 0 ⟨[(0,x0),(1,x1),(8,x8)],ct,H⟩ κ=go P hints hint45 b45 q45_0.1 ⟨[(0,x0),(1,x1),(8,x8)],ct,H⟩ (kLp (fun s=>goLp P hints hint45 b45 0 s κ) κ):=goLp_turn q45_0.2
section
variable(p0:List UInt8)
@[go_sem] def S_lex_run_in_lex_Name_0(β:Bool)(v0:Int)(v1:Bool)(v2:Nat):St:=⟨[(0,.d (.str p0)),(1,.d (.fn (Fn.func 46) [] [])),(5,.d (.int IntKind.i64 v0)),(8,.d (.ptr (0))),(16,.d (.bool v1))],[],[.iter p0 v2]⟩
@[go_sem] def X_lex_run_in_lex_Name_0:=mkL (p:=fun β (Φ:Int→Bool→Nat→((Int)×(Bool)×(Nat)→Option ρ)→XT ρ→Option ρ)=>∀(R:St→Option ρ) g κ,(∀v0 v1 v2,R (S_lex_run_in_lex_Name_0 p0 β v0 v1 v2)=g (v0,v1,v2))→∀v0 v1 v2,go P hints hint45 b45 q45_0.1 (S_lex_run_in_lex_Name_0 p0 β v0 v1 v2) (kLp R κ)=Φ v0 v1 v2 g κ) _ _
def V_lex_run_in_lex_Name_0(β:Bool)(κ:XT ρ)(v0:Int)(v1:Bool)(v2:Nat):=goLp_iter (κ:=κ) (Φ:=fun v k=>(X_lex_run_in_lex_Name_0 p0 (ρ:=ρ)).f β v.1 v.2.1 v.2.2 k κ) q45_0.2 (S:=fun v=>S_lex_run_in_lex_Name_0 p0 β v.1 v.2.1 v.2.2) (by intro R g hR v;exact(X_lex_run_in_lex_Name_0 p0 (ρ:=ρ)).ok β R g κ (fun v0 v1 v2=>hR (v0,v1,v2)) v.1 v.2.1 v.2.2) (v0,v1,v2)
end
@[go_sem] def W_lex_run_in_lex_Name_0t:=wl (V_lex_run_in_lex_Name_0 z15 true η z2 z16 z13)
section
variable(p0:List UInt8)
@[go_sem] def S_lex_Name_0(β:Bool)(v0:Int):St:=⟨[(0,.d (.str p0)),(26,.d (.agg (List.map eS (List.take 4 ownL)))),(27,.d (.int IntKind.i64 v0))],[],[]⟩
@[go_sem] def X_lex_Name_0:=mkL (p:=fun β (Φ:Int→(Int→Option ρ)→XT ρ→Option ρ)=>∀(R:St→Option ρ) g κ,(∀v0,R (S_lex_Name_0 p0 β v0)=g v0)→∀v0,go P hints hint21 b21 q21_0.1 (S_lex_Name_0 p0 β v0) (kLp R κ)=Φ v0 g κ) _ _
def V_lex_Name_0(β:Bool)(κ:XT ρ)(v0:Int):=goLp_iter (κ:=κ) (Φ:=fun v k=>(X_lex_Name_0 p0 (ρ:=ρ)).f β v k κ) q21_0.2 (S:=fun v=>S_lex_Name_0 p0 β v) (by intro R g hR v;exact(X_lex_Name_0 p0 (ρ:=ρ)).ok β R g κ (fun v0=>hR v0) v) v0
end
@[go_sem] def W_lex_Name_0t:=wl (V_lex_Name_0 z15 true η z2)
def F_lex_Name(a0:List UInt8):=mkF (p:=fun β (κ:KT ρ) (g:Bool→Option ρ)=>∀y0_0,κ ([.d (.bool y0_0)],[])=g y0_0) (ds:=fun β=>[eS a0]) ge21 (fun _=>rfl) _
def f_lex_Name(a0:List UInt8)(g0):=(F_lex_Name (ρ:=ρ) a0).1 g0
@[go_sem] def W_lex_Name:=wk (f_lex_Name (ρ:=ρ) z15) ((F_lex_Name z15).2 true κ _ (fun _=>rfl))
def F_r09_letter(a0:Int):=mkF (p:=fun β (κ:KT ρ) (g:Bool→Option ρ)=>∀y0_0,κ ([.d (.bool y0_0)],[])=g y0_0) (ds:=fun β=>[(eK .u8) a0]) ge87 (fun _=>rfl) _
def f_r09_letter(a0:Int)(g0):=(F_r09_letter (ρ:=ρ) a0).1 g0
@[go_sem] def W_r09_letter:=wk (f_r09_letter (ρ:=ρ) z2) ((F_r09_letter z2).2 true κ _ (fun _=>rfl))
def F_r09_digit(a0:Int):=mkF (p:=fun β (κ:KT ρ) (g:Bool→Option ρ)=>∀y0_0,κ ([.d (.bool y0_0)],[])=g y0_0) (ds:=fun β=>[(eK .u8) a0]) ge88 (fun _=>rfl) _
def f_r09_digit(a0:Int)(g0):=(F_r09_digit (ρ:=ρ) a0).1 g0
@[go_sem] def W_r09_digit:=wk (f_r09_digit (ρ:=ρ) z2) ((F_r09_digit z2).2 true κ _ (fun _=>rfl))
def F_r09_signs:=mkF (p:=fun β (κ:KT ρ) (g:Option ρ)=>κ ([.d (.sl false (List.map eS (sgL)))],[])=g) (ds:=fun β=>[]) ge89 (fun _=>rfl) _
def f_r09_signs(g0):=(F_r09_signs (ρ:=ρ)).1 g0
@[go_sem] def W_r09_signs:=wk (f_r09_signs (ρ:=ρ)) ((F_r09_signs).2 true κ _ rfl)
@[go_sem] theorem T_55_0_2{ρ:Type}{x0 x1 x6 x13:SV}{ct:List ((Nat×Nat)×T)}{H:List Ob}{κ:Ex×St→Option ρ}:goLp P hints hint55 b55 0 ⟨[(0,x0),(1,x1),(6,x6),(13,x13)],ct,H⟩ κ=go P hints hint55 b55 q55_0.1 ⟨[(0,x0),(1,x1),(6,x6),(13,x13)],ct,H⟩ (kLp (fun s=>goLp P hints hint55 b55 0 s κ) κ):=goLp_turn q55_0.2
section
variable(p0:List UInt8)(p1:Int)
@[go_sem] def S_r09_begins_0(β:Bool)(v0:Int):St:=⟨[(0,.d (.str p0)),(1,.d (.int IntKind.i64 p1)),(6,.d (.int IntKind.i64 v0))],[],[]⟩
@[go_sem] def X_r09_begins_0:=mkL (p:=fun β (Φ:Int→(Int→Option ρ)→XT ρ→Option ρ)=>∀(R:St→Option ρ) g κ,(∀v0,R (S_r09_begins_0 p0 p1 β v0)=g v0)→∀v0,go P hints hint55 b55 q55_0.1 (S_r09_begins_0 p0 p1 β v0) (kLp R κ)=Φ v0 g κ) _ _
def V_r09_begins_0(β:Bool)(κ:XT ρ)(v0:Int):=goLp_iter (κ:=κ) (Φ:=fun v k=>(X_r09_begins_0 p0 p1 (ρ:=ρ)).f β v k κ) q55_0.2 (S:=fun v=>S_r09_begins_0 p0 p1 β v) (by intro R g hR v;exact(X_r09_begins_0 p0 p1 (ρ:=ρ)).ok β R g κ (fun v0=>hR v0) v) v0
end
@[go_sem] def W_r09_begins_0t:=wl (V_r09_begins_0 z15 z2 true η z3)
@[go_sem] theorem T_55_1_3{ρ:Type}{x0 x1 x6 x44:SV}{ct:List ((Nat×Nat)×T)}{H:List Ob}{κ:Ex×St→Option ρ}:goLp P hints hint55 b55 1 ⟨[(0,x0),(1,x1),(6,x6),(44,x44)],ct,H⟩ κ=go P hints hint55 b55 q55_1.1 ⟨[(0,x0),(1,x1),(6,x6),(44,x44)],ct,H⟩ (kLp (fun s=>goLp P hints hint55 b55 1 s κ) κ):=goLp_turn q55_1.2
section
variable(p0:List UInt8)(p1:Int)
@[go_sem] def S_r09_begins_1(β:Bool)(v0:Int):St:=⟨[(0,.d (.str p0)),(1,.d (.int IntKind.i64 p1)),(6,.d (.int IntKind.i64 v0))],[],[]⟩
@[go_sem] def X_r09_begins_1:=mkL (p:=fun β (Φ:Int→(Int→Option ρ)→XT ρ→Option ρ)=>∀(R:St→Option ρ) g κ,(∀v0,R (S_r09_begins_1 p0 p1 β v0)=g v0)→∀v0,go P hints hint55 b55 q55_1.1 (S_r09_begins_1 p0 p1 β v0) (kLp R κ)=Φ v0 g κ) _ _
def V_r09_begins_1(β:Bool)(κ:XT ρ)(v0:Int):=goLp_iter (κ:=κ) (Φ:=fun v k=>(X_r09_begins_1 p0 p1 (ρ:=ρ)).f β v k κ) q55_1.2 (S:=fun v=>S_r09_begins_1 p0 p1 β v) (by intro R g hR v;exact(X_r09_begins_1 p0 p1 (ρ:=ρ)).ok β R g κ (fun v0=>hR v0) v) v0
end
@[go_sem] def W_r09_begins_1t:=wl (V_r09_begins_1 z15 z2 true η z3)
section
variable(p0:List UInt8)(p1:Int)
@[go_sem] def S_r09_begins_2(β:Bool)(v0:Int):St:=⟨[(0,.d (.str p0)),(1,.d (.int IntKind.i64 p1)),(7,.d (.sl false (List.map eS (sgL)))),(8,.d (.int IntKind.i64 v0))],[],[]⟩
@[go_sem] def X_r09_begins_2:=mkL (p:=fun β (Φ:Int→(Int→Option ρ)→XT ρ→Option ρ)=>∀(R:St→Option ρ) g κ,(∀v0,R (S_r09_begins_2 p0 p1 β v0)=g v0)→∀v0,go P hints hint55 b55 q55_2.1 (S_r09_begins_2 p0 p1 β v0) (kLp R κ)=Φ v0 g κ) _ _
def V_r09_begins_2(β:Bool)(κ:XT ρ)(v0:Int):=goLp_iter (κ:=κ) (Φ:=fun v k=>(X_r09_begins_2 p0 p1 (ρ:=ρ)).f β v k κ) q55_2.2 (S:=fun v=>S_r09_begins_2 p0 p1 β v) (by intro R g hR v;exact(X_r09_begins_2 p0 p1 (ρ:=ρ)).ok β R g κ (fun v0=>hR v0) v) v0
end
@[go_sem] def W_r09_begins_2t:=wl (V_r09_begins_2 z15 z2 true η z3)
def F_r09_begins(a0:List UInt8)(a1:Int):=mkF (p:=fun β (κ:KT ρ) (g:Int→Int→Option ρ)=>∀y0_0 y0_1,κ ([.d (.int IntKind.i64 y0_0),.d (.int IntKind.i64 y0_1)],[])=g y0_0 y0_1) (ds:=fun β=>[eS a0,eI a1]) ge55 (fun _=>rfl) _
def f_r09_begins(a0:List UInt8)(a1:Int)(g0):=(F_r09_begins (ρ:=ρ) a0 a1).1 g0
@[go_sem] def W_r09_begins:=wk (f_r09_begins (ρ:=ρ) z15 z2) ((F_r09_begins z15 z2).2 true κ _ (fun _ _=>rfl))
def F_r09_Name(a0:List UInt8):=mkF (p:=fun β (κ:KT ρ) (g:Bool→Option ρ)=>∀y0_0,κ ([.d (.bool y0_0)],[])=g y0_0) (ds:=fun β=>[eS a0]) ge61 (fun _=>rfl) _
def f_r09_Name(a0:List UInt8)(g0):=(F_r09_Name (ρ:=ρ) a0).1 g0
@[go_sem] def W_r09_Name:=wk (f_r09_Name (ρ:=ρ) z15) ((F_r09_Name z15).2 true κ _ (fun _=>rfl))
attribute [go_sem] ge130
attribute [go_sem] ge78
attribute [go_sem] ge77
section
variable(p0:List GVar)(p1:Int)(p2:List UInt8)
@[go_sem] def S_iV_in_etext_stands_0(β:Bool)(v0:Int):St:=⟨[(0,.d (.sl β (List.map eVar p0))),(1,.d (.fn (Fn.func 130) [] [.ptr (0)])),(7,.d (.int IntKind.i64 p1)),(8,.d (.int IntKind.i64 v0))],[],[.box (.d (.str p2))]⟩
@[go_sem] def X_iV_in_etext_stands_0:=mkL (p:=fun β (Φ:Int→(Int→Option ρ)→XT ρ→Option ρ)=>∀(R:St→Option ρ) g κ,(∀v0,R (S_iV_in_etext_stands_0 p0 p1 p2 β v0)=g v0)→∀v0,go P hints hint77 b77 q77_0.1 (S_iV_in_etext_stands_0 p0 p1 p2 β v0) (kLp R κ)=Φ v0 g κ) _ _
def V_iV_in_etext_stands_0(β:Bool)(κ:XT ρ)(v0:Int):=goLp_iter (κ:=κ) (Φ:=fun v k=>(X_iV_in_etext_stands_0 p0 p1 p2 (ρ:=ρ)).f β v k κ) q77_0.2 (S:=fun v=>S_iV_in_etext_stands_0 p0 p1 p2 β v) (by intro R g hR v;exact(X_iV_in_etext_stands_0 p0 p1 p2 (ρ:=ρ)).ok β R g κ (fun v0=>hR v0) v) v0
end
@[go_sem] def W_iV_in_etext_stands_0f:=wl (V_iV_in_etext_stands_0 z6 z2 z15 false η z3)
@[go_sem] def W_iV_in_etext_stands_0t:=wl (V_iV_in_etext_stands_0 z6 z2 z15 true η z3)
section
variable(p0:List GVar)(p1:Int)(p2:List UInt8)
@[go_sem] def S_iV_in_etext_stands_0v1(β:Bool)(v0:Int):St:=⟨[(0,.d (.sl β (List.map eVar p0))),(1,.d (.fn (Fn.func 130) [] [.ptr (1)])),(7,.d (.int IntKind.i64 p1)),(8,.d (.int IntKind.i64 v0))],[],[.box (.d (.str p2)),.box (.d (.str p2))]⟩
@[go_sem] def X_iV_in_etext_stands_0v1:=mkL (p:=fun β (Φ:Int→(Int→Option ρ)→XT ρ→Option ρ)=>∀(R:St→Option ρ) g κ,(∀v0,R (S_iV_in_etext_stands_0v1 p0 p1 p2 β v0)=g v0)→∀v0,go P hints hint77 b77 q77_0.1 (S_iV_in_etext_stands_0v1 p0 p1 p2 β v0) (kLp R κ)=Φ v0 g κ) _ _
def V_iV_in_etext_stands_0v1(β:Bool)(κ:XT ρ)(v0:Int):=goLp_iter (κ:=κ) (Φ:=fun v k=>(X_iV_in_etext_stands_0v1 p0 p1 p2 (ρ:=ρ)).f β v k κ) q77_0.2 (S:=fun v=>S_iV_in_etext_stands_0v1 p0 p1 p2 β v) (by intro R g hR v;exact(X_iV_in_etext_stands_0v1 p0 p1 p2 (ρ:=ρ)).ok β R g κ (fun v0=>hR v0) v) v0
end
@[go_sem] def W_iV_in_etext_stands_0v1f:=wl (V_iV_in_etext_stands_0v1 z6 z2 z15 false η z3)
@[go_sem] def W_iV_in_etext_stands_0v1t:=wl (V_iV_in_etext_stands_0v1 z6 z2 z15 true η z3)
def F_etext_stands(a0:List UInt8)(a1:GScope):=mkF (p:=fun β (κ:KT ρ) (g:Int→Int→Option ρ)=>∀y0_0 y0_1,κ ([.d (.int IntKind.i64 y0_0),.d (.int IntKind.i64 y0_1)],[])=g y0_0 y0_1) (ds:=fun β=>[eS a0,(eScope β) a1]) ge40 (fun _=>rfl) _
def f_etext_stands(a0:List UInt8)(a1:GScope)(g0):=(F_etext_stands (ρ:=ρ) a0 a1).1 g0
@[go_sem] def W_etext_stands:=wk (f_etext_stands (ρ:=ρ) z15 (GScope.mk z5 z6 z7 z8 z9 z2)) ((F_etext_stands z15 (GScope.mk z5 z6 z7 z8 z9 z2)).2 β κ _ (fun _ _=>rfl))
attribute [go_sem] ge80
attribute [go_sem] ge79
section
variable(p0:List GChan)(p1:Int)(p2:List UInt8)
@[go_sem] def S_iC_in_etext_channel_0(β:Bool)(v0:Int):St:=⟨[(0,.d (.sl β (List.map eChan p0))),(1,.d (.fn (Fn.func 80) [] [.ptr (0)])),(7,.d (.int IntKind.i64 p1)),(8,.d (.int IntKind.i64 v0))],[],[.box (.d (.str p2))]⟩
@[go_sem] def X_iC_in_etext_channel_0:=mkL (p:=fun β (Φ:Int→(Int→Option ρ)→XT ρ→Option ρ)=>∀(R:St→Option ρ) g κ,(∀v0,R (S_iC_in_etext_channel_0 p0 p1 p2 β v0)=g v0)→∀v0,go P hints hint79 b79 q79_0.1 (S_iC_in_etext_channel_0 p0 p1 p2 β v0) (kLp R κ)=Φ v0 g κ) _ _
def V_iC_in_etext_channel_0(β:Bool)(κ:XT ρ)(v0:Int):=goLp_iter (κ:=κ) (Φ:=fun v k=>(X_iC_in_etext_channel_0 p0 p1 p2 (ρ:=ρ)).f β v k κ) q79_0.2 (S:=fun v=>S_iC_in_etext_channel_0 p0 p1 p2 β v) (by intro R g hR v;exact(X_iC_in_etext_channel_0 p0 p1 p2 (ρ:=ρ)).ok β R g κ (fun v0=>hR v0) v) v0
end
@[go_sem] def W_iC_in_etext_channel_0f:=wl (V_iC_in_etext_channel_0 z7 z2 z15 false η z3)
@[go_sem] def W_iC_in_etext_channel_0t:=wl (V_iC_in_etext_channel_0 z7 z2 z15 true η z3)
def F_etext_channel(a0:List UInt8)(a1:GScope):=mkF (p:=fun β (κ:KT ρ) (g:Int→Option ρ)=>∀y0_0,κ ([.d (.int IntKind.i64 y0_0)],[])=g y0_0) (ds:=fun β=>[eS a0,(eScope β) a1]) ge41 (fun _=>rfl) _
def f_etext_channel(a0:List UInt8)(a1:GScope)(g0):=(F_etext_channel (ρ:=ρ) a0 a1).1 g0
@[go_sem] def W_etext_channel:=wk (f_etext_channel (ρ:=ρ) z15 (GScope.mk z5 z6 z7 z8 z9 z2)) ((F_etext_channel z15 (GScope.mk z5 z6 z7 z8 z9 z2)).2 β κ _ (fun _=>rfl))
attribute [go_sem] ge82
attribute [go_sem] ge81
section
variable(p0:List GProc)(p1:Int)(p2:List UInt8)
@[go_sem] def S_iP_in_etext_process_0(β:Bool)(v0:Int):St:=⟨[(0,.d (.sl β (List.map (eProc β) p0))),(1,.d (.fn (Fn.func 82) [] [.ptr (0)])),(7,.d (.int IntKind.i64 p1)),(8,.d (.int IntKind.i64 v0))],[],[.box (.d (.str p2))]⟩
@[go_sem] def X_iP_in_etext_process_0:=mkL (p:=fun β (Φ:Int→(Int→Option ρ)→XT ρ→Option ρ)=>∀(R:St→Option ρ) g κ,(∀v0,R (S_iP_in_etext_process_0 p0 p1 p2 β v0)=g v0)→∀v0,go P hints hint81 b81 q81_0.1 (S_iP_in_etext_process_0 p0 p1 p2 β v0) (kLp R κ)=Φ v0 g κ) _ _
def V_iP_in_etext_process_0(β:Bool)(κ:XT ρ)(v0:Int):=goLp_iter (κ:=κ) (Φ:=fun v k=>(X_iP_in_etext_process_0 p0 p1 p2 (ρ:=ρ)).f β v k κ) q81_0.2 (S:=fun v=>S_iP_in_etext_process_0 p0 p1 p2 β v) (by intro R g hR v;exact(X_iP_in_etext_process_0 p0 p1 p2 (ρ:=ρ)).ok β R g κ (fun v0=>hR v0) v) v0
end
@[go_sem] def W_iP_in_etext_process_0f:=wl (V_iP_in_etext_process_0 z8 z2 z15 false η z3)
@[go_sem] def W_iP_in_etext_process_0t:=wl (V_iP_in_etext_process_0 z8 z2 z15 true η z3)
def F_etext_process(a0:List UInt8)(a1:GScope):=mkF (p:=fun β (κ:KT ρ) (g:Int→Option ρ)=>∀y0_0,κ ([.d (.int IntKind.i64 y0_0)],[])=g y0_0) (ds:=fun β=>[eS a0,(eScope β) a1]) ge42 (fun _=>rfl) _
def f_etext_process(a0:List UInt8)(a1:GScope)(g0):=(F_etext_process (ρ:=ρ) a0 a1).1 g0
@[go_sem] def W_etext_process:=wk (f_etext_process (ρ:=ρ) z15 (GScope.mk z5 z6 z7 z8 z9 z2)) ((F_etext_process z15 (GScope.mk z5 z6 z7 z8 z9 z2)).2 β κ _ (fun _=>rfl))
attribute [go_sem] ge84
attribute [go_sem] ge83
section
variable(p0:List GScalar)(p1:Int)(p2:List UInt8)
@[go_sem] def S_iS_in_etext_scalar_0(β:Bool)(v0:Int):St:=⟨[(0,.d (.sl β (List.map eScalar p0))),(1,.d (.fn (Fn.func 84) [] [.ptr (0)])),(7,.d (.int IntKind.i64 p1)),(8,.d (.int IntKind.i64 v0))],[],[.box (.d (.str p2))]⟩
@[go_sem] def X_iS_in_etext_scalar_0:=mkL (p:=fun β (Φ:Int→(Int→Option ρ)→XT ρ→Option ρ)=>∀(R:St→Option ρ) g κ,(∀v0,R (S_iS_in_etext_scalar_0 p0 p1 p2 β v0)=g v0)→∀v0,go P hints hint83 b83 q83_0.1 (S_iS_in_etext_scalar_0 p0 p1 p2 β v0) (kLp R κ)=Φ v0 g κ) _ _
def V_iS_in_etext_scalar_0(β:Bool)(κ:XT ρ)(v0:Int):=goLp_iter (κ:=κ) (Φ:=fun v k=>(X_iS_in_etext_scalar_0 p0 p1 p2 (ρ:=ρ)).f β v k κ) q83_0.2 (S:=fun v=>S_iS_in_etext_scalar_0 p0 p1 p2 β v) (by intro R g hR v;exact(X_iS_in_etext_scalar_0 p0 p1 p2 (ρ:=ρ)).ok β R g κ (fun v0=>hR v0) v) v0
end
@[go_sem] def W_iS_in_etext_scalar_0f:=wl (V_iS_in_etext_scalar_0 z5 z2 z15 false η z3)
@[go_sem] def W_iS_in_etext_scalar_0t:=wl (V_iS_in_etext_scalar_0 z5 z2 z15 true η z3)
def F_etext_scalar(a0:List UInt8)(a1:GScope):=mkF (p:=fun β (κ:KT ρ) (g:Int→Option ρ)=>∀y0_0,κ ([.d (.int IntKind.i64 y0_0)],[])=g y0_0) (ds:=fun β=>[eS a0,(eScope β) a1]) ge43 (fun _=>rfl) _
def f_etext_scalar(a0:List UInt8)(a1:GScope)(g0):=(F_etext_scalar (ρ:=ρ) a0 a1).1 g0
@[go_sem] def W_etext_scalar:=wk (f_etext_scalar (ρ:=ρ) z15 (GScope.mk z5 z6 z7 z8 z9 z2)) ((F_etext_scalar z15 (GScope.mk z5 z6 z7 z8 z9 z2)).2 β κ _ (fun _=>rfl))
def F_etext_named(a0:GNode)(a1:GScope):=mkF (p:=fun β (κ:KT ρ) (g:(List UInt8)→Bool→Option ρ)=>∀y0_0 y0_1,κ ([.d (.str y0_0),.d (.bool y0_1)],[])=g y0_0 y0_1) (ds:=fun β=>[eNode a0,(eScope β) a1]) ge20 (fun _=>rfl) _
def f_etext_named(a0:GNode)(a1:GScope)(g0):=(F_etext_named (ρ:=ρ) a0 a1).1 g0
@[go_sem] def W_etext_named:=wk (f_etext_named (ρ:=ρ) (GNode.mk z2 z3) (GScope.mk z5 z6 z7 z8 z9 z11)) ((F_etext_named (GNode.mk z2 z3) (GScope.mk z5 z6 z7 z8 z9 z11)).2 β κ _ (fun _ _=>rfl))
def F_etext_tells(a0:Int):=mkF (p:=fun β (κ:KT ρ) (g:Bool→Option ρ)=>∀y0_0,κ ([.d (.bool y0_0)],[])=g y0_0) (ds:=fun β=>[eI a0]) ge22 (fun _=>rfl) _
def f_etext_tells(a0:Int)(g0):=(F_etext_tells (ρ:=ρ) a0).1 g0
@[go_sem] def W_etext_tells:=wk (f_etext_tells (ρ:=ρ) z2) ((F_etext_tells z2).2 true κ _ (fun _=>rfl))
def F_etext_leaf(a0:GNode)(a1:List UInt8):=mkF (p:=fun β (κ:KT ρ) (g:(List UInt8)→Int→Option ρ)=>∀y0_0 y0_1,κ ([.d (.agg [.str y0_0,.int IntKind.i64 (a0.Op),.int IntKind.i64 y0_1])],[])=g y0_0 y0_1) (ds:=fun β=>[eNode a0,eS a1]) ge50 (fun _=>rfl) _
def f_etext_leaf(a0:GNode)(a1:List UInt8)(g0):=(F_etext_leaf (ρ:=ρ) a0 a1).1 g0
@[go_sem] def W_etext_leaf:=wk (f_etext_leaf (ρ:=ρ) (GNode.mk z2 z3) z15) ((F_etext_leaf (GNode.mk z2 z3) z15).2 true κ _ (fun _ _=>rfl))
def F_etext_signOf(a0:Int):=mkF (p:=fun β (κ:KT ρ) (g:(List UInt8)→Int→Bool→Option ρ)=>∀y0_0 y0_1 y0_2,κ ([.d (.agg [.str y0_0,.int IntKind.i64 y0_1]),.d (.bool y0_2)],[])=g y0_0 y0_1 y0_2) (ds:=fun β=>[eI a0]) ge48 (fun _=>rfl) _
def f_etext_signOf(a0:Int)(g0):=(F_etext_signOf (ρ:=ρ) a0).1 g0
@[go_sem] def W_etext_signOf:=wk (f_etext_signOf (ρ:=ρ) z2) ((F_etext_signOf z2).2 true κ _ (fun _ _ _=>rfl))
def F_etext_part_in(a0:Gpart)(a1:Bool):=mkF (p:=fun β (κ:KT ρ) (g:(List UInt8)→Option ρ)=>∀y0_0,κ ([.d (.str y0_0)],[])=g y0_0) (ds:=fun β=>[epart a0,eB a1]) ge47 (fun _=>rfl) _
def f_etext_part_in(a0:Gpart)(a1:Bool)(g0):=(F_etext_part_in (ρ:=ρ) a0 a1).1 g0
@[go_sem] def W_etext_part_in:=wk (f_etext_part_in (ρ:=ρ) (Gpart.mk z15 z2 z3) z16) ((F_etext_part_in (Gpart.mk z15 z2 z3) z16).2 true κ _ (fun _=>rfl))
def F_etext_joined(a0:Int)(a1:Gpart)(a2:Gpart):=mkF (p:=fun β (κ:KT ρ) (g:(List UInt8)→Int→Option ρ)=>∀y0_0 y0_1,κ ([.d (.agg [.str y0_0,.int IntKind.i64 (a0),.int IntKind.i64 y0_1])],[])=g y0_0 y0_1) (ds:=fun β=>[eI a0,epart a1,epart a2]) ge49 (fun _=>rfl) _
def f_etext_joined(a0:Int)(a1:Gpart)(a2:Gpart)(g0):=(F_etext_joined (ρ:=ρ) a0 a1 a2).1 g0
@[go_sem] def W_etext_joined:=wk (f_etext_joined (ρ:=ρ) z2 (Gpart.mk z15 z3 z11) (Gpart.mk z17 z12 z18)) ((F_etext_joined z2 (Gpart.mk z15 z3 z11) (Gpart.mk z17 z12 z18)).2 true κ _ (fun _ _=>rfl))
section
variable(p0:List UInt8)(p1:List GScalar)(p2:List GVar)(p3:List GChan)(p4:List GProc)(p5:List GVar)(p6:Int)
@[go_sem] def S_r11_Local_0(β:Bool)(v0:Int):St:=⟨[(1,.d (.str p0)),(2,.loc (Root.l 2 0) [] (0) 0),(5,.d (.int IntKind.i64 v0))],[((2,0),.own [.d (.agg [.sl β (List.map eScalar p1),.sl β (List.map eVar p2),.sl β (List.map eChan p3),.sl β (List.map (eProc β) p4),.sl β (List.map eVar p5),.int IntKind.i64 p6])])],[]⟩
@[go_sem] def X_r11_Local_0:=mkL (p:=fun β (Φ:Int→(Int→Option ρ)→XT ρ→Option ρ)=>∀(R:St→Option ρ) g κ,(∀v0,R (S_r11_Local_0 p0 p1 p2 p3 p4 p5 p6 β v0)=g v0)→∀v0,go P hints hint97 b97 q97_0.1 (S_r11_Local_0 p0 p1 p2 p3 p4 p5 p6 β v0) (kLp R κ)=Φ v0 g κ) _ _
def V_r11_Local_0(β:Bool)(κ:XT ρ)(v0:Int):=goLp_iter (κ:=κ) (Φ:=fun v k=>(X_r11_Local_0 p0 p1 p2 p3 p4 p5 p6 (ρ:=ρ)).f β v k κ) q97_0.2 (S:=fun v=>S_r11_Local_0 p0 p1 p2 p3 p4 p5 p6 β v) (by intro R g hR v;exact(X_r11_Local_0 p0 p1 p2 p3 p4 p5 p6 (ρ:=ρ)).ok β R g κ (fun v0=>hR v0) v) v0
end
@[go_sem] def W_r11_Local_0f:=wl (V_r11_Local_0 z15 z5 z6 z7 z8 z9 z2 false η z3)
@[go_sem] def W_r11_Local_0t:=wl (V_r11_Local_0 z15 z5 z6 z7 z8 z9 z2 true η z3)
def F_r11_Local(a0:GScope)(a1:List UInt8):=mkF (p:=fun β (κ:KT ρ) (g:Int→Option ρ)=>∀y0_0,κ ([.d (.int IntKind.i64 y0_0)],[])=g y0_0) (ds:=fun β=>[(eScope β) a0,eS a1]) ge97 (fun _=>rfl) _
def f_r11_Local(a0:GScope)(a1:List UInt8)(g0):=(F_r11_Local (ρ:=ρ) a0 a1).1 g0
@[go_sem] def W_r11_Local:=wk (f_r11_Local (ρ:=ρ) (GScope.mk z5 z6 z7 z8 z9 z2) z15) ((F_r11_Local (GScope.mk z5 z6 z7 z8 z9 z2) z15).2 β κ _ (fun _=>rfl))
section
variable(p0:List UInt8)(p1:List GScalar)(p2:List GVar)(p3:List GChan)(p4:List GProc)(p5:List GVar)(p6:Int)
@[go_sem] def S_r11_Var_0(β:Bool)(v0:Int):St:=⟨[(1,.d (.str p0)),(2,.loc (Root.l 2 0) [] (0) 0),(5,.d (.int IntKind.i64 v0))],[((2,0),.own [.d (.agg [.sl β (List.map eScalar p1),.sl β (List.map eVar p2),.sl β (List.map eChan p3),.sl β (List.map (eProc β) p4),.sl β (List.map eVar p5),.int IntKind.i64 p6])])],[]⟩
@[go_sem] def X_r11_Var_0:=mkL (p:=fun β (Φ:Int→(Int→Option ρ)→XT ρ→Option ρ)=>∀(R:St→Option ρ) g κ,(∀v0,R (S_r11_Var_0 p0 p1 p2 p3 p4 p5 p6 β v0)=g v0)→∀v0,go P hints hint96 b96 q96_0.1 (S_r11_Var_0 p0 p1 p2 p3 p4 p5 p6 β v0) (kLp R κ)=Φ v0 g κ) _ _
def V_r11_Var_0(β:Bool)(κ:XT ρ)(v0:Int):=goLp_iter (κ:=κ) (Φ:=fun v k=>(X_r11_Var_0 p0 p1 p2 p3 p4 p5 p6 (ρ:=ρ)).f β v k κ) q96_0.2 (S:=fun v=>S_r11_Var_0 p0 p1 p2 p3 p4 p5 p6 β v) (by intro R g hR v;exact(X_r11_Var_0 p0 p1 p2 p3 p4 p5 p6 (ρ:=ρ)).ok β R g κ (fun v0=>hR v0) v) v0
end
@[go_sem] def W_r11_Var_0f:=wl (V_r11_Var_0 z15 z5 z6 z7 z8 z9 z2 false η z3)
@[go_sem] def W_r11_Var_0t:=wl (V_r11_Var_0 z15 z5 z6 z7 z8 z9 z2 true η z3)
def F_r11_Var(a0:GScope)(a1:List UInt8):=mkF (p:=fun β (κ:KT ρ) (g:Int→Option ρ)=>∀y0_0,κ ([.d (.int IntKind.i64 y0_0)],[])=g y0_0) (ds:=fun β=>[(eScope β) a0,eS a1]) ge96 (fun _=>rfl) _
def f_r11_Var(a0:GScope)(a1:List UInt8)(g0):=(F_r11_Var (ρ:=ρ) a0 a1).1 g0
@[go_sem] def W_r11_Var:=wk (f_r11_Var (ρ:=ρ) (GScope.mk z5 z6 z7 z8 z9 z2) z15) ((F_r11_Var (GScope.mk z5 z6 z7 z8 z9 z2) z15).2 β κ _ (fun _=>rfl))
section
variable(p0:List UInt8)(p1:List GScalar)(p2:List GVar)(p3:List GChan)(p4:List GProc)(p5:List GVar)(p6:Int)
@[go_sem] def S_r11_Chan_0(β:Bool)(v0:Int):St:=⟨[(1,.d (.str p0)),(2,.loc (Root.l 2 0) [] (0) 0),(5,.d (.int IntKind.i64 v0))],[((2,0),.own [.d (.agg [.sl β (List.map eScalar p1),.sl β (List.map eVar p2),.sl β (List.map eChan p3),.sl β (List.map (eProc β) p4),.sl β (List.map eVar p5),.int IntKind.i64 p6])])],[]⟩
@[go_sem] def X_r11_Chan_0:=mkL (p:=fun β (Φ:Int→(Int→Option ρ)→XT ρ→Option ρ)=>∀(R:St→Option ρ) g κ,(∀v0,R (S_r11_Chan_0 p0 p1 p2 p3 p4 p5 p6 β v0)=g v0)→∀v0,go P hints hint98 b98 q98_0.1 (S_r11_Chan_0 p0 p1 p2 p3 p4 p5 p6 β v0) (kLp R κ)=Φ v0 g κ) _ _
def V_r11_Chan_0(β:Bool)(κ:XT ρ)(v0:Int):=goLp_iter (κ:=κ) (Φ:=fun v k=>(X_r11_Chan_0 p0 p1 p2 p3 p4 p5 p6 (ρ:=ρ)).f β v k κ) q98_0.2 (S:=fun v=>S_r11_Chan_0 p0 p1 p2 p3 p4 p5 p6 β v) (by intro R g hR v;exact(X_r11_Chan_0 p0 p1 p2 p3 p4 p5 p6 (ρ:=ρ)).ok β R g κ (fun v0=>hR v0) v) v0
end
@[go_sem] def W_r11_Chan_0f:=wl (V_r11_Chan_0 z15 z5 z6 z7 z8 z9 z2 false η z3)
@[go_sem] def W_r11_Chan_0t:=wl (V_r11_Chan_0 z15 z5 z6 z7 z8 z9 z2 true η z3)
def F_r11_Chan(a0:GScope)(a1:List UInt8):=mkF (p:=fun β (κ:KT ρ) (g:Int→Option ρ)=>∀y0_0,κ ([.d (.int IntKind.i64 y0_0)],[])=g y0_0) (ds:=fun β=>[(eScope β) a0,eS a1]) ge98 (fun _=>rfl) _
def f_r11_Chan(a0:GScope)(a1:List UInt8)(g0):=(F_r11_Chan (ρ:=ρ) a0 a1).1 g0
@[go_sem] def W_r11_Chan:=wk (f_r11_Chan (ρ:=ρ) (GScope.mk z5 z6 z7 z8 z9 z2) z15) ((F_r11_Chan (GScope.mk z5 z6 z7 z8 z9 z2) z15).2 β κ _ (fun _=>rfl))
section
variable(p0:List UInt8)(p1:List GScalar)(p2:List GVar)(p3:List GChan)(p4:List GProc)(p5:List GVar)(p6:Int)
@[go_sem] def S_r11_Proc_0(β:Bool)(v0:Int):St:=⟨[(1,.d (.str p0)),(2,.loc (Root.l 2 0) [] (0) 0),(5,.d (.int IntKind.i64 v0))],[((2,0),.own [.d (.agg [.sl β (List.map eScalar p1),.sl β (List.map eVar p2),.sl β (List.map eChan p3),.sl β (List.map (eProc β) p4),.sl β (List.map eVar p5),.int IntKind.i64 p6])])],[]⟩
@[go_sem] def X_r11_Proc_0:=mkL (p:=fun β (Φ:Int→(Int→Option ρ)→XT ρ→Option ρ)=>∀(R:St→Option ρ) g κ,(∀v0,R (S_r11_Proc_0 p0 p1 p2 p3 p4 p5 p6 β v0)=g v0)→∀v0,go P hints hint99 b99 q99_0.1 (S_r11_Proc_0 p0 p1 p2 p3 p4 p5 p6 β v0) (kLp R κ)=Φ v0 g κ) _ _
def V_r11_Proc_0(β:Bool)(κ:XT ρ)(v0:Int):=goLp_iter (κ:=κ) (Φ:=fun v k=>(X_r11_Proc_0 p0 p1 p2 p3 p4 p5 p6 (ρ:=ρ)).f β v k κ) q99_0.2 (S:=fun v=>S_r11_Proc_0 p0 p1 p2 p3 p4 p5 p6 β v) (by intro R g hR v;exact(X_r11_Proc_0 p0 p1 p2 p3 p4 p5 p6 (ρ:=ρ)).ok β R g κ (fun v0=>hR v0) v) v0
end
@[go_sem] def W_r11_Proc_0f:=wl (V_r11_Proc_0 z15 z5 z6 z7 z8 z9 z2 false η z3)
@[go_sem] def W_r11_Proc_0t:=wl (V_r11_Proc_0 z15 z5 z6 z7 z8 z9 z2 true η z3)
def F_r11_Proc(a0:GScope)(a1:List UInt8):=mkF (p:=fun β (κ:KT ρ) (g:Int→Option ρ)=>∀y0_0,κ ([.d (.int IntKind.i64 y0_0)],[])=g y0_0) (ds:=fun β=>[(eScope β) a0,eS a1]) ge99 (fun _=>rfl) _
def f_r11_Proc(a0:GScope)(a1:List UInt8)(g0):=(F_r11_Proc (ρ:=ρ) a0 a1).1 g0
@[go_sem] def W_r11_Proc:=wk (f_r11_Proc (ρ:=ρ) (GScope.mk z5 z6 z7 z8 z9 z2) z15) ((F_r11_Proc (GScope.mk z5 z6 z7 z8 z9 z2) z15).2 β κ _ (fun _=>rfl))
section
variable(p0:List UInt8)(p1:List GScalar)(p2:List GVar)(p3:List GChan)(p4:List GProc)(p5:List GVar)(p6:Int)
@[go_sem] def S_r11_Scalar_0(β:Bool)(v0:Int):St:=⟨[(1,.d (.str p0)),(2,.loc (Root.l 2 0) [] (0) 0),(5,.d (.int IntKind.i64 v0))],[((2,0),.own [.d (.agg [.sl β (List.map eScalar p1),.sl β (List.map eVar p2),.sl β (List.map eChan p3),.sl β (List.map (eProc β) p4),.sl β (List.map eVar p5),.int IntKind.i64 p6])])],[]⟩
@[go_sem] def X_r11_Scalar_0:=mkL (p:=fun β (Φ:Int→(Int→Option ρ)→XT ρ→Option ρ)=>∀(R:St→Option ρ) g κ,(∀v0,R (S_r11_Scalar_0 p0 p1 p2 p3 p4 p5 p6 β v0)=g v0)→∀v0,go P hints hint100 b100 q100_0.1 (S_r11_Scalar_0 p0 p1 p2 p3 p4 p5 p6 β v0) (kLp R κ)=Φ v0 g κ) _ _
def V_r11_Scalar_0(β:Bool)(κ:XT ρ)(v0:Int):=goLp_iter (κ:=κ) (Φ:=fun v k=>(X_r11_Scalar_0 p0 p1 p2 p3 p4 p5 p6 (ρ:=ρ)).f β v k κ) q100_0.2 (S:=fun v=>S_r11_Scalar_0 p0 p1 p2 p3 p4 p5 p6 β v) (by intro R g hR v;exact(X_r11_Scalar_0 p0 p1 p2 p3 p4 p5 p6 (ρ:=ρ)).ok β R g κ (fun v0=>hR v0) v) v0
end
@[go_sem] def W_r11_Scalar_0f:=wl (V_r11_Scalar_0 z15 z5 z6 z7 z8 z9 z2 false η z3)
@[go_sem] def W_r11_Scalar_0t:=wl (V_r11_Scalar_0 z15 z5 z6 z7 z8 z9 z2 true η z3)
def F_r11_Scalar(a0:GScope)(a1:List UInt8):=mkF (p:=fun β (κ:KT ρ) (g:Int→Option ρ)=>∀y0_0,κ ([.d (.int IntKind.i64 y0_0)],[])=g y0_0) (ds:=fun β=>[(eScope β) a0,eS a1]) ge100 (fun _=>rfl) _
def f_r11_Scalar(a0:GScope)(a1:List UInt8)(g0):=(F_r11_Scalar (ρ:=ρ) a0 a1).1 g0
@[go_sem] def W_r11_Scalar:=wk (f_r11_Scalar (ρ:=ρ) (GScope.mk z5 z6 z7 z8 z9 z2) z15) ((F_r11_Scalar (GScope.mk z5 z6 z7 z8 z9 z2) z15).2 β κ _ (fun _=>rfl))
def F_r11_name(a0:GNode)(a1:GScope):=mkF (p:=fun β (κ:KT ρ) (g:(List UInt8)→Bool→Option ρ)=>∀y0_0 y0_1,κ ([.d (.str y0_0),.d (.bool y0_1)],[])=g y0_0 y0_1) (ds:=fun β=>[eNode a0,(eScope β) a1]) ge60 (fun _=>rfl) _
def f_r11_name(a0:GNode)(a1:GScope)(g0):=(F_r11_name (ρ:=ρ) a0 a1).1 g0
@[go_sem] def W_r11_name:=wk (f_r11_name (ρ:=ρ) (GNode.mk z2 z3) (GScope.mk z5 z6 z7 z8 z9 z11)) ((F_r11_name (GNode.mk z2 z3) (GScope.mk z5 z6 z7 z8 z9 z11)).2 β κ _ (fun _ _=>rfl))
section
variable(p0:List GNode)(p1:Int)(p2:Int)(p3:List Int)
@[go_sem] def S_r10_Spans_0(β:Bool)(n0:Nat)(v0:Int)(v1:Int):St:=⟨[(0,.d (.sl β (List.map eNode p0))),(4,.bor (.l 4 0) [] 0 n0),(5,.d (.int IntKind.i64 p1)),(6,.d (.int IntKind.i64 p2)),(7,.d (.int IntKind.i64 v0)),(8,.d (.int IntKind.i64 v1))],[((4,0),.own (tl eI p3))],[]⟩
@[go_sem] def X_r10_Spans_0:=mkL (p:=fun β (Φ:Int→Int→((Int)×(Int)→Option ρ)→XT ρ→Option ρ)=>∀(R:St→Option ρ) g κ,(∀n0 v0 v1,n0=List.length p3→R (S_r10_Spans_0 p0 p1 p2 p3 β n0 v0 v1)=g (v0,v1))→∀v0 v1,go P hints hint101 b101 q101_0.1 (S_r10_Spans_0 p0 p1 p2 p3 β (List.length p3) v0 v1) (kLp R κ)=Φ v0 v1 g κ) _ _
def V_r10_Spans_0(β:Bool)(κ:XT ρ)(n0:Nat)(v0:Int)(v1:Int)(hn0:n0=List.length p3):=goLp_n (S:=fun n0=>S_r10_Spans_0 p0 p1 p2 p3 β n0 v0 v1) hn0 (goLp_iter (κ:=κ) (Φ:=fun v k=>(X_r10_Spans_0 p0 p1 p2 p3 (ρ:=ρ)).f β v.1 v.2 k κ) q101_0.2 (S:=fun v=>S_r10_Spans_0 p0 p1 p2 p3 β (List.length p3) v.1 v.2) (by intro R g hR v;exact(X_r10_Spans_0 p0 p1 p2 p3 (ρ:=ρ)).ok β R g κ (fun n0 v0 v1 hn0=>by subst hn0;exact hR (v0,v1)) v.1 v.2) (v0,v1))
end
@[go_sem] def W_r10_Spans_0f(hn0:z13=List.length z4):=wl (V_r10_Spans_0 z0 z2 z3 z4 false η z13 z11 z12 hn0)
@[go_sem] def W_r10_Spans_0t(hn0:z13=List.length z4):=wl (V_r10_Spans_0 z0 z2 z3 z4 true η z13 z11 z12 hn0)
section
variable(p0:List GNode)
@[go_sem] def S_r10_Spans_1(β:Bool)(n0:Nat)(v0:Int)(v1:List (Int)):St:=⟨[(0,.d (.sl β (List.map eNode p0))),(4,.bor (.l 4 0) [] 0 n0),(5,.d (.int IntKind.i64 v0))],[((4,0),.own (tl eI v1))],[]⟩
@[go_sem] def X_r10_Spans_1:=mkL (p:=fun β (Φ:Int→(List (Int))→((Int)×(List (Int))→Option ρ)→XT ρ→Option ρ)=>∀(R:St→Option ρ) g κ,(∀n0 v0 v1,n0=List.length v1→R (S_r10_Spans_1 p0 β n0 v0 v1)=g (v0,v1))→∀v0 v1,go P hints hint101 b101 q101_1.1 (S_r10_Spans_1 p0 β (List.length v1) v0 v1) (kLp R κ)=Φ v0 v1 g κ) _ _
def V_r10_Spans_1(β:Bool)(κ:XT ρ)(n0:Nat)(v0:Int)(v1:List (Int))(hn0:n0=List.length v1):=goLp_n (S:=fun n0=>S_r10_Spans_1 p0 β n0 v0 v1) hn0 (goLp_iter (κ:=κ) (Φ:=fun v k=>(X_r10_Spans_1 p0 (ρ:=ρ)).f β v.1 v.2 k κ) q101_1.2 (S:=fun v=>S_r10_Spans_1 p0 β (List.length v.2) v.1 v.2) (by intro R g hR v;exact(X_r10_Spans_1 p0 (ρ:=ρ)).ok β R g κ (fun n0 v0 v1 hn0=>by subst hn0;exact hR (v0,v1)) v.1 v.2) (v0,v1))
end
@[go_sem] def W_r10_Spans_1_1f:=wl (V_r10_Spans_1 z0 false η 0 z2 [] rfl)
@[go_sem] def W_r10_Spans_1_1t:=wl (V_r10_Spans_1 z0 true η 0 z2 [] rfl)
def F_r10_Spans(a0:List GNode):=mkF (p:=fun β (κ:KT ρ) (g:(List Int)→Bool→Option ρ)=>(∀(y0_0:List Int) (y0_1:Bool),κ ([.d (.sl false (List.map eI y0_0)),.d (.bool y0_1)],[])=g y0_0 y0_1)∧(∀(y0_1:Bool),κ ([.d (.sl false (List.map eI ([]:List Int))),.d (.bool y0_1)],[])=g ([]:List Int) y0_1)) (ds:=fun β=>[(esNode β) a0]) ge101 (fun _=>rfl) _
def f_r10_Spans(a0:List GNode)(g0):=(F_r10_Spans (ρ:=ρ) a0).1 g0
@[go_sem] def W_r10_Spans:=wk (f_r10_Spans (ρ:=ρ) z0) ((F_r10_Spans z0).2 β κ _ ⟨(fun _ _=>rfl),(fun _=>rfl)⟩)
def F_r11_around(a0:List UInt8)(a1:Bool):=mkF (p:=fun β (κ:KT ρ) (g:(List UInt8)→Option ρ)=>∀y0_0,κ ([.d (.str y0_0)],[])=g y0_0) (ds:=fun β=>[eS a0,eB a1]) ge102 (fun _=>rfl) _
def f_r11_around(a0:List UInt8)(a1:Bool)(g0):=(F_r11_around (ρ:=ρ) a0 a1).1 g0
@[go_sem] def W_r11_around:=wk (f_r11_around (ρ:=ρ) z15 z16) ((F_r11_around z15 z16).2 true κ _ (fun _=>rfl))
def F_r11_strength(a0:GNode):=mkF (p:=fun β (κ:KT ρ) (g:Int→Option ρ)=>∀y0_0,κ ([.d (.int IntKind.i64 y0_0)],[])=g y0_0) (ds:=fun β=>[eNode a0]) ge103 (fun _=>rfl) _
def f_r11_strength(a0:GNode)(g0):=(F_r11_strength (ρ:=ρ) a0).1 g0
@[go_sem] def W_r11_strength:=wk (f_r11_strength (ρ:=ρ) (GNode.mk z2 z3)) ((F_r11_strength (GNode.mk z2 z3)).2 true κ _ (fun _=>rfl))
def F_r11_sign(a0:Int):=mkF (p:=fun β (κ:KT ρ) (g:(List UInt8)→Option ρ)=>∀y0_0,κ ([.d (.str y0_0)],[])=g y0_0) (ds:=fun β=>[eI a0]) ge104 (fun _=>rfl) _
def f_r11_sign(a0:Int)(g0):=(F_r11_sign (ρ:=ρ) a0).1 g0
@[go_sem] def W_r11_sign:=wk (f_r11_sign (ρ:=ρ) z2) ((F_r11_sign z2).2 true κ _ (fun _=>rfl))
section
variable(p0:Int)
@[go_sem] def S_r01_Decimal_0(β:Bool)(v0:List UInt8)(v1:Int):St:=⟨[(0,.d (.int IntKind.i64 p0)),(3,.d (.str v0)),(4,.d (.int IntKind.i64 v1))],[],[]⟩
@[go_sem] def X_r01_Decimal_0:=mkL (p:=fun β (Φ:(List UInt8)→Int→((List UInt8)×(Int)→Option ρ)→XT ρ→Option ρ)=>∀(R:St→Option ρ) g κ,(∀v0 v1,R (S_r01_Decimal_0 p0 β v0 v1)=g (v0,v1))→∀v0 v1,go P hints hint91 b91 q91_0.1 (S_r01_Decimal_0 p0 β v0 v1) (kLp R κ)=Φ v0 v1 g κ) _ _
def V_r01_Decimal_0(β:Bool)(κ:XT ρ)(v0:List UInt8)(v1:Int):=goLp_iter (κ:=κ) (Φ:=fun v k=>(X_r01_Decimal_0 p0 (ρ:=ρ)).f β v.1 v.2 k κ) q91_0.2 (S:=fun v=>S_r01_Decimal_0 p0 β v.1 v.2) (by intro R g hR v;exact(X_r01_Decimal_0 p0 (ρ:=ρ)).ok β R g κ (fun v0 v1=>hR (v0,v1)) v.1 v.2) (v0,v1)
end
@[go_sem] def W_r01_Decimal_0t:=wl (V_r01_Decimal_0 z2 true η z15 z3)
def F_r01_Decimal(a0:Int):=mkF (p:=fun β (κ:KT ρ) (g:(List UInt8)→Option ρ)=>∀y0_0,κ ([.d (.str y0_0)],[])=g y0_0) (ds:=fun β=>[eI a0]) ge91 (fun _=>rfl) _
def f_r01_Decimal(a0:Int)(g0):=(F_r01_Decimal (ρ:=ρ) a0).1 g0
@[go_sem] def W_r01_Decimal:=wk (f_r01_Decimal (ρ:=ρ) z2) ((F_r01_Decimal z2).2 true κ _ (fun _=>rfl))
def F_law11_Light(a0:List GNode)(a1:GScope):=mkF (p:=fun β (κ:KT ρ) (g:Int→Option ρ)=>∀y0_0,κ ([.d (.int IntKind.i64 y0_0)],[])=g y0_0) (ds:=fun β=>[(esNode β) a0,(eScope β) a1]) ge6 (fun _=>rfl) _
def f_law11_Light(a0:List GNode)(a1:GScope)(g0):=(F_law11_Light (ρ:=ρ) a0 a1).1 g0
@[go_sem] def W_law11_Light:=wk (f_law11_Light (ρ:=ρ) z0 (GScope.mk z5 z6 z7 z8 z9 z2)) ((F_law11_Light z0 (GScope.mk z5 z6 z7 z8 z9 z2)).2 β κ _ (fun _=>rfl))
section
variable(p0:List UInt8)(p1:Int)
@[go_sem] def S_etext_opOf_0(β:Bool)(v0:Int):St:=⟨[(0,.d (.str p0)),(1,.d (.int IntKind.i64 p1)),(6,.d (.int IntKind.i64 v0))],[],[]⟩
@[go_sem] def X_etext_opOf_0:=mkL (p:=fun β (Φ:Int→(Int→Option ρ)→XT ρ→Option ρ)=>∀(R:St→Option ρ) g κ,(∀v0,R (S_etext_opOf_0 p0 p1 β v0)=g v0)→∀v0,go P hints hint113 b113 q113_0.1 (S_etext_opOf_0 p0 p1 β v0) (kLp R κ)=Φ v0 g κ) _ _
def V_etext_opOf_0(β:Bool)(κ:XT ρ)(v0:Int):=goLp_iter (κ:=κ) (Φ:=fun v k=>(X_etext_opOf_0 p0 p1 (ρ:=ρ)).f β v k κ) q113_0.2 (S:=fun v=>S_etext_opOf_0 p0 p1 β v) (by intro R g hR v;exact(X_etext_opOf_0 p0 p1 (ρ:=ρ)).ok β R g κ (fun v0=>hR v0) v) v0
end
@[go_sem] def W_etext_opOf_0t:=wl (V_etext_opOf_0 z15 z2 true η z3)
def F_etext_opOf(a0:List UInt8)(a1:Int):=mkF (p:=fun β (κ:KT ρ) (g:Int→Bool→Option ρ)=>∀y0_0 y0_1,κ ([.d (.int IntKind.i64 y0_0),.d (.bool y0_1)],[])=g y0_0 y0_1) (ds:=fun β=>[eS a0,eI a1]) ge113 (fun _=>rfl) _
def f_etext_opOf(a0:List UInt8)(a1:Int)(g0):=(F_etext_opOf (ρ:=ρ) a0 a1).1 g0
@[go_sem] def W_etext_opOf:=wk (f_etext_opOf (ρ:=ρ) z15 z2) ((F_etext_opOf z15 z2).2 true κ _ (fun _ _=>rfl))
section
variable(p0:List UInt8)(p1:List UInt8)
@[go_sem] def S_etext_parted_0(β:Bool)(v0:Int):St:=⟨[(0,.d (.str p0)),(1,.d (.str p1)),(5,.d (.int IntKind.i64 v0))],[],[]⟩
@[go_sem] def X_etext_parted_0:=mkL (p:=fun β (Φ:Int→(Int→Option ρ)→XT ρ→Option ρ)=>∀(R:St→Option ρ) g κ,(∀v0,R (S_etext_parted_0 p0 p1 β v0)=g v0)→∀v0,go P hints hint19 b19 q19_0.1 (S_etext_parted_0 p0 p1 β v0) (kLp R κ)=Φ v0 g κ) _ _
def V_etext_parted_0(β:Bool)(κ:XT ρ)(v0:Int):=goLp_iter (κ:=κ) (Φ:=fun v k=>(X_etext_parted_0 p0 p1 (ρ:=ρ)).f β v k κ) q19_0.2 (S:=fun v=>S_etext_parted_0 p0 p1 β v) (by intro R g hR v;exact(X_etext_parted_0 p0 p1 (ρ:=ρ)).ok β R g κ (fun v0=>hR v0) v) v0
end
@[go_sem] def W_etext_parted_0t:=wl (V_etext_parted_0 z15 z17 true η z2)
def F_etext_parted(a0:List UInt8)(a1:List UInt8):=mkF (p:=fun β (κ:KT ρ) (g:Int→Option ρ)=>∀y0_0,κ ([.d (.int IntKind.i64 y0_0)],[])=g y0_0) (ds:=fun β=>[eS a0,eS a1]) ge19 (fun _=>rfl) _
def f_etext_parted(a0:List UInt8)(a1:List UInt8)(g0):=(F_etext_parted (ρ:=ρ) a0 a1).1 g0
@[go_sem] def W_etext_parted:=wk (f_etext_parted (ρ:=ρ) z15 z17) ((F_etext_parted z15 z17).2 true κ _ (fun _=>rfl))
def F_r01_within(a0:Int):=mkF (p:=fun β (κ:KT ρ) (g:Bool→Option ρ)=>∀y0_0,κ ([.d (.bool y0_0)],[])=g y0_0) (ds:=fun β=>[eI a0]) ge90 (fun _=>rfl) _
def f_r01_within(a0:Int)(g0):=(F_r01_within (ρ:=ρ) a0).1 g0
@[go_sem] def W_r01_within:=wk (f_r01_within (ρ:=ρ) z2) ((F_r01_within z2).2 true κ _ (fun _=>rfl))
section
variable(p0:List UInt8)
@[go_sem] def S_r01_Number_0(β:Bool)(v0:Int)(v1:Int)(v2:Int):St:=⟨[(0,.d (.str p0)),(4,.d (.int IntKind.i64 v0)),(5,.d (.int IntKind.i64 v1)),(6,.d (.int IntKind.i64 v2))],[],[]⟩
@[go_sem] def X_r01_Number_0:=mkL (p:=fun β (Φ:Int→Int→Int→((Int)×(Int)×(Int)→Option ρ)→XT ρ→Option ρ)=>∀(R:St→Option ρ) g κ,(∀v0 v1 v2,R (S_r01_Number_0 p0 β v0 v1 v2)=g (v0,v1,v2))→∀v0 v1 v2,go P hints hint56 b56 q56_0.1 (S_r01_Number_0 p0 β v0 v1 v2) (kLp R κ)=Φ v0 v1 v2 g κ) _ _
def V_r01_Number_0(β:Bool)(κ:XT ρ)(v0:Int)(v1:Int)(v2:Int):=goLp_iter (κ:=κ) (Φ:=fun v k=>(X_r01_Number_0 p0 (ρ:=ρ)).f β v.1 v.2.1 v.2.2 k κ) q56_0.2 (S:=fun v=>S_r01_Number_0 p0 β v.1 v.2.1 v.2.2) (by intro R g hR v;exact(X_r01_Number_0 p0 (ρ:=ρ)).ok β R g κ (fun v0 v1 v2=>hR (v0,v1,v2)) v.1 v.2.1 v.2.2) (v0,v1,v2)
end
@[go_sem] def W_r01_Number_0t:=wl (V_r01_Number_0 z15 true η z2 z3 z11)
def F_r01_Number(a0:List UInt8):=mkF (p:=fun β (κ:KT ρ) (g:Int→Bool→Option ρ)=>∀y0_0 y0_1,κ ([.d (.int IntKind.i64 y0_0),.d (.bool y0_1)],[])=g y0_0 y0_1) (ds:=fun β=>[eS a0]) ge56 (fun _=>rfl) _
def f_r01_Number(a0:List UInt8)(g0):=(F_r01_Number (ρ:=ρ) a0).1 g0
@[go_sem] def W_r01_Number:=wk (f_r01_Number (ρ:=ρ) z15) ((F_r01_Number z15).2 true κ _ (fun _ _=>rfl))
section
variable(p0:List UInt8)(p1:List UInt8)
@[go_sem] def S_r11_Apart_0(β:Bool)(v0:Int):St:=⟨[(0,.d (.str p0)),(1,.d (.str p1)),(5,.d (.int IntKind.i64 v0))],[],[]⟩
@[go_sem] def X_r11_Apart_0:=mkL (p:=fun β (Φ:Int→(Int→Option ρ)→XT ρ→Option ρ)=>∀(R:St→Option ρ) g κ,(∀v0,R (S_r11_Apart_0 p0 p1 β v0)=g v0)→∀v0,go P hints hint32 b32 q32_0.1 (S_r11_Apart_0 p0 p1 β v0) (kLp R κ)=Φ v0 g κ) _ _
def V_r11_Apart_0(β:Bool)(κ:XT ρ)(v0:Int):=goLp_iter (κ:=κ) (Φ:=fun v k=>(X_r11_Apart_0 p0 p1 (ρ:=ρ)).f β v k κ) q32_0.2 (S:=fun v=>S_r11_Apart_0 p0 p1 β v) (by intro R g hR v;exact(X_r11_Apart_0 p0 p1 (ρ:=ρ)).ok β R g κ (fun v0=>hR v0) v) v0
end
@[go_sem] def W_r11_Apart_0t:=wl (V_r11_Apart_0 z15 z17 true η z2)
def F_r11_Apart(a0:List UInt8)(a1:List UInt8):=mkF (p:=fun β (κ:KT ρ) (g:Int→Option ρ)=>∀y0_0,κ ([.d (.int IntKind.i64 y0_0)],[])=g y0_0) (ds:=fun β=>[eS a0,eS a1]) ge32 (fun _=>rfl) _
def f_r11_Apart(a0:List UInt8)(a1:List UInt8)(g0):=(F_r11_Apart (ρ:=ρ) a0 a1).1 g0
@[go_sem] def W_r11_Apart:=wk (f_r11_Apart (ρ:=ρ) z15 z17) ((F_r11_Apart z15 z17).2 true κ _ (fun _=>rfl))
def F_r11_P_is(a0:Gr11_P)(a1:Int)(a2:List UInt8):=mkF (p:=fun β (κ:KT ρ) (g:Bool→Option ρ)=>∀y0_0,κ ([.d (.bool y0_0)],[])=g y0_0) (ds:=fun β=>[(er11_P β) a0,eI a1,eS a2]) ge59 (fun _=>rfl) _
def f_r11_P_is(a0:Gr11_P)(a1:Int)(a2:List UInt8)(g0):=(F_r11_P_is (ρ:=ρ) a0 a1 a2).1 g0
@[go_sem] def W_r11_P_is:=wk (f_r11_P_is (ρ:=ρ) (Gr11_P.mk z20 (GScope.mk z5 z6 z7 z8 z9 z2) z3) z11 z15) ((F_r11_P_is (Gr11_P.mk z20 (GScope.mk z5 z6 z7 z8 z9 z2) z3) z11 z15).2 β κ _ (fun _=>rfl))
section
variable(p0:Int)(p1:Int)(p2:List Gr09_Token)(p3:List GScalar)(p4:List GVar)(p5:List GChan)(p6:List GProc)(p7:List GVar)(p8:Int)(p9:Int)
@[go_sem] def S_r11_P_op_0(β:Bool)(v0:Int):St:=⟨[(1,.d (.int IntKind.i64 p0)),(2,.d (.int IntKind.i64 p1)),(3,.loc (Root.l 3 0) [] (0) 0),(7,.d (.int IntKind.i64 v0))],[((3,0),.own [.d (.agg [.sl β (List.map er09_Token p2),.sl β (List.map eScalar p3),.sl β (List.map eVar p4),.sl β (List.map eChan p5),.sl β (List.map (eProc β) p6),.sl β (List.map eVar p7),.int IntKind.i64 p8,.int IntKind.i64 p9])])],[]⟩
@[go_sem] def X_r11_P_op_0:=mkL (p:=fun β (Φ:Int→(Int→Option ρ)→XT ρ→Option ρ)=>∀(R:St→Option ρ) g κ,(∀v0,R (S_r11_P_op_0 p0 p1 p2 p3 p4 p5 p6 p7 p8 p9 β v0)=g v0)→∀v0,go P hints hint92 b92 q92_0.1 (S_r11_P_op_0 p0 p1 p2 p3 p4 p5 p6 p7 p8 p9 β v0) (kLp R κ)=Φ v0 g κ) _ _
def V_r11_P_op_0(β:Bool)(κ:XT ρ)(v0:Int):=goLp_iter (κ:=κ) (Φ:=fun v k=>(X_r11_P_op_0 p0 p1 p2 p3 p4 p5 p6 p7 p8 p9 (ρ:=ρ)).f β v k κ) q92_0.2 (S:=fun v=>S_r11_P_op_0 p0 p1 p2 p3 p4 p5 p6 p7 p8 p9 β v) (by intro R g hR v;exact(X_r11_P_op_0 p0 p1 p2 p3 p4 p5 p6 p7 p8 p9 (ρ:=ρ)).ok β R g κ (fun v0=>hR v0) v) v0
end
@[go_sem] def W_r11_P_op_0f:=wl (V_r11_P_op_0 z2 z3 z20 z5 z6 z7 z8 z9 z11 z12 false η z18)
@[go_sem] def W_r11_P_op_0t:=wl (V_r11_P_op_0 z2 z3 z20 z5 z6 z7 z8 z9 z11 z12 true η z18)
def F_r11_P_op(a0:Gr11_P)(a1:Int)(a2:Int):=mkF (p:=fun β (κ:KT ρ) (g:Int→Option ρ)=>∀y0_0,κ ([.d (.int IntKind.i64 y0_0)],[])=g y0_0) (ds:=fun β=>[(er11_P β) a0,eI a1,eI a2]) ge92 (fun _=>rfl) _
def f_r11_P_op(a0:Gr11_P)(a1:Int)(a2:Int)(g0):=(F_r11_P_op (ρ:=ρ) a0 a1 a2).1 g0
@[go_sem] def W_r11_P_op:=wk (f_r11_P_op (ρ:=ρ) (Gr11_P.mk z20 (GScope.mk z5 z6 z7 z8 z9 z2) z3) z11 z12) ((F_r11_P_op (Gr11_P.mk z20 (GScope.mk z5 z6 z7 z8 z9 z2) z3) z11 z12).2 β κ _ (fun _=>rfl))
def F_r11_P_wrong(a0:Gr11_P)(a1:Int)(a2:Int):=mkF (p:=fun β (κ:KT ρ) (g:Int→Option ρ)=>∀y0_0,κ ([.d (.agg [.sl false [],.int IntKind.i64 (0),.int IntKind.i64 y0_0,.int IntKind.i64 (a2)])],[])=g y0_0) (ds:=fun β=>[(er11_P β) a0,eI a1,eI a2]) ge30 (fun _=>rfl) _
def f_r11_P_wrong(a0:Gr11_P)(a1:Int)(a2:Int)(g0):=(F_r11_P_wrong (ρ:=ρ) a0 a1 a2).1 g0
@[go_sem] def W_r11_P_wrong:=wk (f_r11_P_wrong (ρ:=ρ) (Gr11_P.mk z20 (GScope.mk z5 z6 z7 z8 z9 z2) z3) z11 z12) ((F_r11_P_wrong (Gr11_P.mk z20 (GScope.mk z5 z6 z7 z8 z9 z2) z3) z11 z12).2 β κ _ (fun _=>rfl))
end
end Go.Etx
namespace Go.Etx
open Go Go.Am Go.Proofs
abbrev w64(n:Int):Int:=IntKind.i64.wrap n
def scOk(n:Int)(s:GScope):Bool:=decide (0≤n)&&decide (n≤(s.Scalars.length:Int))
def kOf(n:Int):Int:=if n=0 then 0 else w64 (1+n)
def varAt(l:List GVar)(n:Int)(s:GScope):Option GVar:=
 if 0≤n then(l[n.toNat]?).bind fun v=>if(scOk v.Scalar s&&scOk v.Over s)=true then some v else none else none
def numK(n:Int):Int×Int:=if -1048576≤n∧n≤1048576 then(0,0)else(0,10)
def namedK(x:GNode)(s:GScope):Int×Int:=
 if x.Op=5 then(if 1≤s.Self∧s.Self≤(s.Scalars.length:Int)then(w64 (1+s.Self),0)else(0,8))
 else if x.Op=6 then(if 0≤x.N then match s.Chans[x.N.toNat]? with |some c=>if scOk c.Scalar s=true then(0,0)else(0,8) |none=>(0,8)else(0,8))
 else if x.Op=7 then(if 0≤x.N∧w64 (Int.tdiv x.N 16)<(s.Procs.length:Int)then match s.Procs[(w64 (Int.tdiv x.N 16)).toNat]? with |some p=>if Int.tmod x.N 16<p.Locs then(0,0)else(0,8) |none=>(0,8)else(0,8))
 else if x.Op=8 then(if 0≤x.N∧x.N<(s.Scalars.length:Int)then(w64 (2+x.N),0)else(0,8))
 else(0,8)
def varK:Option GVar→Int×Int
 |some v=>if v.Over=0 then(kOf v.Scalar,0)else(0,9)
 |none=>(0,8)
def leafK(x:GNode)(s:GScope):Int×Int:=
 if x.Op=1 then numK x.N
 else if x.Op=2 then varK (varAt s.Vars x.N s)
 else if x.Op=4 then varK (varAt s.Locals x.N s)
 else namedK x s
def itemK(x:GNode)(k:Int)(s:GScope):Int×Int:=
 match varAt s.Vars x.N s with |some v=>if v.Over=0 then(0,9)else if k=w64 (1+v.Over)then(kOf v.Scalar,0)else(0,9) |none=>(0,8)
section
variable{ρ:Type}{s:GScope}
theorem scx_eq{n:Int}{g:Int→Bool→Option ρ}:f_expr_scalar n s g=if scOk n s=true then g (kOf n) true else g 0 false:=by
 simp only[f_expr_scalar,F_expr_scalar,mkF,scOk,kOf]
 by_cases h0:n=0
 ·subst h0;simp
 ·by_cases h1:n<0
  ·simp[h0,h1,show¬(0≤n)by omega]
  ·by_cases h2:(s.Scalars.length:Int)<n
   ·simp[h0,h1,h2,show¬(n≤(s.Scalars.length:Int))by omega]
   ·simp[h0,h1,h2,show 0≤n by omega,show n≤(s.Scalars.length:Int)by omega]
theorem kOf_0(hs:s.Scalars.length≤1000){n:Int}(h:scOk n s=true):kOf n=0↔n=0:=by
 simp only[scOk,xA,yD]at h
 unfold kOf
 split
 ·simp_all
 ·rename_i h0
  unfold w64
  rw[wrap_i64 (by omega) (by omega)]
  omega
theorem varx_eq{l:List GVar}{n:Int}{g:Int→Int→Bool→Option ρ}{e:Option ρ}(he:∀a b,g a b false=e):f_expr_variable l n s g=match varAt l n s with |some v=>g (kOf v.Scalar) (kOf v.Over) true |none=>e:=by
 simp only[f_expr_variable,F_expr_variable,mkF,varAt,scx_eq]
 by_cases h0:n<0
 ·simp[h0,show¬(0≤n)by omega,he]
 ·by_cases h1:(l.length:Int)≤n
  ·have:l[n.toNat]? =none:=List.getElem?_eq_none (by omega)
   simp[h0,h1,this,he,show 0≤n by omega]
  ·have hlt:n.toNat<l.length:=by omega
   simp only[h0,h1,if_false,show 0≤n by omega,if_true,xG hlt,xS]
   cases ha:scOk l[n.toNat].Scalar s <;>cases hb:scOk l[n.toNat].Over s <;>simp[he]
theorem tdiv16{n:Int}(h0:0≤n)(hn:n≤9223372036854775807):0≤w64 (Int.tdiv n 16):=by
 unfold w64
 rw[Int.tdiv_eq_ediv_of_nonneg h0,wrap_i64 (by omega) (by omega)]
 omega
theorem namedx_eq{x:GNode}(hN:x.N≤9223372036854775807){g:Int→Int→Option ρ}:f_expr_named x s g=g (namedK x s).1 (namedK x s).2:=by
 simp only[f_expr_named,F_expr_named,mkF,namedK,scx_eq]
 by_cases h5:x.Op=5
 ·simp only[h5,if_true]
  by_cases a:1≤s.Self <;>by_cases b:s.Self≤(s.Scalars.length:Int) <;>simp[a,b]
 simp only[h5,if_false]
 by_cases h6:x.Op=6
 ·simp only[h6,if_true]
  by_cases a:0≤x.N
  ·by_cases b:x.N<(s.Chans.length:Int)
   ·have hlt:x.N.toNat<s.Chans.length:=by omega
    simp only[a,b,if_true,xG hlt,xS]
    cases scOk s.Chans[x.N.toNat].Scalar s <;>simp
   ·have:s.Chans[x.N.toNat]? =none:=List.getElem?_eq_none (by omega)
    simp[a,b,this]
  ·simp[a]
 simp only[h6,if_false]
 by_cases h7:x.Op=7
 ·simp only[h7,if_true]
  by_cases a:0≤x.N
  ·by_cases b:w64 (Int.tdiv x.N 16)<(s.Procs.length:Int)
   ·have hq:0≤w64 (Int.tdiv x.N 16):=tdiv16 a hN
    have hlt:(w64 (Int.tdiv x.N 16)).toNat<s.Procs.length:=by omega
    simp only[a,b,and_self,if_true,hq,xG hlt,xS]
    by_cases c:Int.tmod x.N 16<s.Procs[(w64 (Int.tdiv x.N 16)).toNat].Locs <;>simp[c]
   ·simp[a,b]
  ·simp[a]
 simp only[h7,if_false]
 by_cases h8:x.Op=8
 ·simp only[h8,if_true]
  by_cases a:0≤x.N <;>by_cases b:x.N<(s.Scalars.length:Int) <;>simp[a,b]
 simp[h8]
theorem within_eq{l:List Int}(hl:l.length≤1000){g:Bool→Option ρ}:f_num_within l g=g (l.all fun n=>decide (-1048576≤n)&&decide (n≤1048576)):=by
 simp only[f_num_within,F_num_within,mkF]
 refine(iterC_all l.length (fun i:Nat=>(i:Int)) (fun i=>match l[i]? with |some n=>decide (-1048576≤n)&&decide (n≤1048576) |none=>true) (g false) (g true) (fun i k hi=> ?_) (fun k=> ?_)).trans ?_
 ·rw[if_pos (by omega),if_pos (by omega),xV,xG hi,xS,wrapS (by omega)]
  by_cases a:l[i]< -1048576
  ·simp[a,show¬(-1048576≤l[i])by omega]
  ·by_cases b:1048576<l[i]
   ·simp[a,b,show¬(l[i]≤1048576)by omega]
   ·simp[a,b,show -1048576≤l[i]by omega,show l[i]≤1048576 by omega]
 ·rw[if_neg (by omega)]
 ·by_cases h:∀i,i<l.length→(match l[i]? with |some n=>decide (-1048576≤n)&&decide (n≤1048576) |none=>true)=true
  ·rw[if_pos h]
   congr 1
   rw[eq_comm,List.all_eq_true]
   intro x hx
   obtain⟨i,hi,rfl⟩:=List.mem_iff_getElem.1 hx
   have:=h i hi
   rw[xG hi]at this
   exact this
  ·rw[if_neg h]
   congr 1
   rw[eq_comm,List.all_eq_false]
   by_cases hc:∃x∈l,¬(decide (-1048576≤x)&&decide (x≤1048576))=true
   ·exact hc
   ·refine absurd (fun i hi=> ?_) h
    rw[xG hi]
    exact Classical.not_not.1 fun hn=>hc ⟨_,List.getElem_mem hi,hn⟩
theorem addx_eq{n:Int}{a b:Option ρ}:(f_num_Add n 0 fun _ y=>if y=false then a else b)=if numK n=(0,0)then b else a:=by
 simp only[f_num_Add,F_num_Add,mkF,f_num_Add_1,F_num_Add_1,within_eq (show([n,0]:List Int).length≤1000 by simp),within_eq (show([w64 (n+0)]:List Int).length≤1000 by simp),numK]
 by_cases h:-1048576≤n∧n≤1048576
 ·have hw:IntKind.i64.wrap (n+0)=n:=by rw[wrap_i64 (by omega) (by omega)];omega
  simp only[hw]
  simp[h]
 ·simp only[h,if_false]
  have:(decide (-1048576≤n)&&decide (n≤1048576))=false:=by
   by_cases a:-1048576≤n
   ·by_cases b:n≤1048576
    ·exact absurd ⟨a,b⟩ h
    ·simp[a,b]
   ·simp[a]
  simp[this]
theorem scr_eq{n:Int}{g:Bool→Option ρ}:f_r10_scalar n s g=g (scOk n s):=by
 simp only[f_r10_scalar,F_r10_scalar,mkF,scOk]
 by_cases h:0≤n <;>simp[h]
theorem kofr_eq{n:Int}{g:Int→Option ρ}:f_r10_KindOf n g=g (kOf n):=by
 simp only[f_r10_KindOf,F_r10_KindOf,mkF,kOf]
 by_cases h:n=0 <;>simp[h]
theorem varr_eq{l:List GVar}{n:Int}{g:List UInt8→Int→Int→Int→Int→Int→Bool→Option ρ}{e:Option ρ}(he:∀a b c d f i,g a b c d f i false=e):f_r10_Variable l n s g=match varAt l n s with |some v=>g v.Name v.Scalar v.Over v.Lo v.Hi v.Init true |none=>e:=by
 simp only[f_r10_Variable,F_r10_Variable,mkF,varAt,scr_eq]
 by_cases h0:n<0
 ·simp[h0,show¬(0≤n)by omega,he]
 ·by_cases h1:(l.length:Int)≤n
  ·have:l[n.toNat]? =none:=List.getElem?_eq_none (by omega)
   simp[h0,h1,this,he,show 0≤n by omega]
  ·have hlt:n.toNat<l.length:=by omega
   simp only[h0,h1,if_false,show 0≤n by omega,if_true,xG hlt,xS]
   cases ha:scOk l[n.toNat].Scalar s <;>cases hb:scOk l[n.toNat].Over s <;>simp[he]
theorem leafr_eq{x:GNode}(hN:x.N≤9223372036854775807)(hop:x.Op=1∨x.Op=2∨x.Op=4∨x.Op=5∨x.Op=6∨x.Op=7∨x.Op=8){g:Int→Int→Option ρ}:f_r10_leaf x s g=g (leafK x s).1 (leafK x s).2:=by
 simp only[f_r10_leaf,F_r10_leaf,mkF,leafK,kofr_eq]
 have hv:∀l:List GVar,(f_r10_Variable l x.N s fun y0_0 y0_1 y0_2 y0_3 y0_4 y0_5 y0_6=>if y0_6=false then g 0 8 else if y0_2=0 then g (kOf y0_1) 0 else g 0 9)=g (varK (varAt l x.N s)).1 (varK (varAt l x.N s)).2:=fun l=>by
  rw[varr_eq (e:=g 0 8) (fun _ _ _ _ _ _=>by simp)]
  cases varAt l x.N s with
  |none=>rfl
  |some v=>by_cases h:v.Over=0 <;>simp[h,varK]
 rcases hop with h |h |h |h |h |h |h
 ·simp only[h,if_true,numK]
  by_cases a:x.N< -1048576
  ·simp[a,show¬(-1048576≤x.N)by omega]
  ·by_cases b:1048576<x.N
   ·simp[a,b,show¬(x.N≤1048576)by omega]
   ·simp[a,b,show -1048576≤x.N by omega,show x.N≤1048576 by omega]
 ·simp only[h,if_true,show¬((2:Int)=1)by decide,show¬((2:Int)=4)by decide,if_false]
  exact hv s.Vars
 ·simp only[h,if_true,show¬((4:Int)=1)by decide,show¬((4:Int)=2)by decide,if_false]
  exact hv s.Locals
 ·simp only[h,namedK,if_true,show¬((5:Int)=1)by decide,show¬((5:Int)=2)by decide,show¬((5:Int)=4)by decide,if_false]
  by_cases a:s.Self<1
  ·simp[a,show¬(1≤s.Self)by omega]
  ·by_cases b:(s.Scalars.length:Int)<s.Self
   ·simp[a,b,show¬(s.Self≤(s.Scalars.length:Int))by omega]
   ·simp[a,b,show 1≤s.Self by omega,show s.Self≤(s.Scalars.length:Int)by omega]
 ·simp only[h,namedK,if_true,show¬((6:Int)=1)by decide,show¬((6:Int)=2)by decide,show¬((6:Int)=4)by decide,show¬((6:Int)=5)by decide,if_false,f_r10_Channel,F_r10_Channel,mkF,scr_eq]
  by_cases a:x.N<0
  ·simp[a,show¬(0≤x.N)by omega]
  ·by_cases b:(s.Chans.length:Int)≤x.N
   ·have:s.Chans[x.N.toNat]? =none:=List.getElem?_eq_none (by omega)
    simp[a,b,this]
   ·have hlt:x.N.toNat<s.Chans.length:=by omega
    simp only[a,b,if_false,show 0≤x.N by omega,if_true,xG hlt,xS]
    cases scOk s.Chans[x.N.toNat].Scalar s <;>simp
 ·simp only[h,namedK,if_true,show¬((7:Int)=1)by decide,show¬((7:Int)=2)by decide,show¬((7:Int)=4)by decide,show¬((7:Int)=5)by decide,show¬((7:Int)=6)by decide,if_false]
  by_cases a:x.N<0
  ·simp[a,show¬(0≤x.N)by omega]
  ·have h0:0≤x.N:=by omega
   have hq:0≤w64 (Int.tdiv x.N 16):=tdiv16 h0 hN
   by_cases b:(s.Procs.length:Int)≤w64 (Int.tdiv x.N 16)
   ·simp[a,b,h0,show¬(w64 (Int.tdiv x.N 16)<(s.Procs.length:Int))by omega]
   ·have hlt:(w64 (Int.tdiv x.N 16)).toNat<s.Procs.length:=by omega
    simp only[a,b,h0,hq,if_false,if_true,show w64 (Int.tdiv x.N 16)<(s.Procs.length:Int)by omega,and_self,xG hlt,xS]
    by_cases c:s.Procs[(w64 (Int.tdiv x.N 16)).toNat].Locs≤Int.tmod x.N 16
    ·simp[c,show¬(Int.tmod x.N 16<s.Procs[(w64 (Int.tdiv x.N 16)).toNat].Locs)by omega]
    ·simp[c,show Int.tmod x.N 16<s.Procs[(w64 (Int.tdiv x.N 16)).toNat].Locs by omega]
 ·simp only[h,namedK,if_true,show¬((8:Int)=1)by decide,show¬((8:Int)=2)by decide,show¬((8:Int)=4)by decide,show¬((8:Int)=5)by decide,show¬((8:Int)=6)by decide,show¬((8:Int)=7)by decide,if_false]
  by_cases a:x.N<0
  ·simp[a,show¬(0≤x.N)by omega]
  ·by_cases b:(s.Scalars.length:Int)≤x.N
   ·simp[a,b,show¬(x.N<(s.Scalars.length:Int))by omega]
   ·simp[a,b,show 0≤x.N by omega,show x.N<(s.Scalars.length:Int)by omega]
end
def takesK(op:Int):Int:=if op=3 then 1 else if 1≤op∧op≤8 then 0 else if opH op=true then opP op else -1
def ok29(nt:Int)(l:List Int)(i:Nat):Bool:=(l.drop i).all fun y=>(decide (nt=-1) || decide (y=nt))&&decide (l[0]? =some y)
def opsK(op:Int)(l:List Int):Int×Int:=if ok29 (opT op) l 0=true then(opM op,0)else(0,9)
def nodeK(x:GNode)(s:GScope)(st:List Int):Int×Int:=
 if x.Op=3 then(match st.getLast? with |some k=>itemK x k s |none=>(0,8))
 else if takesK x.Op=0 then leafK x s
 else opsK x.Op (st.drop (st.length - (takesK x.Op).toNat))
def stepK(x:GNode)(s:GScope)(st:List Int):Int×List Int:=
 if takesK x.Op<0 then(3,st)else if(st.length:Int)<takesK x.Op then(4,st)
 else if(nodeK x s st).2≠0 then((nodeK x s st).2,st)
 else(if 12<st.length - (takesK x.Op).toNat+1 then 12 else 0,st.take (st.length - (takesK x.Op).toNat)++[(nodeK x s st).1])
def runK(s:GScope):List GNode→List Int→Int×List Int
 | [],st=>(0,st)
 |x::r,st=>if(stepK x s st).1=0 then runK s r (stepK x s st).2 else stepK x s st
def kindK(e:List GNode)(s:GScope):Int×Int:=
 if 24<e.length then(0,5)else if e=[]then(0,4)
 else if(runK s e []).1≠0 then(0,(runK s e []).1)else if 1<(runK s e []).2.length then(0,5)else((runK s e []).2.headD 0,0)
theorem opH_iff{x:Int}:opH x=true↔9≤x∧x≤19:=by
 simp only[opH,Bool.or_eq_true,yD]
 omega
theorem opP_eq{x:Int}(h:9≤x∧x≤19):opP x=if x≤10 then 1 else 2:=by
 unfold opP
 split
 ·simp_all
 split
 ·simp_all
 by_cases h10:x≤10
 ·omega
 ·rw[if_neg h10]
  repeat' split
  all_goals first |rfl |omega
theorem takes_cases(op:Int):(takesK op=-1∧(op<1∨19<op))∨(takesK op=0∧1≤op∧op≤8∧op≠3)∨(takesK op=1∧(op=3∨op=9∨op=10))∨(takesK op=2∧11≤op∧op≤19):=by
 unfold takesK
 by_cases h3:op=3
 ·rw[if_pos h3];omega
 rw[if_neg h3]
 by_cases h8:1≤op∧op≤8
 ·rw[if_pos h8];omega
 rw[if_neg h8]
 by_cases hh:opH op=true
 ·rw[if_pos hh]
  have:=opH_iff.1 hh
  rw[opP_eq this]
  split <;>omega
 ·rw[if_neg hh]
  have:¬(9≤op∧op≤19):=fun q=>hh (opH_iff.2 q)
  omega
section
variable{ρ:Type}{s:GScope}
theorem takesr_eq{op:Int}{g:Int→Option ρ}:f_r10_Takes op g=g (takesK op):=by
 simp only[f_r10_Takes,F_r10_Takes,mkF]
 rcases takes_cases op with⟨h,q⟩ |⟨h,q⟩ |⟨h,q⟩ |⟨h,q⟩
 ·rw[h]
  simp only[show¬op=1 by omega,show¬op=2 by omega,show¬op=4 by omega,show¬op=5 by omega,show¬op=6 by omega,show¬op=7 by omega,show¬op=8 by omega,show¬op=3 by omega,show¬op=9 by omega,show¬op=10 by omega,show¬op=11 by omega,show¬op=12 by omega,show¬op=13 by omega,show¬op=14 by omega,show¬op=15 by omega,show¬op=16 by omega,show¬op=17 by omega,show¬op=18 by omega,show¬op=19 by omega,if_false]
 ·rw[h]
  by_cases a1:op=1;· rw[if_pos a1]
  rw[if_neg a1]
  by_cases a2:op=2;· rw[if_pos a2]
  rw[if_neg a2]
  by_cases a4:op=4;· rw[if_pos a4]
  rw[if_neg a4]
  by_cases a5:op=5;· rw[if_pos a5]
  rw[if_neg a5]
  by_cases a6:op=6;· rw[if_pos a6]
  rw[if_neg a6]
  by_cases a7:op=7;· rw[if_pos a7]
  rw[if_neg a7]
  by_cases a8:op=8;· rw[if_pos a8]
  omega
 ·rw[h]
  rcases q with q |q |q <;>subst q <;>simp
 ·rw[h]
  obtain⟨q1,q2⟩:=q
  have:op=11∨op=12∨op=13∨op=14∨op=15∨op=16∨op=17∨op=18∨op=19:=by omega
  rcases this with q |q |q |q |q |q |q |q |q <;>subst q <;>simp
theorem itemK_def{x:GNode}{k:Int}:itemK x k s=match varAt s.Vars x.N s with |some v=>if v.Over=0 then(0,9)else if k=w64 (1+v.Over)then(kOf v.Scalar,0)else(0,9) |none=>(0,8):=rfl
theorem oner_item{x:GNode}(h:x.Op=3){k:Int}{g:Int→Int→Option ρ}:f_r10_one x k s g=g (itemK x k s).1 (itemK x k s).2:=by
 simp only[f_r10_one,F_r10_one,mkF,kofr_eq,h,if_true]
 rw[varr_eq (e:=g 0 8) (fun _ _ _ _ _ _=>by simp),itemK_def]
 cases varAt s.Vars x.N s with
 |none=>rfl
 |some v=>
  simp only[Bool.true_eq_false,if_false]
  by_cases a:v.Over=0
  ·simp[a]
  ·by_cases b:k=w64 (1+v.Over)
   ·simp[a,b]
   ·simp[a,b]
theorem ok29_1{nt k:Int}:ok29 nt [k] 0=(decide (nt=-1) || decide (k=nt)):=by simp[ok29]
theorem ok29_2{nt a b:Int}:ok29 nt [a,b] 0=((decide (nt=-1) || decide (a=nt))&&decide (a=b)):=by
 simp only[ok29,List.drop_zero,List.all_cons,List.all_nil,yE,xJ,decide_true,Bool.and_true]
 by_cases h:a=b
 ·subst h;simp
 ·simp[h]
theorem oner_op{x:GNode}(h:x.Op=9∨x.Op=10){k:Int}{g:Int→Int→Option ρ}:f_r10_one x k s g=g (opsK x.Op [k]).1 (opsK x.Op [k]).2:=by
 simp only[f_r10_one,F_r10_one,mkF,opsK,ok29_1]
 rcases h with h |h
 ·by_cases a:k=1 <;>simp[h,a,opT,opM]
 ·by_cases a:k=0 <;>simp[h,a,opT,opM]
theorem twor_op{op:Int}(h:11≤op∧op≤19){a b:Int}{g:Int→Int→Option ρ}:f_r10_two op a b g=g (opsK op [a,b]).1 (opsK op [a,b]).2:=by
 simp only[f_r10_two,F_r10_two,mkF,opsK,ok29_2]
 have:op=11∨op=12∨op=13∨op=14∨op=15∨op=16∨op=17∨op=18∨op=19:=by omega
 by_cases hab:a=b
 ·subst hab
  rcases this with q |q |q |q |q |q |q |q |q <;>subst q
  ·by_cases c:a=0 <;>simp[c,opT,opM]
  ·by_cases c:a=0 <;>simp[c,opT,opM]
  ·by_cases c:a=0 <;>simp[c,opT,opM]
  ·simp[opT,opM]
  ·simp[opT,opM]
  ·by_cases c:a=0 <;>simp[c,opT,opM]
  ·by_cases c:a=0 <;>simp[c,opT,opM]
  ·by_cases c:a=1 <;>simp[c,opT,opM]
  ·by_cases c:a=1 <;>simp[c,opT,opM]
 ·simp[hab]
end
end Go.Etx
namespace Go.Etx
open Go Go.Am Go.Proofs
theorem plainT_tl(l:List Int):plainT (tl eI l)=true:=by
 induction l with
 |nil=>rfl
 |cons a l ih=>simp only[tl,List.map_cons,plainT]at ih ⊢;simpa using ih
def finK{ρ:Type}(g:Int→Int→Option ρ)(p:Int×List Int):Option ρ:=
 if p.1≠0 then g 0 p.1 else if 1<p.2.length then g 0 5 else(p.2[0]?).bind fun a=>g a 0
section
variable{ρ:Type}{s:GScope}
theorem subN{n m:Nat}(h:m≤n)(hn:n<4611686018427387904):IntKind.i64.wrap ((n:Int) - (m:Int))=((n - m:Nat):Int):=by rw[wrap_i64 (by omega) (by omega)];omega
theorem kindr_eq{e:List GNode}(hN:∀x∈e,x.N≤9223372036854775807){g:Int→Int→Option ρ}:f_r10_Kind e s g=if 24<e.length then g 0 5 else if e=[]then g 0 4 else finK g (runK s e []):=by
 simp only[f_r10_Kind,F_r10_Kind,mkF]
 by_cases h24:24<e.length
 ·rw[if_pos (by omega),if_pos h24]
 rw[if_neg (by omega),if_neg h24]
 by_cases he:e=[]
 ·rw[if_pos he,if_pos he]
 rw[if_neg he,if_neg he]
 refine iterC_is (fun v:Int×List Int=>∃i:Nat,v.1=i∧i≤e.length∧v.2.length≤12) (fun v=>finK g (runK s (e.drop v.1.toNat) v.2)) (fun v=>e.length - v.1.toNat) ?_ (v:=((0:Int),([]:List Int))) ⟨0,rfl,Nat.zero_le _,by simp⟩ |>.trans (by simp)
 rintro⟨i,st⟩ k ⟨n,hi,hn,hst⟩ hk
 simp only at hi hst hn ⊢
 subst hi
 by_cases hlt:n<e.length
 ·rw[if_pos (by omega),if_pos (by omega),xV,xG hlt,xS,xW hlt,runK]
  have hk':∀st':List Int,st'.length≤12→k (w64 ((n:Int)+1),st')=finK g (runK s (e.drop (n+1)) st'):=fun st' h'=>by
   have e1:w64 ((n:Int)+1)=((n+1:Nat):Int):=wrapS (by omega)
   rw[e1]
   exact hk (((n+1:Nat):Int),st') ⟨n+1,rfl,by omega,h'⟩ (by simp only[xV];omega)
  have hx:=hN e[n] (List.getElem_mem hlt)
  revert hk'
  generalize e[n]=x at hx ⊢
  intro hk'
  simp only[takesr_eq]
  have bad:∀(y:Int) (st':List Int),y≠0→finK g (if(y,st').1=0 then runK s (e.drop (n+1)) (y,st').2 else(y,st'))=g 0 y:=fun y st' hy=>by simp[hy,finK]
  have fin:∀(m:Nat) (r:Int×Int),takesK x.Op=(m:Int)→m≤st.length→m≤2→nodeK x s st=r→
    (if r.2=0 then if((st.length - m:Nat):Int)≤(st.length:Int)then if plainT (tl eI (List.take (st.length - m) st))=true then if min (st.length - m) st.length * 8≤140737488355328∧min (st.length - m) st.length≤9223372036854775807 then if(min (st.length - m) st.length+1) * 8≤140737488355328∧min (st.length - m) st.length≤9223372036854775806 then
     if(12:Int)<((min (st.length - m) st.length:Nat):Int)+1 then g 0 12 else k (w64 ((n:Int)+1),List.take (min (st.length - m) st.length) (List.take (st.length - m) st)++[r.1])else none else none else none else none else g 0 r.2)=
     finK g (if(stepK x s st).1=0 then runK s (e.drop (n+1)) (stepK x s st).2 else stepK x s st):=by
   intro m r ht hm hm2 hr
   have e1:stepK x s st=if r.2≠0 then(r.2,st)else(if 12<st.length - m+1 then 12 else 0,st.take (st.length - m)++[r.1]):=by
    unfold stepK
    rw[ht,if_neg (by omega),if_neg (by omega),hr,xV]
   rw[e1]
   by_cases hr0:r.2=0
   ·have hpl:plainT (tl eI (List.take (st.length - m) st))=true:=plainT_tl _
    have hmin:min (st.length - m) st.length=st.length - m:=by omega
    simp only[hr0,if_true,hpl,hmin,List.take_take,Nat.min_self]
    rw[if_pos (by omega),if_pos ⟨by omega,by omega⟩,if_pos ⟨by omega,by omega⟩]
    by_cases h12:12<st.length - m+1
    ·rw[if_pos (by omega)]
     simp[h12,finK]
    ·rw[if_neg (by omega),hk' _ (by simp;omega)]
     simp[h12]
   ·rw[if_neg hr0,if_pos hr0]
    exact(bad _ _ hr0).symm
  rcases takes_cases x.Op with⟨h,q⟩ |⟨h,q⟩ |⟨h,q⟩ |⟨h,q⟩
  ·rw[h,if_pos (by omega),show stepK x s st=(3,st)by unfold stepK;rw[h,if_pos (by omega)]]
   exact(bad 3 st (by decide)).symm
  ·have h0:takesK x.Op=((0:Nat):Int):=h
   have hop:x.Op=1∨x.Op=2∨x.Op=4∨x.Op=5∨x.Op=6∨x.Op=7∨x.Op=8:=by omega
   have hr:nodeK x s st=leafK x s:=by unfold nodeK;rw[if_neg q.2.2,if_pos h]
   have:=fin 0 _ h0 (Nat.zero_le _) (by omega) hr
   rw[←this]
   have hw0:IntKind.i64.wrap ((st.length:Int) - 0)=((st.length - 0:Nat):Int):=subN (m:=0) (by omega) (by omega)
   simp only[h,hw0,show(0:Int)≤((st.length - 0:Nat):Int)by omega,show¬((0:Int)<0)by omega,show¬((st.length:Int)<0)by omega,show¬((0:Int)=1)by omega,show¬((0:Int)=2)by omega,if_false,if_true,leafr_eq hx hop,xV,xG hlt,xS]
   rfl
  ·have h1:takesK x.Op=((1:Nat):Int):=h
   by_cases hs:st.length<1
   ·rw[h,if_neg (by omega),if_pos (by omega),show stepK x s st=(4,st)by unfold stepK;rw[h,if_neg (by omega),if_pos (by omega)]]
    exact(bad 4 st (by decide)).symm
   have hi1:st.length - 1<st.length:=by omega
   have hlast:st.getLast? =some st[st.length - 1]:=by rw[List.getLast?_eq_getElem?,xG hi1]
   have hone:∀g':Int→Int→Option ρ,f_r10_one x st[st.length - 1] s g'=g' (nodeK x s st).1 (nodeK x s st).2:=fun g'=>by
    unfold nodeK
    by_cases h3:x.Op=3
    ·rw[if_pos h3,hlast,oner_item h3]
    ·rw[if_neg h3,if_neg (by omega),oner_op (by omega),h,show st.drop (st.length - (1:Int).toNat)=[st[st.length - 1]]by
      rw[show(1:Int).toNat=1 from rfl,xW hi1,List.drop_eq_nil_of_le (by omega)]]
   have:=fin 1 _ h1 (by omega) (by omega) rfl
   rw[←this]
   have hw:IntKind.i64.wrap ((st.length:Int) - 1)=((st.length - 1:Nat):Int):=subN (m:=1) (by omega) (by omega)
   simp only[h,show(0:Int)≤(n:Int)by omega,show¬((1:Int)<0)by omega,show¬((st.length:Int)<1)by omega,show¬((1:Int)=0)by omega,show¬((1:Int)=2)by omega,if_false,if_true,hw,show(0:Int)≤((st.length - 1:Nat):Int)by omega,show((st.length - 1:Nat):Int)<(st.length:Int)by omega,and_self,xV,xG hi1,xS,hone]
  ·have h2:takesK x.Op=((2:Nat):Int):=h
   by_cases hs:st.length<2
   ·rw[h,if_neg (by omega),if_pos (by omega),show stepK x s st=(4,st)by unfold stepK;rw[h,if_neg (by omega),if_pos (by omega)]]
    exact(bad 4 st (by decide)).symm
   have hi1:st.length - 1<st.length:=by omega
   have hi2:st.length - 2<st.length:=by omega
   have htwo:∀g':Int→Int→Option ρ,f_r10_two x.Op st[st.length - 2] st[st.length - 1] g'=g' (nodeK x s st).1 (nodeK x s st).2:=fun g'=>by
    unfold nodeK
    rw[if_neg (by omega),if_neg (by omega),twor_op q,h,show st.drop (st.length - (2:Int).toNat)=[st[st.length - 2],st[st.length - 1]]by
     rw[show(2:Int).toNat=2 from rfl,xW hi2,xW (by omega),List.drop_eq_nil_of_le (by omega)]
     simp only[show st.length - 2+1=st.length - 1 by omega]]
   have:=fin 2 _ h2 (by omega) (by omega) rfl
   rw[←this]
   have hw:IntKind.i64.wrap ((st.length:Int) - 1)=((st.length - 1:Nat):Int):=subN (m:=1) (by omega) (by omega)
   have hw2:IntKind.i64.wrap ((st.length:Int) - 2)=((st.length - 2:Nat):Int):=subN (m:=2) (by omega) (by omega)
   simp only[h,show(0:Int)≤(n:Int)by omega,show¬((2:Int)<0)by omega,show¬((st.length:Int)<2)by omega,show¬((2:Int)=0)by omega,show¬((2:Int)=1)by omega,if_false,if_true,hw,hw2,show(0:Int)≤((st.length - 1:Nat):Int)by omega,show((st.length - 1:Nat):Int)<(st.length:Int)by omega,show(0:Int)≤((st.length - 2:Nat):Int)by omega,show((st.length - 2:Nat):Int)<(st.length:Int)by omega,and_self,xV,xG hi1,xG hi2,xS,htwo]
 ·have hne:n=e.length:=by omega
  subst hne
  rw[if_neg (by omega),xV,List.drop_length,runK,finK]
  by_cases h1:1<st.length
  ·rw[if_pos (by omega)];simp[h1]
  ·rw[if_neg (by omega)]
   simp only[ne_eq,not_true_eq_false,if_false,h1]
   by_cases h0:0<st.length
   ·simp[h0]
   ·have:st=[]:=yL (by omega)
    subst this
    simp
end
end Go.Etx
namespace Go.Etx
open Go Go.Am Go.Proofs
set_option maxHeartbeats 4000000
set_option maxRecDepth 20000
@[go_sem] theorem snocPart{l:List Gpart}{a:List UInt8}{b c:Int}:tl epart l++[.d (.agg [.str a,.int .i64 b,.int .i64 c])]=tl epart (l++[⟨a,b,c⟩]):=by simp[tl,epart]
@[go_sem] theorem headPart{l:List Gpart}:headT 3 (tl epart l)=true:=headT_tl fun _=>rfl
@[go_sem] theorem uniPart{l:List Gpart}:uniform 3 (tl epart l)=true:=uniform_tl fun _=>rfl
@[go_sem] theorem lowPart{l:List Gpart}:T.lows 0 (tl epart l)=true:=lowT_tl fun _=>by simp[epart,D.low,D.lows]
noncomputable section
def FLaid(x:GNode)(nm:List UInt8)(st:List Gpart){ρ:Type}:
  {Φ:(List Gpart→Option ρ)→Option ρ // ∀(κ:List T×List Ob→Option ρ) (g:List Gpart→Option ρ),(∀y,κ ([.own (tl epart y)],[])=g y)→
   cbK (call 23 [eNode x,.str nm] [.row (tl epart st)]) κ=Φ g}:=by
 refine⟨?Φ,?h⟩
 case h=>
  intro κ g hg
  refine(gr23 _ _ _ rfl).trans ?_
  try simp only[go_sem]at hg
  refine viaR fun r hr=> ?_
  simp -implicitDefEqProofs (maxSteps:=1000000) [go_sem,hg,-List.map_append,-List.map_take,-List.map_drop,-List.map_set]
  exact hr
def fLaid(x:GNode)(nm:List UInt8)(st:List Gpart){ρ:Type}(g:List Gpart→Option ρ):Option ρ:=(FLaid x nm st).1 g
theorem WLaid{ρ:Type}(x0 x1:Int)(nm:List UInt8)(st:List Gpart)(κ:List T×List Ob→Option ρ):cbK (call 23 [.agg [.int .i64 x0,.int .i64 x1],.str nm] [.row (tl epart st)]) κ=fLaid ⟨x0,x1⟩ nm st fun y=>κ ([.own (tl epart y)],[]):=(FLaid ⟨x0,x1⟩ nm st).2 κ _ fun _=>rfl
end
def sgnT(op:Int):List UInt8:=if op=19 then [124,124]else if op=18 then [38,38]else if op=14 then [61,61]else if op=15 then [33,61]else if op=16 then [60]else if op=17 then [60,61]else if op=11 then [43]else if op=12 then [45]else if op=13 then [42]else []
def sgnB(op:Int):Int:=if op=19 then 1 else if op=18 then 2 else if op=14 then 3 else if op=15 then 3 else if op=16 then 3 else if op=17 then 3 else if op=11 then 4 else if op=12 then 4 else if op=13 then 5 else 0
def inB(t:List UInt8)(b:Bool):List UInt8:=if b=true then 40::(t++[41])else t
def joinL(op:Int)(b:Int):Bool:=if sgnB op=3 then decide (b<4)else decide (b<sgnB op)
def joinR(op:Int)(b:Int):Bool:=if sgnB op=3 then decide (b<4)else decide (b≤sgnB op)
def joinT(op:Int)(a b:Gpart):List UInt8:=inB a.text (joinL op a.binds)++32::(sgnT op++32::inB b.text (joinR op b.binds))
def leafT(x:GNode)(nm:List UInt8):List UInt8:=
 if x.Op=1 then Tr7.decI x.N else if x.Op=2 then nm else if x.Op=4 then nm else if x.Op=5 then [115,101,108,102]
 else if x.Op=6 then 108::101::110::40::(nm++[41])else if x.Op=7 then 97::116::40::(nm++44::32::(Tr7.decI (Int.tmod x.N 16)++[41]))
 else if x.Op=8 then 110::111::110::101::40::(nm++[41])else []
def leafB(x:GNode):Int:=if x.Op=1 then(if x.N<0 then 6 else 7)else 7
def layP(x:GNode)(nm:List UInt8)(st:List Gpart):List Gpart:=
 if x.Op=3 then(match st.getLast? with |some p=>st.take (st.length - 1)++[⟨nm++91::(p.text++[93]),3,7⟩] |none=>st)
 else if x.Op=9 then(match st.getLast? with |some p=>st.take (st.length - 1)++[⟨33::inB p.text (decide (p.binds<6)),9,6⟩] |none=>st)
 else if x.Op=10 then(match st.getLast? with |some p=>st.take (st.length - 1)++[⟨45::inB p.text (decide (p.binds<6) || decide (p.op=1)),10,6⟩] |none=>st)
 else if 11≤x.Op∧x.Op≤19 then(match st[st.length - 2]?,st.getLast? with |some a,some b=>st.take (st.length - 2)++[⟨joinT x.Op a b,x.Op,sgnB x.Op⟩] |_,_=>st)
 else st++[⟨leafT x nm,x.Op,leafB x⟩]
theorem decF_len:∀k u,(Tr7.decF k u).length≤k
 |0,_=>by simp[Tr7.decF]
 |k+1,u=>by
  unfold Tr7.decF
  split
  ·simp
  ·have:=decF_len k (u / 10)
   simp only[xP,xZ,yN];omega
theorem decI_len(n:Int):(Tr7.decI n).length≤21:=by
 unfold Tr7.decI
 split
 ·have:=decF_len 20 n.natAbs;simp only[xZ];omega
 ·have:=decF_len 20 n.toNat;omega
theorem sgnT_len(op:Int):(sgnT op).length≤2:=by
 unfold sgnT
 repeat' split
 all_goals simp
theorem inB_len(t:List UInt8)(b:Bool):(inB t b).length≤t.length+2:=by
 unfold inB;split
 ·simp
 ·omega
section
variable{ρ:Type}{s:GScope}
theorem inx_eq{p:Gpart}{b:Bool}(h:p.text.length≤100000){g:List UInt8→Option ρ}:f_etext_part_in p b g=g (inB p.text b):=by
 simp only[f_etext_part_in,F_etext_part_in,mkF,inB]
 cases b
 ·simp
 ·rw[if_pos rfl,if_pos (by omega),if_pos (by omega),if_pos rfl]
theorem signx_eq{op:Int}{g:List UInt8→Int→Bool→Option ρ}:f_etext_signOf op g=g (sgnT op) (sgnB op) (decide (11≤op∧op≤19)):=by
 simp only[f_etext_signOf,F_etext_signOf,mkF,sgnT,sgnB]
 by_cases h:11≤op∧op≤19
 ·have:op=11∨op=12∨op=13∨op=14∨op=15∨op=16∨op=17∨op=18∨op=19:=by omega
  rcases this with q |q |q |q |q |q |q |q |q <;>subst q <;>simp
 ·simp only[show¬op=11 by omega,show¬op=12 by omega,show¬op=13 by omega,show¬op=14 by omega,show¬op=15 by omega,show¬op=16 by omega,show¬op=17 by omega,show¬op=18 by omega,show¬op=19 by omega,if_false,h,decide_false]
theorem leafx_eq{x:GNode}(hr:Tr7.inR x.N=true){nm:List UInt8}(hn:nm.length≤100000){g:List UInt8→Int→Option ρ}:f_etext_leaf x nm g=g (leafT x nm) (leafB x):=by
 simp only[f_etext_leaf,F_etext_leaf,mkF,leafT,leafB]
 have hr':Tr7.inR (Int.tmod x.N 16)=true:=by
  have h1:(Int.tmod x.N 16).natAbs=x.N.natAbs % 16:=by rw[Int.natAbs_tmod];rfl
  simp only[Tr7.inR,xA,yD]
  omega
 by_cases h1:x.Op=1
 ·simp only[h1,if_true,hr]
  by_cases a:x.N<0 <;>simp[a]
 simp only[h1,if_false]
 by_cases h2:x.Op=2
 ·simp[h2]
 by_cases h4:x.Op=4
 ·simp[h4]
 by_cases h5:x.Op=5
 ·simp[h5]
 by_cases h6:x.Op=6
 ·simp only[h6,show¬((6:Int)=2)by decide,show¬((6:Int)=4)by decide,show¬((6:Int)=5)by decide,if_false,if_true]
  rw[if_pos (by omega),if_pos (by omega)]
 by_cases h7:x.Op=7
 ·have:=decI_len (Int.tmod x.N 16)
  simp only[h7,show¬((7:Int)=2)by decide,show¬((7:Int)=4)by decide,show¬((7:Int)=5)by decide,show¬((7:Int)=6)by decide,if_false,if_true,hr']
  rw[if_pos (by omega),if_pos (by omega),if_pos (by omega),if_pos (by omega)]
 by_cases h8:x.Op=8
 ·simp only[h8,show¬((8:Int)=2)by decide,show¬((8:Int)=4)by decide,show¬((8:Int)=5)by decide,show¬((8:Int)=6)by decide,show¬((8:Int)=7)by decide,if_false,if_true]
  rw[if_pos (by omega),if_pos (by omega)]
 simp only[h2,h4,h5,h6,h7,h8,if_false]
theorem joinx_eq{op:Int}{a b:Gpart}(ha:a.text.length≤100000)(hb:b.text.length≤100000){g:List UInt8→Int→Option ρ}:f_etext_joined op a b g=g (joinT op a b) (sgnB op):=by
 simp only[f_etext_joined,F_etext_joined,mkF,signx_eq,inx_eq ha,inx_eq hb,joinT,joinL,joinR]
 have h1:=sgnT_len op
 have l1:=fun c=>inB_len a.text c
 have l2:=fun c=>inB_len b.text c
 by_cases h3:sgnB op=3
 ·have q1:=l1 (decide (a.binds<4))
  have q2:=l2 (decide (b.binds<4))
  simp only[h3,if_true]
  rw[if_pos (by omega),if_pos (by omega),if_pos (by omega),if_pos (by omega)]
 ·have q1:=l1 (decide (a.binds<sgnB op))
  have q2:=l2 (decide (b.binds≤sgnB op))
  simp only[h3,if_false]
  rw[if_pos (by omega),if_pos (by omega),if_pos (by omega),if_pos (by omega)]
theorem laidx_eq{x:GNode}(hr:Tr7.inR x.N=true){nm:List UInt8}(hn:nm.length≤100000){st:List Gpart}(hs:∀p∈st,p.text.length≤90000)(hst:st.length≤1000)(ht:takesK x.Op≤(st.length:Int)){g:List Gpart→Option ρ}:fLaid x nm st g=g (layP x nm st):=by
 simp only[fLaid,FLaid,signx_eq]
 have last:∀n,1≤n→n≤st.length→∃p,st[st.length - n]? =some p∧p.text.length≤90000:=fun n h1 hn=>by
  have hi:st.length - n<st.length:=by omega
  exact⟨st[st.length - n],xG hi,hs _ (List.getElem_mem hi)⟩
 have key:∀n:Nat,n≤st.length→n≤2→IntKind.i64.wrap ((st.length:Int) - (n:Int))=((st.length - n:Nat):Int):=fun n hn h2=>subN hn (by omega)
 have mn:∀n,min (st.length - n) st.length=st.length - n:=fun n=>by omega
 have one:takesK x.Op=1→∃p,st.getLast? =some p∧st[st.length - 1]? =some p∧p.text.length≤90000∧1≤st.length∧IntKind.i64.wrap ((st.length:Int) - 1)=((st.length - 1:Nat):Int):=fun h=>by
  rw[h]at ht
  obtain⟨p,h1,h2⟩:=last 1 (by omega) (by omega)
  exact⟨p,by rw[List.getLast?_eq_getElem?];exact h1,h1,h2,by omega,key 1 (by omega) (by omega)⟩
 unfold layP
 by_cases h3:x.Op=3
 ·obtain⟨p,e1,e2,e3,e4,hw⟩:=one (by simp[takesK,h3])
  simp only[h3,if_true,hw,e1,e2,xV,xS,headPart,uniPart,and_true,mn]
  repeat rw[if_pos (by omega)]
 simp only[h3,if_false]
 by_cases h9:x.Op=9
 ·obtain⟨p,e1,e2,e3,e4,hw⟩:=one (by simp[takesK,h9,opH,opP])
  have:=inB_len p.text (decide (p.binds<6))
  simp only[h9,if_true,hw,e1,e2,xV,xS,headPart,uniPart,and_true,mn,inx_eq (show p.text.length≤100000 by omega)]
  repeat rw[if_pos (by omega)]
 simp only[h9,if_false]
 by_cases h10:x.Op=10
 ·obtain⟨p,e1,e2,e3,e4,hw⟩:=one (by simp[takesK,h10,opH,opP])
  have l1:=inB_len p.text true
  have l2:=inB_len p.text (decide (p.op=1))
  simp only[h10,if_true,hw,e1,e2,xV,xS,headPart,uniPart,and_true,mn,inx_eq (show p.text.length≤100000 by omega)]
  repeat rw[if_pos (by omega)]
  by_cases hb:p.binds<6
  ·simp only[hb,if_true,decide_true,Bool.true_or]
   repeat rw[if_pos (by omega)]
  ·simp only[hb,if_false,decide_false,Bool.false_or]
   repeat rw[if_pos (by omega)]
 simp only[h10,if_false]
 by_cases h2:11≤x.Op∧x.Op≤19
 ·have ht2:takesK x.Op=2:=by rcases takes_cases x.Op with⟨h,q⟩ |⟨h,q⟩ |⟨h,q⟩ |⟨h,q⟩ <;>omega
  rw[ht2]at ht
  obtain⟨a,a1,a2⟩:=last 2 (by omega) (by omega)
  obtain⟨b,b1,b2⟩:=last 1 (by omega) (by omega)
  have hw1:IntKind.i64.wrap ((st.length:Int) - 1)=((st.length - 1:Nat):Int):=key 1 (by omega) (by omega)
  have hw2:IntKind.i64.wrap ((st.length:Int) - 2)=((st.length - 2:Nat):Int):=key 2 (by omega) (by omega)
  have b3:st.getLast? =some b:=by rw[List.getLast?_eq_getElem?];exact b1
  simp only[h2,and_self,decide_true,if_true,hw1,hw2,a1,b1,b3,xV,xS,headPart,uniPart,and_true,mn,joinx_eq (show a.text.length≤100000 by omega) (show b.text.length≤100000 by omega)]
  repeat rw[if_pos (by omega)]
 ·simp only[h2,decide_false,xH,if_false,leafx_eq hr hn,uniPart,true_and]
  repeat rw[if_pos (by omega)]
end
end Go.Etx
