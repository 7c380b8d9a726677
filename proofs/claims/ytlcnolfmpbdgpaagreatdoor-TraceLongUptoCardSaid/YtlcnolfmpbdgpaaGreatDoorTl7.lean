/- A part of the proof. -/
import Derived.Test.YtlcnolfmpbdgpaaGreatDoorTl6
import Derived.KernelRfl
import Derived.Shelf.Strings.Builder1
import Derived.Shelf.Strings.BuilderF
import Derived.Shelf.Strings.BuilderK
import Derived.Shelf.Strconv.Atoi
import Derived.Shelf.Strconv.Itoa0
import Derived.Shelf.Strconv.Itoa1
import Derived.Shelf.LaysM
import Derived.Shelf.Strconv.Itoa2
import Derived.Shelf.Strconv.Itoa3
import Derived.Shelf.Strconv.AtoiErrFast
import Derived.Shelf.Strconv.ParseIntEmpty
import Derived.Shelf.Strconv.AtoiFail
import Derived.Shelf.Strconv.Clone
import Derived.Shelf.Strconv.SyntaxError
import Derived.Shelf.LaysC
import Derived.Shelf.Strconv.ToError
import Derived.Shelf.Strconv.Lower
import Derived.Shelf.Strconv.ParseUint10
import Derived.Shelf.Strconv.ParseUint10Empty
import Derived.Shelf.Strconv.ParseUint10Any
import Derived.Shelf.Strconv.ParseInt10
import Derived.Shelf.Strconv.AtoiLong
import Derived.Shelf.Strconv.AtoiInnerAll
import Derived.Shelf.Strconv.RangeError
import Derived.Shelf.Strconv.ToErrorRange
import Derived.Shelf.Strconv.AtoiAll
import Derived.Shelf.Strconv.ErrVarAll
import Derived.Shelf.Strings.Search1
import Derived.Shelf.Strings.Search2
import Derived.Shelf.Strings.Search3
import Derived.Shelf.Strings.Cut
import Derived.Shelf.Strings.Count
import Derived.Shelf.Strings.Shaped
import Derived.Shelf.Unicode.DecodeSlow
import Derived.Test.YtlcnolfmpbdgpaaGreatDoorProg
import Derived.Test.YtlcnolfmpbdgpaaGreatDoorChecked
import Derived.WalkKit
import Derived.Laws.Externs
import Derived.Lib.AppendStr
import Derived.Lib.Builder
import Derived.Deep.Draws
import Derived.Lib.AtoiAll
import Derived.WalkSmall
import Derived.Lib.AtoiErrMem
import Derived.Deep.RegionWith
import Derived.Lib.UnsafeStr
import Derived.Below
set_option linter.unusedSimpArgs false
set_option linter.unusedVariables false
namespace Go.Am
open Go
section
variable{P:Program}{t:TypeId}{lo hi:Option SV}{k:Wk}{b:Bool}{xs:List D}{r:Root}{p:aE}{o len:Nat}
@[go_sem] theorem adC{d:Nat}:bf none d=some d:=rfl
@[go_sem] theorem adD{q:IntKind}{n:Int}{d:Nat}:bf (some (.d (.int q n))) d=if 0≤n then some n.toNat else none:=rfl
@[go_sem] theorem Xr:fw P t (.d (.sl b xs)) lo hi none k=(elemOf P t).bind fun e=>(bf lo 0).bind fun l=>(bf hi xs.length).bind fun h=>if l≤h∧h≤xs.length∧(P.info? e).isSome∧headD (P.cellsOf e) (win xs l (h - l))then some (.d (.sl b (win xs l (h - l))))else none:=by
 unfold fw elemOf
 cases P.underlying t with
 |none=>rfl
 |some d=>cases d <;>rfl
@[go_sem] theorem VH:fw P t (.bor r p o len) lo hi none k=(elemOf P t).bind fun e=>(bf lo 0).bind fun l=>(bf hi len).bind fun h=>if l≤h∧h≤len∧(P.info? e).isSome∧lN (P.cellsOf e) r p (o+l) (h - l) k then some (.bor r p (o+l) (h - l))else none:=by
 unfold fw elemOf
 cases P.underlying t with
 |none=>rfl
 |some d=>cases d <;>rfl
@[go_sem] theorem VI{s:List UInt8}:fw P t (.d (.str s)) lo hi none k=match P.underlying t with |some .string=>(bf lo 0).bind fun l=>(bf hi s.length).bind fun h=>if l≤h∧h≤s.length then some (.d (.str (win s l (h - l))))else none |_=>none:=by
 unfold fw
 cases P.underlying t with
 |none=>rfl
 |some d=>cases d <;>rfl
@[go_sem] theorem Xs{n o m:Nat}:lN n r p o m k=(((k.get r).bind fun c=>c.at p).any fun nd=>match nd with | .own es=>headT n (win es o m) |_=>false):=by
 unfold lN
 cases(k.get r).bind fun c=>c.at p with
 |none=>rfl
 |some x=>cases x <;>rfl
theorem Dk{α:Type}{f:α→D}{l:List α}{n:Nat}(h:∀x,(f x).nc=n):headT n (tl f l)=true:=by
 cases l with
 |nil=>rfl
 |cons x l=>simp[tl,headT,T.nc,h]
theorem Hx{α:Type}{f:α→D}{l:List α}{n:Nat}(h:∀x,(f x).nc=n):headD n (l.map f)=true:=by
 cases l with
 |nil=>rfl
 |cons x l=>simp[headD,h]
@[go_sem] theorem adE{l:List Int}{q:IntKind}:headT 1 (tl (eK q) l)=true:=Dk fun _=>rfl
@[go_sem] theorem adF{l:List (List UInt8)}:headT 1 (tl eS l)=true:=Dk fun _=>rfl
@[go_sem] theorem adG{l:List (List UInt8)}:headD 1 (l.map eS)=true:=Hx fun _=>rfl
@[go_sem] theorem VJ{α β:Type}{f:α→β}{l:List α}{n:Nat}:(l.map f).take n=(l.take n).map f:=by rw[List.map_take]
@[go_sem] theorem VK{α β:Type}{f:α→β}{l:List α}{n:Nat}:(l.map f).drop n=(l.drop n).map f:=by rw[List.map_drop]
end
@[go_sem] theorem Xt{s:St}{b:ByteArray}:s.val (.const (.string b))=.d (.str b.data.toList):=rfl
@[go_sem] theorem Ka{P:Program}{c:Bool}{t:TypeId}{b:Bool}{x:D}{l:List D}:cE P c .eql t (.d (.sl b (x::l))) (.d .nils)=match P.underlying t with |some (.slice _)=>some (.bool false) |_=>none:=by
 unfold cE eqV si
 cases P.underlying t with
 |none=>rfl
 |some d=>cases d <;>rfl
section
variable{P:Program}{c b:Bool}{t:TypeId}{α:Type}{e:α→D}{m:List α}
@[go_sem] theorem S5(h:m≠[]):cK [.sl b (List.map e m)]=false:=by cases m;exact absurd rfl h;rfl
@[go_sem] theorem Xu(h:m≠[]):cE P c .eql t (.d (.sl b (List.map e m))) (.d .nils)=match P.underlying t with |some (.slice _)=>some (.bool false) |_=>none:=by cases m;exact absurd rfl h;exact Ka
end
section
variable{P:Program}{hints:FuncId→Hint}{h:Hint}{ρ:Type}{B:Code}
def kLv(P:Program)(own:Bool)(rs:List ResultVar)(n:Nat)(κ:List T×List Ob→Option ρ):Ex×St→Option ρ:=fun r=>(jo P own rs n r).bind κ
@[congr] theorem VL{own:Bool}{rs:List ResultVar}{n:Nat}{κ:List T×List Ob→Option ρ}{r r':Ex×St}(e:r=r'):kLv P own rs n κ r=kLv P own rs n κ r':=by rw[e]
@[go_sem] theorem agK{own:Bool}{rs:List ResultVar}{n:Nat}{κ:List T×List Ob→Option ρ}{s:St}:kLv P own rs n κ (.normal,s)=(jo P own rs n (.ret,s)).bind κ:=rfl
@[go_sem] theorem agL{own:Bool}{rs:List ResultVar}{n:Nat}{κ:List T×List Ob→Option ρ}{s:St}{d:D}:kLv P own rs n κ (.pan d,s)=κ ([.d d,.agg []],ik n [.d d] s.H):=rfl
@[go_sem] theorem agM{own:Bool}{rs:List ResultVar}{n:Nat}{κ:List T×List Ob→Option ρ}{s:St}:kLv P own rs n κ (.ret,s)=(jo P own rs n (.ret,s)).bind κ:=rfl
theorem Dl{f:FuncId}{fn:Func}{q:CL}{n:Nat}{rs:List ResultVar}{own:Bool}(hy:f<1099511627776)(hrc:h.rcv=false)(hxt:h.ext=none)(hf:P.funcs[f]? =some fn)(hb:fn.body=some B)(hq:rC h B=some q)(hh:hints f=h)(hw:h.own=own)(hn:fn.params.size+fn.nfree=n)(hr:fn.results.toList=rs)
  (hk:aD fn.ntmps B=true) (hg:(fn.name== "runtime.NumGoroutine")=false) (ds:List D) (H:List Ob) (κ:List T×List Ob→Option ρ) (hl:ds.length=n) (hx:(decide (h.nilt≠0)&&cK ds)=false):
  cbK (aX P hints f ds H) κ=go P hints h B q (enter ds H) (kLv P own rs H.length κ):=by
 unfold cbK;subst hh hw;rw[Db hy hrc hxt hf hb (hl.trans hn.symm) hk hg hr hx,xy hq,xX];rfl
end
theorem Hy{P:Program}{hints:FuncId→Hint}{ρ:Type}{f:FuncId}{ds:List D}{H:List Ob}{κ:List T×List Ob→Option ρ}{F:List D→Option (List T)}(hy:f<1099511627776)(hx:(hints f).ext=some F):cbK (aX P hints f ds H) κ=(F ds).bind fun rs=>if aQ rs=true then none else κ (rs,H):=by
 unfold cbK;rw[Hd (Nat.not_le.2 hy) hx,xX];congr 1;funext rs
 split <;>rfl
abbrev KT(ρ:Type):=List T×List Ob→Option ρ
abbrev XT(ρ:Type):=Ex×St→Option ρ
abbrev HF(h:Hint)(n:Nat)(k l:List Nat:=[])(o r e v:List Nat:=[]):Prop:=h.nv=n∧h.keep=k∧h.lits=l∧h.objs=o∧h.ro=r∧h.emp=e∧h.lkn=v
abbrev TF(P:Program)(t:TypeId)(a:Option Bool)(e:Option TypeId)(c b:Nat)(k:Option Nat:=none)(i:Bool:=true):Prop:=jW P t=a∧Am.elemOf P t=e∧P.cellsOf t=c∧P.bytesOf t=b∧dl P t=k∧(P.info? t).isSome=i
theorem tf{P:Program}{t:TypeId}{a:Option Bool}{e:Option TypeId}{c b:Nat}{k:Option Nat}{i:Bool}(h:(jW P t,Am.elemOf P t,P.cellsOf t,P.bytesOf t,dl P t,(P.info? t).isSome)=(a,e,c,b,k,i)):TF P t a e c b k i:=by simpa only[pJ,TF]using h
theorem S8{P:Program}{n:Nat}{es:List Nat}(h:((List.range n).all fun f=>(ii P f).isNone || es.contains f)=true){f:Nat}(hf:f<n)(he:es.contains f=false):ii P f=none:=by
 have:=List.all_eq_true.1 h f (List.mem_range.2 hf)
 rw[he,Bool.or_false]at this
 simpa using this
def lv(l:List (List Nat))(id:Nat):List Nat:=l.getD id []
@[go_sem] def mkQ(h:Hint)(b:Code)(q:CL)(e:rC h b=some q:=by conv=>lhs;cbv):{q // rC h b=some q}:=⟨q,e⟩
@[go_sem] def mkR(h:Hint)(b:Code)(k:Nat)(q:CL)(e:Ae h b k=some q:=by conv=>lhs;cbv):{q // Ae h b k=some q}:=⟨q,e⟩
abbrev GE(ρ:Type)(P:Program)(hints:FuncId→Hint)(f n:Nat)(own:Bool)(rs:List ResultVar)(h:Hint)(B:Code)(q:CL):Prop:=∀(ds:List D) (H:List Ob) (κ:KT ρ),ds.length=n→cbK (aX P hints f ds H) κ=go P hints h B q (enter ds H) (kLv P own rs H.length κ)
theorem Xv{ρ:Type}{P:Program}{hints:FuncId→Hint}{h:Hint}{B:Code}{f:FuncId}{fn:Func}{q:CL}{n:Nat}{rs:List ResultVar}{own:Bool}(hf:P.funcs[f]? =some fn)(hb:fn.body=some B)(hq:rC h B=some q)(hh:hints f=h)(hr:fn.results.toList=rs)
  (hc:(decide (f<1099511627776)&& !h.rcv&&h.ext.isNone&&(h.own==own)&&(h.nilt==0)&&(fn.params.size+fn.nfree==n)&&aD fn.ntmps B&& !(fn.name== "runtime.NumGoroutine"))=true):GE ρ P hints f n own rs h B q:=by
 simp only[xA,yD,Bool.not_eq_true',beq_iff_eq,yJ]at hc
 obtain⟨⟨⟨⟨⟨⟨⟨c1,c2⟩,c3⟩,c4⟩,c5⟩,c6⟩,c7⟩,c8⟩:=hc;intro ds H κ hl;exact Dl c1 c2 c3 hf hb hq hh c4 c6 hr c7 c8 ds H κ hl (by rw[c5];rfl)
theorem geo{ρ:Type}{P:Program}{hints:FuncId→Hint}{h:Hint}{B:Code}{f:FuncId}{fn:Func}{q:CL}{n:Nat}{rs:List ResultVar}{own:Bool}(hf:P.funcs[f]? =some fn)(hq:rC h B=some q)(hb:fn.body=some B:=by kernel_rfl)(hh:hints f=h:=by rfl)(hr:fn.results.toList=rs:=by kernel_rfl)
  (hc:(decide (f<1099511627776)&& !h.rcv&&h.ext.isNone&&(h.own==own)&&(h.nilt==0)&&(fn.params.size+fn.nfree==n)&&aD fn.ntmps B&& !(fn.name== "runtime.NumGoroutine"))=true:=by kernel_rfl):GE ρ P hints f n own rs h B q:=Xv hf hb hq hh hr hc
theorem hfr{h:Hint}:HF h h.nv h.keep h.lits h.objs h.ro h.emp h.lkn:=⟨rfl,rfl,rfl,rfl,rfl,rfl,rfl⟩
theorem wk{ρ G:Type}{a:Option ρ}(Φ:G→Option ρ){g:G}(h:a=Φ g){q:Prop}(e:a=Φ g→q:=by intro h;(try simp only[go_sem]at h);exact h):q:=e h
theorem ql{ρ:Type}{k:Nat}{κ:Ex×St→Option ρ}{r:Option ρ}{n m:Nat}{P:Program}{hints:FuncId→Hint}{h:Hint}{B:Code}(S:Nat→St)(e:n=m)(q:cX P hints h B k (S m) κ=r):cX P hints h B k (S n) κ=r:=by subst e;exact q
theorem Dm{α:Type}{a b:α}(h:∀r,b=r→a=r):a=b:=h b rfl
def LX{A:Type}(p:Bool→A→Prop):Type:={Φ:A×A // p false Φ.1∧p true Φ.2}
def LX.f{A:Type}{p:Bool→A→Prop}(x:LX p)(β:Bool):A:=match β with |false=>x.1.1 |true=>x.1.2
theorem LX.ok{A:Type}{p:Bool→A→Prop}(x:LX p)(β:Bool):p β (x.f β):=by cases β;exact x.2.1;exact x.2.2
def mkL{A:Type}{p:Bool→A→Prop}(Φ₀ Φ₁:A)
  (h₀:p false Φ₀:=by intro R g κ hR;intros;simp only[go_sem]at hR;refine Dm fun r hr=> ?_;simp -implicitDefEqProofs (maxSteps:=1000000) [go_sem,hR,-List.map_append,-List.map_take,-List.map_drop,-List.map_set];exact hr)
  (h₁:p true Φ₁:=by intro R g κ hR;intros;simp only[go_sem]at hR;refine Dm fun r hr=> ?_;simp -implicitDefEqProofs (maxSteps:=1000000) [go_sem,hR,-List.map_append,-List.map_take,-List.map_drop,-List.map_set];exact hr):LX p:=⟨(Φ₀,Φ₁),h₀,h₁⟩
theorem wl{p q:Prop}(h:p)(e:p→q:=by intro h;simp only[go_sem,mkL,LX.f,kS,Nx,J6,Hw]at h;exact h):q:=e h
def mkF{P:Program}{hints:FuncId→Hint}{h:Hint}{B:Code}{q:CL}{f:FuncId}{n:Nat}{rs:List ResultVar}{own:Bool}{ρ G:Type}{p:Bool→(List T×List Ob→Option ρ)→G→Prop}{ds:Bool→List D}
  (e:∀(ds:List D) (H:List Ob) (κ:List T×List Ob→Option ρ),ds.length=n→cbK (aX P hints f ds H) κ=go P hints h B q (enter ds H) (kLv P own rs H.length κ)) (hl:∀β,(ds β).length=n) (Φ:G→Option ρ)
  (hΦ:∀β κ g,p β κ g→go P hints h B q (enter (ds β) []) (kLv P own rs 0 κ)=Φ g:=by intro β κ g hg;(try simp only[go_sem]at hg);refine Dm fun r hr=> ?_;cases β;all_goals (simp -implicitDefEqProofs (maxSteps:=1000000) [go_sem,hg,-List.map_append,-List.map_take,-List.map_drop,-List.map_set];exact hr)):
  {Φ:G→Option ρ // ∀β κ g,p β κ g→cbK (aX P hints f (ds β) []) κ=Φ g}:=⟨Φ,fun β κ g hg=>(e _ _ _ (hl β)).trans (hΦ β κ g hg)⟩
end Go.Am
namespace Go.Proofs
open Go.Shelf
def Tryz.lays169_ren:Go.Shelf.Ren:=⟨fun |169=>30 |n=>n,fun |70=>84 |9=>9 |0=>0 |72=>87 |37=>85 |127=>129 |3=>3 |5=>5 |n=>n,fun |n=>n⟩
theorem Tryz.lays169:Go.Proofs.Lays.n169 Tryz.prog Tryz.lays169_ren:={
 mixed:=by kernel_rfl
 f169:=Tryz.func30.trans (congrArg some (by kernel_rfl))
 t0:=Tryz.underlying0
 a0:=Tryz.isAgg0
 z0:=Tryz.sizeOf0
 v0:=Tryz.zeroValue0
 t3:=Tryz.underlying3
 a3:=Tryz.isAgg3
 z3:=Tryz.sizeOf3
 v3:=Tryz.zeroValue3
 t9:=Tryz.underlying9
 a9:=Tryz.isAgg9
 z9:=Tryz.sizeOf9
 v9:=Tryz.zeroValue9
 t37:=Tryz.underlying85
 a37:=Tryz.isAgg85
 z37:=Tryz.sizeOf85
 v37:=Tryz.zeroValue85
 t70:=Tryz.underlying84
 a70:=Tryz.isAgg84
 z70:=Tryz.sizeOf84
 v70:=Tryz.zeroValue84
 t72:=Tryz.underlying87
 a72:=Tryz.isAgg87
 z72:=Tryz.sizeOf87
 v72:=Tryz.zeroValue87
 t127:=Tryz.underlying129
 a127:=Tryz.isAgg129
 z127:=Tryz.sizeOf129
 v127:=Tryz.zeroValue129}
theorem Tryz.Builder_Extra_169:Builder.Extra Tryz.prog Tryz.lays169_ren:={
 sizeBuilder:=by kernel_rfl
 liesBuilder:=by kernel_rfl
 t5:=Tryz.underlying5
 a5:=Tryz.isAgg5
 z5:=Tryz.sizeOf5
 v5:=Tryz.zeroValue5
 infoByte:=by kernel_rfl
 cellsByte:=by kernel_rfl
 sizeByte:=by kernel_rfl
 neB5:=by decide}
open Go.RowKit in
theorem Tryz.Builder_String_any(B b:Nat)(l:List UInt8)(w:World)(h:Lib.IsBuilder 87 5 B b (Lib.byteCells l) w)(hBw:B≤w.heap.size):
  Calls Tryz.prog 30 #[.pointer (some ⟨b,0,none⟩)] w fun e w'=>e=.returned (.string ⟨l.toArray⟩)∧Below B w w':=Any.Builder_String_any Tryz.lays169 Tryz.Builder_Extra_169 B b l w h hBw
def Tryz.lays172_ren:Go.Shelf.Ren:=⟨fun |172=>51 |244=>94 |245=>95 |247=>145 |279=>146 |280=>147 |281=>148 |282=>149 |287=>190 |316=>191 |171=>48 |205=>192 |321=>230 |322=>231 |243=>86 |246=>139 |283=>185 |284=>186 |285=>187 |286=>188 |129=>226 |317=>225 |318=>227 |319=>228 |320=>229 |337=>240 |338=>241 |n=>n,fun |9=>9 |3=>3 |75=>89 |76=>90 |4=>4 |5=>5 |167=>226 |37=>85 |0=>0 |85=>227 |2=>2 |168=>229 |53=>62 |175=>276 |46=>173 |210=>280 |127=>129 |145=>314 |143=>312 |21=>21 |171=>271 |173=>274 |212=>304 |51=>220 |20=>20 |213=>305 |232=>337 |233=>338 |80=>94 |n=>n,fun |15=>2 |16=>3 |17=>4 |18=>7 |19=>8 |n=>n⟩
def Tryz.laysM246_ren:Go.Shelf.Ren:=⟨fun |246=>139 |283=>185 |284=>186 |285=>187 |286=>188 |129=>226 |317=>225 |318=>227 |319=>228 |320=>229 |337=>240 |338=>241 |n=>n,fun |2=>2 |3=>3 |9=>9 |4=>4 |171=>271 |0=>0 |53=>62 |37=>85 |5=>5 |173=>274 |212=>304 |51=>220 |20=>20 |213=>305 |46=>173 |232=>337 |233=>338 |n=>n,fun |17=>4 |18=>7 |19=>8 |n=>n⟩
def Tryz.laysM243_ren:Go.Shelf.Ren:=⟨fun |243=>86 |246=>139 |283=>185 |284=>186 |285=>187 |286=>188 |129=>226 |317=>225 |318=>227 |319=>228 |320=>229 |337=>240 |338=>241 |n=>n,fun |3=>3 |9=>9 |2=>2 |4=>4 |171=>271 |0=>0 |53=>62 |37=>85 |5=>5 |173=>274 |212=>304 |51=>220 |20=>20 |213=>305 |46=>173 |232=>337 |233=>338 |n=>n,fun |17=>4 |18=>7 |19=>8 |n=>n⟩
def Tryz.laysM171_ren:Go.Shelf.Ren:=⟨fun |171=>48 |243=>86 |246=>139 |283=>185 |284=>186 |285=>187 |286=>188 |129=>226 |317=>225 |318=>227 |319=>228 |320=>229 |337=>240 |338=>241 |n=>n,fun |3=>3 |9=>9 |2=>2 |4=>4 |171=>271 |0=>0 |53=>62 |37=>85 |5=>5 |173=>274 |212=>304 |51=>220 |20=>20 |213=>305 |46=>173 |232=>337 |233=>338 |n=>n,fun |17=>4 |18=>7 |19=>8 |n=>n⟩
theorem Tryz.laysM171:Go.Proofs.LaysM.n171 Tryz.prog Tryz.laysM171_ren:={
 mixed:=by kernel_rfl
 f129:=Tryz.func226.trans (congrArg some (by kernel_rfl))
 f171:=Tryz.func48.trans (congrArg some (by kernel_rfl))
 f243:=Tryz.func86.trans (congrArg some (by kernel_rfl))
 f246:=Tryz.func139.trans (congrArg some (by kernel_rfl))
 f283:=Tryz.func185.trans (congrArg some (by kernel_rfl))
 f284:=Tryz.func186.trans (congrArg some (by kernel_rfl))
 f285:=Tryz.func187.trans (congrArg some (by kernel_rfl))
 f286:=Tryz.func188.trans (congrArg some (by kernel_rfl))
 f317:=Tryz.func225.trans (congrArg some (by kernel_rfl))
 f318:=Tryz.func227.trans (congrArg some (by kernel_rfl))
 f319:=Tryz.func228.trans (congrArg some (by kernel_rfl))
 f320:=Tryz.func229.trans (congrArg some (by kernel_rfl))
 f337:=Tryz.func240.trans (congrArg some (by kernel_rfl))
 f338:=Tryz.func241.trans (congrArg some (by kernel_rfl))
 t0:=Tryz.underlying0
 a0:=Tryz.isAgg0
 z0:=Tryz.sizeOf0
 v0:=Tryz.zeroValue0
 t2:=Tryz.underlying2
 a2:=Tryz.isAgg2
 z2:=Tryz.sizeOf2
 v2:=Tryz.zeroValue2
 t3:=Tryz.underlying3
 a3:=Tryz.isAgg3
 z3:=Tryz.sizeOf3
 v3:=Tryz.zeroValue3
 t4:=Tryz.underlying4
 a4:=Tryz.isAgg4
 z4:=Tryz.sizeOf4
 v4:=Tryz.zeroValue4
 t5:=Tryz.underlying5
 a5:=Tryz.isAgg5
 z5:=Tryz.sizeOf5
 v5:=Tryz.zeroValue5
 t9:=Tryz.underlying9
 a9:=Tryz.isAgg9
 z9:=Tryz.sizeOf9
 v9:=Tryz.zeroValue9
 t20:=Tryz.underlying20
 a20:=Tryz.isAgg20
 z20:=Tryz.sizeOf20
 v20:=Tryz.zeroValue20
 t37:=Tryz.underlying85
 a37:=Tryz.isAgg85
 z37:=Tryz.sizeOf85
 v37:=Tryz.zeroValue85
 t46:=Tryz.underlying173
 a46:=Tryz.isAgg173
 z46:=Tryz.sizeOf173
 v46:=Tryz.zeroValue173
 t51:=Tryz.underlying220
 a51:=Tryz.isAgg220
 z51:=Tryz.sizeOf220
 v51:=Tryz.zeroValue220
 t53:=Tryz.underlying62
 a53:=Tryz.isAgg62
 z53:=Tryz.sizeOf62
 v53:=Tryz.zeroValue62
 t171:=Tryz.underlying271
 a171:=Tryz.isAgg271
 z171:=Tryz.sizeOf271
 v171:=Tryz.zeroValue271
 t173:=Tryz.underlying274
 a173:=Tryz.isAgg274
 z173:=Tryz.sizeOf274
 v173:=Tryz.zeroValue274
 t212:=Tryz.underlying304
 a212:=Tryz.isAgg304
 z212:=Tryz.sizeOf304
 v212:=Tryz.zeroValue304
 t213:=Tryz.underlying305
 a213:=Tryz.isAgg305
 z213:=Tryz.sizeOf305
 t232:=Tryz.underlying337
 a232:=Tryz.isAgg337
 z232:=Tryz.sizeOf337
 v232:=Tryz.zeroValue337
 t233:=Tryz.underlying338
 a233:=Tryz.isAgg338
 z233:=Tryz.sizeOf338
 v233:=Tryz.zeroValue338
 g17:=by kernel_rfl
 g18:=by kernel_rfl
 g19:=by kernel_rfl
 i0:=by kernel_rfl
 i2:=by kernel_rfl
 i3:=by kernel_rfl
 i4:=by kernel_rfl
 i5:=by kernel_rfl
 i9:=by kernel_rfl
 i20:=by kernel_rfl
 i37:=by kernel_rfl
 i46:=by kernel_rfl
 i51:=by kernel_rfl
 i53:=by kernel_rfl
 i171:=by kernel_rfl
 i173:=by kernel_rfl
 i212:=by kernel_rfl
 i232:=by kernel_rfl
 i233:=by kernel_rfl
 m17:=by kernel_rfl
 m18:=by kernel_rfl
 m19:=by kernel_rfl}
open Go.RowKit Go.Sort Go.Lib in
theorem Tryz.strconv_Itoa(n:Int)(h0:-9223372036854775808≤n)(h1:n≤9223372036854775807)(w:World)(htab:Lib.TabIs Tryz.prog w "internal/strconv.uint64pow10" .u64 Lib.pow10Tab):
  Calls Tryz.prog 48 #[.int .i64 n] w fun e w'=>e=.returned (.string ⟨(Lib.itoa n).toArray⟩)∧∃k os,w'=grow (w.drewN k) os:=Any.strconv_Itoa Tryz.laysM171 n h0 h1 w htab
def Tryz.laysC172_ren:Go.Shelf.Ren:=⟨fun |172=>51 |244=>94 |245=>95 |247=>145 |279=>146 |280=>147 |281=>148 |282=>149 |287=>190 |316=>191 |171=>48 |205=>192 |321=>230 |322=>231 |243=>86 |246=>139 |283=>185 |284=>186 |285=>187 |286=>188 |129=>226 |317=>225 |318=>227 |319=>228 |320=>229 |337=>240 |338=>241 |n=>n,fun |9=>9 |3=>3 |75=>89 |76=>90 |4=>4 |5=>5 |167=>226 |37=>85 |0=>0 |85=>227 |2=>2 |168=>229 |53=>62 |175=>276 |46=>173 |210=>280 |127=>129 |145=>314 |143=>312 |21=>21 |171=>271 |173=>274 |212=>304 |51=>220 |20=>20 |213=>305 |232=>337 |233=>338 |80=>94 |n=>n,fun |15=>2 |16=>3 |17=>4 |18=>7 |19=>8 |n=>n⟩
theorem Tryz.laysC172:Go.Proofs.LaysC.n172 Tryz.prog Tryz.laysC172_ren:={
 mixed:=by kernel_rfl
 f129:=Tryz.func226.trans (congrArg some (by kernel_rfl))
 f171:=Tryz.func48.trans (congrArg some (by kernel_rfl))
 f172:=Tryz.func51.trans (congrArg some (by kernel_rfl))
 f205:=Tryz.func192.trans (congrArg some (by kernel_rfl))
 f243:=Tryz.func86.trans (congrArg some (by kernel_rfl))
 f244:=Tryz.func94.trans (congrArg some (by kernel_rfl))
 f245:=Tryz.func95.trans (congrArg some (by kernel_rfl))
 f246:=Tryz.func139.trans (congrArg some (by kernel_rfl))
 f247:=Tryz.func145.trans (congrArg some (by kernel_rfl))
 f279:=Tryz.func146.trans (congrArg some (by kernel_rfl))
 f280:=Tryz.func147.trans (congrArg some (by kernel_rfl))
 f281:=Tryz.func148.trans (congrArg some (by kernel_rfl))
 f282:=Tryz.func149.trans (congrArg some (by kernel_rfl))
 f283:=Tryz.func185.trans (congrArg some (by kernel_rfl))
 f284:=Tryz.func186.trans (congrArg some (by kernel_rfl))
 f285:=Tryz.func187.trans (congrArg some (by kernel_rfl))
 f286:=Tryz.func188.trans (congrArg some (by kernel_rfl))
 f287:=Tryz.func190.trans (congrArg some (by kernel_rfl))
 f316:=Tryz.func191.trans (congrArg some (by kernel_rfl))
 f317:=Tryz.func225.trans (congrArg some (by kernel_rfl))
 f318:=Tryz.func227.trans (congrArg some (by kernel_rfl))
 f319:=Tryz.func228.trans (congrArg some (by kernel_rfl))
 f320:=Tryz.func229.trans (congrArg some (by kernel_rfl))
 f321:=Tryz.func230.trans (congrArg some (by kernel_rfl))
 f322:=Tryz.func231.trans (congrArg some (by kernel_rfl))
 f337:=Tryz.func240.trans (congrArg some (by kernel_rfl))
 f338:=Tryz.func241.trans (congrArg some (by kernel_rfl))
 t0:=Tryz.underlying0
 a0:=Tryz.isAgg0
 z0:=Tryz.sizeOf0
 v0:=Tryz.zeroValue0
 t2:=Tryz.underlying2
 a2:=Tryz.isAgg2
 z2:=Tryz.sizeOf2
 v2:=Tryz.zeroValue2
 t3:=Tryz.underlying3
 a3:=Tryz.isAgg3
 z3:=Tryz.sizeOf3
 v3:=Tryz.zeroValue3
 t4:=Tryz.underlying4
 a4:=Tryz.isAgg4
 z4:=Tryz.sizeOf4
 v4:=Tryz.zeroValue4
 t5:=Tryz.underlying5
 a5:=Tryz.isAgg5
 z5:=Tryz.sizeOf5
 v5:=Tryz.zeroValue5
 t9:=Tryz.underlying9
 a9:=Tryz.isAgg9
 z9:=Tryz.sizeOf9
 v9:=Tryz.zeroValue9
 t20:=Tryz.underlying20
 a20:=Tryz.isAgg20
 z20:=Tryz.sizeOf20
 v20:=Tryz.zeroValue20
 t21:=Tryz.underlying21
 a21:=Tryz.isAgg21
 z21:=Tryz.sizeOf21
 v21:=Tryz.zeroValue21
 t37:=Tryz.underlying85
 a37:=Tryz.isAgg85
 z37:=Tryz.sizeOf85
 v37:=Tryz.zeroValue85
 t46:=Tryz.underlying173
 a46:=Tryz.isAgg173
 z46:=Tryz.sizeOf173
 v46:=Tryz.zeroValue173
 t51:=Tryz.underlying220
 a51:=Tryz.isAgg220
 z51:=Tryz.sizeOf220
 v51:=Tryz.zeroValue220
 t53:=Tryz.underlying62
 a53:=Tryz.isAgg62
 z53:=Tryz.sizeOf62
 v53:=Tryz.zeroValue62
 t75:=Tryz.underlying89
 a75:=Tryz.isAgg89
 z75:=Tryz.sizeOf89
 v75:=Tryz.zeroValue89
 t76:=Tryz.underlying90
 a76:=Tryz.isAgg90
 z76:=Tryz.sizeOf90
 v76:=Tryz.zeroValue90
 t85:=Tryz.underlying227
 a85:=Tryz.isAgg227
 z85:=Tryz.sizeOf227
 v85:=Tryz.zeroValue227
 t127:=Tryz.underlying129
 a127:=Tryz.isAgg129
 z127:=Tryz.sizeOf129
 v127:=Tryz.zeroValue129
 t143:=Tryz.underlying312
 a143:=Tryz.isAgg312
 z143:=Tryz.sizeOf312
 v143:=Tryz.zeroValue312
 t145:=Tryz.underlying314
 a145:=Tryz.isAgg314
 z145:=Tryz.sizeOf314
 v145:=Tryz.zeroValue314
 t167:=Tryz.underlying226
 a167:=Tryz.isAgg226
 z167:=Tryz.sizeOf226
 v167:=Tryz.zeroValue226
 t168:=Tryz.underlying229
 a168:=Tryz.isAgg229
 z168:=Tryz.sizeOf229
 v168:=Tryz.zeroValue229
 t171:=Tryz.underlying271
 a171:=Tryz.isAgg271
 z171:=Tryz.sizeOf271
 v171:=Tryz.zeroValue271
 t173:=Tryz.underlying274
 a173:=Tryz.isAgg274
 z173:=Tryz.sizeOf274
 v173:=Tryz.zeroValue274
 t175:=Tryz.underlying276
 a175:=Tryz.isAgg276
 z175:=Tryz.sizeOf276
 v175:=Tryz.zeroValue276
 t210:=Tryz.underlying280
 a210:=Tryz.isAgg280
 z210:=Tryz.sizeOf280
 v210:=Tryz.zeroValue280
 t212:=Tryz.underlying304
 a212:=Tryz.isAgg304
 z212:=Tryz.sizeOf304
 v212:=Tryz.zeroValue304
 t213:=Tryz.underlying305
 a213:=Tryz.isAgg305
 z213:=Tryz.sizeOf305
 t232:=Tryz.underlying337
 a232:=Tryz.isAgg337
 z232:=Tryz.sizeOf337
 v232:=Tryz.zeroValue337
 t233:=Tryz.underlying338
 a233:=Tryz.isAgg338
 z233:=Tryz.sizeOf338
 v233:=Tryz.zeroValue338
 g15:=by kernel_rfl
 g16:=by kernel_rfl
 g17:=by kernel_rfl
 g18:=by kernel_rfl
 g19:=by kernel_rfl
 t80:=Tryz.underlying94
 a80:=Tryz.isAgg94
 z80:=Tryz.sizeOf94
 v80:=Tryz.zeroValue94
 i0:=by kernel_rfl
 i2:=by kernel_rfl
 i3:=by kernel_rfl
 i4:=by kernel_rfl
 i5:=by kernel_rfl
 i9:=by kernel_rfl
 i20:=by kernel_rfl
 i21:=by kernel_rfl
 i37:=by kernel_rfl
 i46:=by kernel_rfl
 i51:=by kernel_rfl
 i53:=by kernel_rfl
 i75:=by kernel_rfl
 i76:=by kernel_rfl
 i80:=by kernel_rfl
 i85:=by kernel_rfl
 i127:=by kernel_rfl
 i143:=by kernel_rfl
 i145:=by kernel_rfl
 i167:=by kernel_rfl
 i168:=by kernel_rfl
 i171:=by kernel_rfl
 i173:=by kernel_rfl
 i175:=by kernel_rfl
 i210:=by kernel_rfl
 i212:=by kernel_rfl
 i232:=by kernel_rfl
 i233:=by kernel_rfl
 m15:=by kernel_rfl
 m16:=by kernel_rfl
 m17:=by kernel_rfl
 m18:=by kernel_rfl
 m19:=by kernel_rfl
 c0:=by kernel_rfl
 c2:=by kernel_rfl
 c3:=by kernel_rfl
 c4:=by kernel_rfl
 c5:=by kernel_rfl
 c9:=by kernel_rfl
 c20:=by kernel_rfl
 c21:=by kernel_rfl
 c37:=by kernel_rfl
 c46:=by kernel_rfl
 c51:=by kernel_rfl
 c53:=by kernel_rfl
 c75:=by kernel_rfl
 c76:=by kernel_rfl
 c80:=by kernel_rfl
 c85:=by kernel_rfl
 c127:=by kernel_rfl
 c143:=by kernel_rfl
 c145:=by kernel_rfl
 c167:=by kernel_rfl
 c168:=by kernel_rfl
 c171:=by kernel_rfl
 c173:=by kernel_rfl
 c175:=by kernel_rfl
 c210:=by kernel_rfl
 c212:=by kernel_rfl
 c213:=by kernel_rfl
 c232:=by kernel_rfl
 c233:=by kernel_rfl}
open Go.RowKit in
theorem Tryz.strconv_Atoi_ok(s:ByteArray)(hmax:s.size≤9223372036854775806)(v:Int)(h:Lib.atoiAll s.data.toList=.ok v)(w:World):
  Calls Tryz.prog 51 #[.string s] w fun e w'=>e=.returned (.tuple #[.int .i64 v,.nilIface])∧(w'=w∨∃t,w'=Lib.bytesWorld w 5 t):=Any.strconv_Atoi_ok Tryz.laysC172 s hmax v h w
open Go.RowKit in
theorem Tryz.strconv_Atoi_syntax(s:ByteArray)(hlim:s.size≤281474976710656)(h:Lib.atoiAll s.data.toList=(Lib.atoiAll []))(ev:Value)(w:World)(hv:w.cell? ⟨2,0,none⟩=some ev)(hev:ev=.nilIface∨∃te pe,ev=.iface te pe):
  Calls Tryz.prog 51 #[.string s] w fun e w'=>∃N,e=.returned (.tuple #[.int .i64 (0),.iface 229 (.pointer (some ⟨N,0,none⟩))])∧w.heap.size≤N∧w'.heap[N]? =some (.cells #[.string ⟨#[65,116,111,105]⟩,.string s,ev] 280 (0,0))∧Below w.heap.size w w':=Any.strconv_Atoi_syntax Tryz.laysC172 s hlim h ev w hv hev
open Go.RowKit in
theorem Tryz.strconv_Atoi_range(s:ByteArray)(hlim:s.size≤281474976710656)(h:Lib.atoiAll s.data.toList=.range)(ev:Value)(w:World)(hv:w.cell? ⟨3,0,none⟩=some ev)(hev:ev=.nilIface∨∃te pe,ev=.iface te pe):
  Calls Tryz.prog 51 #[.string s] w fun e w'=>∃N,e=.returned (.tuple #[.int .i64 (Lib.atoiSat s.data.toList),.iface 229 (.pointer (some ⟨N,0,none⟩))])∧w.heap.size≤N∧w'.heap[N]? =some (.cells #[.string ⟨#[65,116,111,105]⟩,.string s,ev] 280 (0,0))∧Below w.heap.size w w':=Any.strconv_Atoi_range Tryz.laysC172 s hlim h ev w hv hev
end Go.Proofs
namespace Go.Proofs
open Go.Shelf Go.RowKit
set_option maxHeartbeats 1000000 in
set_option maxRecDepth 100000 in
theorem Tryz.check_used(b:Nat)(w:World)(h0:w.cell? ⟨b,0,none⟩=some (.pointer (some ⟨b,0,none⟩))):
  Calls Tryz.prog 47 #[.pointer (some ⟨b,0,none⟩)] w fun e w'=>e=.returned (.tuple #[])∧w'=w:=by
 obtain⟨j,hj,_⟩:=Option.map_eq_some_iff.1 Tryz.Builder_Extra_169.sizeBuilder
 go_enter Tryz.func47,Tryz.ntmps47
 go_wp2
 rw[Lib.run_neq_ptr_same w _ Tryz.underlying84 hj]
 go_wp2
 go_end0
 exact⟨rfl,rfl⟩
set_option maxHeartbeats 1000000 in
set_option maxRecDepth 100000 in
theorem Tryz.check_new(b:Nat)(w:World)(h0:w.cell? ⟨b,0,none⟩=some (.pointer none))(hsh:w.shape? b=some (87,2))(hfz:w.frozen? ⟨b,0,none⟩=false):
  Calls Tryz.prog 47 #[.pointer (some ⟨b,0,none⟩)] w fun e w'=>e=.returned (.tuple #[])∧w'=w.setCell ⟨b,0,none⟩ (.pointer (some ⟨b,0,none⟩)):=by
 obtain⟨j,hj,hjs⟩:=Option.map_eq_some_iff.1 Tryz.Builder_Extra_169.sizeBuilder
 go_enter Tryz.func47,Tryz.ntmps47
 go_wp2
 rw[Lib.run_to_unsafe w ⟨b,0,none⟩ Tryz.underlying84 Tryz.underlying169 hj (by rw[hjs];decide) hsh (Nat.zero_lt_succ 1)]
 simp only[Result.andThen];rw[Oper.upon_value]
 go_wp2
 rw[run_callFunc_extern Tryz.func85 (by kernel_rfl) (by kernel_rfl) (by kernel_rfl) (e:=Extern.AbiNoEscape.same) (by kernel_rfl),Lib.run_noEscape]
 simp only[Result.andThen];rw[Oper.upon_value]
 go_wp2
 rw[Lib.run_from_unsafe w ⟨b,0,none⟩ Tryz.underlying169 Tryz.underlying84 hj hsh Tryz.Builder_Extra_169.liesBuilder];simp only[Result.andThen];rw[Oper.upon_value]
 go_wp2
 go_end0
 exact⟨rfl,rfl⟩
theorem Tryz.check(B b:Nat)(bs:List Value)(w:World)(h:Lib.IsBuilder 87 5 B b bs w):
  Calls Tryz.prog 47 #[.pointer (some ⟨b,0,none⟩)] w fun e w'=>e=.returned (.tuple #[])∧(Lib.BuilderAt 87 5 B b (.pointer (some ⟨b,0,none⟩)) bs w'∧Below B w w'):=by
 rcases h with h |h
 ·refine(Tryz.check_new b w h.cell0 h.shape h.frozen0).mono ?_
  rintro e w' ⟨rfl,rfl⟩
  exact⟨rfl,h.used _,(Below.refl B w).setCell (p:=⟨b,0,none⟩) h.1 _⟩
 ·refine(Tryz.check_used b w h.cell0).mono ?_
  rintro e w' ⟨rfl,rfl⟩
  exact⟨rfl,h,Below.refl B _⟩
set_option maxHeartbeats 2000000 in
set_option maxRecDepth 100000 in
theorem Tryz.putByte(B b:Nat)(bs:List Value)(c:Int)(w:World)(h:Lib.IsBuilder 87 5 B b bs w)(hlen:bs.length+1≤140737488355328)(hBw:B≤w.heap.size):
  Calls Tryz.prog 29 #[.pointer (some ⟨b,0,none⟩),.int .u8 c] w fun e w'=>e=.returned .nilIface∧(Lib.BuilderAt 87 5 B b (.pointer (some ⟨b,0,none⟩)) (bs++[.int .u8 c]) w'∧Below B w w'):=by
 obtain⟨i0,hi,hz0,hz1,hz2⟩:=info_parts Tryz.Builder_Extra_169.infoByte
 go_enter Tryz.func29,Tryz.ntmps29
 go_wp2_with (go_at_call 47;refine(Tryz.check B b bs _ h).mono ?_)
 rintro e w1 ⟨rfl,h1,hb1⟩;obtain⟨hB,v,hbk,hown,hne⟩:=h1;have c0:w1.cell? ⟨b,0,none⟩=some (.pointer (some ⟨b,0,none⟩)):=by rw[Lib.cell_of_heap hbk];rfl
 have c1:w1.cell? ⟨b,1,none⟩=some v:=by rw[Lib.cell_of_heap hbk];rfl
 go_wp2_with (at_builtin;refine wpList_append_own _ rfl _ _ 85 rfl B 5 i0 (.int .u8 0) 1 1 Tryz.underlying85 hi hz0 hz1 hz2 rfl (by decide) _ _ _ rfl (hown.alloc _) ⟨w1.heap.size,0,none⟩ 1 1 [.int .u8 c] rfl rfl ?c1 ?c2 ?c3 ?c4 ?c5 ?_)
 case c1=>
  intro j u hj
  match j,hj with
  |0,hj=>simp at hj;subst hj;simp[Addr.add]
 case c2=>intro u hu;simp at hu;subst hu;rfl
 case c3=>unfold maxLen;omega
 case c4=>omega
 case c5=>have:=hb1.size;simp;omega
 intro v' w2 hown' hgrow _
 have hlt:b<w1.heap.size:=by
  rcases Nat.lt_or_ge b w1.heap.size with h' |h'
  ·exact h'
  ·simp[Array.getElem?_eq_none h']at hbk
 have hb2:w2.heap[b]? =some (.cells #[.pointer (some ⟨b,0,none⟩),v] 87 (0,0)):=by
  rw[hgrow.block b (by simp;omega) (fun e=>hne e.symm),Lib.alloc_old w1 _ b hlt]
  exact hbk
 have d0:w2.cell? ⟨b,0,none⟩=some (.pointer (some ⟨b,0,none⟩)):=by rw[Lib.cell_of_heap hb2];rfl
 have d1:w2.cell? ⟨b,1,none⟩=some v:=by rw[Lib.cell_of_heap hb2];rfl
 have f1:w2.frozen? ⟨b,1,none⟩=false:=Lib.frozen_of_heap hb2 1
 obtain⟨g,cap,rfl⟩:∃g cap,v'=.slice (some ⟨g,0,none⟩) (bs.length+1) cap:=by
  rcases hown'.2 with⟨_,h0⟩ |⟨g,cap,cur,hv,_⟩
  ·omega
  ·exact⟨g,cap,hv⟩
 go_wp2
 go_ret
 refine⟨rfl,?_,?_⟩
 ·exact Lib.BuilderAt.put (T:=87) (e:=5) hB hb2 (bs':=bs++[.int .u8 c]) (by simpa using hown') Tryz.Builder_Extra_169.neB5
 ·exact((hb1.alloc (by have:=hb1.size;omega) _).grown hgrow (by have:=hb1.size;simp;omega) (fun k hk=>(hown.lt k hk).1)).setCell (p:=⟨b,1,none⟩) hB _
set_option maxHeartbeats 2000000 in
set_option maxRecDepth 100000 in
theorem Tryz.putText(B b:Nat)(bs:List Value)(s:ByteArray)(w:World)(h:Lib.IsBuilder 87 5 B b bs w)(hlen:bs.length+s.size≤140737488355328)(hBw:B≤w.heap.size):
  Calls Tryz.prog 27 #[.pointer (some ⟨b,0,none⟩),.string s] w fun e w'=>e=.returned (.tuple #[.int .i64 s.size,.nilIface])∧(Lib.BuilderAt 87 5 B b (.pointer (some ⟨b,0,none⟩)) (bs++Lib.strCells s) w'∧Below B w w'):=by
 obtain⟨i0,hi,hz0,hz1,hz2⟩:=info_parts Tryz.Builder_Extra_169.infoByte
 go_enter Tryz.func27,Tryz.ntmps27
 go_wp2_with (go_at_call 47;refine(Tryz.check B b bs _ h).mono ?_)
 rintro e w1 ⟨rfl,h1,hb1⟩;obtain⟨hB,v,hbk,hown,hne⟩:=h1;have c0:w1.cell? ⟨b,0,none⟩=some (.pointer (some ⟨b,0,none⟩)):=by rw[Lib.cell_of_heap hbk];rfl
 have c1:w1.cell? ⟨b,1,none⟩=some v:=by rw[Lib.cell_of_heap hbk];rfl
 go_wp2_with (at_builtin;refine Lib.wpList_append_own_string _ rfl _ _ 85 9 rfl B 5 i0 Tryz.underlying85 Tryz.underlying9 hi hz0 hz1 hz2 _ _ _ rfl hown s rfl ?c3 ?c4 ?c5 ?_)
 case c3=>unfold maxLen;omega
 case c4=>omega
 case c5=>have:=hb1.size;omega
 intro v' w2 hown' hgrow _
 have hlt:b<w1.heap.size:=by
  rcases Nat.lt_or_ge b w1.heap.size with h' |h'
  ·exact h'
  ·simp[Array.getElem?_eq_none h']at hbk
 have hb2:w2.heap[b]? =some (.cells #[.pointer (some ⟨b,0,none⟩),v] 87 (0,0)):=by
  rw[hgrow.block b hlt (fun e=>hne e.symm)]
  exact hbk
 have d0:w2.cell? ⟨b,0,none⟩=some (.pointer (some ⟨b,0,none⟩)):=by rw[Lib.cell_of_heap hb2];rfl
 have d1:w2.cell? ⟨b,1,none⟩=some v:=by rw[Lib.cell_of_heap hb2];rfl
 have f1:w2.frozen? ⟨b,1,none⟩=false:=Lib.frozen_of_heap hb2 1
 obtain⟨ao,n',cap,rfl⟩:∃ao n' cap,v'=.slice ao n' cap:=by
  rcases hown'.2 with⟨hv,_⟩ |⟨g,cap,cur,hv,_⟩
  ·exact⟨_,_,_,hv⟩
  ·exact⟨_,_,_,hv⟩
 go_wp2
 go_ret2
 refine⟨rfl,?_,?_⟩
 ·exact Lib.BuilderAt.put (T:=87) (e:=5) hB hb2 (bs':=bs++Lib.strCells s) (by simpa [Lib.strCells_length]using hown') Tryz.Builder_Extra_169.neB5
 ·exact(hb1.grown hgrow (by have:=hb1.size;omega) (fun k hk=>(hown.lt k hk).1)).setCell (p:=⟨b,1,none⟩) hB _
theorem Tryz.below_grow(w:World)(k:Nat)(os:Array Obj):Below w.heap.size w (Go.Sort.grow (w.drewN k) os):=
 ⟨rfl,rfl,rfl,by simp[Go.Sort.grow,World.drewN],fun i hi=>by
  show(w.heap++os)[i]? =w.heap[i]?
  rw[Array.getElem?_append_left hi]⟩
theorem Tryz.decimal(n:Int)(h0:-9223372036854775808≤n)(h1:n≤9223372036854775807)(w:World)(htab:Lib.TabIs Tryz.prog w "internal/strconv.uint64pow10" .u64 Lib.pow10Tab):
  Calls Tryz.prog 28 #[.int .i64 n] w fun e w'=>e=.returned (.string ⟨(Lib.itoa n).toArray⟩)∧Below w.heap.size w w':=by
 go_enter Tryz.func28,Tryz.ntmps28
 go_wp2_with (go_at_call 48;refine(Tryz.strconv_Itoa n h0 h1 _ htab).mono ?_)
 rintro e w' ⟨rfl,k,os,rfl⟩
 go_wp2
 go_ret
 exact⟨rfl,Tryz.below_grow w k os⟩
def Tryz.inB(n:Int):Bool:=decide (-1048576≤n∧n≤1048576)
set_option maxHeartbeats 1000000 in
set_option maxRecDepth 100000 in
theorem Tryz.within_lo(n:Int)(b cap:Nat)(w:World)(h0:w.cell? ⟨b,0,none⟩=some (.int .i64 n))(hn:n< -1048576):
  Calls Tryz.prog 52 #[.slice (some ⟨b,0,none⟩) 1 cap] w fun e w'=>e=.returned (.bool false)∧w'=w:=by
 go_enter Tryz.func52,Tryz.ntmps52
 go_wp2
 go_loop [7] (fun i=>i=.int .i64 0) (fun _=>0)
 case atStart=>rfl
 case round=>
  subst hrel
  go_wp2
  go_ret
  exact⟨rfl,rfl⟩
set_option maxHeartbeats 1000000 in
set_option maxRecDepth 100000 in
theorem Tryz.within_hi(n:Int)(b cap:Nat)(w:World)(h0:w.cell? ⟨b,0,none⟩=some (.int .i64 n))(hm:¬n< -1048576)(hn:1048576<n):
  Calls Tryz.prog 52 #[.slice (some ⟨b,0,none⟩) 1 cap] w fun e w'=>e=.returned (.bool false)∧w'=w:=by
 go_enter Tryz.func52,Tryz.ntmps52
 go_wp2
 go_loop [7] (fun i=>i=.int .i64 0) (fun _=>0)
 case atStart=>rfl
 case round=>
  subst hrel
  go_wp2
  go_ret
  exact⟨rfl,rfl⟩
set_option maxHeartbeats 1000000 in
set_option maxRecDepth 100000 in
theorem Tryz.within_in(n:Int)(b cap:Nat)(w:World)(h0:w.cell? ⟨b,0,none⟩=some (.int .i64 n))(hm:¬n< -1048576)(hn:¬1048576<n):
  Calls Tryz.prog 52 #[.slice (some ⟨b,0,none⟩) 1 cap] w fun e w'=>e=.returned (.bool true)∧w'=w:=by
 go_enter Tryz.func52,Tryz.ntmps52
 go_wp2
 go_loop [7] (fun i=>i=.int .i64 0∨i=.int .i64 1) (fun i=>1 - (intOf i).toNat)
 case atStart=>exact .inl rfl
 case round=>
  rcases hrel with rfl |rfl
  ·go_wp2
   go_round
   case rel=>exact .inr rfl
   case measure=>simp[intOf]
  ·go_wp2
   go_ret
   exact⟨rfl,rfl⟩
theorem Tryz.within(n:Int)(b cap:Nat)(w:World)(h0:w.cell? ⟨b,0,none⟩=some (.int .i64 n)):
  Calls Tryz.prog 52 #[.slice (some ⟨b,0,none⟩) 1 cap] w fun e w'=>e=.returned (.bool (Tryz.inB n))∧w'=w:=by
 by_cases h1:n< -1048576
 ·rw[show Tryz.inB n=false by simp[Tryz.inB];omega]
  exact Tryz.within_lo n b cap w h0 h1
 ·by_cases h2:1048576<n
  ·rw[show Tryz.inB n=false by simp[Tryz.inB];omega]
   exact Tryz.within_hi n b cap w h0 h1 h2
  ·rw[show Tryz.inB n=true by simp[Tryz.inB];omega]
   exact Tryz.within_in n b cap w h0 h1 h2
theorem Tryz.new_cell(w:World)(v:Value)(t:TypeId):(w.alloc (.cells #[v] t)).cell? ⟨w.heap.size,0,none⟩=some v:=by
 rw[World.cell?_alloc_new];rfl
theorem Tryz.below_atoi{w w1:World}{B:Nat}(hB:B≤w.heap.size)(h:w1=w∨∃t,w1=Lib.bytesWorld w 5 t):Below B w w1:=by
 rcases h with rfl |⟨t,rfl⟩
 ·exact Below.refl _ _
 ·exact(Lib.bytesWorld_below w 5 t).mono hB
set_option maxHeartbeats 1000000 in
set_option maxRecDepth 100000 in
theorem Tryz.number_out(s:ByteArray)(v:Int)(hs:s.size≤9223372036854775806)(h:Lib.atoiAll s.data.toList=.ok v)(hv:Tryz.inB v=false)(w:World):
  Calls Tryz.prog 33 #[.string s] w fun e w'=>e=.returned (.tuple #[.int .i64 0,.bool false])∧Below w.heap.size w w':=by
 go_enter Tryz.func33,Tryz.ntmps33
 go_wp2_with (go_at_call 51;refine(Tryz.strconv_Atoi_ok s hs v h _).mono ?_)
 rintro e w1 ⟨rfl,h1⟩;have hb1:Below w.heap.size w w1:=Tryz.below_atoi (Nat.le_refl _) h1;clear h1
 go_wp2_with (go_at_call 52;refine(Tryz.within v _ _ _ ?c).mono ?_)
 case c=>exact Tryz.new_cell _ _ _
 rintro e w2 ⟨rfl,rfl⟩;rw[hv]
 go_wp2_with fail
 go_ret2
 exact⟨rfl,hb1.alloc hb1.size _⟩
set_option maxHeartbeats 1000000 in
set_option maxRecDepth 100000 in
theorem Tryz.number_in(s:ByteArray)(v:Int)(hs:s.size≤9223372036854775806)(h:Lib.atoiAll s.data.toList=.ok v)(hv:Tryz.inB v=true)(w:World)(htab:Lib.TabIs Tryz.prog w "internal/strconv.uint64pow10" .u64 Lib.pow10Tab)(ok:Bool)(hok:decide (Lib.itoa v=s.data.toList)=ok):
  Calls Tryz.prog 33 #[.string s] w fun e w'=>e=.returned (.tuple #[.int .i64 (if ok=true then v else 0),.bool ok])∧Below w.heap.size w w':=by
 have hv':-1048576≤v∧v≤1048576:=of_decide_eq_true hv
 have h4:4<w.heap.size:=by
  unfold Lib.TabIs World.var? at htab;simp only[show Tryz.prog.globalNamed "internal/strconv.uint64pow10" =some 4 by kernel_rfl,xS]at htab
  split at htab
  ·rename_i hh
   exact(Array.getElem?_eq_some_iff.1 hh).1
  ·cases htab
 go_enter Tryz.func33,Tryz.ntmps33
 go_wp2_with (go_at_call 51;refine(Tryz.strconv_Atoi_ok s hs v h _).mono ?_)
 rintro e w1 ⟨rfl,h1⟩;have hb1:Below w.heap.size w w1:=Tryz.below_atoi (Nat.le_refl _) h1;clear h1
 go_wp2_with (go_at_call 52;refine(Tryz.within v _ _ _ ?c).mono ?_)
 case c=>exact Tryz.new_cell _ _ _
 rintro e w2 ⟨rfl,rfl⟩;rw[hv];have hb2:Below w.heap.size w (w1.alloc (.cells #[.int .i64 v] 3)):=hb1.alloc hb1.size _;have htab2:Lib.TabIs Tryz.prog (w1.alloc (.cells #[.int .i64 v] 3)) "internal/strconv.uint64pow10" .u64 Lib.pow10Tab:=var?_below hb2 (by kernel_rfl) h4 htab
 go_wp2_with (go_at_call 28;refine(Tryz.decimal v (by omega) (by omega) _ htab2).mono ?_)
 rintro e w3 ⟨rfl,hb3⟩;have hb4:Below w.heap.size w w3:=hb2.trans (hb3.mono hb2.size);clear htab2 hb3
 cases ok with
 |true=>
  have e1:Lib.itoa v=s.data.toList:=of_decide_eq_true hok;have e2:(⟨(Lib.itoa v).toArray⟩:ByteArray)=s:=by rw[e1]
  rw[e2]
  go_wp2_with fail
  go_ret2
  exact⟨rfl,hb4⟩
 |false=>
  have e1:¬Lib.itoa v=s.data.toList:=of_decide_eq_false hok
  have e2:(Lib.itoa v==s.toList)=false:=by
   rw[Lib.toList_data]
   simpa using e1
  go_wp2_with fail
  go_ret2
  exact⟨rfl,hb4⟩
set_option maxHeartbeats 1000000 in
set_option maxRecDepth 100000 in
theorem Tryz.number_syntax(s:ByteArray)(hs:s.size≤281474976710656)(h:Lib.atoiAll s.data.toList=(Lib.atoiAll []))(w:World)(ev:Value)(hv:w.cell? ⟨2,0,none⟩=some ev)(hev:∃te pe,ev=.iface te pe):
  Calls Tryz.prog 33 #[.string s] w fun e w'=>e=.returned (.tuple #[.int .i64 0,.bool false])∧Below w.heap.size w w':=by
 go_enter Tryz.func33,Tryz.ntmps33
 go_wp2_with (go_at_call 51;refine(Tryz.strconv_Atoi_syntax s hs h ev _ hv (.inr hev)).mono ?_)
 rintro e w1 ⟨N,rfl,_,_,hb1⟩
 go_wp2_with fail
 go_ret2
 exact⟨rfl,hb1⟩
set_option maxHeartbeats 1000000 in
set_option maxRecDepth 100000 in
theorem Tryz.number_range(s:ByteArray)(hs:s.size≤281474976710656)(h:Lib.atoiAll s.data.toList=.range)(w:World)(ev:Value)(hv:w.cell? ⟨3,0,none⟩=some ev)(hev:∃te pe,ev=.iface te pe):
  Calls Tryz.prog 33 #[.string s] w fun e w'=>e=.returned (.tuple #[.int .i64 0,.bool false])∧Below w.heap.size w w':=by
 go_enter Tryz.func33,Tryz.ntmps33
 go_wp2_with (go_at_call 51;refine(Tryz.strconv_Atoi_range s hs h ev _ hv (.inr hev)).mono ?_)
 rintro e w1 ⟨N,rfl,_,_,hb1⟩
 go_wp2_with fail
 go_ret2
 exact⟨rfl,hb1⟩
def Tryz.num(s:List UInt8):Int×Bool:=match Lib.atoiAll s with
 | .ok v=>if Tryz.inB v=true∧Lib.itoa v=s then(v,true)else(0,false)
 |_=>(0,false)
theorem Tryz.number(s:ByteArray)(hs:s.size≤281474976710656)(w:World)(htab:Lib.TabIs Tryz.prog w "internal/strconv.uint64pow10" .u64 Lib.pow10Tab)(h2:∃te pe,w.cell? ⟨2,0,none⟩=some (.iface te pe))(h3:∃te pe,w.cell? ⟨3,0,none⟩=some (.iface te pe)):
  Calls Tryz.prog 33 #[.string s] w fun e w'=>e=.returned (.tuple #[.int .i64 (Tryz.num s.data.toList).1,.bool (Tryz.num s.data.toList).2])∧Below w.heap.size w w':=by
 obtain⟨t2,p2,h2⟩:=h2;obtain⟨t3,p3,h3⟩:=h3;unfold Tryz.num
 cases h:Lib.atoiAll s.data.toList with
 |ok v=>
  cases hv:Tryz.inB v with
  |false=>
   simp only[hv,xH,false_and,if_false];exact Tryz.number_out s v (by omega) h hv w
  |true=>
   by_cases hi:Lib.itoa v=s.data.toList
   ·simp only[hv,hi,and_self,if_true]
    exact Tryz.number_in s v (by omega) h hv w htab true (by simpa using hi)
   ·simp only[hv,hi,and_false,if_false]
    exact Tryz.number_in s v (by omega) h hv w htab false (by simpa using hi)
 |range=>exact Tryz.number_range s hs h w _ h3 ⟨_,_,rfl⟩
 |_=>exact Tryz.number_syntax s hs h w _ h2 ⟨_,_,rfl⟩
theorem Tryz.build_new{T e:TypeId}{B b:Nat}{bs:List Value}{w w':World}(h:Lib.IsBuilder T e B b bs w)(hb:Below w.heap.size w w'):Lib.IsBuilder T e B b bs w':=by
 have one:∀{p:Value},Lib.BuilderAt T e B b p bs w→Lib.BuilderAt T e B b p bs w':=fun{p} h=>by
  have hlt:=h.lt;obtain⟨hB,v,hh,hown,hne⟩:=h
  exact⟨hB,v,by rw[hb.block b hlt];exact hh,hown.kept (row:=some b) ⟨hb.os,hb.tape,hb.output,hb.size,fun k hk _=>hb.block k hk⟩ (.inr hne),hne⟩
 exact h.imp one one
def Tryz.stepT(p:Int×Int):List UInt8:=32::(Lib.itoa p.1++47::Lib.itoa p.2)
def Tryz.headT(word:List UInt8)(ps:List (Int×Int))(k:Nat):List UInt8:=word++(ps.take k).flatMap Tryz.stepT
theorem Tryz.headT_succ(word:List UInt8)(ps:List (Int×Int))(k:Nat)(p:Int×Int)(h:ps[k]? =some p):Tryz.headT word ps (k+1)=Tryz.headT word ps k++Tryz.stepT p:=by
 unfold Tryz.headT;rw[List.take_add_one,h]
 simp
theorem Tryz.headT_le(word:List UInt8)(ps:List (Int×Int))(k:Nat):(Tryz.headT word ps k).length≤(Tryz.headT word ps ps.length).length:=by
 have h:=congrArg (fun l=>(l.flatMap Tryz.stepT).length) (yP k ps)
 simp only[List.flatMap_append,xP]at h
 unfold Tryz.headT;rw[List.take_length];simp only[xP];omega
structure Tryz.Keep(w:World)(tb:Nat)(p:Int×Int)(bs:List Value)(wx:World):Prop where
 own:Lib.IsBuilder 87 5 w.heap.size w.heap.size bs wx
 below:Below w.heap.size w wx
 tab:Lib.TabIs Tryz.prog wx "internal/strconv.uint64pow10" .u64 Lib.pow10Tab
 one:wx.cell? ⟨tb,0,none⟩=some (.int .i64 p.1)
 two:wx.cell? ⟨tb,1,none⟩=some (.int .i64 p.2)
theorem Tryz.cell_lt{w:World}{b i:Nat}{v:Value}(h:w.cell? ⟨b,i,none⟩=some v):b<w.heap.size:=by
 unfold World.cell? at h
 split at h
 ·rename_i h0;exact(Array.getElem?_eq_some_iff.1 h0).1
 ·cases h
theorem Tryz.tab_lt{w:World}(htab:Lib.TabIs Tryz.prog w "internal/strconv.uint64pow10" .u64 Lib.pow10Tab):4<w.heap.size:=by
 unfold Lib.TabIs World.var? at htab;simp only[show Tryz.prog.globalNamed "internal/strconv.uint64pow10" =some 4 by kernel_rfl,xS]at htab
 split at htab
 ·rename_i hh
  exact(Array.getElem?_eq_some_iff.1 hh).1
 ·cases htab
theorem Tryz.tab_below{w w':World}{B:Nat}(h:Below B w w')(hB:4<B)(htab:Lib.TabIs Tryz.prog w "internal/strconv.uint64pow10" .u64 Lib.pow10Tab):Lib.TabIs Tryz.prog w' "internal/strconv.uint64pow10" .u64 Lib.pow10Tab:=var?_below h (by kernel_rfl) hB htab
theorem Tryz.Keep.next{w:World}{tb:Nat}{p:Int×Int}{bs:List Value}{wx w':World}(h:Tryz.Keep w tb p bs wx)(hb:Below wx.heap.size wx w'):Tryz.Keep w tb p bs w':=
 ⟨Tryz.build_new h.own hb,h.below.trans (hb.mono h.below.size),Tryz.tab_below hb (Tryz.tab_lt h.tab) h.tab,(hb.cell (Tryz.cell_lt h.one)).trans h.one,(hb.cell (Tryz.cell_lt h.two)).trans h.two⟩
theorem Tryz.Keep.decimal{w:World}{tb:Nat}{p:Int×Int}{bs:List Value}{wx:World}(h:Tryz.Keep w tb p bs wx)(n:Int)(h0:-9223372036854775808≤n)(h1:n≤9223372036854775807):
  Calls Tryz.prog 28 #[.int .i64 n] wx fun e w'=>e=.returned (.string ⟨(Lib.itoa n).toArray⟩)∧Tryz.Keep w tb p bs w'∧w'.cell? ⟨tb,0,none⟩=some (.int .i64 p.1)∧w'.cell? ⟨tb,1,none⟩=some (.int .i64 p.2):=
 (Tryz.decimal n h0 h1 wx h.tab).mono fun e w' he=>⟨he.1,h.next he.2,(h.next he.2).one,(h.next he.2).two⟩
theorem Tryz.Keep.put{w:World}{tb:Nat}{p:Int×Int}{bs:List Value}{wx:World}(h:Tryz.Keep w tb p bs wx)(s:ByteArray)(hs:bs.length+s.size≤140737488355328):
  Calls Tryz.prog 27 #[.pointer (some ⟨w.heap.size,0,none⟩),.string s] wx fun e w'=>e=.returned (.tuple #[.int .i64 s.size,.nilIface])∧Lib.IsBuilder 87 5 w.heap.size w.heap.size (bs++Lib.strCells s) w'∧Below w.heap.size w w':=
 (Tryz.putText w.heap.size w.heap.size bs s wx h.own hs h.below.size).mono fun e w' he=>⟨he.1,.inr he.2.1,h.below.trans he.2.2⟩
theorem Tryz.step_cells(p:Int×Int):Lib.strCells ((⟨#[32]⟩:ByteArray)++⟨(Lib.itoa p.1).toArray⟩++⟨#[47]⟩++⟨(Lib.itoa p.2).toArray⟩)=Lib.byteCells (Tryz.stepT p):=by
 simp[Lib.strCells,Lib.byteCells,Tryz.stepT]
theorem Tryz.step_room(p:Int×Int)(l:List UInt8)(h:l.length+(2+(Lib.itoa p.1).length+(Lib.itoa p.2).length)≤10000000):(Lib.byteCells l).length+((⟨#[32]⟩:ByteArray)++⟨(Lib.itoa p.1).toArray⟩++⟨#[47]⟩++⟨(Lib.itoa p.2).toArray⟩).size≤140737488355328:=by
 have h1:=congrArg List.length (Tryz.step_cells p);rw[Lib.strCells_length,Lib.byteCells_length]at h1
 rw[Lib.byteCells_length,h1];simp only[Tryz.stepT,xZ,xP];omega
set_option maxHeartbeats 4000000 in
set_option maxRecDepth 100000 in
theorem Tryz.line_some(word:ByteArray)(ps:List (Int×Int))(bl off cap:Nat)(w:World)(hT:(Tryz.headT word.data.toList ps ps.length).length≤10000000)(hn:ps.length≤10000000)
  (hr:∀p∈ps,-9223372036854775808≤p.1∧p.1≤9223372036854775807∧ -9223372036854775808≤p.2∧p.2≤9223372036854775807)
  (hc:∀k p,ps[k]? =some p→w.cell? ⟨bl,off+k * 2,none⟩=some (.int .i64 p.1)∧w.cell? ⟨bl,off+k * 2+1,none⟩=some (.int .i64 p.2))
  (htab:Lib.TabIs Tryz.prog w "internal/strconv.uint64pow10" .u64 Lib.pow10Tab):
  Calls Tryz.prog 17 #[.string word,.slice (some ⟨bl,off,none⟩) ps.length cap] w fun e w'=>e=.returned (.string ⟨(Tryz.headT word.data.toList ps ps.length++[10]).toArray⟩)∧Below w.heap.size w w':=by
 go_enter Tryz.func17,Tryz.ntmps17
 have hw0:=Lib.fresh_isBuilder 87 5 w;have hl0:=Tryz.headT_le word.data.toList ps 0
 have hs0:word.size≤10000000:=by
  have:word.size=word.data.toList.length:=Lib.size_eq word
  simp only[Tryz.headT,List.take_zero,List.flatMap_nil,List.append_nil]at hl0
  unfold Tryz.headT at hT;simp only[xP]at hT hl0
  omega
 go_wp2_with (go_at_call 27;refine(Tryz.putText w.heap.size w.heap.size [] word _ hw0 (by simp;omega) (by simp)).mono ?_)
 rintro e w1 ⟨rfl,h1,hb1⟩;have hb2:Below w.heap.size w w1:=((Below.refl _ w).alloc (Nat.le_refl _) _).trans hb1;have h2:Lib.IsBuilder 87 5 w.heap.size w.heap.size (Lib.byteCells (Tryz.headT word.data.toList ps 0)) w1:=.inr (by simpa [Tryz.headT,Lib.strCells_eq]using h1)
 clear hb1 h1 hw0 hl0
 go_wp2_with fail
 go_loopw [12] (fun i wr=>∃k:Nat,k≤ps.length∧i=.int .i64 k∧Lib.IsBuilder 87 5 w.heap.size w.heap.size (Lib.byteCells (Tryz.headT word.data.toList ps k)) wr∧Below w.heap.size w wr) (fun i _=>ps.length - (intOf i).toNat)
 case atStart=>exact⟨0,Nat.zero_le _,rfl,h2,hb2⟩
 case round=>
  obtain⟨k,hk,rfl,hbr,hbw⟩:=hrel
  by_cases hlt:k<ps.length
  ·obtain⟨p,hp⟩:∃p,ps[k]? =some p:=⟨_,xG hlt⟩
   have hc':=hc k p hp
   have hblt:bl<w.heap.size:=by
    have:=hc'.1
    unfold World.cell? at this
    split at this
    ·rename_i h0;exact(Array.getElem?_eq_some_iff.1 h0).1
    ·cases this
   have hca:wr.cell? ⟨bl,off+k * 2,none⟩=some (.int .i64 p.1):=(hbw.cell hblt).trans hc'.1;have hcb:wr.cell? ⟨bl,off+k * 2+1,none⟩=some (.int .i64 p.2):=(hbw.cell hblt).trans hc'.2;have hq:=hr p (yS hp)
   have hk1:Tryz.Keep w wr.heap.size p (Lib.byteCells (Tryz.headT word.data.toList ps k)) (wr.alloc (.cells #[.int .i64 p.1,.int .i64 p.2] 52)):=by
    have hb0:Below wr.heap.size wr (wr.alloc (.cells #[.int .i64 p.1,.int .i64 p.2] 52)):=(Below.refl _ wr).alloc (Nat.le_refl _) _
    exact⟨Tryz.build_new hbr hb0,hbw.trans (hb0.mono hbw.size),Tryz.tab_below (hbw.trans (hb0.mono hbw.size)) (Tryz.tab_lt htab) htab,by rw[World.cell?_alloc_new];rfl,by rw[World.cell?_alloc_new];rfl⟩
   clear hc hc' htab h2 hb2
   go_wp2_with fail
   have ho:=hk1.one;have ht:=hk1.two
   revert hk1 ho ht
   generalize wr.alloc (.cells #[.int .i64 p.1,.int .i64 p.2] 52)=wx;generalize wr.heap.size=tb;intro hk1 ho ht;have hk2:Tryz.Keep w tb p (Lib.byteCells (Tryz.headT word.data.toList ps k)) wx.drew:=⟨hk1.own,hk1.below.trans ⟨rfl,rfl,rfl,Nat.le_refl _,fun _ _=>rfl⟩,hk1.tab,hk1.one,hk1.two⟩
   clear hk1 hbr hbw hca hcb;have hl1:=Tryz.headT_le word.data.toList ps (k+1);rw[Tryz.headT_succ _ _ _ p hp]at hl1
   have hl2:(Tryz.headT word.data.toList ps k).length+(2+(Lib.itoa p.1).length+(Lib.itoa p.2).length)≤10000000:=by
    have:(Tryz.stepT p).length=2+(Lib.itoa p.1).length+(Lib.itoa p.2).length:=by
     simp only[Tryz.stepT,xZ,xP];omega
    simp only[xP]at hl1
    omega
   clear hl1
   go_region_with (first
    |(go_at_call 28;refine(Tryz.Keep.decimal (w:=w) (tb:=tb) (p:=p) (bs:=Lib.byteCells (Tryz.headT word.data.toList ps k)) ?hk _ ?h0 ?h1).mono ?_;(case hk=>assumption);(case h0=>omega);(case h1=>omega);rintro e w3 ⟨rfl,hk3,ho3,ht3⟩)
    |(go_at_call 27;refine(Tryz.Keep.put (w:=w) (tb:=tb) (p:=p) (bs:=Lib.byteCells (Tryz.headT word.data.toList ps k)) ?hk _ ?hs).mono ?_;(case hk=>assumption);(case hs=>exact Tryz.step_room p _ hl2);rintro e w3 ⟨rfl,hk3,ho3⟩))
   all_goals (
    go_wp2_with fail
    go_roundw
    case rel=>exact⟨k+1,by omega,by go_num,by rw[Tryz.headT_succ _ _ _ p hp,Lib.byteCells_append,←Tryz.step_cells];exact hk3,ho3⟩
    case measure=>simp[intOf];omega)
  ·have:k=ps.length:=by omega
   subst this;clear hc htab h2 hb2 hk
   go_wp2_with (go_at_call 29;refine(Tryz.putByte w.heap.size w.heap.size _ 10 _ hbr (by rw[Lib.byteCells_length];omega) hbw.size).mono ?_)
   rintro e w3 ⟨rfl,h3,hb3⟩;have h4:Lib.IsBuilder 87 5 w.heap.size w.heap.size (Lib.byteCells (Tryz.headT word.data.toList ps ps.length++[10])) w3:=.inr (by rw[Lib.byteCells_append];exact h3)
   have hb4:=hbw.trans hb3;clear h3 hb3 hbr
   go_wp2_with (go_at_call 30;refine(Tryz.Builder_String_any w.heap.size w.heap.size _ _ h4 hb4.size).mono ?_)
   rintro e w5 ⟨rfl,hb5⟩
   go_wp2_with fail
   go_ret
   exact⟨rfl,hb4.trans hb5⟩
end Go.Proofs
namespace Go.Am
open Go Go.RowKit
def GW(G:Nat→Option D)(w:World):Prop:=∀g d,G g=some d→∃vs:List Value,GH w g vs∧GV d vs
theorem RetAll.data{c:Cx}:∀(xs:List D) (vs:List Value),VVs c xs vs→RetAll c (xs.map T.d) vs []
 | [],vs,h=>⟨h,rfl⟩
 |x::xs,vs,h=>by
  simp only[VVs]at h
  obtain⟨v,r,rfl,h1,h2,h3⟩:=h
  exact⟨v,r,[],[],rfl,rfl,by simp only[TC];exact⟨trivial,h1⟩,h2,RetAll.data xs r h3⟩
theorem sM{P:Program}{G:Nat→Option D}{f:FuncId}{F:List D→Option (List T)}{fn:Func}(hf:P.funcs[f]? =some fn)(hb:fn.body.isSome=true)(hn:(fn.name== "runtime.NumGoroutine")=false)(hy:¬YB≤f)
  (h:∀(ds:List D) (rs:List T) (c:Cx) (args:Array Value),F ds=some rs→GW G c.w→VVs c ds args.toList→Calls P f args c.w fun e w'=>∃(xs:List D) (vs:List Value),e=.returned (Cq vs)∧rs=xs.map T.d∧(∀c,VVs c xs vs)∧RowKit.Below c.w.heap.size c.w w'):ri P G f F:=by
 refine⟨.inr ⟨fn,hf,hb,hn⟩,fun ds rs H e hp A S hd args hA hG hkr hargs=> ?_⟩
 unfold CallsY;rw[if_neg hy];refine Calls.mono (h ds rs _ args e (fun g d hg=> ?_) hargs) fun en w' he=> ?_
 ·obtain⟨_,_,_,vs,h4,h5⟩:=hG g d hg
  exact⟨vs,h4,h5⟩
 ·obtain⟨xs,vs,rfl,rfl,hv,hbl⟩:=he
  obtain⟨k1,_⟩:=KR.world (w':=w') (M:=[]) (M':=[]) (fl:=[]) hbl.os hbl.tape hbl.output hbl.size (Recs.old hbl.block) (show KR A A.ρ0 S hd ([]++[]) _ _ A.w0 from hkr) (fun b hb _=>hbl.block b hb) (by simp) (by simp)
  refine⟨_,rfl,A.ρ0,S,hd,[],vs,k1,RetAll.data xs vs (hv _),rfl⟩
end Go.Am
namespace Go.Proofs
open Go.Shelf Go.RowKit
set_option maxHeartbeats 4000000 in
set_option maxRecDepth 100000 in
theorem Tryz.line_none(word:ByteArray)(a:Option Addr)(cap:Nat)(w:World)(hT:word.size≤10000000):
  Calls Tryz.prog 17 #[.string word,.slice a 0 cap] w fun e w'=>e=.returned (.string ⟨(word.data.toList++[10]).toArray⟩)∧Below w.heap.size w w':=by
 go_enter Tryz.func17,Tryz.ntmps17
 have hw0:=Lib.fresh_isBuilder 87 5 w
 go_wp2_with (go_at_call 27;refine(Tryz.putText w.heap.size w.heap.size [] word _ hw0 (by simp;omega) (by simp)).mono ?_)
 rintro e w1 ⟨rfl,h1,hb1⟩;have hbr:Lib.IsBuilder 87 5 w.heap.size w.heap.size (Lib.byteCells word.data.toList) w1:=.inr (by simpa [Lib.strCells_eq]using h1)
 have hbw:Below w.heap.size w w1:=((Below.refl _ w).alloc (Nat.le_refl _) _).trans hb1;have hsz:word.data.toList.length≤10000000:=by rw[←Lib.size_eq word];exact hT
 clear hb1 h1 hw0
 go_wp2_with fail
 go_loopw [12] (fun i wr=>i=.int .i64 0∧wr=w1) (fun i _=>0)
 case atStart=>exact⟨rfl,rfl⟩
 case round=>
  obtain⟨rfl,rfl⟩:=hrel
  go_wp2_with (go_at_call 29;refine(Tryz.putByte w.heap.size w.heap.size _ 10 _ hbr (by rw[Lib.byteCells_length];omega) hbw.size).mono ?_)
  rintro e w3 ⟨rfl,h3,hb3⟩;have h4:Lib.IsBuilder 87 5 w.heap.size w.heap.size (Lib.byteCells (word.data.toList++[10])) w3:=.inr (by rw[Lib.byteCells_append];exact h3)
  have hb4:=hbw.trans hb3;clear h3 hb3 hbr
  go_wp2_with (go_at_call 30;refine(Tryz.Builder_String_any w.heap.size w.heap.size _ _ h4 hb4.size).mono ?_)
  rintro e w5 ⟨rfl,hb5⟩
  go_wp2_with fail
  go_ret
  exact⟨rfl,hb4.trans hb5⟩
end Go.Proofs
namespace Go.Tr7
open Go Go.Am Go.Proofs
def Kb:Nat→Nat→List UInt8
 |0,_=>[]
 |k+1,u=>if u<10 then [UInt8.ofNat (48+u)]else Kb k (u / 10)++[UInt8.ofNat (48+u % 10)]
def zd(n:Int):List UInt8:=if n<0 then 45::Kb 20 n.natAbs else Kb 20 n.toNat
def inR(n:Int):Bool:=decide (-9223372036854775808≤n)&&decide (n≤9223372036854775807)
theorem Bb:∀(k u:Nat),u<10 ^ k→Kb k u=Lib.decDigits u∨k=0
 |0,_,_=>.inr rfl
 |k+1,u,h=>by
  refine .inl ?_;rw[Kb,Lib.decDigits]
  by_cases hu:u<10
  ·rw[if_pos hu,dif_pos hu]
  ·rw[if_neg hu,dif_neg hu]
   have h1:u / 10<10 ^ k:=by rw[Nat.pow_succ]at h;omega
   rcases Bb k (u / 10) h1 with q |q
   ·rw[q]
   ·subst q
    simp at h1;omega
theorem uU{n:Int}(h:inR n=true):zd n=Lib.itoa n:=by
 simp only[inR,xA,yD]at h
 unfold zd Lib.itoa;have e:(10:Nat) ^ 20=100000000000000000000:=by decide
 split
 ·rw[(Bb 20 n.natAbs (by rw[e];omega)).resolve_right (by decide)]
 ·rw[(Bb 20 n.toNat (by rw[e];omega)).resolve_right (by decide)]
def Kd:List D→Option (List T)
 | [.int .i64 n]=>if inR n=true then some [.d (.str (zd n))]else none
 |_=>none
def l9(s:List UInt8):Int×Bool:=match Lib.atoiAll s with
 | .ok v=>if(Tryz.inB v&&decide (zd v=s))=true then(v,true)else(0,false)
 |_=>(0,false)
theorem NA(s:List UInt8):l9 s=Tryz.num s:=by
 unfold l9 Tryz.num
 cases Lib.atoiAll s with
 |ok v=>
  simp only
  cases hb:Tryz.inB v with
  |false=>simp
  |true=>
   have hr:inR v=true:=by
    have:=of_decide_eq_true hb
    simp only[inR,xA,yD];omega
   rw[uU hr]
   by_cases hi:Lib.itoa v=s <;>simp[hi]
 |_=>rfl
def extNum:List D→Option (List T)
 | [.str s]=>if decide (s.length≤1000000)=true then some [.d (.int .i64 (l9 s).1),.d (.bool (l9 s).2)]else none
 |_=>none
def gD:List D→Option (List (Int×Int))
 | []=>some []
 | .agg [.int .i64 a,.int .i64 b]::r=>(gD r).map ((a,b)::·)
 |_=>none
def FJ(p:Int×Int):List UInt8:=32::(zd p.1++47::zd p.2)
def headF(w:List UInt8)(ps:List (Int×Int)):List UInt8:=w++ps.flatMap FJ
def okF(w:List UInt8)(ps:List (Int×Int)):Bool:=ps.all (fun p=>inR p.1&&inR p.2)&&decide (ps.length≤1000000)&&decide ((headF w ps).length≤1000000)
def extLine:List D→Option (List T)
 | [.str w,.sl _ l]=>(gD l).bind fun ps=>if okF w ps=true then some [.d (.str (headF w ps++[10]))]else none
 |_=>none
theorem Ke(w:List UInt8)(ps:List (Int×Int))(h:∀p∈ps,inR p.1=true∧inR p.2=true):headF w ps=Tryz.headT w ps ps.length:=by
 unfold headF Tryz.headT;rw[List.take_length];congr 1
 induction ps with
 |nil=>rfl
 |cons p ps ih=>
  rw[List.flatMap_cons,List.flatMap_cons,ih (fun q hq=>h q (by simp[hq]))]
  obtain⟨h1,h2⟩:=h p (by simp)
  rw[FJ,Tryz.stepT,uU h1,uU h2]
structure Vars(G:Nat→Option D):Prop where
 pow:G 4=some (.agg (Lib.pow10Tab.map (D.int .u64)))
 syn:G 2=some .nilf
 rng:G 3=some .nilf
theorem FK(c:Cx)(k:IntKind):∀(zs:List Int) (vs:List Value),VCs c (zs.map (D.int k)) vs→vs=zs.map fun z=>Value.int k z
 | [],vs,h=>by simpa [VCs]using h
 |z::zs,vs,h=>by
  simp only[List.map_cons,VCs,VC]at h
  obtain⟨v,r,rfl,h1,h2⟩:=h;rw[FK c k zs r h2]
  simpa using h1
theorem ER{G:Nat→Option D}(hv:Vars G){w:World}(c:Cx)(h:GW G w):Lib.TabIs Tryz.prog w "internal/strconv.uint64pow10" .u64 Lib.pow10Tab:=by
 obtain⟨vs,⟨t,fr,h1⟩,h2⟩:=h _ _ hv.pow
 have:=FK c .u64 _ _ (h2.1 rfl c)
 subst this;unfold Lib.TabIs World.var?;simp only[show Tryz.prog.globalNamed "internal/strconv.uint64pow10" =some 4 by kernel_rfl,xS,h1]
theorem Kf{G:Nat→Option D}{g:Nat}(hv:G g=some .nilf){w:World}(h:GW G w):∃te pe,w.cell? ⟨g,0,none⟩=some (.iface te pe):=by
 obtain⟨vs,h1,h2⟩:=h _ _ hv;obtain⟨t,p,rfl⟩:=h2.2 rfl
 have:=h1.cell 0
 exact⟨t,p,by simpa [Addr.add]using this⟩
theorem Hz{G:Nat→Option D}(hv:Vars G):ri Tryz.prog G 28 Kd:=by
 refine sM Tryz.func28 (by kernel_rfl) (by kernel_rfl) (by unfold YB;omega) fun ds rs c args e hG ha=> ?_
 unfold Kd at e
 split at e
 ·rename_i n
  split at e
  ·rename_i hr
   simp only[xJ]at e
   subst e;simp only[VVs]at ha
   obtain⟨v,r,hargs,h1,h2,rfl⟩:=ha;have h3:=VV.inv (c:=c) (d:=.int .i64 n) ⟨h1,h2⟩ (by simp)
   simp only[VC,xC,and_true]at h3
   subst h3
   obtain rfl:args= #[.int .i64 n]:=by rw[←Array.toArray_toList (xs:=args),hargs]
   have hr':=hr;simp only[inR,xA,yD]at hr'
   refine(Tryz.decimal n hr'.1 hr'.2 c.w (ER hv c hG)).mono fun en w' he=> ?_
   refine⟨[.str (zd n)],[.string ⟨(Lib.itoa n).toArray⟩],he.1,rfl,fun c=> ?_,he.2⟩
   simp only[VVs]
   exact⟨_,[],rfl,by simp[VC,Value.cells,uU hr],rfl,rfl⟩
  ·cases e
 ·cases e
theorem HA{G:Nat→Option D}(hv:Vars G):ri Tryz.prog G 33 extNum:=by
 refine sM Tryz.func33 (by kernel_rfl) (by kernel_rfl) (by unfold YB;omega) fun ds rs c args e hG ha=> ?_
 unfold extNum at e
 split at e
 ·rename_i s
  split at e
  ·rename_i hr
   simp only[xJ]at e
   subst e;simp only[VVs]at ha
   obtain⟨v,r,hargs,h1,h2,rfl⟩:=ha;have h3:=VV.inv (c:=c) (d:=.str s) ⟨h1,h2⟩ (by simp)
   simp only[VC,xC,and_true]at h3
   obtain⟨b,rfl,rfl⟩:=h3
   obtain rfl:args= #[.string b]:=by rw[←Array.toArray_toList (xs:=args),hargs]
   have hsz:b.size≤281474976710656:=by
    have:=of_decide_eq_true hr
    rw[Lib.size_eq b];omega
   refine(Tryz.number b hsz c.w (ER hv c hG) (Kf hv.syn hG) (Kf hv.rng hG)).mono fun en w' he=> ?_
   refine⟨[.int .i64 (l9 b.data.toList).1,.bool (l9 b.data.toList).2],[.int .i64 (Tryz.num b.data.toList).1,.bool (Tryz.num b.data.toList).2],he.1,rfl,fun c=> ?_,he.2⟩
   simp only[VVs,NA]
   exact⟨_,_,rfl,by simp[VC,Value.cells],rfl,_,[],rfl,by simp[VC,Value.cells],rfl,rfl⟩
  ·cases e
 ·cases e
theorem ut{c:Cx}{bl off:Nat}:∀(l:List D) (ps:List (Int×Int)) (o sz:Nat),gD l=some ps→VE c l ⟨bl,off,none⟩ o sz→∀k p,ps[k]? =some p→c.w.cell? ⟨bl,off+o+k * 2,none⟩=some (.int .i64 p.1)∧c.w.cell? ⟨bl,off+o+k * 2+1,none⟩=some (.int .i64 p.2)
 | [],ps,o,sz,h,hv,k,p,hp=>by
  simp only[gD,xJ]at h
  subst h;simp at hp
 |x::l,ps,o,sz,h,hv,k,p,hp=>by
  unfold gD at h
  split at h
  ·rename_i he;cases he
  ·rename_i a b r he
   simp only[xC]at he
   obtain⟨rfl,rfl⟩:=he;simp only[xM]at h
   obtain⟨qs,h1,rfl⟩:=h;simp only[VE]at hv
   obtain⟨⟨cs,q1,q2,q3⟩,hv⟩:=hv;simp only[VC,VCs]at q3
   obtain⟨u1,r1,rfl,e1,u2,r2,rfl,e2,rfl⟩:=q3;simp only[xC,and_true]at e1 e2
   subst e1 e2;simp only[xZ,yN]at q1
   cases k with
   |zero=>
    simp only[yE,xJ]at hp
    subst hp;have c0:=q2 0 _ rfl;have c1:=q2 1 _ rfl;rw[aL]at c0 c1
    exact⟨by simpa using c0,by simpa [Nat.add_assoc]using c1⟩
   |succ k=>
    simp only[List.getElem?_cons_succ]at hp
    have:=ut l qs (o+sz) sz h1 hv k p hp
    rw[show off+o+(k+1) * 2=off+(o+sz)+k * 2 by omega]
    exact this
  ·cases h
theorem rE:∀(l:List D) (ps:List (Int×Int)),gD l=some ps→l.length=ps.length
 | [],ps,h=>by
  simp only[gD,xJ]at h
  subst h;rfl
 |x::l,ps,h=>by
  unfold gD at h
  split at h
  ·rename_i he;cases he
  ·rename_i a b r he
   simp only[xC]at he
   obtain⟨rfl,rfl⟩:=he;simp only[xM]at h
   obtain⟨qs,h1,rfl⟩:=h;simp[rE l qs h1]
  ·cases h
theorem ES{G:Nat→Option D}(hv:Vars G):ri Tryz.prog G 17 extLine:=by
 refine sM Tryz.func17 (by kernel_rfl) (by kernel_rfl) (by unfold YB;omega) fun ds rs c args e hG ha=> ?_
 unfold extLine at e
 split at e
 ·rename_i wd fl l
  simp only[xB]at e
  obtain⟨ps,hps,e⟩:=e
  split at e
  ·rename_i hr
   simp only[xJ]at e
   subst e;simp only[okF,xA,yD,List.all_eq_true]at hr
   obtain⟨⟨hr1,hr2⟩,hr3⟩:=hr;have hr0:∀p∈ps,inR p.1=true∧inR p.2=true:=hr1
   rw[Ke wd ps hr0]at hr3 ⊢
   simp only[VVs]at ha
   obtain⟨v1,r1,hargs,h1,h2,v2,r2,rfl,h3,h4,rfl⟩:=ha;have k1:=VV.inv (c:=c) (d:=.str wd) ⟨h1,h2⟩ (by simp)
   have k2:=VV.inv (c:=c) (d:=.sl fl l) ⟨h3,h4⟩ (by simp)
   simp only[VC,xC,and_true]at k1 k2
   obtain⟨b,rfl,rfl⟩:=k1;obtain⟨a,len,cap,rfl,rfl,hcap,had⟩:=k2
   obtain rfl:args= #[.string b,.slice a l.length cap]:=by rw[←Array.toArray_toList (xs:=args),hargs]
   have hlen:=rE l ps hps
   have fin:∀{tx:List UInt8} {en:Ending} {w':World},en=.returned (.string ⟨tx.toArray⟩)∧RowKit.Below c.w.heap.size c.w w'→∃(xs:List D) (vs:List Value),en=.returned (Cq vs)∧[T.d (.str tx)]=xs.map T.d∧(∀c,VVs c xs vs)∧RowKit.Below c.w.heap.size c.w w':=fun{tx} {en} {w'} he=>by
    refine⟨[.str tx],[.string ⟨tx.toArray⟩],he.1,rfl,fun c=> ?_,he.2⟩
    simp only[VVs]
    exact⟨_,[],rfl,by simp[VC,Value.cells],rfl,rfl⟩
   by_cases hl:l=[]
   ·subst hl
    simp only[gD,xJ]at hps
    subst hps
    have hw:b.size≤10000000:=by
     have:=Tryz.headT_le b.data.toList [] 0
     rw[Lib.size_eq b];simp only[Tryz.headT,List.take_nil,List.flatMap_nil,List.append_nil]at hr3
     omega
    refine(Tryz.line_none b a cap c.w hw).mono fun en w' he=>fin (by simpa [Tryz.headT]using he)
   ·obtain⟨ad,sz,rfl,hsp,_,_,hve⟩:=had hl
    obtain⟨bl,off,sp⟩:=ad;simp only at hsp;subst hsp;rw[hlen]
    refine(Tryz.line_some b ps bl off cap c.w (by omega) (by omega) (fun p hp=> ?_) (fun k p hp=> ?_) (ER hv c hG)).mono fun en w' he=>fin he
    ·have:=hr0 p hp
     simp only[inR,xA,yD]at this
     omega
    ·have:=ut l ps 0 sz hps hve k p hp
     simpa using this
  ·cases e
 ·cases e
end Go.Tr7
