/- A part of the proof: texts of mine, merged by a program (wip/dev/merge.py). -/
import Derived.Test.YteeabnledfmpjaaGreatDoorFn6
import Derived.KernelRfl
import Derived.Test.YteeabnledfmpjaaGreatDoorChecked
set_option linter.unusedSimpArgs false
set_option linter.unusedVariables false
namespace Go.Am
open Go
section
variable{P:Pz}{t:TypeId}{lo hi:U SV}{k:Wk}{b:Bool}{xs:J D}{r:aj}{p:dP}{o len:Nat}
@[go_sem] theorem atf{d:Nat}:eU none d=some d:=rfl
@[go_sem] theorem atg{q:IntKind}{n:Int}{d:Nat}:eU (some (.d (.int q n))) d=if 0<=n then some n.toNat else none:=rfl
@[go_sem] theorem akd:kh P t (.d (.sl b xs)) lo hi none k=(elemOf P t).bind λe=>(eU lo 0).bind λl=>(eU hi xs.length).bind λh=>if l<=h/\h<=xs.length/\(P.info? e).isSome/\headD (P.cellsOf e) (bw xs l (h - l))then some (.d (.sl b (bw xs l (h - l))))else none:=by
 unfold kh elemOf
 cases P.underlying t with
 |none=>rfl
 |some d=>cases d <;>rfl
@[go_sem] theorem aia:kh P t (.aG r p o len) lo hi none k=(elemOf P t).bind λe=>(eU lo 0).bind λl=>(eU hi len).bind λh=>if l<=h/\h<=len/\(P.info? e).isSome/\tn (P.cellsOf e) r p (o+l) (h - l) k then some (.aG r p (o+l) (h - l))else none:=by
 unfold kh elemOf
 cases P.underlying t with
 |none=>rfl
 |some d=>cases d <;>rfl
@[go_sem] theorem aib{s:J UInt8}:kh P t (.d (.str s)) lo hi none k=match P.underlying t with |some .string=>(eU lo 0).bind λl=>(eU hi s.length).bind λh=>if l<=h/\h<=s.length then some (.d (.str (bw s l (h - l))))else none |_=>none:=by
 unfold kh
 cases P.underlying t with
 |none=>rfl
 |some d=>cases d <;>rfl
@[go_sem] theorem aic{m:SV}:kh P t (.d (.sl b xs)) lo hi (some m) k=(elemOf P t).bind λe=>(eU lo 0).bind λl=>(eU hi xs.length).bind λh=>(eU (some m) 0).bind λm=>if l<=h/\h=m/\h<=xs.length/\hi.isSome/\(P.info? e).isSome/\headD (P.cellsOf e) (bw xs l (h - l))then some (.clip b (bw xs l (h - l)))else none:=by
 unfold kh elemOf
 cases P.underlying t with
 |none=>rfl
 |some d=>cases d <;>rfl
@[go_sem] theorem ake{n o m:Nat}:tn n r p o m k=(((k.get r).bind λc=>c.at p).any λnd=>match nd with | .own a=>IC n (bw a o m) |_=>false):=by
 unfold tn
 cases(k.get r).bind λc=>c.at p with
 |none=>rfl
 |some x=>cases x <;>rfl
theorem Xd{α:Type}{f:α->D}{l:J α}{n:Nat}(h:∀x,(f x).nc=n):IC n (tl f l)=true:=by
 cases l with
 |nil=>rfl
 |cons x l=>simp[tl,IC,T.nc,h]
theorem TY{α:Type}{f:α->D}{l:J α}{n:Nat}(h:∀x,(f x).nc=n):headD n (l.map f)=true:=by
 cases l with
 |nil=>rfl
 |cons x l=>simp[headD,h]
@[go_sem] theorem ath{l:J Int}{q:IntKind}:IC 1 (tl (eK q) l)=true:=Xd λ_=>rfl
@[go_sem] theorem ati{l:J Int}{q:IntKind}:headD 1 (l.map (eK q))=true:=TY λ_=>rfl
@[go_sem] theorem aid{α β:Type}{f:α->β}{l:J α}{n:Nat}:(l.map f).take n=(l.take n).map f:=by rw[F2]
@[go_sem] theorem aie{α β:Type}{f:α->β}{l:J α}{n:Nat}:(l.map f).drop n=(l.drop n).map f:=by rw[OW]
end
@[go_sem] theorem akf{s:St}{b:ByteArray}:s.val (.const (.string b))=.d (.str b.data.toList):=rfl
@[go_sem] theorem Xe{P:Pz}{c:Bool}{t:TypeId}{b:Bool}{x:D}{l:J D}:gO P c .eql t (.d (.sl b (x::l))) (.d .aJ)=match P.underlying t with |some (.slice _)=>some (.bool false) |_=>none:=by
 unfold gO eqV tY
 cases P.underlying t with
 |none=>rfl
 |some d=>cases d <;>rfl
section
variable{P:Pz}{c b:Bool}{t:TypeId}{o i off:Nat}{r:aj}{p:dP}{cs:J D}
@[go_sem] theorem aeW:gO P c .eql t (.d .cQ) (.d .cQ)=match P.underlying t with |some (.pointer _)=>some (.bool true) |_=>none:=by
 unfold gO eqV tY
 cases P.underlying t with
 |none=>rfl
 |some d=>cases d <;>rfl
@[go_sem] theorem aif:gO P c .neq t (.d (.ptr o)) (.d .cQ)=match P.underlying t with |some (.pointer _)=>some (.bool true) |_=>none:=by
 unfold gO eqV tY
 cases P.underlying t with
 |none=>rfl
 |some d=>cases d <;>rfl
end
section
variable{P:Pz}{c b:Bool}{t:TypeId}{α:Type}{e:α->D}{m:J α}
@[go_sem] theorem aeX(h:m≠[]):iz [.sl b (List.map e m)]=false:=by cases m;exact absurd rfl h;rfl
@[go_sem] theorem akg(h:m≠[]):gO P c .eql t (.d (.sl b (List.map e m))) (.d .aJ)=match P.underlying t with |some (.slice _)=>some (.bool false) |_=>none:=by cases m;exact absurd rfl h;exact Xe
end
section
variable{P:Pz}{hints:FuncId->Hint}{h:Hint}{ρ:Type}{B:Code}
def kLv(P:Pz)(own:Bool)(rs:J ResultVar)(n:Nat)(κ:J T×J Ob->U ρ):Ex×St->U ρ:=λr=>(pK P own rs n r).bind κ
@[congr] theorem aig{own:Bool}{rs:J ResultVar}{n:Nat}{κ:J T×J Ob->U ρ}{r a:Ex×St}(e:r=a):kLv P own rs n κ r=kLv P own rs n κ a:=by rw[e]
@[go_sem] theorem awx{own:Bool}{rs:J ResultVar}{n:Nat}{κ:J T×J Ob->U ρ}{s:St}:kLv P own rs n κ (.normal,s)=(pK P own rs n (.ret,s)).bind κ:=rfl
@[go_sem] theorem awy{own:Bool}{rs:J ResultVar}{n:Nat}{κ:J T×J Ob->U ρ}{s:St}{d:D}:kLv P own rs n κ (.cO d,s)=κ ([.d d,.agg []],lu n [.d d] s.H):=rfl
@[go_sem] theorem awz{own:Bool}{rs:J ResultVar}{n:Nat}{κ:J T×J Ob->U ρ}{s:St}:kLv P own rs n κ (.ret,s)=(pK P own rs n (.ret,s)).bind κ:=rfl
theorem Jr{f:FuncId}{fn:Func}{q:CL}{n:Nat}{rs:J ResultVar}{own:Bool}(c:f<1099511627776)(b:h.rcv=false)(a:h.ext=none)(hf:P.funcs[f]? =some fn)(hb:fn.body=some B)(d:qx h B=some q)(e:hints f=h)(hw:h.own=own)(hn:fn.params.size+fn.nfree=n)(hr:fn.results.toList=rs)
  (hk:ef fn.ntmps B=true) (g:(fn.name== "runtime.NumGoroutine")=false) (ds:J D) (H:J Ob) (κ:J T×J Ob->U ρ) (hl:ds.length=n) (hx:(decide (h.nilt≠0)&&iz ds)=false):
  cbK (eG P hints f ds H) κ=go P hints h B q (enter ds H) (kLv P own rs H.length κ):=by
 unfold cbK;subst e hw;rw[NB c b a hf hb (hl.trans hn.symm) hk g hr hx,uv d,xX];rfl
end
theorem K?{P:Pz}{hints:FuncId->Hint}{ρ:Type}{f:FuncId}{ds:J D}{H:J Ob}{κ:J T×J Ob->U ρ}{F:J D->U (J T)}(a:f<1099511627776)(hx:(hints f).ext=some F):cbK (eG P hints f ds H) κ=(F ds).bind λrs=>if fj rs=true then none else κ (rs,H):=by
 unfold cbK;rw[Tz (Nat.not_le.2 a) hx,xX];congr 1;funext rs
 split <;>rfl
abbrev KT(ρ:Type):=J T×J Ob->U ρ
abbrev XT(ρ:Type):=Ex×St->U ρ
abbrev HF(h:Hint)(n:Nat)(k l:J Nat:=[])(o r e v:J Nat:=[]):Prop:=h.nv=n/\h.aV=k/\h.lits=l/\h.cB=o/\h.ro=r/\h.emp=e/\h.lkn=v
abbrev TF(P:Pz)(t:TypeId)(a:U Bool)(e:U TypeId)(c b:Nat)(k:U Nat:=none)(i:Bool:=true):Prop:=oE P t=a/\Am.elemOf P t=e/\P.cellsOf t=c/\P.bytesOf t=b/\iX P t=k/\(P.info? t).isSome=i
theorem tf{P:Pz}{t:TypeId}{a:U Bool}{e:U TypeId}{c b:Nat}{k:U Nat}{i:Bool}(h:(oE P t,Am.elemOf P t,P.cellsOf t,P.bytesOf t,iX P t,(P.info? t).isSome)=(a,e,c,b,k,i):=by kernel_rfl):TF P t a e c b k i:=by simpa only[pJ,TF]using h
theorem aeY{P:Pz}{n:Nat}{es:J Nat}(h:((List.range n).all λf=>(Aw P f).isNone || es.contains f)=true){f:Nat}(b:f<n)(a:es.contains f=false):Aw P f=none:=by
 have:=List.all_eq_true.1 h f (List.mem_range.2 b)
 rw[a,Bool.or_false]at this
 simpa using this
def lv(l:J (J Nat))(id:Nat):J Nat:=l.getD id []
@[go_sem] def mkQ(h:Hint)(b:Code)(q:CL)(e:qx h b=some q:=by conv=>lhs;cbv):{q // qx h b=some q}:=⟨q,e⟩
@[go_sem] def mkR(h:Hint)(b:Code)(k:Nat)(q:CL)(e:Jo h b k=some q:=by conv=>lhs;cbv):{q // Jo h b k=some q}:=⟨q,e⟩
abbrev GE(ρ:Type)(P:Pz)(hints:FuncId->Hint)(f n:Nat)(own:Bool)(rs:J ResultVar)(h:Hint)(B:Code)(q:CL):Prop:=∀(ds:J D) (H:J Ob) (κ:KT ρ),ds.length=n->cbK (eG P hints f ds H) κ=go P hints h B q (enter ds H) (kLv P own rs H.length κ)
theorem akh{ρ:Type}{P:Pz}{hints:FuncId->Hint}{h:Hint}{B:Code}{f:FuncId}{fn:Func}{q:CL}{n:Nat}{rs:J ResultVar}{own:Bool}(hf:P.funcs[f]? =some fn)(hb:fn.body=some B)(c:qx h B=some q)(k:hints f=h)(hr:fn.results.toList=rs)
  (hc:(decide (f<1099511627776)&& !h.rcv&&h.ext.isNone&&(h.own==own)&&(h.nilt==0)&&(fn.params.size+fn.nfree==n)&&ef fn.ntmps B&& !(fn.name== "runtime.NumGoroutine"))=true):GE ρ P hints f n own rs h B q:=by
 simp only[xA,yD,q8,beq_iff_eq,yJ]at hc
 obtain⟨⟨⟨⟨⟨⟨⟨g,p⟩,e⟩,o⟩,d⟩,b⟩,i⟩,a⟩:=hc;intro j H l m;exact Jr g p e hf hb c k o b hr i a j H l m (by rw[d];rfl)
theorem geo{ρ:Type}{P:Pz}{hints:FuncId->Hint}{h:Hint}{B:Code}{f:FuncId}{fn:Func}{q:CL}{n:Nat}{rs:J ResultVar}{own:Bool}(hf:P.funcs[f]? =some fn)(b:qx h B=some q)(hb:fn.body=some B:=by kernel_rfl)(d:hints f=h:=by rfl)(c:fn.results.toList=rs:=by kernel_rfl)
  (a:(decide (f<1099511627776)&& !h.rcv&&h.ext.isNone&&(h.own==own)&&(h.nilt==0)&&(fn.params.size+fn.nfree==n)&&ef fn.ntmps B&& !(fn.name== "runtime.NumGoroutine"))=true:=by kernel_rfl):GE ρ P hints f n own rs h B q:=akh hf hb b d c a
theorem hfr{h:Hint}:HF h h.nv h.aV h.lits h.cB h.ro h.emp h.lkn:=⟨rfl,rfl,rfl,rfl,rfl,rfl,rfl⟩
theorem wk{ρ G:Type}{a:U ρ}(Φ:G->U ρ){g:G}(h:a=Φ g){q:Prop}(e:a=Φ g->q:=by intro h;(try simp only[go_sem]at h);exact h):q:=e h
theorem jI{ρ:Type}{k:Nat}{κ:Ex×St->U ρ}{r:U ρ}{n m:Nat}{P:Pz}{hints:FuncId->Hint}{h:Hint}{B:Code}(S:Nat->St)(e:n=m)(q:dG P hints h B k (S m) κ=r):dG P hints h B k (S n) κ=r:=by subst e;exact q
theorem NN{α:Type}{a b:α}(h:∀r,b=r->a=r):a=b:=h b rfl
def LX{A:Type}(p:Bool->A->Prop):Type:={Φ:A×A // p false Φ.1/\p true Φ.2}
def LX.f{A:Type}{p:Bool->A->Prop}(x:LX p)(β:Bool):A:=match β with |false=>x.1.1 |true=>x.1.2
theorem LX.ok{A:Type}{p:Bool->A->Prop}(x:LX p)(β:Bool):p β (x.f β):=by cases β;exact x.2.1;exact x.2.2
def mkL{A:Type}{p:Bool->A->Prop}(b a:A)
  (d:p false b:=by intro R g h c;intros;simp only[go_sem]at c;refine NN λr f=> ?_;simp -implicitDefEqProofs (maxSteps:=1000000) [go_sem,c,-List.map_append,-List.map_take,-List.map_drop,-List.map_set];exact f)
  (e:p true a:=by intro R g h c;intros;simp only[go_sem]at c;refine NN λr f=> ?_;simp -implicitDefEqProofs (maxSteps:=1000000) [go_sem,c,-List.map_append,-List.map_take,-List.map_drop,-List.map_set];exact f):LX p:=⟨(b,a),d,e⟩
theorem wl{p q:Prop}(h:p)(e:p->q:=by intro h;simp only[go_sem,mkL,LX.f,iY,H!,W9,TX]at h;exact h):q:=e h
def mkF{P:Pz}{hints:FuncId->Hint}{h:Hint}{B:Code}{q:CL}{f:FuncId}{n:Nat}{rs:J ResultVar}{own:Bool}{ρ G:Type}{p:Bool->(J T×J Ob->U ρ)->G->Prop}{ds:Bool->J D}
  (e:∀(ds:J D) (H:J Ob) (κ:J T×J Ob->U ρ),ds.length=n->cbK (eG P hints f ds H) κ=go P hints h B q (enter ds H) (kLv P own rs H.length κ)) (hl:∀β,(ds β).length=n) (Φ:G->U ρ)
  (b:∀β κ g,p β κ g->go P hints h B q (enter (ds β) []) (kLv P own rs 0 κ)=Φ g:=by intro β κ g a;(try simp only[go_sem]at a);refine NN λr c=> ?_;cases β;all_goals (simp -implicitDefEqProofs (maxSteps:=1000000) [go_sem,a,-List.map_append,-List.map_take,-List.map_drop,-List.map_set];exact c)):
  {Φ:G->U ρ // ∀β κ g,p β κ g->cbK (eG P hints f (ds β) []) κ=Φ g}:=⟨Φ,λβ κ g a=>(e _ _ _ (hl β)).trans (b β κ g a)⟩
end Go.Am
namespace Go.Etx
open Go Go.Am Go.Proofs
set_option maxRecDepth 20000
noncomputable abbrev P:Pz:=Tryz.prog
noncomputable def bo(f:Func):=f.body.getD .skip
abbrev hk(n:Nat)(l:J (J Nat))(k:J Nat:=[]):Hint:={nv:=n,aV:=k,live:=lv l}
def PX:Nat->U D:=λg=>Am.look [(0,.agg [.str [115,101,108,102],.str [110,111,110,101],.str [108,101,110],.str [97,116]])] g
def Xf:=hk 11 [[1,3,5],[1,3,5,18],[6],[1,3,5,7,8],[1,3,5,7,8,9,10],[6]] [12,19,27,37,44,49,54,62]
def Xg:=hk 4 [[1,2],[1,2,12],[4],[4]] [6,13,16,19,20,22]
def Xh:=hk 19 [[1,2,3],[1,2,3,33],[6],[1,2,3,7],[1,2,3,7,8,9],[1,3,7,8,9,10,11],[1,3,7,8,9,10,11,56],[6],[1,3,8,9,10,11,13],[1,3,8,9,10,11,13,14],[1,3,8,9,10,11,13,14,15],[1,3,8,9,10,11,13,14,15,75],[1,3,8,9,10,11,13,14,15],[1,3,8,9,10,11,13,14,15],[1,3,8,9,10,11,13,14,16],[1,3,8,9,10,11,13,14,16,89],[1,3,8,9,10,11,13,14,16],[1,3,8,9,10,11,13,14,16],[1,3,8,10,13,14,120],[6],[1,3,8,10,13,14,17],[1,3,8,10,13,14,17,124],[1,3,8,10,13,14,17],[1,3,8,10,13,14,17,18],[1,3,8,10,13,14,17,168],[6],[6]] [20,31,34,37,42,49,55,64,68,85,180]
def AZ:=hk 8 [[1,2],[1,2,21],[4],[1,2,5],[1,2,5,6],[1,2,5,6,27],[1,2,5,6],[1,2,5,6],[1,2,5,7],[1,2,7,40],[4],[4]] [9,19,22,25,35,39,52,77,81,86]
def Xi:=hk 12 [[1,2,3],[1,2,3,24],[6],[1,2,3,7,8],[7,8,9,10],[7,9,49],[6],[7,9,11],[7,9,11,53],[7,9,11],[7,9,11,65],[6],[6]] [13,25,30,37,64,66]
def DG:=hk 6 [[1],[1,33],[2],[1,3],[1,3,38],[1,3],[1,3,4],[1,3,4,55],[2],[1,3,4,5],[1,3,4,5,60],[1,3,4,5],[1,3,4,5,80],[2],[2]]
def Kn:Hint:={nv:=5,aV:=[5,7,9,11,14,16,26,38,57,59,62,64],lits:=[6,10,15,25,37,58,63],live:=lv [[],[1],[1,2,3],[1,2,3,4],[0]]}
def Ko:=hk 13 [[1,2,3,4],[1,2,3,4,10,11],[1,2,3,10,40],[8,9],[3,12],[3,12,48],[8,9],[8,9]] [38]
def Kq:=hk 9 [[1,2,3],[1,2,7,8],[6]]
def rR:=hk 6 [[0,1],[0,1,10],[4],[0,1,12,13],[0,1,12,13,14],[0,1,5,12,13],[0,1,12,13,24],[4],[0,1,12,13],[4]]
def Kr:=hk 7 [[1,2],[1,5,6],[1,5,14],[4],[4]]
def Ks:=hk 4 [[1,2],[4]] [6,10,12]
def uy:Hint:={nv:=7,aV:=[8],lits:=[34],live:=lv [[1],[1,3],[1,3,4],[1,3,4,5],[1,3,4,5,12],[1,3,4,5],[1,3,4,5,6],[1,3,4,5,6,27],[1,3,4,5,6],[1,3,4,5,6],[2]]}
def uz:=hk 10 [[1,2],[1,2,3],[1,2,3,4],[1,2,3,4,21],[1,2,3,4],[1,2,3,4],[1,2,3,29],[2],[1,2,5,7],[1,2,42],[2],[1,2,8],[1,2,8,51],[1,2,8],[1,2,8,9],[1,2,8,9,58],[2],[2]] [11,26,33,56]
def Kt:Hint:={nv:=2,lits:=[3,6],live:=lv [[0],[0,1],[0]]}
def Ku:=hk 8 [[1,2],[1,2,6,7],[4,5]] [18]
def Kv:=hk 4 [[0,1],[4]]
def Kw:=hk 7 [[1,2],[1,5,6],[30],[4],[4]] [9]
def Kx:=hk 6 [[0,1,4],[0,4,5],[4]]
def Ky:Hint:={nv:=10,aV:=[29],lits:=[37],live:=lv [[0,1,2],[0,1,2,7,8],[0,1,2,7,18],[6],[0,1,2,7,9],[0,1,2,7,9,30],[9],[6]],swp:=λid=>Am.look [(5,.node 2 5 (.leaf) (.node 6 2 (.node 7 2 (.leaf) (.leaf)) (.leaf)))] id}
def jJ:=hk 9 [[0,1],[0,1,5],[0,1,5,13,14],[0,1,5,13,14,15],[0,1,5,6,13,14],[0,1,5,6,13,14,20,21,22],[0,1,5,6,13,14,20,21,22,23],[0,1,5,6,7,8,13,14,20,21,22],[0,1,5,6,13,14,20,21,22],[0,1,5,6,13,14,20,21,22],[0,1,5,13,14],[1,5,38],[5],[4]] [41]
def uA:Hint:={nv:=6,aV:=[32],lits:=[23,40],live:=lv [[1],[1,3],[1,3,4],[1,3,4,10],[1,3,4],[1,3,4,19],[1,3,4],[1,3,4,5],[1,3,4,5,33],[1,3,4,5],[1,3,4,5],[2]]}
def Kz:=hk 2 [[1],[2]] [4]
def Co:=hk 9 [[2,3,4],[2,3,4,13],[6],[2,3,4,7],[2,3,4,7,18],[2,3,4,7],[2,3,4,7,8],[2,3,4,7,41],[6],[6]] [40,44]
def KA:=hk 2 [[1,2],[1,2,5],[2],[2]] [4,8]
def uB:=hk 11 [[1,2],[1,2,3,4],[1,2,3,4,18],[2],[1,2,5],[1,2,5,26],[1,2,5],[1,2,5,7],[1,2,5,7,41],[2],[1,2,5,54],[2],[1,2,8],[1,2,8,61],[1,2,8],[1,2,8,10],[1,2,8,10,76],[2],[1,2,8,89],[2],[2]] [14,37,47,54,72,82,89]
def Cp:=hk 10 [[1,2,4],[1,2,4,11],[4],[1,2,4,5],[1,2,4,5,6,7,8],[1,2,4,5,6,7,8,29],[4],[1,2,4,5,42],[4],[1,2,4,5,9],[1,2,4,5,9,49],[1,2,4,5,9],[1,2,4,5,9,60],[4],[4]] [23,24,39,42,53,60]
def pL:=hk 12 [[1],[1,5,6,7],[1,5,6,7,8],[1,5,6,7,8,16],[1,5,6,7,8],[1,5,6,7,8],[1,5,6,7,9],[1,5,6,7,9,33],[1,5,6,7,9],[1,5,6,7,9],[1,5,6,7,10],[1,5,6,7,10,51],[1,5,6,7,10],[1,5,6,7,10,11],[1,5,6,7,10,11],[1,5,6,7,10,11],[1,5,6,7,10],[2,3,4]] [27,60]
def KB:=hk 8 [[1,2],[1,2,9],[4],[1,2,5],[1,2,5,18],[4],[2,5,24],[4],[6,7],[6,7,41],[4],[44],[4],[4]] [17,21,24,37]
def KC:Hint:={nv:=2,own:=true,live:=lv [[0],[0,4],[2],[2]],nilt:=1}
def KD:Hint:={nv:=2,cB:=[16],aV:=[5,10,12,14],live:=lv [[1],[1,7],[2,3],[2,3]]}
def KE:=hk 6 [[1,2],[1,5],[4]]
def Cq:=hk 6 [[1],[7,8,9],[7,8,9,10],[5,7,8,9],[5,7,8,9,14],[2,3],[7,8,9],[2,3]] [14]
def rS:Hint:={nv:=16,cB:=[32],aV:=[30,56],live:=lv [[0,1,2],[0,1,8,9],[0,1,8,9,10],[1,8,10,11],[8,10,11,47],[6,7],[8,10,11,51],[8,10,11,12,13],[8,10,11,64],[6,7],[8,10,11,67,68,69],[8,10,11,67,68,69,70],[8,10,11,15,67,68,69],[8,10,11,67,68,69,76],[6,7],[8,10,11,67,68,69],[10],[6,7]],ro:=[56],cO:=[13],swp:=λid=>Am.look [(1,.node 2 5 (.leaf) (.node 2 6 (.leaf) (.leaf)))] id}
def KF:=hk 14 [[0,1,2,3],[0,1,2,10],[0,1,10,11],[1,11,12,13],[11],[8]] [18,22]
def Cr:Hint:={nv:=6,aV:=[8],lits:=[32,52,72,82,92],live:=lv [[1,2],[1,2,3],[2,3,4],[2,3,4,5],[2,3,4,5,12],[2,3,4,5],[2,3,4,5,28],[2,3,4,5],[2,3,4,5,48],[2,3,4,5],[2,3,4,5,68],[2,3,4,5],[2,3,4,5],[2,3,4,5],[2,3],[2]]}
def KG:=hk 6 [[2,3],[2,3,16],[4],[5],[5,30],[4],[4]]
def Cs:=hk 11 [[1,2,3],[1,3,7],[1,3,7,27],[6],[1,7,8,9],[1,7,8,9,10],[1,7,8,9,10,44],[1,7,8,9,10],[1,7,8,9,10,81],[6],[6]] [38]
def Ct:=hk 6 [[1,2],[1,2,5],[1,2,5,9],[1,2,5],[1,2,5,33],[4],[4]]
def KH:=hk 2 [[1],[2]] [4]
def uC:=hk 6 [[0],[0,4],[0,4,9],[0,4],[0,4,13],[2,3],[0,4,21],[2,3],[0,4,5],[0,4,5,25],[0,4,5],[0,4,5,38],[2,3],[0,4,53],[2,3],[2,3]] [20]
def uD:=hk 11 [[0,1,2],[0,1,2,8],[0,1,2,8,14],[0,1,2,8],[0,1,2,8,19],[6,7],[0,1,2,8,27],[6,7],[0,1,2,8,9],[0,1,2,8,9,31],[0,1,2,8,9],[0,1,2,8,9,44],[6,7],[0,1,2,8,10],[0,1,2,8,10,53],[6,7],[6,7]] [26,51]
def Cu:=hk 6 [[0,1],[0,1,5],[0,1,5,9],[0,1,5],[0,1,5,17],[4],[4]]
def kU:Hint:={nv:=13,lits:=[36,65,94,123,148],live:=lv [[1,2,3],[1,2,3,7],[1,2,3,7,8],[1,2,3,7,8,26],[1,2,3,7,8],[1,2,3,7,8],[1,2,3,7,9],[1,2,3,7,9,55],[1,2,3,7,9],[1,2,3,7,9],[1,2,3,7,10],[1,2,3,7,10,84],[1,2,3,7,10],[1,2,3,7,10],[1,2,3,7,11],[1,2,3,7,11,113],[1,2,3,7,11],[1,2,3,7,11],[1,2,3,7,12],[1,2,3,7,12,138],[1,2,3,7,12],[1,2,3,7,12],[6]]}
def uE:=hk 8 [[0,1],[0,1,6],[0,1,6,11],[0,1,6],[0,1,6,15],[4,5],[0,1,6,23],[4,5],[0,1,6,7],[0,1,6,7,27],[0,1,6,7],[0,1,6,7,40],[4,5],[0,1,6,57],[4,5],[0,1,6,94],[4,5],[4,5]] [22,55,91]
def mL:=hk 16 [[2,3],[2,3,19],[4,5,6],[2,3,30],[4,5,6],[2,3,38],[4,5,6],[2,3,42],[4,5,6],[2,3,7,8],[2,3,7,8,52],[4,5,6],[2,3,9],[2,3,9,59],[2,3,9],[2,3,9,68],[4,5,6],[2,3,9,10],[2,3,9,10,74],[2,3,9,10],[2,3,9,10,89],[4,5,6],[2,11],[2,11,12],[2,11,12,108],[2,11,12],[2,11,12,13,14],[2,11,12,13,14,123],[4,5,6],[2,11,12,15],[2,11,12,15,130],[2,11,12,15],[2,11,12,15,145],[4,5,6],[4,5,6]] [18,48,119]
def KI:=hk 6 [[1,2,4],[1,2,4,14],[4],[2,4,5],[4]]
def KJ:=hk 4 [[1,2],[1,2,7],[4],[4]] [11]
def KK:=hk 4 [[2,3],[2,3,7],[4],[4]] [12]
def KL:=hk 5 [[0],[0,27],[2],[0,3,4],[2]] [30]
def Cv:Hint:={nv:=12,aV:=[29,45,61,82],lits:=[96],live:=lv [[0,3],[0,3,14],[4,5],[0,3,17],[4,5],[0,3,6],[0,3,6,7],[0,3,6,7,21],[0,3,6,7],[0,3,6,7,8],[0,3,6,7,8,9],[0,3,6,7,8,9,33],[4,5],[0,3,6,7,8,9,36],[4,5],[0,3,6,7,8,9,10],[0,3,6,7,8,9,10,11],[0,3,6,7,8,9,10,11,38],[0,3,6,7,8,9,10,11],[0,3,6,7,8,9,10,11,49],[0,3,6,7,8,9,10,11],[0,3,6,7,8,9,10,11,65],[0,3,6,7,8,9,10,11],[0,3,6,7,8,9,10,11,86],[4,5],[0,3,6,7],[0,3,6,7,100],[4,5],[6,103],[4,5],[4,5]]}
def hint81:Hint:={nv:=4,cB:=[2],live:=lv [[1,2],[1,2],[1,2,3],[1,2,3],[1,2,3],[2],[2]],cO:=[3,4,5],rcv:=true}
def KM:=hk 5 [[1,2],[1,2,7],[2],[2,3],[2]] [6,11]
def KN:=hk 2 [[1],[2]]
def hint84:Hint:={nv:=8,lits:=[33],live:=lv [[1,11],[1,3,11],[1,3,4,5,11],[1,3,4,5,10,11],[1,3,4,5,6,11],[1,3,4,5,6,11,14],[1,3,4,5,6,11],[1,3,4,5,6,11],[1,3,4,5,11,25,26],[1,3,4,5,11,25,26,27],[1,3,4,5,7,11,25,26],[1,3,4,5,11,25,26],[1,3,4,5,11,25,26],[2]],self:=84}
def KO:Hint:={nv:=2,cB:=[13],aV:=[4,8,11],live:=lv [[1],[1,6],[2],[2]]}
def mM:=hk 8 [[0,1],[0,1,15],[4],[0,1,21,22],[0,1,21,22,23],[0,1,5,21,22],[0,1,21,22,29],[4],[0,1,21,22],[0,31,32,33],[0,31,32,33,34],[0,6,7,31,32,33],[0,31,32,33,59],[4],[0,31,32,33],[4]]
def KP:=hk 2 [[1],[2]]
def KQ:=hk 8 [[0,1],[6,7],[4,5]] [11,12]
def rT:=hk 6 [[0],[0,3],[3,6,7,8],[3,6,7,8,9],[3,5,6,7,8],[3,5,6,7,8,13],[3,5,6,7,8,13,14],[3,6,7,8],[3,5,6,7,8,13,22],[3,6,7,8],[3,5,6,7,8,13,30],[3,6,7,8],[3,5,6,7,8,13,38],[3,6,7,8],[3,5,6,7,8,46],[3,6,7,8],[3,6,7,8],[2]]
def KS:=hk 4 [[0,1],[4,5]]
def jK:Hint:={nv:=19,aV:=[34,45,60,113,118,157,172],lits:=[62,81,115,140,174],live:=lv [[1],[1,3],[1,3,4],[1,3,4,23],[1,3,4],[1,3,4,5,6],[1,3,4,5,6,7],[1,3,4,5,6,7,46],[1,3,4,5,6,7],[1,3,4,5,6,7],[1,3,8],[1,3,8,68],[1,3,8],[1,3,8,9],[1,3,8,9],[1,3,8,9,10,11],[1,3,8,9,10,11,91],[1,3,8,9,10,11],[1,3,8,9,10,11,12],[1,3,8,9,10,11,12,103],[1,3,8,9,10,11,12],[1,3,8,9,10,11,12],[1,3,13],[1,3,13,14],[1,3,13,14,122],[1,3,13,14],[1,3,13,14,15],[1,3,13,14,15],[1,3,13,14,15,16],[1,3,13,14,15,16,146],[1,3,13,14,15,16],[1,3,13,14,15,16,17,18],[1,3,13,14,15,16],[2]]}
def PY:=hk 2 [[0],[3],[3,4],[3,4],[3,4],[3,4],[3,4],[3,4],[3,4],[2],[3,12],[3,12],[3,12],[2],[3,16],[3,16],[3,16],[3,16],[3,16],[3,16],[3,16],[3,16],[16],[2],[2]]
def En:=hk 4 [[1,2],[1,2,8],[4,5],[4,5]] [16]
def Eo:=hk 4 [[1,2],[1,2,26],[4],[1,2,51],[4],[68],[4],[4]] [12,23,35,65]
def Ep:=hk 4 [[0,1],[0,1,30],[4],[4]]
def KU:=hk 4 [[0,1],[4]]
def wt:=hk 12 [[3,4,5],[3,4,5,15],[6,7],[3,5,37],[6,7],[3,5,41],[6,7],[3,5,45],[3,5,8],[3,5,8,51],[6,7],[3,5,9],[3,5,9,10],[3,5,9,10,57],[3,5,9,10],[3,5,9,10,11],[3,5,9,10,11,69],[6,7],[3,5,9,10],[6,7]] [14,49,67]
def iw:=hk 9 [[0,1],[0,1,6],[0,1,6,13],[0,1,6,35],[0,1,6],[4,5],[0,1,6,44],[0,1,6,54],[0,1,6],[4,5],[0,1,7],[0,1,7,8],[0,1,7,8,64],[0,1,7,8],[0,1,7,8,93],[4,5],[4,5]] [13,22,27,44,53,60]
def Er:=hk 11 [[2,3],[2,3,12],[2,3,12,13],[22],[4,5],[4,5],[2,3,12,23],[2,3,12,23],[2,3,6],[2,3,6,30],[2,3,6],[7,8],[7,42],[4,5],[7,45],[4,5],[4,5],[2,3,12,49],[3,61],[4,5],[4,5],[2,3,12,65],[10],[75],[4,5],[4,5],[2,3,76],[103],[4,5],[4,5],[2,114],[4,5],[4,5]] [38,48,71]
def Es:=hk 10 [[1,3,5],[1,3,5,12],[1,8,9],[1,8,23],[6,7],[8,33],[6,7],[6,7],[1,3,43],[6,7],[50],[6,7],[6,7]] [19,36]
def KV:=hk 6 [[0,1,2],[0,1,10],[6,7],[1,11],[13],[6,7],[1,11,14],[1,11,14],[6,7],[1,11,17],[1,11,17],[21],[6,7],[1,11,22],[1,22],[26],[6,7],[6,7]]
def A3:Hint:={nv:=4,live:=lv [[0,1],[0,1,6],[0,1,2,3],[0,1,2,13],[0,2],[]],cO:=[4]}
def hint110:Hint:={nv:=12,aV:=[15,20,37,53,65,81],live:=lv [[1,2],[1,2,4,5],[1,2],[1,2,22,23,24],[1,2,22,23,24,25],[1,2,7,22,23,24],[1,2,22,23,24],[1,2,22,23,24],[1,2,4,5],[1,2,4,5,41,42,43],[1,2,4,5,41,42,43,44],[1,2,4,5,8,9,41,42,43],[1,2,4,5,8,9,41,42,43,50],[1,2,4,5,8,9,41,42,43],[1,2,4,5,41,42,43],[1,2,4,5,41,42,43],[1,2,4,5],[1,4,5,69,70,71],[1,4,5,69,70,71,72],[1,4,5,10,11,69,70,71],[1,4,5,10,11,69,70,71,78],[1,4,5,10,11,69,70,71],[1,4,5,69,70,71],[1,4,5,69,70,71]],cO:=[2,13,14,21,22]}
def hint111:Hint:={nv:=18,aV:=[49,54,55,65,86,91,104],lits:=[18],live:=lv [[1,2],[1,2,4],[1,2,4,20],[1,2,4,20,22],[1,2,4,5,20],[1,2,4,20],[1,2,4,28,29,30],[1,2,4,28,29,30,31],[1,2,4,7,28,29,30],[1,2,4,28,29,30],[1,2,4,28,29,30],[1,2,4,39,40,41],[1,2,4,39,40,41,42],[1,2,4,8,9,39,40,41],[1,2,4,8,9,39,40,41,47],[1,2,4,8,9,39,40,41],[1,2,4,8,9,10,11,12,39,40,41],[1,2,4,8,9,39,40,41],[1,2,4,8,9,39,40,41],[1,2,4,8,39,40,41,72,73,74],[1,2,4,8,39,40,41,72,73,74,75],[1,2,4,8,13,14,39,40,41,72,73,74],[1,2,4,8,13,39,40,41,72,73,74,82],[1,2,4,8,39,40,41,72,73,74],[1,2,4,8,39,40,41,72,73,74],[1,2,4,39,40,41],[2,15,17],[2,100],[]],cO:=[15,17,18,23,28]}
def hint112:Hint:={nv:=9,aV:=[10,23,27,30,40,45,49],live:=lv [[1,2],[1,2,4],[1,4,12,13,14],[1,4,12,13,14,15],[1,4,5,6,12,13,14],[1,4,5,6,12,13,14,19],[1,4,5,6,12,13,14],[1,4,5,6,12,13,14,24],[1,4,5,6,12,13,14],[1,4,5,6,12,13,14],[1,4,5,7,8,12,13,14],[1,4,5,7,12,13,14],[1,4,5,12,13,14,47],[1,4,12,13,14],[1,4,12,13,14]],cO:=[6,8,9,11,13]}
def Et:=hk 2 [[1],[2]] [4]
def ep:Hint:={nv:=20,cB:=[4,5],aV:=[32,39,76,97,126],lits:=[40,49,83,92,127,136,44,87,131],live:=lv [[1,2],[1,2,4],[1,2,4,5],[1,2,4,5,6],[1,2,4,5,6,22,23,24],[1,2,4,5,6,22,23,24,25],[1,2,4,5,6,7,8,22,23,24],[1,2,4,5,6,7,8,9,22,23,24],[1,2,4,5,6,7,8,9,22,23,24,32,33],[1,2,4,5,6,7,8,9,22,23,24,32,33,34],[1,2,4,5,6,7,8,9,22,23,24,32,33],[1,2,4,5,6,7,8,9,22,23,24,32,33],[1,2,4,5,6,22,23,24],[1,2,4,5,6,22,23,24],[1,2,4,5,6,54,55,56],[1,2,4,5,6,54,55,56,57],[1,2,4,5,6,10,11,54,55,56],[1,2,4,5,6,10,11,12,54,55,56],[1,2,4,5,6,10,11,12,13,54,55,56],[1,2,4,5,6,10,12,13,54,55,56,78,79],[1,2,4,5,6,10,12,13,54,55,56,78,79,80],[1,2,4,5,6,10,12,13,54,55,56,78,79],[1,2,4,5,6,10,12,13,54,55,56,78,79],[1,2,4,5,6,54,55,56],[1,2,4,5,6,54,55,56],[1,2,4,5,6,97,98,99],[1,2,4,5,6,97,98,99,100],[1,2,4,5,6,14,15,97,98,99],[1,2,4,5,6,14,16,97,98,99],[1,2,4,5,6,14,16,17,97,98,99],[1,2,4,5,6,14,17,97,98,99,116,117,118],[1,2,4,5,6,14,17,97,98,99,116,117,118,119],[1,2,4,5,6,14,17,19,97,98,99,116,117,118],[1,2,4,5,6,14,17,97,98,99,116,117,118],[1,2,4,5,6,14,17,97,98,99,116,117,118],[1,2,4,5,6,97,98,99],[1,2,4,5,6,97,98,99],[2,3]],swp:=λid=>Am.look [(12,.node 0 5 (.node 1 5 (.leaf) (.leaf)) (.leaf)),(23,.node 0 5 (.node 1 5 (.leaf) (.leaf)) (.leaf)),(35,.node 0 5 (.node 1 5 (.leaf) (.leaf)) (.leaf)),(37,.node 1 2 (.leaf) (.leaf))] id}
def hint115:Hint:={nv:=2,live:=lv [[0],[2]],emp:=[4]}
def Eu:Hint:={nv:=2,cB:=[1],live:=lv [[1],[2]]}
def ni:=hk 13 [[0,1,2],[0,1,2,7],[0,1,2,7,8,9],[7,8,9,10],[8,9,10,70],[6],[8,9,10,72,73,74],[8,9,10,72,73,74,75],[8,9,10,11,12,72,73,74],[8,9,10,72,73,74,104],[6],[8,9,10,72,73,74],[6]] [34]
def Ev:Hint:={nv:=7,cB:=[3,8,6],live:=lv [[0,3],[0,3,6],[4,5]]}
def eA:Hint:={nv:=15,aV:=[57],lits:=[86],live:=lv [[0,2],[0,2,3],[0,2,3,22,23,24],[0,2,3,22,23,24,25],[0,2,3,4,5,22,23,24],[0,2,3,5,6,22,23,24],[0,2,3,22,23,24],[0,2,3,22,23,24],[0,2,3,71,72,73],[0,2,3,71,72,73,74],[0,2,3,8,71,72,73],[0,2,3,71,72,73],[0,2,3,71,72,73],[0,2,3,97,98,99],[0,2,3,97,98,99,100],[0,2,3,10,97,98,99],[0,2,3,97,98,99],[0,2,3,97,98,99],[0,2,3,118,119,120],[0,2,3,118,119,120,121],[0,2,3,11,12,118,119,120],[0,2,3,118,119,120],[0,2,3,118,119,120],[0,2,3,13],[0,2,3,13,14],[2,3,13],[2,3],[2]]}
def KW:=hk 2 [[0],[0,4],[2],[2]]
def Ew:=hk 9 [[0,1,5],[1,7,8],[1,7,8,16],[6],[20],[6],[6]] [12]
def Ey:=hk 14 [[2,3,4],[2,3,4,21],[6],[2,3,4,24],[6],[2,3,4,35],[3,4,7],[3,4,7,40],[3,4,7],[3,4,8,9],[3,4,8,9,52],[6],[6],[3,4,59],[6],[3,4,10,11],[3,4,10,68],[6],[3,4,10,71],[6],[10,12,13],[10,12,13,89],[6],[95],[6],[6]] [27,48,58,64,76,78,85,94]
def KX:=hk 2 [[0],[2]]
def KY:=hk 2 [[0],[2]]
def Ez:=hk 0 [[],[0]]
def EA:=hk 6 [[0,1,5,6],[0,1,6,35],[6,7],[6,7]] [23,33]
def KZ:=hk 2 [[0],[0,4],[2],[2]]
def EB:=hk 4 [[0,3,4],[0,3,4,25],[4,5],[4,5]] [23]
def EC:Hint:={nv:=2,cB:=[1],live:=lv [[1],[2,3]]}
def K0:Hint:={nv:=8,live:=lv [[0,1,2,3,9],[]],cO:=[1]}
def ED:Hint:={nv:=6,cB:=[3,4],live:=lv [[2,3,4],[6,7]]}
def hint140:Hint:={nv:=8,aV:=[13],live:=lv [[0,1,2,3,10],[0,1],[]],cO:=[1]}
def EE:Hint:={nv:=4,cB:=[2,3],live:=lv [[2,3],[4,5]]}
def hint142:Hint:={nv:=15,cB:=[12],aV:=[17,24,33,46],live:=lv [[2,3],[2,3,7],[2,3,7,19],[4,5,6],[2,3,8,9],[2,3,8,9,28],[4,5,6],[2,10],[2,10,35,36,37],[2,10,35,36,37,38],[2,10,11,12,35,36,37],[2,10,11,12,13,14,35,36,37],[2,10,11,12,13,14,35,36,37,50],[4,5,6],[2,10,11,35,36,37,60],[4,5,6],[2,10,35,36,37],[4,5,6]],emp:=[33]}
def hint143:Hint:={nv:=6,aV:=[30,32],live:=lv [[1,2,4],[1,2,4,5],[1,2,4,5,23],[4,5],[4]],emp:=[30]}
def lS:=hk 15 [[1],[1,5,6,7],[1,5,6,7,16,17,18],[1,5,6,7,16,17,18,19],[1,5,6,7,9,16,17,18],[1,5,6,7,16,17,18],[1,5,6,7,16,17,18],[1,5,6,7,30,31,32],[1,5,6,7,30,31,32,33],[1,5,6,7,11,30,31,32],[1,5,6,7,30,31,32],[1,5,6,7,30,31,32],[1,5,6,7,45,46,47],[1,5,6,7,45,46,47,48],[1,5,6,7,13,45,46,47],[1,5,6,7,13,14,45,46,47],[1,5,6,7,13,14,45,46,47],[1,5,6,7,13,14,45,46,47],[1,5,6,7,45,46,47],[1,5,6,7,45,46,47],[2,3,4]] [26,56]
def hint145:Hint:={nv:=5,aV:=[16],live:=lv [[0],[0,25],[2],[0,26,27],[0,26,27,28],[0,4,26,27],[0,26,27,32],[2],[0,26,27],[2]],gl:=PX}
def EF:Hint:={nv:=7,cB:=[3,8,6],live:=lv [[0,3],[0,3,6],[4,5]]}
def nj:Hint:={nv:=12,lits:=[25,31,42],live:=lv [[0,1,2,3,4],[0,1,2,3,4,9],[0,1,3,4,9,14,15,16],[0,1,3,4,9,14,15,16,17],[0,1,3,4,9,10,11,14,15,16],[0,1,3,4,9,10,11,14,15,16],[0,1,3,4,9,14,15,16],[0,1,3,4,9,14,15,16],[0,1,3,4,9,14,15,16],[8]]}
def EG:=hk 7 [[1,2],[1,2,9],[4],[5],[4]] [14]
def EH:=hk 7 [[1,2,4],[2,4,5,6],[4]] [10,17]
def hint150:Hint:={nv:=6,lits:=[10],live:=lv [[1,2,7],[2,6,7],[2,5,7],[2,7],[4]],self:=150}
def ja:=hk 6 [[0,1,7,8,9],[0,1,7,8,9,10],[0,1,3,4,7,8,9],[0,1,3,4,7,8,9,23],[0,1,3,7,8,9,26,27],[0,1,3,7,8,9,26,27,28],[0,1,3,5,7,8,9,26,27],[0,1,3,7,8,9,26,27,36],[0,1,3,7,8,9,26,27],[0,1,7,8,9]] [26]
def EI:=hk 6 [[2,3],[2,3,16],[4],[5],[5,30],[4],[4]]
def EJ:=hk 8 [[1,2],[1,2,10],[4,5],[6],[4,5]] [19]
def jx:=hk 13 [[0,1,2,3],[0,1,2,3,13],[8,9],[0,1,2,3,17],[8,9],[0,1,2,3],[0,2,3,25,26,27],[0,2,3,25,26,27,28],[0,2,3,11,25,26,27],[0,2,3,12,25,26,27],[0,2,3,12,25,26,27,37],[8,9],[0,2,3,25,26,27],[0,45],[8,9],[8,9]]
def EK:=hk 4 [[1,2,3],[4,5]]
def EL:=hk 12 [[0,4,5],[0,4,5,13],[0,4,5,13,14],[4,9],[4,23],[6,7],[6,7],[0,4,5,13,26],[0,4,5,13,26],[0,4,5,39],[6,7],[0,4,5,42],[6,7],[10,11],[10,66],[6,7],[6,7],[4,5,13,68],[6,7],[4,5,13,77],[6,7],[4,5,13,86],[6,7],[4,5,90],[4,5,103],[6,7],[6,7],[6,7]] [19,49,62,74,83,114]
def EN:=hk 8 [[1,2],[6,7],[6,24],[4,5],[4,5]]
def EO:=hk 8 [[2,3],[2,3,5,6],[2,3,5,18],[4],[2,3,5,21],[4],[2,3,5,7],[2,3,5,7,30],[4],[4]] [14,28,36,38]
def EP:=hk 10 [[0,1,5],[8,9],[8,18],[6,7],[8,21],[6,7],[6,7]] [14,24]
def EQ:=hk 4 [[0,3],[4]]
def o7:=hk 14 [[0,1,2,3],[0,1,2,3,10],[1,2,3,10,15,16],[1,2,3,10,15,16,17],[1,2,3,10,11,15,16],[1,2,3,10,11,12,15,16],[1,2,3,10,11,12,15,16],[1,2,3,10,11,12,13,15,16],[1,2,3,10,11,12,15,16,25],[1,2,3,10,11,12,13,15,16],[1,2,3,10,11,12,15,16,29],[1,2,3,10,11,12,13,15,16],[1,2,3,10,11,12,15,16,33],[1,2,3,10,11,12,13,15,16],[1,2,3,10,11,12,13,15,16,38],[8,9],[1,2,3,10,15,16],[1,2,3,10,15,16],[8,9]] [31]
def ET:=hk 3 [[0,1],[3]]
def EU:=hk 3 [[0,1],[17],[3],[3]]
def EV:=hk 3 [[0,1],[3]]
def EW:=hk 8 [[0,1,2],[2,5],[2,5,23],[4],[5,6,7],[50],[4],[4]] [15,21,27,36]
def EY:=hk 7 [[0,1],[0,6],[4]] [10]
def K1:=hk 4 [[0,1],[4]]
def EZ:=hk 3 [[0,1],[3]]
def E0:=hk 6 [[0,1,2],[2,5],[5,14],[4],[35],[4],[4]] [13,32]
def E1:=hk 4 [[2,3],[2,3,5],[4],[2,10],[4],[2,22],[4],[31],[4],[4]] [8]
def o8:Hint:={nv:=10,cB:=[9],aV:=[15],live:=lv [[2,3],[2,3,6,7],[2,3,6,7,19],[4,5],[3,23,24,25],[3,23,24,25,26],[3,8,9,23,24,25],[3,8,9,23,24,25,32],[4,5],[3,8,23,24,25,37],[4,5],[3,23,24,25],[4,5]]}
def E2:=hk 4 [[2,3,4],[3,4],[4]]
def pb:=hk 14 [[3,4,5],[3,5,8],[3,5,8,18],[6,7],[3,5,23],[3,5,9],[3,5,9,29],[6,7],[3,5,10],[5,10,32,33,34],[5,10,32,33,34,35],[5,10,11,12,32,33,34],[5,10,11,12,32,33,34,43],[6,7],[5,10,11,12,32,33,34],[5,10,11,13,32,33,34],[5,10,11,13,32,33,34,55],[6,7],[5,10,32,33,34],[6,7]] [16,27,40,49,53]
def E3:=hk 4 [[0,1],[4]]
def E4:=hk 3 [[1,2],[3]]
def pc:=hk 6 [[1,2],[1,2],[1,2],[1,2,3],[1,2,3,23,24,25],[1,2,3,23,24,25,26],[1,2,3,5,23,24,25],[1,2,3,5,23,24,25],[1,2,3,5,23,24,25],[1,2,3,23,24,25],[1,2,3,23,24,25],[1,2],[2]] [8,11,14,20,31,35]
def K2:=hk 2 [[0],[2]]
def nk:=hk 7 [[0,1],[0,1,8],[0,1,8,9,10],[0,1,5,6,8],[0,1,5,8,16],[4],[4]]
def E5:=hk 2 [[0],[2]] [4,7]
def E6:=hk 4 [[1,2,3],[4,5]]
def E7:=hk 14 [[0,4,5],[0,4,5,8],[0,4,5,8,17],[6,7],[0,4,5,8,17,23],[10],[32],[6,7],[6,7],[0,4,5,8,17,33],[0,4,5,8],[0,4,5,8,17,37],[0,4,5,8,37],[0,4,11,12,13],[0,4,11,12,49],[6,7],[4,11,12,52],[11,52],[6,7],[6,7]] [28,20,45]
def nq:=hk 8 [[1,2],[1,2,8,9,10],[1,2,8,9,10,11],[1,2,7,8,9,10],[1,2,8,9,10,29],[4,5],[1,2,8,9,10],[4,5]]
def E8:=hk 4 [[0,1],[0,1,31],[4,5],[4,5]]
def K3:=hk 2 [[0],[0,4],[2],[2]]
def E9:=hk 0 [[],[0]]
def Fa:Hint:={nv:=14,lits:=[84],live:=lv [[0,2,3,5],[0,2,3,5,9],[0,2,3,5,9,21],[8],[0,2,3,5,9,24],[8],[0,2,3,5,9],[0,2,3,5,9],[0,2,3,5,9,12,13],[0,2,3,5,9,12,42],[0,9,10,11],[0,9,10,11],[0,9,10,11,68],[8],[0],[93],[8],[8]],lkn:=[58,64]}
def Fb:=hk 4 [[0,1],[4,5]]
def Fc:=hk 4 [[0,1],[0,1,13],[4,5],[4,5]]
def Fe:=hk 2 [[0],[2]]
def Ff:=hk 4 [[0,1],[4]]
def Fg:=hk 3 [[1,2],[3]]
def Fh:Hint:={nv:=6,cB:=[3],aV:=[10],live:=lv [[2,3],[2,5],[2,5,7],[4],[2,12],[4],[23],[4],[4]]}
def Fi:=hk 9 [[0,1,5],[1,7,8],[1,7,8,15],[6],[19],[6],[6]] [12]
def Fj:Hint:={nv:=13,cB:=[2,3],aV:=[33,57,68,81],live:=lv [[2,3],[2,3,5],[2,3,5,6],[2,3,5,6,17],[2,3,5,6,17,18],[2,3,5,6,17,20],[2,3,5,6,17,20],[2,3,5,17,23],[2,3,5,23],[2,3,5,6],[2,3,5,7,8,9],[2,3,5,7,8,37],[4],[2,3,5,7,8,40],[4],[2,3,5,7,8,50],[5,8,10],[5,8,10,59],[4],[4],[2,3,5,11,12],[2,3,5,11,71],[4],[2,3,5,11,74],[4],[4],[4]]}
def pd:=hk 6 [[0,1],[0,1,7,8],[0,1,7,8,9],[0,1,5,7,8],[0,1,5,7,8,16],[4],[0,1,7,8],[4]]
def Fk:Hint:={nv:=2,own:=true,live:=lv [[0],[0,4],[2],[2]],nilt:=1}
def Fl:Hint:={nv:=2,own:=true,live:=lv [[0],[0,4],[2],[2]],nilt:=1}
def Fm:Hint:={nv:=2,own:=true,live:=lv [[0],[0,4],[2],[2]],nilt:=1}
def j9:=hk 9 [[0],[0,3],[3,9,10,11],[3,9,10,11,12],[3,5,9,10,11],[3,5,9,10,11],[3,5,6,9,10,11],[3,5,6,9,10,11,20,21,22],[3,5,6,9,10,11,20,21,22,23],[3,5,6,8,9,10,11,20,21,22],[3,5,6,8,9,10,11,20,21,22],[3,5,6,9,10,11,20,21,22],[3,5,6,9,10,11,20,21,22],[3,5,9,10,11],[3,9,10,11],[3,9,10,11],[2]] [17,28,31]
def K4:=hk 2 [[0],[2]]
def Fo:=hk 8 [[2,3],[2,3,9],[2,3,9,10],[3,22],[4,5],[2,3,9,26],[2,3,38],[7],[51],[4,5],[2,3,9,52],[79],[4,5],[2,3,80],[2,92],[4,5],[4,5]] [48]
def Fq:=hk 11 [[0,1,5],[0,1,5,18],[6,7,8],[0,1,5,6,9],[6,7,9,10],[6,7,8]] [26,36]
def Fs:=hk 4 [[0],[4,5]] [8]
def K5:=hk 2 [[0],[3],[2],[2]]
def Ft:=hk 4 [[0],[4,5]] [7]
def Fu:=hk 4 [[0,1],[4,5]]
def Fv:=hk 4 [[0,1],[4,5]]
def Fw:Hint:={nv:=4,cB:=[3],live:=lv [[0,3,4],[4]]}
def K6:=hk 4 [[0,1],[4]]
def K7:=hk 4 [[0,1],[4]]
def K8:=hk 4 [[0,1],[4]]
def K9:=hk 4 [[0,1],[4]]
def Lb:=hk 4 [[0,1],[4]]
def Lc:=hk 4 [[0,1],[4]]
def Fx:=hk 7 [[0,1],[0,1,7],[4],[0,1,10],[4],[5,6],[5,23],[4],[4]]
def Ld:=hk 4 [[0,1],[4]]
def Fy:Hint:={nv:=9,aV:=[12,21],lits:=[11,20],live:=lv [[1,2,3],[1,2,3,13],[6,7],[8],[8,22],[6,7],[6,7]]}
def pf:=hk 6 [[0,1],[0,1,7,8],[0,1,7,8,9],[0,1,5,7,8],[0,1,5,7,8,16],[4],[0,1,7,8],[4]]
def Fz:=hk 3 [[0,1],[3]]
def FA:=hk 4 [[0,1,2],[4]] [9]
def FB:=hk 9 [[0,1,5,6],[0,1,5,6,16],[6,7,8],[0,1,6,7,8],[6,7,8]] [30]
def FC:=hk 4 [[0,3],[0,3,14],[4,5],[4,5]] [22]
def FD:=hk 10 [[1,3,5],[1,7,8,9],[1,7,8,20],[6],[23],[6],[6]] [16]
def FE:Hint:={nv:=2,own:=true,live:=lv [[0],[0,4],[2],[2]],nilt:=1}
def FF:=hk 4 [[0,3],[0,3,6],[4,5],[0,9],[4,5],[4,5]]
def Le:=hk 4 [[0,1],[4]]
def Lf:=hk 4 [[0,1],[4]]
def FG:=hk 5 [[0,1,2],[5,6]] [11]
def wu:=hk 5 [[0],[5,6,7],[5,6,7,8],[4,5,6,7],[5,6,7,16],[2],[5,6,7],[2]]
def FH:=hk 9 [[0,1,5],[0,1,8],[0,27],[6,7],[0,29],[6,7],[6,7]]
def FI:Hint:={nv:=7,aV:=[12],live:=lv [[1,2],[1,2,5,6],[4]],ro:=[12]}
def FJ:=hk 6 [[0,1,2],[0,1,2,34],[6],[],[6]]
def FK:Hint:={nv:=9,aV:=[58,14,22],live:=lv [[1,2],[1,2,5,6],[1,2,5,6,7,8],[1,2,5,7,60],[4],[4]],ro:=[14,22]}
def FL:Hint:={nv:=7,aV:=[12],live:=lv [[1,2],[1,2,5,6],[4]],ro:=[12]}
def FM:Hint:={nv:=14,aV:=[51,86,19],live:=lv [[1,2],[1,2,5,6],[1,2,5,6,7],[1,2,5,6,8,9],[1,2,5,65],[4],[1,5,10,11],[1,10,11,12,13],[13],[4]],ro:=[19]}
def FN:Hint:={nv:=4,aV:=[7,21,25],lits:=[23],live:=lv [[0,1],[0,1,17],[4,5],[4,5]]}
def FO:=hk 2 [[0],[0,15],[2],[2]] [13]
def FP:=hk 6 [[0,1],[1,5],[1,5],[5],[4]]
def FQ:Hint:={nv:=4,aV:=[5],own:=true,live:=lv [[0],[0,6],[2],[0,3],[3],[2]]}
def Lg:=hk 6 [[0,1,2],[6]]
def FS:=hk 4 [[0,1],[4]]
def Lh:=hk 2 [[0],[2]]
def rU:=hk 6 [[0,1],[0,1,7,8],[0,1,7,8,9],[0,1,5,7,8],[0,1,5,7,8,16],[4],[0,1,7,8],[4]]
def FT:=hk 10 [[1,2],[1,2,5,6],[1,2,5,6,7,8,9],[1,2,8,9],[4]] [29]
def FU:=hk 6 [[0],[0,5],[0,5,10],[2,3,4],[2,3,4]] [7,15]
def hints:FuncId->Hint:=λf=>match f with
 |3=>Xf
 |4=>Xg
 |5=>Xh
 |6=>AZ
 |7=>Xi
 |9=>DG
 |10=>Kn
 |11=>Ko
 |13=>Kq
 |15=>rR
 |17=>Kr
 |23=>Ks
 |24=>uy
 |25=>uz
 |28=>Kt
 |29=>Ku
 |30=>Kv
 |31=>Kw
 |32=>Kx
 |33=>Ky
 |41=>jJ
 |43=>uA
 |44=>Kz
 |45=>Co
 |46=>KA
 |47=>uB
 |48=>Cp
 |49=>pL
 |50=>KB
 |53=>KC
 |55=>KD
 |56=>KE
 |57=>Cq
 |58=>rS
 |59=>KF
 |61=>Cr
 |66=>KG
 |67=>Cs
 |68=>Ct
 |69=>KH
 |70=>uC
 |71=>uD
 |72=>Cu
 |73=>kU
 |74=>uE
 |75=>mL
 |76=>KI
 |77=>KJ
 |78=>KK
 |79=>KL
 |80=>Cv
 |81=>hint81
 |82=>KM
 |83=>KN
 |84=>hint84
 |85=>KO
 |86=>mM
 |87=>KP
 |88=>KQ
 |89=>rT
 |90=>KS
 |91=>jK
 |92=>PY
 |100=>En
 |101=>Eo
 |102=>Ep
 |103=>KU
 |104=>wt
 |105=>iw
 |106=>Er
 |107=>Es
 |108=>KV
 |109=>A3
 |110=>hint110
 |111=>hint111
 |112=>hint112
 |113=>Et
 |114=>ep
 |115=>hint115
 |116=>Eu
 |117=>ni
 |118=>Ev
 |119=>eA
 |120=>KW
 |129=>Ew
 |130=>Ey
 |131=>KX
 |132=>KY
 |133=>Ez
 |134=>EA
 |135=>KZ
 |136=>EB
 |137=>EC
 |138=>K0
 |139=>ED
 |140=>hint140
 |141=>EE
 |142=>hint142
 |143=>hint143
 |144=>lS
 |145=>hint145
 |146=>EF
 |147=>nj
 |148=>EG
 |149=>EH
 |150=>hint150
 |151=>ja
 |152=>EI
 |153=>EJ
 |154=>jx
 |155=>EK
 |156=>EL
 |157=>EN
 |159=>EO
 |160=>EP
 |161=>EQ
 |162=>o7
 |163=>ET
 |164=>EU
 |165=>EV
 |166=>EW
 |167=>EY
 |168=>K1
 |169=>EZ
 |170=>E0
 |171=>E1
 |172=>o8
 |173=>E2
 |174=>pb
 |175=>E3
 |176=>E4
 |177=>pc
 |178=>K2
 |179=>nk
 |180=>E5
 |181=>E6
 |182=>E7
 |183=>nq
 |184=>E8
 |185=>K3
 |186=>E9
 |187=>Fa
 |188=>Fb
 |189=>Fc
 |190=>Fe
 |192=>Ff
 |193=>Fg
 |194=>Fh
 |195=>Fi
 |196=>Fj
 |197=>pd
 |198=>Fk
 |199=>Fl
 |200=>Fm
 |201=>j9
 |202=>K4
 |203=>Fo
 |204=>Fq
 |205=>Fs
 |206=>K5
 |207=>Ft
 |208=>Fu
 |209=>Fv
 |210=>Fw
 |211=>K6
 |212=>K7
 |213=>K8
 |214=>K9
 |215=>Lb
 |216=>Lc
 |217=>Fx
 |218=>Ld
 |219=>Fy
 |220=>pf
 |221=>Fz
 |222=>FA
 |223=>FB
 |224=>FC
 |225=>FD
 |226=>FE
 |227=>FF
 |228=>Le
 |229=>Lf
 |230=>FG
 |231=>wu
 |232=>FH
 |250=>FI
 |251=>FJ
 |252=>FK
 |253=>FL
 |254=>FM
 |255=>FN
 |256=>FO
 |257=>FP
 |258=>FQ
 |259=>Lg
 |260=>FS
 |261=>Lh
 |262=>rU
 |263=>FT
 |264=>FU
 |_=>{nv:=0,cB:=[],aV:=[],lits:=[],own:=false,live:=λ_=>[]}
abbrev gE(ρ:Type):=GE ρ P hints
noncomputable abbrev call:dF:=eG P hints
theorem h3:HF Xf 11 [12,19,27,37,44,49,54,62]:=hfr
theorem h4:HF Xg 4 [6,13,16,19,20,22]:=hfr
theorem h5:HF Xh 19 [20,31,34,37,42,49,55,64,68,85,180]:=hfr
theorem h6:HF AZ 8 [9,19,22,25,35,39,52,77,81,86]:=hfr
theorem h7:HF Xi 12 [13,25,30,37,64,66]:=hfr
theorem h9:HF DG 6:=hfr
theorem h10:HF Kn 5 [5,7,9,11,14,16,26,38,57,59,62,64] [6,10,15,25,37,58,63]:=hfr
theorem h11:HF Ko 13 [38]:=hfr
theorem h13:HF Kq 9:=hfr
theorem h15:HF rR 6:=hfr
theorem h17:HF Kr 7:=hfr
theorem h23:HF Ks 4 [6,10,12]:=hfr
theorem h24:HF uy 7 [8] [34]:=hfr
theorem h25:HF uz 10 [11,26,33,56]:=hfr
theorem h28:HF Kt 2 [] [3,6]:=hfr
theorem h29:HF Ku 8 [18]:=hfr
theorem h30:HF Kv 4:=hfr
theorem h31:HF Kw 7 [9]:=hfr
theorem h32:HF Kx 6:=hfr
theorem h33:HF Ky 10 [29] [37]:=hfr
theorem h41:HF jJ 9 [41]:=hfr
theorem h43:HF uA 6 [32] [23,40]:=hfr
theorem h44:HF Kz 2 [4]:=hfr
theorem h45:HF Co 9 [40,44]:=hfr
theorem h46:HF KA 2 [4,8]:=hfr
theorem h47:HF uB 11 [14,37,47,54,72,82,89]:=hfr
theorem h48:HF Cp 10 [23,24,39,42,53,60]:=hfr
theorem h49:HF pL 12 [27,60]:=hfr
theorem h50:HF KB 8 [17,21,24,37]:=hfr
theorem h53:HF KC 2:=hfr
theorem h55:HF KD 2 [5,10,12,14] [] [16]:=hfr
theorem h56:HF KE 6:=hfr
theorem h57:HF Cq 6 [14]:=hfr
theorem h58:HF rS 16 [30,56] [] [32] [56]:=hfr
theorem h59:HF KF 14 [18,22]:=hfr
theorem h61:HF Cr 6 [8] [32,52,72,82,92]:=hfr
theorem h66:HF KG 6:=hfr
theorem h67:HF Cs 11 [38]:=hfr
theorem h68:HF Ct 6:=hfr
theorem h69:HF KH 2 [4]:=hfr
theorem h70:HF uC 6 [20]:=hfr
theorem h71:HF uD 11 [26,51]:=hfr
theorem h72:HF Cu 6:=hfr
theorem h73:HF kU 13 [] [36,65,94,123,148]:=hfr
theorem h74:HF uE 8 [22,55,91]:=hfr
theorem h75:HF mL 16 [18,48,119]:=hfr
theorem h76:HF KI 6:=hfr
theorem h77:HF KJ 4 [11]:=hfr
theorem h78:HF KK 4 [12]:=hfr
theorem h79:HF KL 5 [30]:=hfr
theorem h80:HF Cv 12 [29,45,61,82] [96]:=hfr
theorem h81:HF hint81 4 [] [] [2]:=hfr
theorem h82:HF KM 5 [6,11]:=hfr
theorem h83:HF KN 2:=hfr
theorem h84:HF hint84 8 [] [33]:=hfr
theorem h85:HF KO 2 [4,8,11] [] [13]:=hfr
theorem h86:HF mM 8:=hfr
theorem h87:HF KP 2:=hfr
theorem h88:HF KQ 8 [11,12]:=hfr
theorem h89:HF rT 6:=hfr
theorem h90:HF KS 4:=hfr
theorem h91:HF jK 19 [34,45,60,113,118,157,172] [62,81,115,140,174]:=hfr
theorem axH:HF En 4 [16]:=hfr
theorem axI:HF Eo 4 [12,23,35,65]:=hfr
theorem axJ:HF Ep 4:=hfr
theorem axK:HF wt 12 [14,49,67]:=hfr
theorem axL:HF iw 9 [13,22,27,44,53,60]:=hfr
theorem axM:HF Er 11 [38,48,71]:=hfr
theorem axN:HF Es 10 [19,36]:=hfr
theorem axO:HF A3 4:=hfr
theorem axP:HF hint110 12 [15,20,37,53,65,81]:=hfr
theorem axQ:HF hint111 18 [49,54,55,65,86,91,104] [18]:=hfr
theorem axR:HF hint112 9 [10,23,27,30,40,45,49]:=hfr
theorem axS:HF Et 2 [4]:=hfr
theorem axT:HF ep 20 [32,39,76,97,126] [40,49,83,92,127,136,44,87,131] [4,5]:=hfr
theorem axU:HF hint115 2 [] [] [] [] [4]:=hfr
theorem axV:HF Eu 2 [] [] [1]:=hfr
theorem axW:HF ni 13 [34]:=hfr
theorem axX:HF Ev 7 [] [] [3,8,6]:=hfr
theorem axY:HF eA 15 [57] [86]:=hfr
theorem axZ:HF Ew 9 [12]:=hfr
theorem ax0:HF Ey 14 [27,48,58,64,76,78,85,94]:=hfr
theorem ax1:HF Ez 0:=hfr
theorem ax2:HF EA 6 [23,33]:=hfr
theorem ax3:HF EB 4 [23]:=hfr
theorem ax4:HF EC 2 [] [] [1]:=hfr
theorem ax5:HF ED 6 [] [] [3,4]:=hfr
theorem ax6:HF hint140 8 [13]:=hfr
theorem ax7:HF EE 4 [] [] [2,3]:=hfr
theorem ax8:HF hint142 15 [17,24,33,46] [] [12] [] [33]:=hfr
theorem ax9:HF hint143 6 [30,32] [] [] [] [30]:=hfr
theorem aya:HF lS 15 [26,56]:=hfr
theorem ayb:HF hint145 5 [16]:=hfr
theorem ayc:HF EF 7 [] [] [3,8,6]:=hfr
theorem ayd:HF nj 12 [] [25,31,42]:=hfr
theorem aye:HF EG 7 [14]:=hfr
theorem ayf:HF EH 7 [10,17]:=hfr
theorem ayg:HF hint150 6 [] [10]:=hfr
theorem ayh:HF ja 6 [26]:=hfr
theorem ayi:HF EI 6:=hfr
theorem ayj:HF EJ 8 [19]:=hfr
theorem ayk:HF jx 13:=hfr
theorem ayl:HF EK 4:=hfr
theorem aym:HF EL 12 [19,49,62,74,83,114]:=hfr
theorem ayn:HF EN 8:=hfr
theorem ayo:HF EO 8 [14,28,36,38]:=hfr
theorem ayp:HF EP 10 [14,24]:=hfr
theorem ayq:HF EQ 4:=hfr
theorem ayr:HF o7 14 [31]:=hfr
theorem ays:HF ET 3:=hfr
theorem ayt:HF EU 3:=hfr
theorem ayu:HF EV 3:=hfr
theorem ayv:HF EW 8 [15,21,27,36]:=hfr
theorem ayw:HF EY 7 [10]:=hfr
theorem ayx:HF EZ 3:=hfr
theorem ayy:HF E0 6 [13,32]:=hfr
theorem ayz:HF E1 4 [8]:=hfr
theorem ayA:HF o8 10 [15] [] [9]:=hfr
theorem ayB:HF E2 4:=hfr
theorem ayC:HF pb 14 [16,27,40,49,53]:=hfr
theorem ayD:HF E3 4:=hfr
theorem ayE:HF E4 3:=hfr
theorem ayF:HF pc 6 [8,11,14,20,31,35]:=hfr
theorem ayG:HF nk 7:=hfr
theorem ayH:HF E5 2 [4,7]:=hfr
theorem ayI:HF E6 4:=hfr
theorem ayJ:HF E7 14 [28,20,45]:=hfr
theorem ayK:HF nq 8:=hfr
theorem ayL:HF E8 4:=hfr
theorem ayM:HF E9 0:=hfr
theorem K!:HF Fa 14 [] [84] [] [] [] [58,64]:=hfr
theorem ayN:HF Fb 4:=hfr
theorem ayO:HF Fc 4:=hfr
theorem ayP:HF Fe 2:=hfr
theorem ayQ:HF Ff 4:=hfr
theorem ayR:HF Fg 3:=hfr
theorem ayS:HF Fh 6 [10] [] [3]:=hfr
theorem ayT:HF Fi 9 [12]:=hfr
theorem ayU:HF Fj 13 [33,57,68,81] [] [2,3]:=hfr
theorem ayV:HF pd 6:=hfr
theorem ayW:HF Fk 2:=hfr
theorem ayX:HF Fl 2:=hfr
theorem ayY:HF Fm 2:=hfr
theorem ayZ:HF j9 9 [17,28,31]:=hfr
theorem ay0:HF Fo 8 [48]:=hfr
theorem ay1:HF Fq 11 [26,36]:=hfr
theorem ay2:HF Fs 4 [8]:=hfr
theorem ay3:HF Ft 4 [7]:=hfr
theorem ay4:HF Fu 4:=hfr
theorem ay5:HF Fv 4:=hfr
theorem ay6:HF Fw 4 [] [] [3]:=hfr
theorem ay7:HF Fx 7:=hfr
theorem ay8:HF Fy 9 [12,21] [11,20]:=hfr
theorem ay9:HF pf 6:=hfr
theorem aza:HF Fz 3:=hfr
theorem azb:HF FA 4 [9]:=hfr
theorem azc:HF FB 9 [30]:=hfr
theorem azd:HF FC 4 [22]:=hfr
theorem aze:HF FD 10 [16]:=hfr
theorem azf:HF FE 2:=hfr
theorem azg:HF FF 4:=hfr
theorem azh:HF FG 5 [11]:=hfr
theorem azi:HF wu 5:=hfr
theorem azj:HF FH 9:=hfr
theorem azk:HF FI 7 [12] [] [] [12]:=hfr
theorem azl:HF FJ 6:=hfr
theorem azm:HF FK 9 [58,14,22] [] [] [14,22]:=hfr
theorem azn:HF FL 7 [12] [] [] [12]:=hfr
theorem azo:HF FM 14 [51,86,19] [] [] [19]:=hfr
theorem azp:HF FN 4 [7,21,25] [23]:=hfr
theorem azq:HF FO 2 [13]:=hfr
theorem azr:HF FP 6:=hfr
theorem azs:HF FQ 4 [5]:=hfr
theorem azt:HF FS 4:=hfr
theorem azu:HF rU 6:=hfr
theorem azv:HF FT 10 [29]:=hfr
theorem azw:HF FU 6 [7,15]:=hfr
theorem t0:TF P 0 (some false) none 1 0:=tf
theorem t1:TF P 1 (some false) none 1 8:=tf
theorem t3:TF P 3 (some false) none 1 8 (some 0):=tf
theorem ze3:dQ P 3=some (.int .i64 (0)):=by kernel_rfl
theorem un3:P.underlying 3=some (.int .i64):=by kernel_rfl
theorem t4:TF P 4 (some false) none 1 1 (some 2):=tf
theorem ze4:dQ P 4=some (.bool false):=by kernel_rfl
theorem un4:P.underlying 4=some .bool:=by kernel_rfl
theorem t9:TF P 9 (some false) none 1 16 (some 1):=tf
theorem ze9:dQ P 9=some (.str []):=by kernel_rfl
theorem un9:P.underlying 9=some .string:=by kernel_rfl
theorem t20:TF P 20 (some false) none 1 16:=tf
theorem t21:TF P 21 (some false) none 1 4 (some 0):=tf
theorem t22:TF P 22 (some false) (some 102) 1 24:=tf
theorem auk:P.underlying 22=some (.slice 102):=by kernel_rfl
theorem t23:TF P 23 (some false) (some 53) 1 24:=tf
theorem aul:P.underlying 23=some (.slice 53):=by kernel_rfl
theorem t24:TF P 24 (some false) (some 55) 1 24:=tf
theorem aum:P.underlying 24=some (.slice 55):=by kernel_rfl
theorem t25:TF P 25 (some false) (some 72) 1 24:=tf
theorem aun:P.underlying 25=some (.slice 72):=by kernel_rfl
theorem t26:TF P 26 (some false) (some 143) 1 24:=tf
theorem auo:P.underlying 26=some (.slice 143):=by kernel_rfl
theorem t28:TF P 28 (some true) none 5 120:=tf
theorem azx:dQ P 28=some (.agg [.aJ,.aJ,.aJ,.aJ,.aJ]):=by kernel_rfl
attribute[go_sem]h3 h4 h5 h6 h7 h9 h10 h11 h13 h15 h17 h23 h24 h25 h28 h29 h30 h31 h32 h33 h41 h43 h44 h45 h46 h47 h48 h49 h50 h53 h55 h56 h57 h58 h59 h61 h66 h67 h68 h69 h70 h71 h72 h73 h74 h75 h76 h77 h78 h79 h80 h81 h82 h83 h84 h85 h86 h87 h88 h89 h90 h91 axH axI axJ axK axL axM axN axO axP axQ axR axS axT axU axV axW axX axY axZ ax0 ax1 ax2 ax3 ax4 ax5 ax6 ax7 ax8 ax9 aya ayb ayc ayd aye ayf ayg ayh ayi ayj ayk ayl aym ayn ayo ayp ayq ayr ays ayt ayu ayv ayw ayx ayy ayz ayA ayB ayC ayD ayE ayF ayG ayH ayI ayJ ayK ayL ayM K! ayN ayO ayP ayQ ayR ayS ayT ayU ayV ayW ayX ayY ayZ ay0 ay1 ay2 ay3 ay4 ay5 ay6 ay7 ay8 ay9 aza azb azc azd aze azf azg azh azi azj azk azl azm azn azo azp azq azr azs azt azu azv azw t0 t1 t3 ze3 un3 t4 ze4 un4 t9 ze9 un9 t20 t21 t22 auk t23 aul t24 aum t25 aun t26 auo t28 azx
@[go_sem] theorem azy:dx P 28 0=some (0,1,false)/\dx P 28 1=some (1,1,false)/\dx P 28 2=some (2,1,false)/\dx P 28 3=some (3,1,false)/\dx P 28 4=some (4,1,false):=⟨by kernel_rfl,by kernel_rfl,by kernel_rfl,by kernel_rfl,by kernel_rfl⟩
theorem azz:dX P 28=some (.inr [(0,1),(1,1),(2,1),(3,1),(4,1)]):=by kernel_rfl
theorem t29:TF P 29 (some false) (some 3) 1 24:=tf
theorem azA:dQ P 29=some (.aJ):=by kernel_rfl
theorem aup:P.underlying 29=some (.slice 3):=by kernel_rfl
theorem t33:TF P 33 (some false) none 1 8 (some 0):=tf
theorem t40:TF P 40 (some false) (some 59) 1 24:=tf
theorem t43:TF P 43 (some false) (some 115) 1 24:=tf
theorem auq:P.underlying 43=some (.slice 115):=by kernel_rfl
theorem t44:TF P 44 (some false) (some 100) 1 24:=tf
theorem aur:P.underlying 44=some (.slice 100):=by kernel_rfl
theorem t46:TF P 46 (some true) none 6 88:=tf
theorem azB:dQ P 46=some (.agg [.str [],.int .i64 (0),.int .i64 (0),.aJ,.aJ,.bool false]):=by kernel_rfl
attribute[go_sem]azz t29 azA aup t33 t40 t43 auq t44 aur t46 azB
@[go_sem] theorem azC:dx P 46 0=some (0,1,false)/\dx P 46 1=some (1,1,false)/\dx P 46 2=some (2,1,false)/\dx P 46 3=some (3,1,false)/\dx P 46 4=some (4,1,false)/\dx P 46 5=some (5,1,false):=⟨by kernel_rfl,by kernel_rfl,by kernel_rfl,by kernel_rfl,by kernel_rfl,by kernel_rfl⟩
@[go_sem] theorem azD:dX P 46=some (.inr [(0,1),(1,1),(2,1),(3,1),(4,1),(5,1)]):=by kernel_rfl
@[go_sem] theorem t53:TF P 53 (some true) none 6 56:=tf
@[go_sem] theorem azE:dQ P 53=some (.agg [.str [],.int .i64 (0),.int .i64 (0),.int .i64 (0),.int .i64 (0),.int .i64 (0)]):=by kernel_rfl
@[go_sem] theorem azF:dx P 53 0=some (0,1,false)/\dx P 53 1=some (1,1,false)/\dx P 53 2=some (2,1,false)/\dx P 53 3=some (3,1,false)/\dx P 53 4=some (4,1,false)/\dx P 53 5=some (5,1,false):=⟨by kernel_rfl,by kernel_rfl,by kernel_rfl,by kernel_rfl,by kernel_rfl,by kernel_rfl⟩
@[go_sem] theorem azG:dX P 53=some (.inr [(0,1),(1,1),(2,1),(3,1),(4,1),(5,1)]):=by kernel_rfl
@[go_sem] theorem t55:TF P 55 (some true) none 6 56:=tf
@[go_sem] theorem azH:dQ P 55=some (.agg [.str [],.int .i64 (0),.int .i64 (0),.int .i64 (0),.int .i64 (0),.bool false]):=by kernel_rfl
@[go_sem] theorem azI:dx P 55 0=some (0,1,false)/\dx P 55 1=some (1,1,false)/\dx P 55 2=some (2,1,false)/\dx P 55 3=some (3,1,false)/\dx P 55 4=some (4,1,false)/\dx P 55 5=some (5,1,false):=⟨by kernel_rfl,by kernel_rfl,by kernel_rfl,by kernel_rfl,by kernel_rfl,by kernel_rfl⟩
theorem azJ:dX P 55=some (.inr [(0,1),(1,1),(2,1),(3,1),(4,1),(5,1)]):=by kernel_rfl
theorem t56:TF P 56 (some false) (some 95) 1 24:=tf
theorem azK:dQ P 56=some (.aJ):=by kernel_rfl
theorem t59:TF P 59 (some true) none 3 40:=tf
theorem azL:dQ P 59=some (.agg [.int .i64 (0),.int .i64 (0),.aJ]):=by kernel_rfl
attribute[go_sem]azJ t56 azK t59 azL
@[go_sem] theorem azM:dx P 59 0=some (0,1,false)/\dx P 59 1=some (1,1,false)/\dx P 59 2=some (2,1,false):=⟨by kernel_rfl,by kernel_rfl,by kernel_rfl⟩
@[go_sem] theorem azN:dX P 59=some (.inr [(0,1),(1,1),(2,1)]):=by kernel_rfl
@[go_sem] theorem t61:TF P 61 (some true) none 4 32:=tf
@[go_sem] theorem azO:dQ P 61=some (.agg [.int .i64 (0),.int .i64 (0),.int .i64 (0),.int .i64 (0)]):=by kernel_rfl
@[go_sem] theorem azP:dx P 61 0=some (0,1,false)/\dx P 61 1=some (1,1,false)/\dx P 61 2=some (2,1,false)/\dx P 61 3=some (3,1,false):=⟨by kernel_rfl,by kernel_rfl,by kernel_rfl,by kernel_rfl⟩
theorem azQ:dX P 61=some (.inr [(0,1),(1,1),(2,1),(3,1)]):=by kernel_rfl
theorem t64:TF P 64 (some false) (some 29) 1 24:=tf
theorem t70:TF P 70 (some false) (some 46) 1 24:=tf
theorem aus:P.underlying 70=some (.slice 46):=by kernel_rfl
theorem t72:TF P 72 (some true) none 5 80:=tf
theorem azR:dQ P 72=some (.agg [.str [],.int .i64 (0),.int .i64 (0),.aJ,.aJ]):=by kernel_rfl
attribute[go_sem]azQ t64 t70 aus t72 azR
@[go_sem] theorem azS:dx P 72 0=some (0,1,false)/\dx P 72 1=some (1,1,false)/\dx P 72 2=some (2,1,false)/\dx P 72 3=some (3,1,false)/\dx P 72 4=some (4,1,false):=⟨by kernel_rfl,by kernel_rfl,by kernel_rfl,by kernel_rfl,by kernel_rfl⟩
theorem azT:dX P 72=some (.inr [(0,1),(1,1),(2,1),(3,1),(4,1)]):=by kernel_rfl
theorem t74:TF P 74 (some false) none 1 8:=tf
theorem t77:TF P 77 (some false) none 1 8:=tf
theorem t81:TF P 81 (some true) none 6 128:=tf
theorem azU:dQ P 81=some (.agg [.aJ,.aJ,.aJ,.int .i64 (0),.aJ,.aJ]):=by kernel_rfl
attribute[go_sem]azT t74 t77 t81 azU
@[go_sem] theorem azV:dx P 81 0=some (0,1,false)/\dx P 81 1=some (1,1,false)/\dx P 81 2=some (2,1,false)/\dx P 81 3=some (3,1,false)/\dx P 81 4=some (4,1,false)/\dx P 81 5=some (5,1,false):=⟨by kernel_rfl,by kernel_rfl,by kernel_rfl,by kernel_rfl,by kernel_rfl,by kernel_rfl⟩
theorem azW:dX P 81=some (.inr [(0,1),(1,1),(2,1),(3,1),(4,1),(5,1)]):=by kernel_rfl
theorem t82:TF P 82 (some false) (some 97) 1 24:=tf
theorem t95:TF P 95 (some true) none 2 16:=tf
theorem azX:dQ P 95=some (.agg [.int .i64 (0),.int .i64 (0)]):=by kernel_rfl
attribute[go_sem]azW t82 t95 azX
@[go_sem] theorem azY:dx P 95 0=some (0,1,false)/\dx P 95 1=some (1,1,false):=⟨by kernel_rfl,by kernel_rfl⟩
@[go_sem] theorem azZ:dX P 95=some (.inr [(0,1),(1,1)]):=by kernel_rfl
@[go_sem] theorem t97:TF P 97 (some true) none 2 16:=tf
@[go_sem] theorem az0:dQ P 97=some (.agg [.int .i64 (0),.int .i64 (0)]):=by kernel_rfl
@[go_sem] theorem az1:dx P 97 0=some (0,1,false)/\dx P 97 1=some (1,1,false):=⟨by kernel_rfl,by kernel_rfl⟩
theorem az2:dX P 97=some (.inr [(0,1),(1,1)]):=by kernel_rfl
theorem az3:rf P 97=some [0,0]:=by kernel_rfl
theorem az4:TF P 100 (some true) none 5 72:=tf
theorem awA:dQ P 100=some (.agg [.int .i64 (0),.int .i64 (0),.int .i64 (0),.aJ,.aJ]):=by kernel_rfl
attribute[go_sem]az2 az3 az4 awA
@[go_sem] theorem awB:dx P 100 0=some (0,1,false)/\dx P 100 1=some (1,1,false)/\dx P 100 2=some (2,1,false)/\dx P 100 3=some (3,1,false)/\dx P 100 4=some (4,1,false):=⟨by kernel_rfl,by kernel_rfl,by kernel_rfl,by kernel_rfl,by kernel_rfl⟩
@[go_sem] theorem awC:dX P 100=some (.inr [(0,1),(1,1),(2,1),(3,1),(4,1)]):=by kernel_rfl
@[go_sem] theorem az5:TF P 102 (some true) none 2 24:=tf
@[go_sem] theorem awD:dQ P 102=some (.agg [.str [],.int .i64 (0)]):=by kernel_rfl
@[go_sem] theorem awE:dx P 102 0=some (0,1,false)/\dx P 102 1=some (1,1,false):=⟨by kernel_rfl,by kernel_rfl⟩
@[go_sem] theorem az6:TF P 115 (some true) none 2 16:=tf
@[go_sem] theorem awF:dQ P 115=some (.agg [.int .i64 (0),.int .i64 (0)]):=by kernel_rfl
@[go_sem] theorem awG:dx P 115 0=some (0,1,false)/\dx P 115 1=some (1,1,false):=⟨by kernel_rfl,by kernel_rfl⟩
@[go_sem] theorem awH:dX P 115=some (.inr [(0,1),(1,1)]):=by kernel_rfl
@[go_sem] theorem az7:TF P 118 (some true) none 13 296:=tf
@[go_sem] theorem awI:dQ P 118=some (.agg [.aJ,.aJ,.aJ,.aJ,.aJ,.aJ,.aJ,.aJ,.int .i64 (0),.aJ,.aJ,.aJ,.aJ]):=by kernel_rfl
@[go_sem] theorem awJ:dx P 118 0=some (0,5,true)/\dx P 118 1=some (5,6,true)/\dx P 118 2=some (11,1,false)/\dx P 118 3=some (12,1,false):=⟨by kernel_rfl,by kernel_rfl,by kernel_rfl,by kernel_rfl⟩
@[go_sem] theorem awK:dX P 118=some (.inr [(0,5),(5,6),(11,1),(12,1)]):=by kernel_rfl
@[go_sem] theorem az8:TF P 124 (some true) none 5 104:=tf
@[go_sem] theorem awL:dQ P 124=some (.agg [.aJ,.aJ,.aJ,.aJ,.int .i64 (0)]):=by kernel_rfl
@[go_sem] theorem awM:dx P 124 0=some (0,1,false)/\dx P 124 1=some (1,1,false)/\dx P 124 2=some (2,1,false)/\dx P 124 3=some (3,1,false)/\dx P 124 4=some (4,1,false):=⟨by kernel_rfl,by kernel_rfl,by kernel_rfl,by kernel_rfl,by kernel_rfl⟩
@[go_sem] theorem az9:TF P 133 (some false) (some 9) 1 24:=tf
@[go_sem] theorem aAa:TF P 139 (some true) none 6 128:=tf
@[go_sem] theorem awN:dQ P 139=some (.agg [.aJ,.aJ,.aJ,.aJ,.aJ,.int .i64 (0)]):=by kernel_rfl
@[go_sem] theorem awO:dx P 139 0=some (0,1,false)/\dx P 139 1=some (1,1,false)/\dx P 139 2=some (2,1,false)/\dx P 139 3=some (3,1,false)/\dx P 139 4=some (4,1,false)/\dx P 139 5=some (5,1,false):=⟨by kernel_rfl,by kernel_rfl,by kernel_rfl,by kernel_rfl,by kernel_rfl,by kernel_rfl⟩
@[go_sem] theorem awP:dX P 139=some (.inr [(0,1),(1,1),(2,1),(3,1),(4,1),(5,1)]):=by kernel_rfl
@[go_sem] theorem aAb:TF P 143 (some true) none 2 40:=tf
@[go_sem] theorem awQ:dQ P 143=some (.agg [.str [],.aJ]):=by kernel_rfl
@[go_sem] theorem awR:dx P 143 0=some (0,1,false)/\dx P 143 1=some (1,1,false):=⟨by kernel_rfl,by kernel_rfl⟩
theorem aAc:TF P 146 (some false) none 1 8:=tf
theorem aAd:TF P 149 (some false) none 1 8:=tf
theorem aAe:TF P 151 (some true) none 3 40:=tf
theorem awS:dQ P 151=some (.agg [.cQ,.int .i64 (0),.aJ]):=by kernel_rfl
attribute[go_sem]aAc aAd aAe awS
@[go_sem] theorem awT:dx P 151 0=some (0,1,false)/\dx P 151 1=some (1,1,false)/\dx P 151 2=some (2,1,false):=⟨by kernel_rfl,by kernel_rfl,by kernel_rfl⟩
theorem awU:dX P 151=some (.inr [(0,1),(1,1),(2,1)]):=by kernel_rfl
theorem aAf:TF P 154 (some false) (some 157) 1 24:=tf
theorem aAg:TF P 157 (some false) none 1 16:=tf
theorem awV:dQ P 157=some (.bW):=by kernel_rfl
theorem aAh:TF P 160 (some false) (some 163) 1 24:=tf
theorem aAi:TF P 163 (some true) none 6 48:=tf
theorem awW:dQ P 163=some (.agg [.int .i64 (0),.int .i64 (0),.int .i64 (0),.int .i64 (0),.int .i64 (0),.int .i64 (0)]):=by kernel_rfl
attribute[go_sem]awU aAf aAg awV aAh aAi awW
@[go_sem] theorem awX:dx P 163 0=some (0,1,false)/\dx P 163 1=some (1,1,false)/\dx P 163 2=some (2,1,false)/\dx P 163 3=some (3,1,false)/\dx P 163 4=some (4,1,false)/\dx P 163 5=some (5,1,false):=⟨by kernel_rfl,by kernel_rfl,by kernel_rfl,by kernel_rfl,by kernel_rfl,by kernel_rfl⟩
theorem awY:dX P 163=some (.inr [(0,1),(1,1),(2,1),(3,1),(4,1),(5,1)]):=by kernel_rfl
theorem aAj:TF P 175 (some false) none 1 8:=tf
theorem aAk:TF P 181 (some true) none 4 32:=tf
theorem awZ:dQ P 181=some (.agg [.int .i64 (0),.int .i64 (0),.int .i64 (0),.int .i64 (0)]):=by kernel_rfl
theorem aw0:dx P 181 0=some (0,4,true):=by kernel_rfl
theorem aw1:dX P 181=some (.inr [(0,4)]):=by kernel_rfl
theorem aAl:TF P 183 (some false) none 1 8:=tf
theorem acp:mf P 183=some (9,4):=by kernel_rfl
theorem aAm:TF P 185 (some false) (some 220) 1 24:=tf
theorem aw2:dQ P 185=some (.aJ):=by kernel_rfl
theorem aAn:TF P 190 (some false) none 1 8:=tf
theorem aAo:TF P 193 (some true) none 12 272:=tf
theorem aw3:dQ P 193=some (.agg [.aJ,.aJ,.aJ,.int .i64 (0),.aJ,.aJ,.aJ,.aJ,.aJ,.aJ,.aJ,.aJ]):=by kernel_rfl
attribute[go_sem]awY aAj aAk awZ aw0 aw1 aAl acp aAm aw2 aAn aAo aw3
@[go_sem] theorem aw4:dx P 193 0=some (0,6,true)/\dx P 193 1=some (6,5,true)/\dx P 193 2=some (11,1,false):=⟨by kernel_rfl,by kernel_rfl,by kernel_rfl⟩
theorem aw5:dX P 193=some (.inr [(0,6),(6,5),(11,1)]):=by kernel_rfl
theorem aAp:TF P 197 (some true) none 5 72:=tf
theorem aw6:dQ P 197=some (.agg [.int .i64 (0),.int .i64 (0),.int .i64 (0),.aJ,.aJ]):=by kernel_rfl
theorem aw7:dx P 197 0=some (0,5,true):=by kernel_rfl
theorem aw8:dX P 197=some (.inr [(0,5)]):=by kernel_rfl
theorem aAq:TF P 198 (some true) none 5 72:=tf
theorem aw9:dQ P 198=some (.agg [.int .i64 (0),.int .i64 (0),.int .i64 (0),.aJ,.aJ]):=by kernel_rfl
theorem axa:dx P 198 0=some (0,5,true):=by kernel_rfl
theorem axb:dX P 198=some (.inr [(0,5)]):=by kernel_rfl
theorem aAr:TF P 199 (some true) none 5 72:=tf
theorem axc:dQ P 199=some (.agg [.int .i64 (0),.int .i64 (0),.int .i64 (0),.aJ,.aJ]):=by kernel_rfl
theorem axd:dx P 199 0=some (0,5,true):=by kernel_rfl
theorem axe:dX P 199=some (.inr [(0,5)]):=by kernel_rfl
theorem aAs:TF P 200 (some true) none 5 72:=tf
theorem axf:dQ P 200=some (.agg [.int .i64 (0),.int .i64 (0),.int .i64 (0),.aJ,.aJ]):=by kernel_rfl
theorem axg:dx P 200 0=some (0,5,true):=by kernel_rfl
theorem axh:dX P 200=some (.inr [(0,5)]):=by kernel_rfl
theorem aAt:TF P 201 (some true) none 5 72:=tf
theorem axi:dQ P 201=some (.agg [.int .i64 (0),.int .i64 (0),.int .i64 (0),.aJ,.aJ]):=by kernel_rfl
theorem axj:dx P 201 0=some (0,5,true):=by kernel_rfl
theorem axk:dX P 201=some (.inr [(0,5)]):=by kernel_rfl
theorem aAu:TF P 204 (some false) none 1 8:=tf
theorem aAv:TF P 216 (some false) (some 218) 1 24:=tf
theorem aAw:TF P 218 (some true) none 3 24:=tf
theorem axl:dQ P 218=some (.agg [.int .i64 (0),.int .i64 (0),.int .i64 (0)]):=by kernel_rfl
attribute[go_sem]aw5 aAp aw6 aw7 aw8 aAq aw9 axa axb aAr axc axd axe aAs axf axg axh aAt axi axj axk aAu aAv aAw axl
@[go_sem] theorem axm:dx P 218 0=some (0,1,false)/\dx P 218 1=some (1,1,false)/\dx P 218 2=some (2,1,false):=⟨by kernel_rfl,by kernel_rfl,by kernel_rfl⟩
theorem axn:dX P 218=some (.inr [(0,1),(1,1),(2,1)]):=by kernel_rfl
theorem aAx:TF P 220 (some true) none 4 32:=tf
theorem axo:dQ P 220=some (.agg [.int .i64 (0),.int .i64 (0),.int .i64 (0),.int .i64 (0)]):=by kernel_rfl
theorem axp:dX P 220=some (.inr [(0,1),(1,1),(2,1),(3,1)]):=by kernel_rfl
theorem aAy:TF P 221 (some false) none 1 8:=tf
theorem aAz:TF P 225 (some false) none 1 8:=tf
theorem axq:dQ P 225=some (.cQ):=by kernel_rfl
theorem aAA:TF P 226 (some false) none 1 8:=tf
theorem Xj:mf P 226=some (3,232):=by kernel_rfl
theorem aAB:TF P 228 (some true) none 2 32:=tf
theorem axr:dQ P 228=some (.agg [.aJ,.df]):=by kernel_rfl
attribute[go_sem]axn aAx axo axp aAy aAz axq aAA Xj aAB axr
@[go_sem] theorem axs:dx P 228 0=some (0,1,false)/\dx P 228 1=some (1,1,false):=⟨by kernel_rfl,by kernel_rfl⟩
@[go_sem] theorem axt:dX P 228=some (.inr [(0,1),(1,1)]):=by kernel_rfl
@[go_sem] theorem aAC:TF P 232 (some true) none 4 32:=tf
@[go_sem] theorem aki:dQ P 232=some (.agg [.int .i64 (0),.int .i64 (0),.int .i64 (0),.cX]):=by kernel_rfl
@[go_sem] theorem axu:dx P 232 0=some (0,1,false)/\dx P 232 1=some (1,1,false)/\dx P 232 2=some (2,1,false)/\dx P 232 3=some (3,1,false):=⟨by kernel_rfl,by kernel_rfl,by kernel_rfl,by kernel_rfl⟩
theorem axv:dX P 232=some (.inr [(0,1),(1,1),(2,1),(3,1)]):=by kernel_rfl
theorem aAD:TF P 240 (some false) none 1 8:=tf
theorem aAE:TF P 250 (some true) none 4 64:=tf
theorem aAF:TF P 269 (some false) none 1 8:=tf
theorem aAG:TF P 271 (some true) none 1 8:=tf
theorem axw:dQ P 271=some (.agg [.cX]):=by kernel_rfl
theorem axx:dx P 271 0=some (0,1,false):=by kernel_rfl
theorem axy:dX P 271=some (.inr [(0,1)]):=by kernel_rfl
attribute[go_sem]axv aAD aAE aAF aAG axw axx axy
@[go_sem] theorem xt{f:Nat}(h:f<270)(h0:f≠0)(h1:f≠1)(w:f≠233)(m:f≠234)(r:f≠235)(j:f≠236)(i:f≠237)(v:f≠238)(c:f≠239)(b:f≠240)(x:f≠241)(u:f≠242)(p:f≠243)(e:f≠244)(s:f≠245)(g:f≠246)(k:f≠247)(a:f≠248)(q:f≠249)(o:f≠265)(l:f≠266)(d:f≠267)(t:f≠268):Aw P f=none:=aeY (n:=270) (es:=[0,1,233,234,235,236,237,238,239,240,241,242,243,244,245,246,247,248,249,265,266,267,268]) (by kernel_rfl) h (by simp[h0,h1,w,m,r,j,i,v,c,b,x,u,p,e,s,g,k,a,q,o,l,d,t])
noncomputable section
def b3:=bo Tryz.f3
def b4:=bo Tryz.f4
def b5:=bo Tryz.f5
def b6:=bo Tryz.f6
def b7:=bo Tryz.f7
def b8:=bo Tryz.f8
def b9:=bo Tryz.f9
def b10:=bo Tryz.f10
def b11:=bo Tryz.f11
def b12:=bo Tryz.f12
def b13:=bo Tryz.f13
def b15:=bo Tryz.f15
def b17:=bo Tryz.f17
def b23:=bo Tryz.f23
def b24:=bo Tryz.f24
def b25:=bo Tryz.f25
def b28:=bo Tryz.f28
def b29:=bo Tryz.f29
def b30:=bo Tryz.f30
def b31:=bo Tryz.f31
def b32:=bo Tryz.f32
def b33:=bo Tryz.f33
def b41:=bo Tryz.f41
def b43:=bo Tryz.f43
def b44:=bo Tryz.f44
def b45:=bo Tryz.f45
def b46:=bo Tryz.f46
def b47:=bo Tryz.f47
def b48:=bo Tryz.f48
def b49:=bo Tryz.f49
def b50:=bo Tryz.f50
def b53:=bo Tryz.f53
def q3:=mkQ Xf b3 _
def q4:=mkQ Xg b4 _
def q5:=mkQ Xh b5 _
def q6:=mkQ AZ b6 _
def akj:=mkR AZ b6 0 _
def q7:=mkQ Xi b7 _
def q9:=mkQ DG b9 _
def akk:=mkR DG b9 0 _
def akl:=mkR DG b9 1 _
def q10:=mkQ Kn b10 _
def q11:=mkQ Ko b11 _
def q13:=mkQ Kq b13 _
def q15:=mkQ rR b15 _
def acq:=mkR rR b15 0 _
def q17:=mkQ Kr b17 _
def q23:=mkQ Ks b23 _
def q24:=mkQ uy b24 _
def acr:=mkR uy b24 0 _
def acs:=mkR uy b24 1 _
def q25:=mkQ uz b25 _
def acu:=mkR uz b25 0 _
def acv:=mkR uz b25 1 _
def q28:=mkQ Kt b28 _
def q29:=mkQ Ku b29 _
def q30:=mkQ Kv b30 _
def q31:=mkQ Kw b31 _
def q32:=mkQ Kx b32 _
def q33:=mkQ Ky b33 _
def q41:=mkQ jJ b41 _
def acw:=mkR jJ b41 0 _
def acx:=mkR jJ b41 1 _
def q43:=mkQ uA b43 _
def acy:=mkR uA b43 0 _
def acz:=mkR uA b43 1 _
def q44:=mkQ Kz b44 _
def q45:=mkQ Co b45 _
def acA:=mkR Co b45 0 _
def q46:=mkQ KA b46 _
def q47:=mkQ uB b47 _
def acB:=mkR uB b47 0 _
def acC:=mkR uB b47 1 _
def q48:=mkQ Cp b48 _
def acD:=mkR Cp b48 0 _
def q49:=mkQ pL b49 _
def acE:=mkR pL b49 0 _
def acF:=mkR pL b49 1 _
def acG:=mkR pL b49 2 _
def q50:=mkQ KB b50 _
def q53:=mkQ KC b53 _
attribute[go_sem]q3 q4 q5 q6 akj q7 q9 akk akl q10 q11 q13 q15 acq q17 q23 q24 acr acs q25 acu acv q28 q29 q30 q31 q32 q33 q41 acw acx q43 acy acz q44 q45 acA q46 q47 acB acC q48 acD q49 acE acF acG q50 q53
section
variable{ρ:Type}
theorem ge6:gE ρ 6 2 false [.tmp 4] AZ b6 q6.1:=geo Tryz.func6 q6.2
theorem ge9:gE ρ 9 1 false [.tmp 2] DG b9 q9.1:=geo Tryz.func9 q9.2
theorem aut:gE ρ 10 0 false [.tmp 0] Kn b10 q10.1:=geo Tryz.func10 q10.2
theorem auu:gE ρ 11 4 false [.tmp 8,.tmp 9] Ko b11 q11.1:=geo Tryz.func11 q11.2
theorem auv:gE ρ 13 3 false [.tmp 6] Kq b13 q13.1:=geo Tryz.func13 q13.2
theorem auw:gE ρ 15 2 false [.tmp 4] rR b15 q15.1:=geo Tryz.func15 q15.2
theorem aux:gE ρ 17 2 false [.tmp 4] Kr b17 q17.1:=geo Tryz.func17 q17.2
theorem auy:gE ρ 23 2 false [.tmp 4] Ks b23 q23.1:=geo Tryz.func23 q23.2
theorem auz:gE ρ 24 1 false [.tmp 2] uy b24 q24.1:=geo Tryz.func24 q24.2
theorem auA:gE ρ 25 1 false [.cell 2 61] uz b25 q25.1:=geo Tryz.func25 q25.2
theorem auB:gE ρ 28 0 false [.cell 0 28] Kt b28 q28.1:=geo Tryz.func28 q28.2
theorem auC:gE ρ 29 2 false [.tmp 4,.tmp 5] Ku b29 q29.1:=geo Tryz.func29 q29.2
theorem auD:gE ρ 30 2 false [.tmp 4] Kv b30 q30.1:=geo Tryz.func30 q30.2
theorem auE:gE ρ 31 2 false [.tmp 4] Kw b31 q31.1:=geo Tryz.func31 q31.2
theorem NO:gE ρ 32 2 false [.cell 4 46] Kx b32 q32.1:=geo Tryz.func32 q32.2
theorem auF:gE ρ 33 3 false [.tmp 6] Ky b33 q33.1:=geo Tryz.func33 q33.2
theorem auG:gE ρ 41 2 false [.tmp 4] jJ b41 q41.1:=geo Tryz.func41 q41.2
theorem auH:gE ρ 43 1 false [.tmp 2] uA b43 q43.1:=geo Tryz.func43 q43.2
theorem auI:gE ρ 44 1 false [.tmp 2] Kz b44 q44.1:=geo Tryz.func44 q44.2
theorem auJ:gE ρ 45 3 false [.tmp 6] Co b45 q45.1:=geo Tryz.func45 q45.2
theorem auK:gE ρ 46 1 false [.cell 2 81] KA b46 q46.1:=geo Tryz.func46 q46.2
theorem auL:gE ρ 47 1 false [.cell 2 61] uB b47 q47.1:=geo Tryz.func47 q47.2
theorem auM:gE ρ 48 2 false [.cell 4 61] Cp b48 q48.1:=geo Tryz.func48 q48.2
theorem auN:gE ρ 49 1 false [.tmp 2,.tmp 3,.tmp 4] pL b49 q49.1:=geo Tryz.func49 q49.2
theorem auO:gE ρ 50 2 false [.tmp 4] KB b50 q50.1:=geo Tryz.func50 q50.2
end
theorem auP{ρ:Type}(ds:J D)(H:J Ob)(κ:J T×J Ob->U ρ)(hl:ds.length=1)(hx:iz ds=false):cbK (call 53 ds H) κ=go P hints KC b53 q53.1 (enter ds H) (kLv P true [.tmp 2] H.length κ):=
 Jr (by decide) rfl rfl Tryz.func53 (by kernel_rfl) q53.2 rfl rfl (by kernel_rfl) rfl (by kernel_rfl) (by kernel_rfl) ds H κ hl (by rw[hx];exact Bool.and_false _)
def b55:=bo Tryz.f55
def b56:=bo Tryz.f56
def b57:=bo Tryz.f57
def b58:=bo Tryz.f58
def b59:=bo Tryz.f59
def b61:=bo Tryz.f61
def b66:=bo Tryz.f66
def b67:=bo Tryz.f67
def b68:=bo Tryz.f68
def b69:=bo Tryz.f69
def b70:=bo Tryz.f70
def b71:=bo Tryz.f71
def b72:=bo Tryz.f72
def b73:=bo Tryz.f73
def b74:=bo Tryz.f74
def b75:=bo Tryz.f75
def b76:=bo Tryz.f76
def b77:=bo Tryz.f77
def b78:=bo Tryz.f78
def b79:=bo Tryz.f79
def b80:=bo Tryz.f80
def b81:=bo Tryz.f81
def b82:=bo Tryz.f82
def b83:=bo Tryz.f83
def b84:=bo Tryz.f84
def b85:=bo Tryz.f85
def b86:=bo Tryz.f86
def b87:=bo Tryz.f87
def b88:=bo Tryz.f88
def b89:=bo Tryz.f89
def b90:=bo Tryz.f90
def b91:=bo Tryz.f91
def b92:=bo Tryz.f92
def ako:=bo Tryz.f100
def akr:=bo Tryz.f101
def aku:=bo Tryz.f102
def akx:=bo Tryz.f103
def L_:=bo Tryz.f104
def A5:=bo Tryz.f105
def akE:=bo Tryz.f106
def akH:=bo Tryz.f107
def akK:=bo Tryz.f108
def Xm:=bo Tryz.f109
def wP:=bo Tryz.f110
def zr:=bo Tryz.f111
def TZ:=bo Tryz.f112
def akT:=bo Tryz.f113
def jV:=bo Tryz.f114
def akY:=bo Tryz.f115
def ak1:=bo Tryz.f116
def PZ:=bo Tryz.f117
def ak5:=bo Tryz.f118
def kD:=bo Tryz.f119
def ala:=bo Tryz.f120
def ald:=bo Tryz.f129
def alg:=bo Tryz.f130
def alj:=bo Tryz.f131
def aln:=bo Tryz.f132
def alq:=bo Tryz.f133
def alt:=bo Tryz.f134
def alw:=bo Tryz.f135
def alz:=bo Tryz.f136
def alC:=bo Tryz.f137
def alF:=bo Tryz.f138
def alI:=bo Tryz.f139
def alL:=bo Tryz.f140
def alO:=bo Tryz.f141
def T0:=bo Tryz.f142
def alT:=bo Tryz.f143
def NP:=bo Tryz.f144
def q55:=mkQ KD b55 _
def q56:=mkQ KE b56 _
def q57:=mkQ Cq b57 _
def acH:=mkR Cq b57 0 _
def q58:=mkQ rS b58 _
def acI:=mkR rS b58 0 _
def q59:=mkQ KF b59 _
def q61:=mkQ Cr b61 _
def acJ:=mkR Cr b61 0 _
def q66:=mkQ KG b66 _
def q67:=mkQ Cs b67 _
def acK:=mkR Cs b67 0 _
def q68:=mkQ Ct b68 _
def acL:=mkR Ct b68 0 _
def q69:=mkQ KH b69 _
def q70:=mkQ uC b70 _
def acM:=mkR uC b70 0 _
def acN:=mkR uC b70 1 _
def q71:=mkQ uD b71 _
def acO:=mkR uD b71 0 _
def acP:=mkR uD b71 1 _
def q72:=mkQ Cu b72 _
def acQ:=mkR Cu b72 0 _
def q73:=mkQ kU b73 _
def acR:=mkR kU b73 0 _
def acS:=mkR kU b73 1 _
def acT:=mkR kU b73 2 _
def acU:=mkR kU b73 3 _
def acV:=mkR kU b73 4 _
def q74:=mkQ uE b74 _
def acW:=mkR uE b74 0 _
def acX:=mkR uE b74 1 _
def q75:=mkQ mL b75 _
def acY:=mkR mL b75 0 _
def acZ:=mkR mL b75 1 _
def ac0:=mkR mL b75 2 _
def ac3:=mkR mL b75 3 _
def q76:=mkQ KI b76 _
def q77:=mkQ KJ b77 _
def q78:=mkQ KK b78 _
def q79:=mkQ KL b79 _
def q80:=mkQ Cv b80 _
def ac4:=mkR Cv b80 0 _
def q82:=mkQ KM b82 _
def q83:=mkQ KN b83 _
def q84:=mkQ hint84 b84 _
def q85:=mkQ KO b85 _
def q86:=mkQ mM b86 _
def ac5:=mkR mM b86 0 _
def ac6:=mkR mM b86 1 _
def q87:=mkQ KP b87 _
def q88:=mkQ KQ b88 _
def q89:=mkQ rT b89 _
def ac7:=mkR rT b89 0 _
def q90:=mkQ KS b90 _
def q91:=mkQ jK b91 _
def ac8:=mkR jK b91 0 _
def ac9:=mkR jK b91 1 _
def ada:=mkR jK b91 2 _
def adb:=mkR jK b91 3 _
def adc:=mkR jK b91 4 _
def ade:=mkR jK b91 5 _
def q92:=mkQ PY b92 _
def akp:=mkQ En ako _
def aks:=mkQ Eo akr _
def akv:=mkQ Ep aku _
def aky:=mkQ KU akx _
def akA:=mkQ wt L_ _
def Xk:=mkR wt L_ 0 _
def akC:=mkQ iw A5 _
def Li:=mkR iw A5 0 _
def Lj:=mkR iw A5 1 _
def Xl:=mkR iw A5 2 _
def akF:=mkQ Er akE _
def akI:=mkQ Es akH _
def akL:=mkQ KV akK _
def akN:=mkQ hint110 wP _
def Lk:=mkR hint110 wP 0 _
def Ll:=mkR hint110 wP 1 _
def Lm:=mkR hint110 wP 2 _
def akP:=mkQ hint111 zr _
def Ln:=mkR hint111 zr 1 _
def Lp:=mkR hint111 zr 2 _
def Lq:=mkR hint111 zr 3 _
def akR:=mkQ hint112 TZ _
def Lr:=mkR hint112 TZ 0 _
def akU:=mkQ Et akT _
def akW:=mkQ ep jV _
def Xn:=mkR ep jV 0 _
def Xo:=mkR ep jV 1 _
def Xp:=mkR ep jV 2 _
def Xq:=mkR ep jV 3 _
def Xr:=mkR ep jV 4 _
def Xs:=mkR ep jV 5 _
def akZ:=mkQ hint115 akY _
def ak2:=mkQ Eu ak1 _
def ak3:=mkQ ni PZ _
def Xt:=mkR ni PZ 0 _
def ak6:=mkQ Ev ak5 _
def ak8:=mkQ eA kD _
def Xu:=mkR eA kD 0 _
def Xv:=mkR eA kD 1 _
def Xw:=mkR eA kD 2 _
def Xx:=mkR eA kD 3 _
def alb:=mkQ KW ala _
def ale:=mkQ Ew ald _
def alh:=mkQ Ey alg _
def alk:=mkQ KX alj _
def alo:=mkQ KY aln _
def alr:=mkQ Ez alq _
def alu:=mkQ EA alt _
def alx:=mkQ KZ alw _
def alA:=mkQ EB alz _
def alD:=mkQ EC alC _
def alG:=mkQ K0 alF _
def alJ:=mkQ ED alI _
def alM:=mkQ hint140 alL _
def alP:=mkQ EE alO _
def alR:=mkQ hint142 T0 _
def Ls:=mkR hint142 T0 0 _
def alU:=mkQ hint143 alT _
def alV:=mkQ lS NP _
def Xy:=mkR lS NP 0 _
def Xz:=mkR lS NP 1 _
def XA:=mkR lS NP 2 _
attribute[go_sem]q55 q56 q57 acH q58 acI q59 q61 acJ q66 q67 acK q68 acL q69 q70 acM acN q71 acO acP q72 acQ q73 acR acS acT acU acV q74 acW acX q75 acY acZ ac0 ac3 q76 q77 q78 q79 q80 ac4 q82 q83 q84 q85 q86 ac5 ac6 q87 q88 q89 ac7 q90 q91 ac8 ac9 ada adb adc ade q92 akp aks akv aky akA Xk akC Li Lj Xl akF akI akL akN Lk Ll Lm akP Ln Lp Lq akR Lr akU akW Xn Xo Xp Xq Xr Xs akZ ak2 ak3 Xt ak6 ak8 Xu Xv Xw Xx alb ale alh alk alo alr alu alx alA alD alG alJ alM alP alR Ls alU alV Xy Xz XA
section
variable{ρ:Type}
theorem auQ:gE ρ 55 1 false [.tmp 2,.tmp 3] KD b55 q55.1:=geo Tryz.func55 q55.2
theorem auR:gE ρ 56 2 false [.tmp 4] KE b56 q56.1:=geo Tryz.func56 q56.2
theorem auS:gE ρ 57 1 false [.tmp 2,.tmp 3] Cq b57 q57.1:=geo Tryz.func57 q57.2
theorem auT:gE ρ 58 3 false [.tmp 6,.tmp 7] rS b58 q58.1:=geo Tryz.func58 q58.2
theorem auU:gE ρ 59 4 false [.tmp 8] KF b59 q59.1:=geo Tryz.func59 q59.2
theorem auV:gE ρ 61 1 false [.cell 2 81] Cr b61 q61.1:=geo Tryz.func61 q61.2
theorem auW:gE ρ 66 2 false [.tmp 4] KG b66 q66.1:=geo Tryz.func66 q66.2
theorem auX:gE ρ 67 3 false [.tmp 6] Cs b67 q67.1:=geo Tryz.func67 q67.2
theorem auY:gE ρ 68 2 false [.tmp 4] Ct b68 q68.1:=geo Tryz.func68 q68.2
theorem auZ:gE ρ 69 1 false [.tmp 2] KH b69 q69.1:=geo Tryz.func69 q69.2
theorem au0:gE ρ 70 1 false [.tmp 2,.tmp 3] uC b70 q70.1:=geo Tryz.func70 q70.2
theorem au1:gE ρ 71 3 false [.tmp 6,.tmp 7] uD b71 q71.1:=geo Tryz.func71 q71.2
theorem au2:gE ρ 72 2 false [.tmp 4] Cu b72 q72.1:=geo Tryz.func72 q72.2
theorem au3:gE ρ 73 3 false [.tmp 6] kU b73 q73.1:=geo Tryz.func73 q73.2
theorem au4:gE ρ 74 2 false [.tmp 4,.tmp 5] uE b74 q74.1:=geo Tryz.func74 q74.2
theorem au5:gE ρ 75 2 false [.tmp 4,.tmp 5,.tmp 6] mL b75 q75.1:=geo Tryz.func75 q75.2
theorem au6:gE ρ 76 2 false [.cell 4 139] KI b76 q76.1:=geo Tryz.func76 q76.2
theorem au7:gE ρ 77 2 false [.tmp 4] KJ b77 q77.1:=geo Tryz.func77 q77.2
theorem au8:gE ρ 78 2 false [.tmp 4] KK b78 q78.1:=geo Tryz.func78 q78.2
theorem au9:gE ρ 79 1 false [.tmp 2] KL b79 q79.1:=geo Tryz.func79 q79.2
theorem ava:gE ρ 80 2 false [.tmp 4,.tmp 5] Cv b80 q80.1:=geo Tryz.func80 q80.2
theorem avb:gE ρ 82 1 false [.cell 2 81] KM b82 q82.1:=geo Tryz.func82 q82.2
theorem avc:gE ρ 83 1 false [.tmp 2] KN b83 q83.1:=geo Tryz.func83 q83.2
theorem avd:gE ρ 84 1 false [.tmp 2] hint84 b84 q84.1:=geo Tryz.func84 q84.2
theorem akm:gE ρ 85 1 false [.tmp 2] KO b85 q85.1:=geo Tryz.func85 q85.2
theorem akn:gE ρ 86 2 false [.tmp 4] mM b86 q86.1:=geo Tryz.func86 q86.2
theorem ave:gE ρ 87 1 false [.tmp 2] KP b87 q87.1:=geo Tryz.func87 q87.2
theorem avf:gE ρ 88 2 false [.tmp 4,.tmp 5] KQ b88 q88.1:=geo Tryz.func88 q88.2
theorem avg:gE ρ 89 1 false [.tmp 2] rT b89 q89.1:=geo Tryz.func89 q89.2
theorem avh:gE ρ 90 2 false [.tmp 4,.tmp 5] KS b90 q90.1:=geo Tryz.func90 q90.2
theorem avi:gE ρ 91 1 false [.tmp 2] jK b91 q91.1:=geo Tryz.func91 q91.2
theorem avj:gE ρ 92 1 false [.tmp 2] PY b92 q92.1:=geo Tryz.func92 q92.2
theorem akq:gE ρ 100 2 false [.tmp 4,.tmp 5] En ako akp.1:=geo Tryz.func100 akp.2
theorem akt:gE ρ 101 2 false [.tmp 4] Eo akr aks.1:=geo Tryz.func101 aks.2
theorem akw:gE ρ 102 2 false [.tmp 4] Ep aku akv.1:=geo Tryz.func102 akv.2
theorem akz:gE ρ 103 2 false [.tmp 4] KU akx aky.1:=geo Tryz.func103 aky.2
theorem akB:gE ρ 104 3 false [.tmp 6,.tmp 7] wt L_ akA.1:=geo Tryz.func104 akA.2
theorem akD:gE ρ 105 2 false [.tmp 4,.tmp 5] iw A5 akC.1:=geo Tryz.func105 akC.2
theorem akG:gE ρ 106 2 false [.tmp 4,.tmp 5] Er akE akF.1:=geo Tryz.func106 akF.2
theorem akJ:gE ρ 107 3 false [.tmp 6,.tmp 7] Es akH akI.1:=geo Tryz.func107 akI.2
theorem akM:gE ρ 108 3 false [.tmp 6,.tmp 7] KV akK akL.1:=geo Tryz.func108 akL.2
theorem akO:gE ρ 110 2 false [] hint110 wP akN.1:=geo Tryz.func110 akN.2
theorem akQ:gE ρ 111 2 false [] hint111 zr akP.1:=geo Tryz.func111 akP.2
theorem akS:gE ρ 112 2 false [] hint112 TZ akR.1:=geo Tryz.func112 akR.2
theorem akV:gE ρ 113 1 false [.tmp 2] Et akT akU.1:=geo Tryz.func113 akU.2
theorem akX:gE ρ 114 1 false [.cell 2 81,.tmp 3] ep jV akW.1:=geo Tryz.func114 akW.2
theorem ak0:gE ρ 115 1 false [.tmp 2] hint115 akY akZ.1:=geo Tryz.func115 akZ.2
theorem adf:gE ρ 116 1 false [.tmp 2] Eu ak1 ak2.1:=geo Tryz.func116 ak2.2
theorem ak4:gE ρ 117 3 false [.tmp 6] ni PZ ak3.1:=geo Tryz.func117 ak3.2
theorem ak7:gE ρ 118 2 false [.tmp 4,.tmp 5] Ev ak5 ak6.1:=geo Tryz.func118 ak6.2
theorem ak9:gE ρ 119 1 false [.cell 2 124] eA kD ak8.1:=geo Tryz.func119 ak8.2
theorem alc:gE ρ 120 1 false [.tmp 2] KW ala alb.1:=geo Tryz.func120 alb.2
theorem alf:gE ρ 129 3 false [.tmp 6] Ew ald ale.1:=geo Tryz.func129 ale.2
theorem ali:gE ρ 130 3 false [.tmp 6] Ey alg alh.1:=geo Tryz.func130 alh.2
theorem alm:gE ρ 131 1 false [.tmp 2] KX alj alk.1:=geo Tryz.func131 alk.2
theorem alp:gE ρ 132 1 false [.tmp 2] KY aln alo.1:=geo Tryz.func132 alo.2
theorem als:gE ρ 133 0 false [.tmp 0] Ez alq alr.1:=geo Tryz.func133 alr.2
theorem alv:gE ρ 134 3 false [.cell 6 53,.tmp 7] EA alt alu.1:=geo Tryz.func134 alu.2
theorem aly:gE ρ 135 1 false [.tmp 2] KZ alw alx.1:=geo Tryz.func135 alx.2
theorem alB:gE ρ 136 2 false [.cell 4 55,.tmp 5] EB alz alA.1:=geo Tryz.func136 alA.2
theorem alE:gE ρ 137 1 false [.tmp 2,.tmp 3] EC alC alD.1:=geo Tryz.func137 alD.2
theorem alH:gE ρ 138 4 false [] K0 alF alG.1:=geo Tryz.func138 alG.2
theorem alK:gE ρ 139 3 false [.tmp 6,.tmp 7] ED alI alJ.1:=geo Tryz.func139 alJ.2
theorem alN:gE ρ 140 4 false [] hint140 alL alM.1:=geo Tryz.func140 alM.2
theorem alQ:gE ρ 141 2 false [.tmp 4,.tmp 5] EE alO alP.1:=geo Tryz.func141 alP.2
theorem alS:gE ρ 142 2 false [.tmp 4,.tmp 5,.tmp 6] hint142 T0 alR.1:=geo Tryz.func142 alR.2
theorem adg:gE ρ 143 2 false [.cell 4 139] hint143 alT alU.1:=geo Tryz.func143 alU.2
theorem alW:gE ρ 144 1 false [.tmp 2,.tmp 3,.tmp 4] lS NP alV.1:=geo Tryz.func144 alV.2
end
noncomputable def L?:=bo Tryz.f145
@[go_sem] def alX:=mkQ hint145 L? _
@[go_sem] def XB:=mkR hint145 L? 0 _
theorem alY{ρ:Type}:gE ρ 145 1 false [.tmp 2] hint145 L? alX.1:=geo Tryz.func145 alX.2
noncomputable def alZ:=bo Tryz.f146
@[go_sem] def al0:=mkQ EF alZ _
theorem al1{ρ:Type}:gE ρ 146 2 false [.tmp 4,.tmp 5] EF alZ al0.1:=geo Tryz.func146 al0.2
noncomputable def P0:=bo Tryz.f147
@[go_sem] def al2:=mkQ nj P0 _
@[go_sem] def XD:=mkR nj P0 0 _
theorem al3{ρ:Type}:gE ρ 147 5 false [.tmp 8] nj P0 al2.1:=geo Tryz.func147 al2.2
noncomputable def al4:=bo Tryz.f148
@[go_sem] def al5:=mkQ EG al4 _
theorem al6{ρ:Type}:gE ρ 148 2 false [.tmp 4] EG al4 al5.1:=geo Tryz.func148 al5.2
noncomputable def al7:=bo Tryz.f149
@[go_sem] def al8:=mkQ EH al7 _
theorem al9{ρ:Type}:gE ρ 149 2 false [.cell 4 218] EH al7 al8.1:=geo Tryz.func149 al8.2
noncomputable def L!:=bo Tryz.f150
def D2:=bo Tryz.f151
def ame:=bo Tryz.f152
def amh:=bo Tryz.f153
def Hu:=bo Tryz.f154
def aml:=bo Tryz.f155
def amn:=bo Tryz.f156
def amp:=bo Tryz.f157
def ams:=bo Tryz.f159
def amv:=bo Tryz.f160
def amy:=bo Tryz.f161
def T2:=bo Tryz.f162
def amD:=bo Tryz.f163
def amG:=bo Tryz.f164
def amJ:=bo Tryz.f165
def amM:=bo Tryz.f166
def amP:=bo Tryz.f167
def amS:=bo Tryz.f168
def amV:=bo Tryz.f169
def amY:=bo Tryz.f170
def am1:=bo Tryz.f171
def T3:=bo Tryz.f172
def am6:=bo Tryz.f173
def T4:=bo Tryz.f174
def anb:=bo Tryz.f175
def anf:=bo Tryz.f176
def T5:=bo Tryz.f177
def ank:=bo Tryz.f178
def P1:=bo Tryz.f179
def anp:=bo Tryz.f180
def ans:=bo Tryz.f181
def anv:=bo Tryz.f182
def P2:=bo Tryz.f183
def anB:=bo Tryz.f184
def anE:=bo Tryz.f185
def anH:=bo Tryz.f186
def anJ:=bo Tryz.f187
def anL:=bo Tryz.f188
def anN:=bo Tryz.f189
def anP:=bo Tryz.f190
def anR:=bo Tryz.f192
def anU:=bo Tryz.f193
def anX:=bo Tryz.f194
def an0:=bo Tryz.f195
def an3:=bo Tryz.f196
def T6:=bo Tryz.f197
def an8:=bo Tryz.f198
def ama:=mkQ hint150 L! _
def amc:=mkQ ja D2 _
def XF:=mkR ja D2 0 _
def XG:=mkR ja D2 1 _
def amf:=mkQ EI ame _
def ami:=mkQ EJ amh _
def amk:=mkQ jx Hu _
def Lt:=mkR jx Hu 0 _
def amm:=mkQ EK aml _
def amo:=mkQ EL amn _
def amq:=mkQ EN amp _
def amt:=mkQ EO ams _
def amw:=mkQ EP amv _
def amz:=mkQ EQ amy _
def amB:=mkQ o7 T2 _
def Cw:=mkR o7 T2 0 _
def amE:=mkQ ET amD _
def amH:=mkQ EU amG _
def amK:=mkQ EV amJ _
def amN:=mkQ EW amM _
def amQ:=mkQ EY amP _
def amT:=mkQ K1 amS _
def amW:=mkQ EZ amV _
def amZ:=mkQ E0 amY _
def am2:=mkQ E1 am1 _
def am4:=mkQ o8 T3 _
def Lu:=mkR o8 T3 0 _
def am7:=mkQ E2 am6 _
def am9:=mkQ pb T4 _
def Lv:=mkR pb T4 0 _
def anc:=mkQ E3 anb _
def ang:=mkQ E4 anf _
def ani:=mkQ pc T5 _
def Lw:=mkR pc T5 0 _
def anl:=mkQ K2 ank _
def ann:=mkQ nk P1 _
def Lx:=mkR nk P1 0 _
def anq:=mkQ E5 anp _
def ant:=mkQ E6 ans _
def anw:=mkQ E7 anv _
def anz:=mkQ nq P2 _
def aeZ:=mkR nq P2 0 _
def anC:=mkQ E8 anB _
def anF:=mkQ K3 anE _
def anI:=mkQ E9 anH _
def anK:=mkQ Fa anJ _
def anM:=mkQ Fb anL _
def anO:=mkQ Fc anN _
def anQ:=mkQ Fe anP _
def anS:=mkQ Ff anR _
def anV:=mkQ Fg anU _
def anY:=mkQ Fh anX _
def an1:=mkQ Fi an0 _
def an4:=mkQ Fj an3 _
def an6:=mkQ pd T6 _
def Ly:=mkR pd T6 0 _
def an9:=mkQ Fk an8 _
attribute[go_sem]ama amc XF XG amf ami amk Lt amm amo amq amt amw amz amB Cw amE amH amK amN amQ amT amW amZ am2 am4 Lu am7 am9 Lv anc ang ani Lw anl ann Lx anq ant anw anz aeZ anC anF anI anK anM anO anQ anS anV anY an1 an4 an6 Ly an9
section
variable{ρ:Type}
theorem amb:gE ρ 150 2 false [.tmp 4] hint150 L! ama.1:=geo Tryz.func150 ama.2
theorem amd:gE ρ 151 2 false [] ja D2 amc.1:=geo Tryz.func151 amc.2
theorem amg:gE ρ 152 2 false [.tmp 4] EI ame amf.1:=geo Tryz.func152 amf.2
theorem amj:gE ρ 153 2 false [.tmp 4,.tmp 5] EJ amh ami.1:=geo Tryz.func153 ami.2
theorem xf:gE ρ 154 4 false [.tmp 8,.tmp 9] jx Hu amk.1:=geo Tryz.func154 amk.2
theorem adh:gE ρ 155 3 false [.tmp 4,.tmp 5] EK aml amm.1:=geo Tryz.func155 amm.2
theorem DH:gE ρ 156 3 false [.tmp 6,.tmp 7] EL amn amo.1:=geo Tryz.func156 amo.2
theorem amr:gE ρ 157 2 false [.tmp 4,.tmp 5] EN amp amq.1:=geo Tryz.func157 amq.2
theorem amu:gE ρ 159 2 false [.tmp 4] EO ams amt.1:=geo Tryz.func159 amt.2
theorem amx:gE ρ 160 3 false [.tmp 6,.tmp 7] EP amv amw.1:=geo Tryz.func160 amw.2
theorem amA:gE ρ 161 2 false [.tmp 4] EQ amy amz.1:=geo Tryz.func161 amz.2
theorem amC:gE ρ 162 4 false [.tmp 8,.tmp 9] o7 T2 amB.1:=geo Tryz.func162 amB.2
theorem amF:gE ρ 163 2 false [.tmp 3] ET amD amE.1:=geo Tryz.func163 amE.2
theorem amI:gE ρ 164 2 false [.tmp 3] EU amG amH.1:=geo Tryz.func164 amH.2
theorem amL:gE ρ 165 2 false [.tmp 3] EV amJ amK.1:=geo Tryz.func165 amK.2
theorem amO:gE ρ 166 3 false [.tmp 4] EW amM amN.1:=geo Tryz.func166 amN.2
theorem amR:gE ρ 167 2 false [.tmp 4] EY amP amQ.1:=geo Tryz.func167 amQ.2
theorem amU:gE ρ 168 2 false [.tmp 4] K1 amS amT.1:=geo Tryz.func168 amT.2
theorem amX:gE ρ 169 2 false [.tmp 3] EZ amV amW.1:=geo Tryz.func169 amW.2
theorem am0:gE ρ 170 3 false [.tmp 4] E0 amY amZ.1:=geo Tryz.func170 amZ.2
theorem am3:gE ρ 171 2 false [.tmp 4] E1 am1 am2.1:=geo Tryz.func171 am2.2
theorem am5:gE ρ 172 2 false [.tmp 4,.tmp 5] o8 T3 am4.1:=geo Tryz.func172 am4.2
theorem am8:gE ρ 173 2 false [.cell 4 139] E2 am6 am7.1:=geo Tryz.func173 am7.2
theorem ana:gE ρ 174 3 false [.tmp 6,.tmp 7] pb T4 am9.1:=geo Tryz.func174 am9.2
theorem ane:gE ρ 175 2 false [.tmp 4] E3 anb anc.1:=geo Tryz.func175 anc.2
theorem anh:gE ρ 176 2 false [.tmp 3] E4 anf ang.1:=geo Tryz.func176 ang.2
theorem anj:gE ρ 177 1 false [.cell 2 139] pc T5 ani.1:=geo Tryz.func177 ani.2
theorem anm:gE ρ 178 1 false [.tmp 2] K2 ank anl.1:=geo Tryz.func178 anl.2
theorem ano:gE ρ 179 2 false [.tmp 4] nk P1 ann.1:=geo Tryz.func179 ann.2
theorem anr:gE ρ 180 1 false [.tmp 2] E5 anp anq.1:=geo Tryz.func180 anq.2
theorem anu:gE ρ 181 3 false [.tmp 4,.tmp 5] E6 ans ant.1:=geo Tryz.func181 ant.2
theorem anx:gE ρ 182 3 false [.tmp 6,.tmp 7] E7 anv anw.1:=geo Tryz.func182 anw.2
theorem anA:gE ρ 183 2 false [.tmp 4,.tmp 5] nq P2 anz.1:=geo Tryz.func183 anz.2
theorem anD:gE ρ 184 2 false [.tmp 4,.tmp 5] E8 anB anC.1:=geo Tryz.func184 anC.2
theorem anG:gE ρ 185 1 false [.tmp 2] K3 anE anF.1:=geo Tryz.func185 anF.2
theorem xg:gE ρ 186 0 false [.tmp 0] E9 anH anI.1:=geo Tryz.func186 anI.2
theorem xh:gE ρ 187 4 false [.tmp 8] Fa anJ anK.1:=geo Tryz.func187 anK.2
theorem adi:gE ρ 188 2 false [.tmp 4,.tmp 5] Fb anL anM.1:=geo Tryz.func188 anM.2
theorem DI:gE ρ 189 2 false [.tmp 4,.tmp 5] Fc anN anO.1:=geo Tryz.func189 anO.2
theorem A6:gE ρ 190 1 false [.tmp 2] Fe anP anQ.1:=geo Tryz.func190 anQ.2
theorem anT:gE ρ 192 2 false [.tmp 4] Ff anR anS.1:=geo Tryz.func192 anS.2
theorem anW:gE ρ 193 2 false [.tmp 3] Fg anU anV.1:=geo Tryz.func193 anV.2
theorem anZ:gE ρ 194 2 false [.tmp 4] Fh anX anY.1:=geo Tryz.func194 anY.2
theorem an2:gE ρ 195 3 false [.tmp 6] Fi an0 an1.1:=geo Tryz.func195 an1.2
theorem an5:gE ρ 196 2 false [.tmp 4] Fj an3 an4.1:=geo Tryz.func196 an4.2
theorem an7:gE ρ 197 2 false [.tmp 4] pd T6 an6.1:=geo Tryz.func197 an6.2
end
theorem aoa{ρ:Type}(ds:J D)(H:J Ob)(κ:J T×J Ob->U ρ)(hl:ds.length=1)(hx:iz ds=false):cbK (call 198 ds H) κ=go P hints Fk an8 an9.1 (enter ds H) (kLv P true [.tmp 2] H.length κ):=
 Jr (by decide) rfl rfl Tryz.func198 (by kernel_rfl) an9.2 rfl rfl (by kernel_rfl) rfl (by kernel_rfl) (by kernel_rfl) ds H κ hl (by rw[hx];exact Bool.and_false _)
noncomputable def aob:=bo Tryz.f199
@[go_sem] def aoc:=mkQ Fl aob _
theorem aod{ρ:Type}(ds:J D)(H:J Ob)(κ:J T×J Ob->U ρ)(hl:ds.length=1)(hx:iz ds=false):cbK (call 199 ds H) κ=go P hints Fl aob aoc.1 (enter ds H) (kLv P true [.tmp 2] H.length κ):=
 Jr (by decide) rfl rfl Tryz.func199 (by kernel_rfl) aoc.2 rfl rfl (by kernel_rfl) rfl (by kernel_rfl) (by kernel_rfl) ds H κ hl (by rw[hx];exact Bool.and_false _)
noncomputable def aoe:=bo Tryz.f200
@[go_sem] def aof:=mkQ Fm aoe _
theorem aog{ρ:Type}(ds:J D)(H:J Ob)(κ:J T×J Ob->U ρ)(hl:ds.length=1)(hx:iz ds=false):cbK (call 200 ds H) κ=go P hints Fm aoe aof.1 (enter ds H) (kLv P true [.tmp 2] H.length κ):=
 Jr (by decide) rfl rfl Tryz.func200 (by kernel_rfl) aof.2 rfl rfl (by kernel_rfl) rfl (by kernel_rfl) (by kernel_rfl) ds H κ hl (by rw[hx];exact Bool.and_false _)
def Iw:=bo Tryz.f201
def aoj:=bo Tryz.f202
def aom:=bo Tryz.f203
def aop:=bo Tryz.f204
def aos:=bo Tryz.f205
def aov:=bo Tryz.f206
def aoy:=bo Tryz.f207
def aoB:=bo Tryz.f208
def aoE:=bo Tryz.f209
def aoH:=bo Tryz.f210
def aoJ:=bo Tryz.f211
def aoM:=bo Tryz.f212
def aoP:=bo Tryz.f213
def aoS:=bo Tryz.f214
def aoV:=bo Tryz.f215
def aoY:=bo Tryz.f216
def ao1:=bo Tryz.f217
def ao3:=bo Tryz.f218
def ao5:=bo Tryz.f219
def T7:=bo Tryz.f220
def ao9:=bo Tryz.f221
def apc:=bo Tryz.f222
def apf:=bo Tryz.f223
def api:=bo Tryz.f224
def apl:=bo Tryz.f225
def apo:=bo Tryz.f226
def aoh:=mkQ j9 Iw _
def Lz:=mkR j9 Iw 0 _
def LC:=mkR j9 Iw 1 _
def aok:=mkQ K4 aoj _
def aon:=mkQ Fo aom _
def aoq:=mkQ Fq aop _
def aot:=mkQ Fs aos _
def aow:=mkQ K5 aov _
def aoz:=mkQ Ft aoy _
def aoC:=mkQ Fu aoB _
def aoF:=mkQ Fv aoE _
def aoI:=mkQ Fw aoH _
def aoK:=mkQ K6 aoJ _
def aoN:=mkQ K7 aoM _
def aoQ:=mkQ K8 aoP _
def aoT:=mkQ K9 aoS _
def aoW:=mkQ Lb aoV _
def aoZ:=mkQ Lc aoY _
def ao2:=mkQ Fx ao1 _
def ao4:=mkQ Ld ao3 _
def ao6:=mkQ Fy ao5 _
def ao7:=mkQ pf T7 _
def LG:=mkR pf T7 0 _
def apa:=mkQ Fz ao9 _
def apd:=mkQ FA apc _
def apg:=mkQ FB apf _
def apj:=mkQ FC api _
def apm:=mkQ FD apl _
def app:=mkQ FE apo _
attribute[go_sem]aoh Lz LC aok aon aoq aot aow aoz aoC aoF aoI aoK aoN aoQ aoT aoW aoZ ao2 ao4 ao6 ao7 LG apa apd apg apj apm app
section
variable{ρ:Type}
theorem aoi:gE ρ 201 1 false [.tmp 2] j9 Iw aoh.1:=geo Tryz.func201 aoh.2
theorem aol:gE ρ 202 1 false [.tmp 2] K4 aoj aok.1:=geo Tryz.func202 aok.2
theorem aoo:gE ρ 203 2 false [.tmp 4,.tmp 5] Fo aom aon.1:=geo Tryz.func203 aon.2
theorem aor:gE ρ 204 3 false [.tmp 6,.tmp 7,.tmp 8] Fq aop aoq.1:=geo Tryz.func204 aoq.2
theorem aou:gE ρ 205 2 false [.tmp 4,.tmp 5] Fs aos aot.1:=geo Tryz.func205 aot.2
theorem aox:gE ρ 206 1 false [.tmp 2] K5 aov aow.1:=geo Tryz.func206 aow.2
theorem aoA:gE ρ 207 2 false [.tmp 4,.tmp 5] Ft aoy aoz.1:=geo Tryz.func207 aoz.2
theorem aoD:gE ρ 208 2 false [.tmp 4,.tmp 5] Fu aoB aoC.1:=geo Tryz.func208 aoC.2
theorem aoG:gE ρ 209 2 false [.tmp 4,.tmp 5] Fv aoE aoF.1:=geo Tryz.func209 aoF.2
theorem xi:gE ρ 210 2 false [.cell 4 232] Fw aoH aoI.1:=geo Tryz.func210 aoI.2
theorem aoL:gE ρ 211 2 false [.tmp 4] K6 aoJ aoK.1:=geo Tryz.func211 aoK.2
theorem aoO:gE ρ 212 2 false [.tmp 4] K7 aoM aoN.1:=geo Tryz.func212 aoN.2
theorem aoR:gE ρ 213 2 false [.tmp 4] K8 aoP aoQ.1:=geo Tryz.func213 aoQ.2
theorem aoU:gE ρ 214 2 false [.tmp 4] K9 aoS aoT.1:=geo Tryz.func214 aoT.2
theorem aoX:gE ρ 215 2 false [.tmp 4] Lb aoV aoW.1:=geo Tryz.func215 aoW.2
theorem ao0:gE ρ 216 2 false [.tmp 4] Lc aoY aoZ.1:=geo Tryz.func216 aoZ.2
theorem jb:gE ρ 217 2 false [.tmp 4] Fx ao1 ao2.1:=geo Tryz.func217 ao2.2
theorem adj:gE ρ 218 2 false [.tmp 4] Ld ao3 ao4.1:=geo Tryz.func218 ao4.2
theorem Q6:gE ρ 219 3 false [.tmp 6,.tmp 7] Fy ao5 ao6.1:=geo Tryz.func219 ao6.2
theorem ao8:gE ρ 220 2 false [.tmp 4] pf T7 ao7.1:=geo Tryz.func220 ao7.2
theorem apb:gE ρ 221 2 false [.tmp 3] Fz ao9 apa.1:=geo Tryz.func221 apa.2
theorem ape:gE ρ 222 3 false [.tmp 4] FA apc apd.1:=geo Tryz.func222 apd.2
theorem aph:gE ρ 223 3 false [.cell 6 53,.tmp 7,.tmp 8] FB apf apg.1:=geo Tryz.func223 apg.2
theorem apk:gE ρ 224 2 false [.tmp 4,.tmp 5] FC api apj.1:=geo Tryz.func224 apj.2
theorem apn:gE ρ 225 3 false [.tmp 6] FD apl apm.1:=geo Tryz.func225 apm.2
end
theorem apq{ρ:Type}(ds:J D)(H:J Ob)(κ:J T×J Ob->U ρ)(hl:ds.length=1)(hx:iz ds=false):cbK (call 226 ds H) κ=go P hints FE apo app.1 (enter ds H) (kLv P true [.tmp 2] H.length κ):=
 Jr (by decide) rfl rfl Tryz.func226 (by kernel_rfl) app.2 rfl rfl (by kernel_rfl) rfl (by kernel_rfl) (by kernel_rfl) ds H κ hl (by rw[hx];exact Bool.and_false _)
def apr:=bo Tryz.f227
def apu:=bo Tryz.f228
def apx:=bo Tryz.f229
def apA:=bo Tryz.f230
def M_:=bo Tryz.f231
def apE:=bo Tryz.f232
def apH:=bo Tryz.f250
def apK:=bo Tryz.f251
def apN:=bo Tryz.f252
def apQ:=bo Tryz.f253
def apT:=bo Tryz.f254
def apW:=bo Tryz.f255
def apZ:=bo Tryz.f256
def ap2:=bo Tryz.f257
def ap5:=bo Tryz.f258
def ap8:=bo Tryz.f259
def aqb:=bo Tryz.f260
def aqe:=bo Tryz.f261
def XJ:=bo Tryz.f262
def aqj:=bo Tryz.f263
def aql:=bo Tryz.f264
def aps:=mkQ FF apr _
def apv:=mkQ Le apu _
def apy:=mkQ Lf apx _
def apB:=mkQ FG apA _
def apC:=mkQ wu M_ _
def XH:=mkR wu M_ 0 _
def apF:=mkQ FH apE _
def apI:=mkQ FI apH _
def apL:=mkQ FJ apK _
def apO:=mkQ FK apN _
def apR:=mkQ FL apQ _
def apU:=mkQ FM apT _
def apX:=mkQ FN apW _
def ap0:=mkQ FO apZ _
def ap3:=mkQ FP ap2 _
def ap6:=mkQ FQ ap5 _
def ap9:=mkQ Lg ap8 _
def aqc:=mkQ FS aqb _
def aqf:=mkQ Lh aqe _
def aqh:=mkQ rU XJ _
def XK:=mkR rU XJ 0 _
def aqk:=mkQ FT aqj _
def aqm:=mkQ FU aql _
attribute[go_sem]aps apv apy apB apC XH apF apI apL apO apR apU apX ap0 ap3 ap6 ap9 aqc aqf aqh XK aqk aqm
section
variable{ρ:Type}
theorem apt:gE ρ 227 2 false [.tmp 4,.tmp 5] FF apr aps.1:=geo Tryz.func227 aps.2
theorem apw:gE ρ 228 2 false [.tmp 4] Le apu apv.1:=geo Tryz.func228 apv.2
theorem apz:gE ρ 229 2 false [.tmp 4] Lf apx apy.1:=geo Tryz.func229 apy.2
theorem Js:gE ρ 230 3 false [.tmp 5,.tmp 6] FG apA apB.1:=geo Tryz.func230 apB.2
theorem apD:gE ρ 231 1 false [.tmp 2] wu M_ apC.1:=geo Tryz.func231 apC.2
theorem apG:gE ρ 232 3 false [.tmp 6,.tmp 7] FH apE apF.1:=geo Tryz.func232 apF.2
theorem apJ:gE ρ 250 2 false [.tmp 4] FI apH apI.1:=geo Tryz.func250 apI.2
theorem apM:gE ρ 251 3 false [.tmp 6] FJ apK apL.1:=geo Tryz.func251 apL.2
theorem apP:gE ρ 252 2 false [.tmp 4] FK apN apO.1:=geo Tryz.func252 apO.2
theorem apS:gE ρ 253 2 false [.tmp 4] FL apQ apR.1:=geo Tryz.func253 apR.2
theorem apV:gE ρ 254 2 false [.tmp 4] FM apT apU.1:=geo Tryz.func254 apU.2
theorem apY:gE ρ 255 2 false [.tmp 4,.tmp 5] FN apW apX.1:=geo Tryz.func255 apX.2
theorem ap1:gE ρ 256 1 false [.tmp 2] FO apZ ap0.1:=geo Tryz.func256 ap0.2
theorem ap4:gE ρ 257 2 false [.tmp 4] FP ap2 ap3.1:=geo Tryz.func257 ap3.2
theorem ap7:gE ρ 258 1 true [.tmp 2] FQ ap5 ap6.1:=geo Tryz.func258 ap6.2
theorem aqa:gE ρ 259 3 false [.tmp 6] Lg ap8 ap9.1:=geo Tryz.func259 ap9.2
theorem aqd:gE ρ 260 2 false [.tmp 4] FS aqb aqc.1:=geo Tryz.func260 aqc.2
theorem aqg:gE ρ 261 1 false [.tmp 2] Lh aqe aqf.1:=geo Tryz.func261 aqf.2
theorem aqi:gE ρ 262 2 false [.tmp 4] rU XJ aqh.1:=geo Tryz.func262 aqh.2
theorem adk:gE ρ 263 2 false [.tmp 4] FT aqj aqk.1:=geo Tryz.func263 aqk.2
theorem aqn:gE ρ 264 1 false [.tmp 2,.tmp 3,.tmp 4] FU aql aqm.1:=geo Tryz.func264 aqm.2
end
end
@[go_sem] def fH(b:Bool)(l:J (Int)):D:=.sl b (List.map eI l)
@[go_sem] theorem aih(l:J (Int)):D.aZ (List.map eI l)=true:=fO λx=>by simp[go_sem]
@[go_sem] theorem ae0(l:J (Int)):D.bl (List.map eI l)=List.map eI l:=kn λx=>by simp[go_sem]
@[go_sem] theorem aii(n:Nat)(l:J (Int)):D.aQ n (List.map eI l)=true:=gB λx=>by simp[go_sem,D.low,D.aQ]
@[go_sem] theorem aij(l:J (Int)):dW 1 (tl eI l)=true:=eP λx=>by simp[go_sem,D.nc]
@[go_sem] theorem aik(b:Bool)(l:J (Int)):T.aY b (tl eI l)=some (List.map eI l):=hZ λx=>by simp[go_sem,D.norm,D.br]
@[go_sem] theorem ail(n:Nat)(l:J (Int)):T.aQ n (tl eI l)=true:=H? λx=>by simp[go_sem,D.low,D.aQ]
structure aB where
 Name:List UInt8
 aC:Int
 aH:Int
 Lo:Int
 Hi:Int
 Init:Int
 deriving DecidableEq
@[go_sem] def dH(x:aB):D:=.agg [eS x.Name,eI x.aC,eI x.aH,eI x.Lo,eI x.Hi,eI x.Init]
@[go_sem] theorem atj(x:aB):(aB.mk x.Name x.aC x.aH x.Lo x.Hi x.Init)=x:=rfl
structure aD where
 Name:List UInt8
 aC:Int
 bm:Int
 Lo:Int
 Hi:Int
 Lossy:Bool
 deriving DecidableEq
@[go_sem] def dM(x:aD):D:=.agg [eS x.Name,eI x.aC,eI x.bm,eI x.Lo,eI x.Hi,eB x.Lossy]
structure GStep where
 Cmd:Int
 Way:Int
 deriving DecidableEq
structure bc where
 Inst:Int
 Cmd:Int
 deriving DecidableEq
@[go_sem] def uF(x:bc):D:=.agg [eI x.Inst,eI x.Cmd]
structure aE where
 cr:Int
 Elem:Int
 deriving DecidableEq
@[go_sem] def gU(x:aE):D:=.agg [eI x.cr,eI x.Elem]
structure aw where
 Name:List UInt8
 cS:Int
 deriving DecidableEq
@[go_sem] def dz(x:aw):D:=.agg [eS x.Name,eI x.cS]
structure aF where
 Op:Int
 N:Int
 deriving DecidableEq
@[go_sem] def eH(x:aF):D:=.agg [eI x.Op,eI x.N]
@[go_sem] theorem aqo(x:aF):(aF.mk x.Op x.N)=x:=rfl
@[go_sem] def XM(b:Bool)(l:J (J UInt8)):D:=.sl b (List.map eS l)
@[go_sem] theorem M?(l:J (J UInt8)):D.aZ (List.map eS l)=true:=fO λx=>by simp[go_sem]
@[go_sem] theorem M!(n:Nat)(l:J (J UInt8)):D.aQ n (List.map eS l)=true:=gB λx=>by simp[go_sem,D.low,D.aQ]
@[go_sem] theorem N_(l:J (J UInt8)):dW 1 (tl eS l)=true:=eP λx=>by simp[go_sem,D.nc]
@[go_sem] theorem N?(b:Bool)(l:J (J UInt8)):T.aY b (tl eS l)=some (List.map eS l):=hZ λx=>by simp[go_sem,D.norm,D.br]
structure aA where
 Sort_:Int
 Which:Int
 Place:Int
 Lo:Int
 Hi:Int
 Kind:Int
 deriving DecidableEq
@[go_sem] def gm(x:aA):D:=.agg [eI x.Sort_,eI x.Which,eI x.Place,eI x.Lo,eI x.Hi,eI x.Kind]
structure ar where
 lo:Int
 hi:Int
 kind:Int
 deriving DecidableEq
@[go_sem] def dK(x:ar):D:=.agg [eI x.lo,eI x.hi,eI x.kind]
@[go_sem] theorem Q7(x:ar):(ar.mk x.lo x.hi x.kind)=x:=rfl
structure bu where
 sort:Int
 which:Int
 place:Int
 kind:Int
 deriving DecidableEq
@[go_sem] def fC(x:bu):D:=.agg [eI x.sort,eI x.which,eI x.place,eI x.kind]
@[go_sem] def fP(b:Bool)(l:J (aw)):D:=.sl b (List.map dz l)
@[go_sem] theorem N!(l:J (aw)):D.aZ (List.map dz l)=true:=fO λx=>by simp[go_sem]
@[go_sem] theorem h?(l:J (aw)):D.bl (List.map dz l)=List.map dz l:=kn λx=>by simp[go_sem]
@[go_sem] theorem O_(n:Nat)(l:J (aw)):D.aQ n (List.map dz l)=true:=gB λx=>by simp[go_sem,D.low,D.aQ]
@[go_sem] theorem O?(l:J (aw)):dW 2 (tl dz l)=true:=eP λx=>by simp[go_sem,D.nc]
@[go_sem] theorem O!(b:Bool)(l:J (aw)):T.aY b (tl dz l)=some (List.map dz l):=hZ λx=>by simp[go_sem,D.norm,D.br]
@[go_sem] def tz(b:Bool)(l:J (aB)):D:=.sl b (List.map dH l)
@[go_sem] theorem aim(l:J (aB)):D.aZ (List.map dH l)=true:=fO λx=>by simp[go_sem]
@[go_sem] theorem ae1(l:J (aB)):D.bl (List.map dH l)=List.map dH l:=kn λx=>by simp[go_sem]
@[go_sem] theorem ain(n:Nat)(l:J (aB)):D.aQ n (List.map dH l)=true:=gB λx=>by simp[go_sem,D.low,D.aQ]
@[go_sem] theorem aio(l:J (aB)):dW 6 (tl dH l)=true:=eP λx=>by simp[go_sem,D.nc]
@[go_sem] theorem aip(b:Bool)(l:J (aB)):T.aY b (tl dH l)=some (List.map dH l):=hZ λx=>by simp[go_sem,D.norm,D.br]
@[go_sem] def zt(b:Bool)(l:J (aD)):D:=.sl b (List.map dM l)
@[go_sem] theorem ae2(l:J (aD)):D.aZ (List.map dM l)=true:=fO λx=>by simp[go_sem]
@[go_sem] theorem adl(l:J (aD)):D.bl (List.map dM l)=List.map dM l:=kn λx=>by simp[go_sem]
@[go_sem] theorem ae3(n:Nat)(l:J (aD)):D.aQ n (List.map dM l)=true:=gB λx=>by simp[go_sem,D.low,D.aQ]
@[go_sem] theorem ae4(l:J (aD)):dW 6 (tl dM l)=true:=eP λx=>by simp[go_sem,D.nc]
@[go_sem] theorem ae5(b:Bool)(l:J (aD)):T.aY b (tl dM l)=some (List.map dM l):=hZ λx=>by simp[go_sem,D.norm,D.br]
@[go_sem] def nT(b:Bool)(l:J (aF)):D:=.sl b (List.map eH l)
@[go_sem] theorem ae6(l:J (aF)):D.aZ (List.map eH l)=true:=fO λx=>by simp[go_sem]
@[go_sem] theorem adm(l:J (aF)):D.bl (List.map eH l)=List.map eH l:=kn λx=>by simp[go_sem]
@[go_sem] theorem ae7(n:Nat)(l:J (aF)):D.aQ n (List.map eH l)=true:=gB λx=>by simp[go_sem,D.low,D.aQ]
@[go_sem] theorem ae8(l:J (aF)):dW 2 (tl eH l)=true:=eP λx=>by simp[go_sem,D.nc]
@[go_sem] theorem ae9(b:Bool)(l:J (aF)):T.aY b (tl eH l)=some (List.map eH l):=hZ λx=>by simp[go_sem,D.norm,D.br]
@[go_sem] theorem aiq(l:J (bc)):D.aZ (List.map uF l)=true:=fO λx=>by simp[go_sem]
@[go_sem] theorem afa(l:J (bc)):D.bl (List.map uF l)=List.map uF l:=kn λx=>by simp[go_sem]
@[go_sem] theorem air(n:Nat)(l:J (bc)):D.aQ n (List.map uF l)=true:=gB λx=>by simp[go_sem,D.low,D.aQ]
@[go_sem] theorem ais(l:J (bc)):dW 2 (tl uF l)=true:=eP λx=>by simp[go_sem,D.nc]
@[go_sem] theorem ait(b:Bool)(l:J (bc)):T.aY b (tl uF l)=some (List.map uF l):=hZ λx=>by simp[go_sem,D.norm,D.br]
@[go_sem] theorem aiu(l:J bc)(b:Int)(a:Int):tl uF l++[.d (.agg [eI b,eI a])]=tl uF (l++[(bc.mk b a)]):=nh (x:=(bc.mk b a))
structure cH where
 Cmd:Int
 Way:Int
 To:List Int
 deriving DecidableEq
@[go_sem] def pg(b:Bool)(x:cH):D:=.agg [eI x.Cmd,eI x.Way,(fH b) x.To]
@[go_sem] def P3(b:Bool)(l:J (J Int)):D:=.sl b (List.map (fH b) l)
@[go_sem] theorem afb(l:J (J Int)):D.aZ (List.map (fH false) l)=true:=fO λx=>by simp[go_sem]
@[go_sem] theorem adn(b:Bool)(l:J (J Int)):D.bl (List.map (fH b) l)=List.map (fH true) l:=qw λx=>by simp[go_sem]
@[go_sem] theorem afc(b:Bool)(n:Nat)(l:J (J Int)):D.aQ n (List.map (fH b) l)=true:=gB λx=>by simp[go_sem,D.low,D.aQ]
@[go_sem] theorem afd(b:Bool)(l:J (J Int)):dW 1 (tl (fH b) l)=true:=eP λx=>by simp[go_sem,D.nc]
@[go_sem] theorem afe(b c:Bool)(l:J (J Int)):T.aY c (tl (fH b) l)=some (List.map (fH b) l):=hZ λx=>by simp[go_sem,D.norm,D.br]
@[go_sem] theorem aff(b:Bool)(l:J (J Int))(x:J Int):tl (fH b) l++[.d (.sl b (List.map eI x))]=tl (fH b) (l++[x]):=nh
structure bO where
 aq:List Int
 ah:List Int
 Insts:List Int
 Cells:Int
 Lo:List Int
 Hi:List Int
 deriving DecidableEq
@[go_sem] def wv(b:Bool)(x:bO):D:=.agg [(fH b) x.aq,(fH b) x.ah,(fH b) x.Insts,eI x.Cells,(fH b) x.Lo,(fH b) x.Hi]
@[go_sem] theorem afg(x:bO):(bO.mk x.aq x.ah x.Insts x.Cells x.Lo x.Hi)=x:=rfl
@[go_sem] theorem afh(l:J (aE)):D.aZ (List.map gU l)=true:=fO λx=>by simp[go_sem]
@[go_sem] theorem ado(l:J (aE)):D.bl (List.map gU l)=List.map gU l:=kn λx=>by simp[go_sem]
@[go_sem] theorem afi(n:Nat)(l:J (aE)):D.aQ n (List.map gU l)=true:=gB λx=>by simp[go_sem,D.low,D.aQ]
@[go_sem] theorem afj(l:J (aE)):dW 2 (tl gU l)=true:=eP λx=>by simp[go_sem,D.nc]
@[go_sem] theorem afk(b:Bool)(l:J (aE)):T.aY b (tl gU l)=some (List.map gU l):=hZ λx=>by simp[go_sem,D.norm,D.br]
@[go_sem] theorem afl(l:J aE)(b:Int)(a:Int):tl gU l++[.d (.agg [eI b,eI a])]=tl gU (l++[(aE.mk b a)]):=nh (x:=(aE.mk b a))
@[go_sem] theorem XN(l:J (aA)):D.aZ (List.map gm l)=true:=fO λx=>by simp[go_sem]
@[go_sem] theorem XS(l:J (aA)):dW 6 (tl gm l)=true:=eP λx=>by simp[go_sem,D.nc]
@[go_sem] theorem XV(b:Bool)(l:J (aA)):T.aY b (tl gm l)=some (List.map gm l):=hZ λx=>by simp[go_sem,D.norm,D.br]
@[go_sem] theorem XW(l:J aA)(f:Int)(a:Int)(b:Int)(c:Int)(e:Int)(d:Int):tl gm l++[.d (.agg [eI f,eI a,eI b,eI c,eI e,eI d])]=tl gm (l++[(aA.mk f a b c e d)]):=nh (x:=(aA.mk f a b c e d))
@[go_sem] theorem Q8(l:J (bu)):D.aZ (List.map fC l)=true:=fO λx=>by simp[go_sem]
@[go_sem] theorem Q9(n:Nat)(l:J (bu)):D.aQ n (List.map fC l)=true:=gB λx=>by simp[go_sem,D.low,D.aQ]
@[go_sem] theorem Ra(l:J (bu)):dW 4 (tl fC l)=true:=eP λx=>by simp[go_sem,D.nc]
@[go_sem] theorem Rb(b:Bool)(l:J (bu)):T.aY b (tl fC l)=some (List.map fC l):=hZ λx=>by simp[go_sem,D.norm,D.br]
@[go_sem] theorem Rd(l:J bu)(d:Int)(a:Int)(b:Int)(c:Int):tl fC l++[.d (.agg [eI d,eI a,eI b,eI c])]=tl fC (l++[(bu.mk d a b c)]):=nh (x:=(bu.mk d a b c))
@[go_sem] theorem OP(l:J (ar)):D.aZ (List.map dK l)=true:=fO λx=>by simp[go_sem]
@[go_sem] theorem OQ(n:Nat)(l:J (ar)):D.aQ n (List.map dK l)=true:=gB λx=>by simp[go_sem,D.low,D.aQ]
@[go_sem] theorem OR(l:J (ar)):dW 3 (tl dK l)=true:=eP λx=>by simp[go_sem,D.nc]
@[go_sem] theorem OS(b:Bool)(l:J (ar)):T.aY b (tl dK l)=some (List.map dK l):=hZ λx=>by simp[go_sem,D.norm,D.br]
@[go_sem] theorem OU(l:J ar)(c:Int)(a:Int)(b:Int):tl dK l++[.d (.agg [eI c,eI a,eI b])]=tl dK (l++[(ar.mk c a b)]):=nh (x:=(ar.mk c a b))
@[go_sem] theorem P4(c:Int)(a:Int)(b:Int):TW [.d (.agg [eI c,eI a,eI b])]=tl dK [(ar.mk c a b)]:=rfl
@[go_sem] theorem afm(l:J (cH)):D.aZ (List.map (pg false) l)=true:=fO λx=>by simp[go_sem]
@[go_sem] theorem afn(b:Bool)(n:Nat)(l:J (cH)):D.aQ n (List.map (pg b) l)=true:=gB λx=>by simp[go_sem,D.low,D.aQ]
@[go_sem] theorem afo(b:Bool)(l:J (cH)):dW 3 (tl (pg b) l)=true:=eP λx=>by simp[go_sem,D.nc]
@[go_sem] theorem afp(b c:Bool)(l:J (cH)):T.aY c (tl (pg b) l)=some (List.map (pg b) l):=hZ λx=>by simp[go_sem,D.norm,D.br]
structure aP where
 Kind:Int
 To:Int
 Local:Int
 Index:List aF
 Value:List aF
 deriving DecidableEq
@[go_sem] def jL(b:Bool)(x:aP):D:=.agg [eI x.Kind,eI x.To,eI x.Local,(nT b) x.Index,(nT b) x.Value]
@[go_sem] theorem atk(x:aP):(aP.mk x.Kind x.To x.Local x.Index x.Value)=x:=rfl
structure cw where
 aq:List (List Int)
 Lens:List Int
 bB:List Int
 At:List (List Int)
 Self:Int
 deriving DecidableEq
@[go_sem] def afq(b:Bool)(x:cw):D:=.agg [(P3 b) x.aq,(fH b) x.Lens,(fH b) x.bB,(P3 b) x.At,eI x.Self]
structure aW where
 Name:List UInt8
 Expr:List aF
 deriving DecidableEq
@[go_sem] def e9(b:Bool)(x:aW):D:=.agg [eS x.Name,(nT b) x.Expr]
@[go_sem] def P5(b:Bool)(l:J (aW)):D:=.sl b (List.map (e9 b) l)
@[go_sem] theorem afr(l:J (aW)):D.aZ (List.map (e9 false) l)=true:=fO λx=>by simp[go_sem]
@[go_sem] theorem adp(b:Bool)(l:J (aW)):D.bl (List.map (e9 b) l)=List.map (e9 true) l:=qw λx=>by simp[go_sem]
@[go_sem] theorem afs(b:Bool)(n:Nat)(l:J (aW)):D.aQ n (List.map (e9 b) l)=true:=gB λx=>by simp[go_sem,D.low,D.aQ]
@[go_sem] def Jt(b:Bool)(l:J (aP)):D:=.sl b (List.map (jL b) l)
@[go_sem] theorem aiv(l:J (aP)):D.aZ (List.map (jL false) l)=true:=fO λx=>by simp[go_sem]
@[go_sem] theorem aft(b:Bool)(l:J (aP)):D.bl (List.map (jL b) l)=List.map (jL true) l:=qw λx=>by simp[go_sem]
@[go_sem] theorem aiw(b:Bool)(n:Nat)(l:J (aP)):D.aQ n (List.map (jL b) l)=true:=gB λx=>by simp[go_sem,D.low,D.aQ]
@[go_sem] theorem aix(b:Bool)(l:J (aP)):dW 5 (tl (jL b) l)=true:=eP λx=>by simp[go_sem,D.nc]
@[go_sem] theorem aiy(b c:Bool)(l:J (aP)):T.aY c (tl (jL b) l)=some (List.map (jL b) l):=hZ λx=>by simp[go_sem,D.norm,D.br]
structure aK where
 Name:List UInt8
 dk:Int
 To:Int
 Guard:List aF
 aM:List aP
 Fair:Bool
 deriving DecidableEq
@[go_sem] def fQ(b:Bool)(x:aK):D:=.agg [eS x.Name,eI x.dk,eI x.To,(nT b) x.Guard,(Jt b) x.aM,eB x.Fair]
@[go_sem] theorem atl(x:aK):(aK.mk x.Name x.dk x.To x.Guard x.aM x.Fair)=x:=rfl
@[go_sem] def XX(b:Bool)(l:J (aK)):D:=.sl b (List.map (fQ b) l)
@[go_sem] theorem aiz(l:J (aK)):D.aZ (List.map (fQ false) l)=true:=fO λx=>by simp[go_sem]
@[go_sem] theorem afu(b:Bool)(l:J (aK)):D.bl (List.map (fQ b) l)=List.map (fQ true) l:=qw λx=>by simp[go_sem]
@[go_sem] theorem aiA(b:Bool)(n:Nat)(l:J (aK)):D.aQ n (List.map (fQ b) l)=true:=gB λx=>by simp[go_sem,D.low,D.aQ]
@[go_sem] theorem aiB(b:Bool)(l:J (aK)):dW 6 (tl (fQ b) l)=true:=eP λx=>by simp[go_sem,D.nc]
@[go_sem] theorem aiC(b c:Bool)(l:J (aK)):T.aY c (tl (fQ b) l)=some (List.map (fQ b) l):=hZ λx=>by simp[go_sem,D.norm,D.br]
structure az where
 Name:List UInt8
 aH:Int
 bE:Int
 aq:List aB
 aO:List aK
 deriving DecidableEq
@[go_sem] def dI(b:Bool)(x:az):D:=.agg [eS x.Name,eI x.aH,eI x.bE,(tz b) x.aq,(XX b) x.aO]
@[go_sem] theorem aqp(x:az):(az.mk x.Name x.aH x.bE x.aq x.aO)=x:=rfl
@[go_sem] def LH(b:Bool)(l:J (az)):D:=.sl b (List.map (dI b) l)
@[go_sem] theorem afv(l:J (az)):D.aZ (List.map (dI false) l)=true:=fO λx=>by simp[go_sem]
@[go_sem] theorem adq(b:Bool)(l:J (az)):D.bl (List.map (dI b) l)=List.map (dI true) l:=qw λx=>by simp[go_sem]
@[go_sem] theorem afw(b:Bool)(n:Nat)(l:J (az)):D.aQ n (List.map (dI b) l)=true:=gB λx=>by simp[go_sem,D.low,D.aQ]
@[go_sem] theorem afx(b:Bool)(l:J (az)):dW 5 (tl (dI b) l)=true:=eP λx=>by simp[go_sem,D.nc]
@[go_sem] theorem afy(b c:Bool)(l:J (az)):T.aY c (tl (dI b) l)=some (List.map (dI b) l):=hZ λx=>by simp[go_sem,D.norm,D.br]
structure ae where
 aa:List aw
 aq:List aB
 ah:List aD
 ak:List az
 aL:List aW
 deriving DecidableEq
@[go_sem] def gv(b:Bool)(x:ae):D:=.agg [(fP b) x.aa,(tz b) x.aq,(zt b) x.ah,(LH b) x.ak,(P5 b) x.aL]
@[go_sem] theorem aiD(x:ae):(ae.mk x.aa x.aq x.ah x.ak x.aL)=x:=rfl
structure au where
 aa:List aw
 aq:List aB
 ah:List aD
 ak:List az
 bB:List aB
 Self:Int
 deriving DecidableEq
@[go_sem] def ii(b:Bool)(x:au):D:=.agg [(fP b) x.aa,(tz b) x.aq,(zt b) x.ah,(LH b) x.ak,(tz b) x.bB,eI x.Self]
@[go_sem] theorem aiE(x:au):(au.mk x.aa x.aq x.ah x.ak x.bB x.Self)=x:=rfl
theorem LI(a b:J UInt8):ew P 9 (eS a) (eS b)=some (decide (a=b)):=by show((iX P 9).bind λn=>eqK n (.str a) (.str b))=_;rw[t9.2.2.2.2.1];exact congrArg some (Bool.eq_iff_iff.2 (by simp only[beq_iff_eq,yD]))
@[go_sem] theorem aqq(x:J UInt8):ew P 9 (.str x) (.str x)=some true:=by have h:=LI x x;simpa [go_sem]using h
@[go_sem] theorem atm(l:J (J UInt8×Bool))(x:J UInt8)(a:Bool):rQ P 183 (.map (jw eS eB l)) (.str x) a=some (if a=true then .aS [.d (eB (kC false l x)),.d (.bool (aeR l x))]else .d (eB (kC false l x))):=NM (kt:=9) (e:=4) (fk:=eS) (fv:=eB) (k:=x) (by kernel_rfl) LI (by kernel_rfl)
@[go_sem] theorem avk(l:J (J UInt8×Bool))(x:J UInt8)(y:Bool):ux P 183 (.map (jw eS eB l)) (.str x) (.bool y)=some (jw eS eB (kS l x y)):=PW (kt:=9) (e:=4) (fk:=eS) (fv:=eB) (k:=x) (v:=y) (by kernel_rfl) LI
@[go_sem] theorem aqr(l:J (J UInt8×Bool)):(jw eS eB l).all (λe=>e.1.cW&&e.2.cW)=true:=Xc (λx=>by simp[go_sem]) (λx=>by simp[go_sem]) l
end Go.Etx
namespace Go.Am
open Go
section
variable{α β σ τ ρ:Type}
theorem dC{x:Int}(h1:-9223372036854775808<=x)(h2:x<=9223372036854775807):IntKind.i64.wrap x=x:=kO h1 h2
theorem eM{k:Nat}(h:k<4611686018427387904):IntKind.i64.wrap ((k:Int)+1)=((k+1:Nat):Int):=by rw[kO (by omega) (by omega)];omega
theorem nU{Φ:τ->(τ->U ρ)->U ρ}(N:Nat)(mk:Nat->τ)(p:Nat->U (U ρ))(a:U ρ)
  (d:∀i k,i<N->Φ (mk i) k=match p i with |some r=>r |none=>k (mk (i+1))) (e:∀k,Φ (mk N) k=a):im Φ (mk 0)=((List.range N).findSome? p).getD a:=by
 have b:∀n j,j<=N->N - j<n->zq Φ n (mk j)=((List.range' j (N - j)).findSome? p).getD a:=by
  intro n
  induction n with
  |zero=>intro j _ h;omega
  |succ n f=>
   intro j g h;show Φ (mk j) (zq Φ n)=_
   by_cases c:j=N
   .subst c;rw[e,re];rfl
   .rw[d j _ (by omega),show N - j=(N - (j+1))+1 by omega,v7,List.findSome?_cons]
    cases p j with
    |some r=>rfl
    |none=>exact f (j+1) (by omega) (by omega)
 refine AY (N+1) λn l=> ?_
 rw[b n 0 (by omega) (by omega),mY]
 rfl
theorem T8{Φ:τ->(τ->U ρ)->U ρ}(N:Nat)(mk:Nat->τ)(b:U ρ)
  (c:∀i k,i<N->Φ (mk i) k=k (mk (i+1))) (hf:∀k,Φ (mk N) k=b):im Φ (mk 0)=b:=by
 rw[nU N mk (λ_=>none) b (λi k h=>c i k h) hf]
 have:∀l:J Nat,l.findSome? (λ_=>(none:U (U ρ)))=none:=λl=>by induction l with |nil=>rfl |cons a l d=>exact d
 rw[this];rfl
theorem X0{p:Nat->Bool}{x b:U ρ}(N:Nat):((List.range N).findSome? λi=>if p i=true then none else some x).getD b=if ∀i,i<N->p i=true then b else x:=by
 have:∀l:J Nat,(l.findSome? λi=>if p i=true then none else some x).getD b=if ∀i∈l,p i=true then b else x:=λl=>by
  induction l with
  |nil=>simp
  |cons a l d=>
   rw[List.findSome?_cons]
   cases c:p a
   .simp[c]
   .simp only[if_true,d,List.forall_mem_cons,c,true_and]
 rw[this];simp only[List.mem_range]
theorem iterC_all{Φ:τ->(τ->U ρ)->U ρ}(N:Nat)(mk:Nat->τ)(p:Nat->Bool)(x a:U ρ)
  (b:∀i k,i<N->Φ (mk i) k=if p i=true then k (mk (i+1))else x) (hf:∀k,Φ (mk N) k=a):im Φ (mk 0)=if ∀i,i<N->p i=true then a else x:=by
 rw[nU N mk (λi=>if p i=true then none else some x) a (λi k h=>by rw[b i k h];cases p i <;>rfl) hf,X0]
theorem iterC_runE{Φ:τ->(τ->U ρ)->U ρ}{v:τ}(N:Nat)(mk:Nat->τ)(h0:v=mk 0){a:U ρ}
  (b:∀i k,i<N->Φ (mk i) k=k (mk (i+1))) (hf:∀k,Φ (mk N) k=a):im Φ v=a:=by rw[h0];exact T8 N mk a b hf
theorem Ju{Φ:τ->(τ->U ρ)->U ρ}(R:τ->U ρ->Prop)(b:τ->Nat)(h:∀v e k,R v e->(∀a c,R a c->b a<b v->k a=c)->Φ v k=e){v:τ}{e:U ρ}(hv:R v e):im Φ v=e:=by
 have:∀n v e,R v e->b v<n->zq Φ n v=e:=by
  intro n
  induction n with
  |zero=>intro v _ _ hv;omega
  |succ n i=>intro v e f l;exact h v e _ f λa c d g=>i a c d (by omega)
 exact AY (b v+1) λn j=>this n v e hv (by omega)
theorem er{l:J α}{i:Nat}(h:i<l.length):l.take (i+1)=l.take i++[l[i]]:=by rw[List.take_succ_eq_append_getElem h]
theorem kV{g:Nat->α}{n:Nat}:(List.range (n+1)).map g=(List.range n).map g++[g n]:=by simp[List.range_succ]
end
end Go.Am
namespace Go.Etx
open Go Go.Am
theorem aqs:IntKind.i64.wrap 0=0:=by decide
attribute [go_sem] aqs
@[go_sem] theorem atn:D.nc .cQ=1:=rfl
def Hv(s:J UInt8)(p:Nat):Nat×Nat:=Utf8.decode ⟨s.toArray⟩ p
section
variable{Q:Pz}{call:dF}{h:Hint}{dst:Nat}{ty:TypeId}{ρ:Oz->SV}{k:Wk}
@[go_sem] theorem aqt{t:TypeId}{x:Oz}:dD Q call h dst ty (.range t x) ρ k=t5 Q t (ρ x) k:=rfl
@[go_sem] theorem ato{x:Oz}{b:Bool}:dD Q call h dst ty (.next x b) ρ k=CZ (ρ x) b k:=rfl
@[go_sem] theorem aiF{t:TypeId}{s:J UInt8}:t5 Q t (.d (.str s)) k=match Q.underlying t with |some .string=>some (.d (.ptr k.H.length),{k with H:=k.H++[.iter s 0]}) |_=>none:=by
 unfold t5
 grind
@[go_sem] theorem aqu{i:Nat}:CZ (.d (.ptr i)) true k=match k.H[i]? with
  |some (.iter s p)=>if p<s.length then some (.aS [.d (.bool true),.d (.int .i64 p),.d (.int .i32 (Hv s p).1)],{k with H:=k.H.set i (.iter s (p+(Hv s p).2))})else some (.aS [.d (.bool false)],k)
  |_=>none:=by
 simp only[CZ,Hv]
 grind
end
@[go_sem] theorem aiG{Q:Pz}{t:TypeId}{k:IntKind}{n:Int}{l:J D}:tZ Q t (.d (.agg l)) (.d (.int k n))=match Q.underlying t with
  |some (.array len e)=>if 0<=n/\n<len/\0<Q.cellsOf e then
    (oE Q e).bind λa=>(if a then(if n.toNat * Q.cellsOf e+Q.cellsOf e<=l.length then some (.d (.agg (bw l (n.toNat * Q.cellsOf e) (Q.cellsOf e))))else none)else(l[n.toNat * Q.cellsOf e]?).bind D.sv1)else none
  |_=>none:=by
 grind [tZ]
def sgL:J (J UInt8):=[[58,61],[61,61],[33,61],[60,61],[45,62],[38,38],[124,124],[61,62],[40],[41],[91],[93],[123],[125],[59],[44],[58],[46],[60],[43],[45],[42],[33],[63],[64]]
def ownL:J (J UInt8):=[[115,101,108,102],[110,111,110,101],[108,101,110],[97,116]]
@[go_sem] theorem aqv:[T.d (D.str [58,61]),T.d (D.str [61,61]),T.d (D.str [33,61]),T.d (D.str [60,61]),T.d (D.str [45,62]),T.d (D.str [38,38]),T.d (D.str [124,124]),T.d (D.str [61,62]),T.d (D.str [40]),T.d (D.str [41]),T.d (D.str [91]),T.d (D.str [93]),T.d (D.str [123]),T.d (D.str [125]),T.d (D.str [59]),T.d (D.str [44]),T.d (D.str [58]),T.d (D.str [46]),T.d (D.str [60]),T.d (D.str [43]),T.d (D.str [45]),T.d (D.str [42]),T.d (D.str [33]),T.d (D.str [63]),T.d (D.str [64])]=tl eS sgL:=rfl
theorem P_(a b:Int):ew P 3 (.int .i64 a) (.int .i64 b)=some (decide (a=b)):=by
 show((iX P 3).bind λn=>eqK n (.int .i64 a) (.int .i64 b))=_
 rw[t3.2.2.2.2.1];exact congrArg some (Bool.eq_iff_iff.2 (by grind))
attribute [go_sem] P_
@[go_sem] theorem aiH{a:Int}{v:D}:ux P 226 (.map []) (.int .i64 a) v=some [(.int .i64 a,.d v)]:=by
 grind [ux,Xj,P_,qo]
@[go_sem] theorem afz{a b:Int}{v:D}{t:T}{r:J (D×T)}:ux P 226 (.map ((.int .i64 b,t)::r)) (.int .i64 a) v=if a=b then some ((.int .i64 a,.d v)::r)else(ux P 226 (.map r) (.int .i64 a) v).bind λq=>some ((.int .i64 b,t)::q):=by
 simp only[ux,Xj,xS,P_,Ar,if_true,qo]
 by_cases h:a=b
 .simp[h]
 .simp only[h,decide_false,xH,if_false,xF]
  rfl
def opsL:J (D×T):=[(D.int .i64 9,T.d (D.agg [D.int .i64 1,D.int .i64 1,D.int .i64 1,D.fn (Fn.func 205) [] []])),(D.int .i64 10,T.d (D.agg [D.int .i64 1,D.int .i64 0,D.int .i64 0,D.fn (Fn.func 207) [] []])),(D.int .i64 11,T.d (D.agg [D.int .i64 2,D.int .i64 0,D.int .i64 0,D.fn (Fn.func 188) [] []])),(D.int .i64 12,T.d (D.agg [D.int .i64 2,D.int .i64 0,D.int .i64 0,D.fn (Fn.func 208) [] []])),(D.int .i64 13,T.d (D.agg [D.int .i64 2,D.int .i64 0,D.int .i64 0,D.fn (Fn.func 209) [] []])),(D.int .i64 14,T.d (D.agg [D.int .i64 2,D.int .i64 (-1),D.int .i64 1,D.fn (Fn.func 230) [] [D.ptr 4]])),(D.int .i64 15,T.d (D.agg [D.int .i64 2,D.int .i64 (-1),D.int .i64 1,D.fn (Fn.func 230) [] [D.ptr 5]])),(D.int .i64 16,T.d (D.agg [D.int .i64 2,D.int .i64 0,D.int .i64 1,D.fn (Fn.func 230) [] [D.ptr 6]])),(D.int .i64 17,T.d (D.agg [D.int .i64 2,D.int .i64 0,D.int .i64 1,D.fn (Fn.func 230) [] [D.ptr 7]])),(D.int .i64 18,T.d (D.agg [D.int .i64 2,D.int .i64 1,D.int .i64 1,D.fn (Fn.func 230) [] [D.ptr 8]])),(D.int .i64 19,T.d (D.agg [D.int .i64 2,D.int .i64 1,D.int .i64 1,D.fn (Fn.func 230) [] [D.ptr 9]]))]
@[go_sem] theorem aqw:Ob.map [(D.int .i64 9,T.d (D.agg [D.int .i64 1,D.int .i64 1,D.int .i64 1,D.fn (Fn.func 205) [] []])),(D.int .i64 10,T.d (D.agg [D.int .i64 1,D.int .i64 0,D.int .i64 0,D.fn (Fn.func 207) [] []])),(D.int .i64 11,T.d (D.agg [D.int .i64 2,D.int .i64 0,D.int .i64 0,D.fn (Fn.func 188) [] []])),(D.int .i64 12,T.d (D.agg [D.int .i64 2,D.int .i64 0,D.int .i64 0,D.fn (Fn.func 208) [] []])),(D.int .i64 13,T.d (D.agg [D.int .i64 2,D.int .i64 0,D.int .i64 0,D.fn (Fn.func 209) [] []])),(D.int .i64 14,T.d (D.agg [D.int .i64 2,D.int .i64 (-1),D.int .i64 1,D.fn (Fn.func 230) [] [D.ptr 4]])),(D.int .i64 15,T.d (D.agg [D.int .i64 2,D.int .i64 (-1),D.int .i64 1,D.fn (Fn.func 230) [] [D.ptr 5]])),(D.int .i64 16,T.d (D.agg [D.int .i64 2,D.int .i64 0,D.int .i64 1,D.fn (Fn.func 230) [] [D.ptr 6]])),(D.int .i64 17,T.d (D.agg [D.int .i64 2,D.int .i64 0,D.int .i64 1,D.fn (Fn.func 230) [] [D.ptr 7]])),(D.int .i64 18,T.d (D.agg [D.int .i64 2,D.int .i64 1,D.int .i64 1,D.fn (Fn.func 230) [] [D.ptr 8]])),(D.int .i64 19,T.d (D.agg [D.int .i64 2,D.int .i64 1,D.int .i64 1,D.fn (Fn.func 230) [] [D.ptr 9]]))]=Ob.map opsL:=rfl
def opP(x:Int):Int:=if x=9 then 1 else if x=10 then 1 else if x=11 then 2 else if x=12 then 2 else if x=13 then 2 else if x=14 then 2 else if x=15 then 2 else if x=16 then 2 else if x=17 then 2 else if x=18 then 2 else if x=19 then 2 else 0
def opT(x:Int):Int:=if x=9 then 1 else if x=10 then 0 else if x=11 then 0 else if x=12 then 0 else if x=13 then 0 else if x=14 then(-1)else if x=15 then(-1)else if x=16 then 0 else if x=17 then 0 else if x=18 then 1 else if x=19 then 1 else 0
def opM(x:Int):Int:=if x=9 then 1 else if x=10 then 0 else if x=11 then 0 else if x=12 then 0 else if x=13 then 0 else if x=14 then 1 else if x=15 then 1 else if x=16 then 1 else if x=17 then 1 else if x=18 then 1 else if x=19 then 1 else 0
def A7(x:Int):Nat:=if x=9 then 205 else if x=10 then 207 else if x=11 then 188 else if x=12 then 208 else if x=13 then 209 else if x=14 then 230 else if x=15 then 230 else if x=16 then 230 else if x=17 then 230 else if x=18 then 230 else if x=19 then 230 else 0
def uG(x:Int):J D:=if x=14 then [D.ptr 4]else if x=15 then [D.ptr 5]else if x=16 then [D.ptr 6]else if x=17 then [D.ptr 7]else if x=18 then [D.ptr 8]else if x=19 then [D.ptr 9]else []
def opH(x:Int):Bool:=decide (x=9) || decide (x=10) || decide (x=11) || decide (x=12) || decide (x=13) || decide (x=14) || decide (x=15) || decide (x=16) || decide (x=17) || decide (x=18) || decide (x=19)
@[go_sem] theorem aqx(x:Int)(a:Bool):rQ P 226 (.map opsL) (.int .i64 x) a=if opH x=true then some (if a=true then .aS [.d (.agg [.int .i64 (opP x),.int .i64 (opT x),.int .i64 (opM x),.fn (.func (A7 x)) [] (uG x)]),.d (.bool true)]else .d (.agg [.int .i64 (opP x),.int .i64 (opT x),.int .i64 (opM x),.fn (.func (A7 x)) [] (uG x)]))else some (if a=true then .aS [.d (.agg [.int .i64 0,.int .i64 0,.int .i64 0,.cX]),.d (.bool false)]else .d (.agg [.int .i64 0,.int .i64 0,.int .i64 0,.cX])):=by
 simp only[rQ,Xj,xS,P_,Ar,if_true,opsL,jO,aki]
 by_cases h9:x=9
 .subst h9;cases a <;>rfl
 by_cases h10:x=10
 .subst h10;cases a <;>rfl
 by_cases h11:x=11
 .subst h11;cases a <;>rfl
 by_cases b:x=12
 .subst b;cases a <;>rfl
 by_cases h13:x=13
 .subst h13;cases a <;>rfl
 by_cases f:x=14
 .subst f;cases a <;>rfl
 by_cases h15:x=15
 .subst h15;cases a <;>rfl
 by_cases e:x=16
 .subst e;cases a <;>rfl
 by_cases h17:x=17
 .subst h17;cases a <;>rfl
 by_cases d:x=18
 .subst d;cases a <;>rfl
 by_cases c:x=19
 .subst c;cases a <;>rfl
 grind [opH]
theorem avl:TW (tl eS sgL)=tl eS sgL:=rfl
theorem avm:sgL.length=25:=rfl
theorem aAH:hint145.gl 0=some (.agg (List.map eS ownL)):=rfl
theorem atp:ownL.length=4:=rfl
attribute[go_sem]avl avm aAH atp
def nu:Nat->List Ob->List Nat
 |_,[]=>[]
 |i,o::r=>if gb [o]=true then nu (i+1) r else i::nu (i+1) r
theorem P6(H:J Ob):∀a:J Ob,((List.range' a.length H.length).filter λn=>match (a++H)[n]? with |some b=> !gb [b] |none=>false)=nu a.length H:=by
 induction H with
 |nil=>intro a;rfl
 |cons o r c=>
  intro a;have h:=c (a++[o]);rw[xK,xP,List.singleton_append,List.length_singleton]at h
  grind [v7,nu]
@[go_sem] theorem aqy(H:J Ob):yW H=nu 0 H:=by
 have h:=P6 H []
 grind [yW,mY]
@[go_sem] theorem adr{i:Nat}:nu i []=[]:=rfl
@[go_sem] theorem P?{i:Nat}{o:Ob}{r:J Ob}:nu i (o::r)=if gb [o]=true then nu (i+1) r else i::nu (i+1) r:=rfl
@[go_sem] theorem aqz{l:J Int}:T.aZ (tl eI l)=true:=by
 induction l with
 |nil=>rfl
 |cons n l a=>
  grind [tl,T.aZ,T.cW,D.cW]
end Go.Etx
