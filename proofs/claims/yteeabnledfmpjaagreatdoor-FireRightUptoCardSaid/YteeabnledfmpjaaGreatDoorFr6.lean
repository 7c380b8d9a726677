/- A part of the proof: texts of mine, merged by a program (wip/dev/merge.py). -/
import Derived.Test.YteeabnledfmpjaaGreatDoorFr5
set_option linter.unusedSimpArgs false
set_option linter.unusedVariables false
namespace Go.Am
open Go
section
variable{P:Pz}{hints:FuncId->Hint}{call:dH}{h:Hint}{ρ:Type}{B:Code}
noncomputable def go(P:Pz)(hints:FuncId->Hint)(h:Hint)(B:Code)(c:CL)(s:St)(κ:Ex×St->U ρ):U ρ:=(j5 P hints h B c s).bind κ
noncomputable def dI(P:Pz)(hints:FuncId->Hint)(h:Hint)(B:Code)(k:Nat)(s:St)(κ:Ex×St->U ρ):U ρ:=(eP P hints h (.loop (Cn B k)) s).bind κ
noncomputable def D4(P:Pz)(hints:FuncId->Hint)(h:Hint)(B:Code)(b:CL)(κ:Ex×St->U ρ):Ex×St->U ρ:=λr=>match r.1 with | .normal=>go P hints h B b r.2 κ |_=>κ r
def A7(id:Nat)(κ:Ex×St->U ρ):Ex×St->U ρ:=λr=>κ (Rk id r.1,r.2)
def kLp(R:St->U ρ)(κ:Ex×St->U ρ):Ex×St->U ρ:=λr=>match r.1 with | .normal=>R r.2 |_=>κ r
@[congr] theorem go_congr{c:CL}{s s':St}{κ:Ex×St->U ρ}(e:s=s'):go P hints h B c s κ=go P hints h B c s' κ:=by rw[e]
@[congr] theorem aeZ{k:Nat}{s s':St}{κ:Ex×St->U ρ}(e:s=s'):dI P hints h B k s κ=dI P hints h B k s' κ:=by rw[e]
@[congr] theorem ae0{b:CL}{r a:Ex×St}{κ:Ex×St->U ρ}(e:r=a):D4 P hints h B b κ r=D4 P hints h B b κ a:=by rw[e]
@[congr] theorem ae1{b:Nat}{r a:Ex×St}{κ:Ex×St->U ρ}(e:r=a):A7 b κ r=A7 b κ a:=by rw[e]
@[congr] theorem ah6{R:St->U ρ}{r a:Ex×St}{κ:Ex×St->U ρ}(e:r=a):kLp R κ r=kLp R κ a:=by rw[e]
section
variable{a b:CL}{s:St}{κ:Ex×St->U ρ}{id j k:Nat}{env:J (Nat×SV)}{ct:J ((Nat×Nat)×T)}{H:J Ob}{R:St->U ρ}{L:J dg}{LD:J LF}{ls:J Nat}
@[go_sem] theorem go_seq:go P hints h B (.seq a b) s κ=go P hints h B a s (D4 P hints h B b κ):=by
 simp only[go,j5,xX];congr 1;funext r;unfold D4
 split <;>simp_all [go]
@[go_sem] theorem go_block:go P hints h B (.block id a) s κ=go P hints h B a s (A7 id κ):=by
 simp only[go,j5,xX];rfl
@[go_sem] theorem go_skip:go P hints h B .skip s κ=κ (.normal,s):=rfl
@[go_sem] theorem go_ret:go P hints h B .ret s κ=κ (.ret,s):=rfl
@[go_sem] theorem go_exit:go P hints h B (.exit id) s κ=κ (.exit id,s):=rfl
@[go_sem] theorem go_cpy{p:Cpy}:go P hints h B (.cpy p) s κ=(MC P p s).bind κ:=rfl
@[go_sem] theorem go_rng{f:Oz}{ps:J Nat}{x y:Code}:go P hints h B (.rng f ps x y) s κ=(kX (eM P hints) h f ps x y s).bind κ:=rfl
@[go_sem] theorem go_loop:go P hints h B (.loop k) s κ=dI P hints h B k s κ:=rfl
@[go_sem] def oS(t:Nat)(v:SV):List (Nat×SV)->List (Nat×SV)
 | []=>[]
 |(k,w)::r=>if k=t then(k,v)::r else(k,w)::oS t v r
theorem Jx{t:Nat}{v:SV}:∀{env:J (Nat×SV)},look env t=some v->oS t v env=env
 | [],e=>by cases e
 |(k,w)::r,e=>by
  unfold oS;unfold look at e
  by_cases hk:k=t
  .rw[if_pos hk]at e |-
   simp only[xJ]at e
   rw[e]
  .rw[if_neg hk]at e |-
   rw[Jx e]
theorem Hu{t:Nat}{b:Bool}{env:J (Nat×SV)}{ct:J ((Nat×Nat)×T)}{H:J Ob}(e:St.get ⟨env,ct,H⟩ t=.d (.bool b)):oS t (.d (.bool b)) env=env:=by
 refine Jx ?_;unfold St.get at e
 cases a:look env t with
 |none=>rw[a]at e;cases e
 |some v=>rw[a]at e;exact congrArg some e
noncomputable def Xp(P:Pz)(hints:FuncId->Hint)(h:Hint)(B:Code)(t:Nat)(v:SV)(a b:CL)(s:St)(κ:Ex×St->U ρ):U ρ:=
 match v with
 | .d (.bool x)=>if x=true then go P hints h B a {s with env:=oS t (.d (.bool x)) s.env} κ else go P hints h B b {s with env:=oS t (.d (.bool x)) s.env} κ
 |_=>none
@[congr] theorem ae2{t:Nat}{v v':SV}(e:v=v'):Xp P hints h B t v a b s κ=Xp P hints h B t v' a b s κ:=by rw[e]
@[go_sem] theorem go_cond{t:Nat}:go P hints h B (.cond (.tmp t) a b) s κ=Xp P hints h B t (s.get t) a b s κ:=by
 obtain⟨env,ct,H⟩:=s;simp only[go,j5,Kl];unfold Xp;split
 .rename_i x c
  rw[c];simp only[Hu c,go]
  cases x <;>rfl
 .rename_i d
  split
  .rename_i t c
   exact absurd c (d t)
  .rfl
@[go_sem] theorem ah7{t:Nat}{x:Bool}:Xp P hints h B t (.d (.bool x)) a b ⟨env,ct,H⟩ κ=if x=true then go P hints h B a ⟨oS t (.d (.bool true)) env,ct,H⟩ κ else go P hints h B b ⟨oS t (.d (.bool false)) env,ct,H⟩ κ:=by
 cases x <;>rfl
theorem aur:D4 P hints h B b κ (.normal,s)=go P hints h B b s κ:=rfl
theorem aus:D4 P hints h B b κ (.ret,s)=κ (.ret,s):=rfl
theorem aut:D4 P hints h B b κ (.exit id,s)=κ (.exit id,s):=rfl
theorem auu:A7 id κ (.normal,s)=κ (.normal,s):=rfl
theorem auv:A7 id κ (.ret,s)=κ (.ret,s):=rfl
attribute[go_sem]aur aus aut auu auv
@[go_sem] theorem auw:A7 id κ (.exit j,s)=if j=id then κ (.normal,s)else κ (.exit j,s):=by
 unfold A7 Rk Ex.block;by_cases e:j=id <;>simp[e]
theorem aux{d:D}:D4 P hints h B b κ (.cQ d,s)=κ (.cQ d,s):=rfl
theorem auy{d:D}:A7 id κ (.cQ d,s)=κ (.cQ d,s):=rfl
theorem awJ{d:D}:kLp R κ (.cQ d,s)=κ (.cQ d,s):=rfl
theorem awK:kLp R κ (.normal,s)=R s:=rfl
theorem awL:kLp R κ (.ret,s)=κ (.ret,s):=rfl
theorem awM:kLp R κ (.exit id,s)=κ (.exit id,s):=rfl
attribute[go_sem]aux auy awJ awK awL awM
end
noncomputable def goL(P:Pz)(call:dH)(h:Hint)(L:J dg)(ls:J Nat)(s:St)(κ:Ex×St->U ρ):U ρ:=(rZ P call h L s).bind λs'=>κ (.normal,prune ls s')
def cb{α a:Type}(o:U α)(k:α->U a):U a:=o.bind k
def cbK{α a:Type}(o:U α)(k:α->U a):U a:=o.bind k
@[congr] theorem akc{α a:Type}{o o':U α}{k:α->U a}(e:o=o'):cb o k=cb o' k:=by rw[e]
@[congr] theorem ah8{α a:Type}{o o':U α}{k:α->U a}(e:o=o'):cbK o k=cbK o' k:=by rw[e]
@[go_sem] theorem atp{α a b:Type}{o:U α}{k:α->U a}{g:a->U b}:(cb o k).bind g=cb o λy=>(k y).bind g:=xX _ _ _
noncomputable def goB(P:Pz)(call:dH)(h:Hint)(x:U (SV×Wk))(d:U Nat)(r:J dg)(ls:J Nat)(s:St)(κ:Ex×St->U ρ):U ρ:=x.bind λp=>goL P call h r ls (s.fin d p.1 p.2) κ
section
variable{d:U Nat}{ty:TypeId}{op:Op}{L r:J dg}{ls:J Nat}{s s':St}{κ:Ex×St->U ρ}{x x':U (SV×Wk)}{env:J (Nat×SV)}{ct ct':J ((Nat×Nat)×T)}{H H':J Ob}{tr:J Tr}{v v':SV}{t:Nat}{b want:Bool}
@[congr] theorem ah9(e:s=s'):goL P call h L ls s κ=goL P call h L ls s' κ:=by rw[e]
@[congr] theorem aia(e:x=x'):goB P call h x d r ls s κ=goB P call h x' d r ls s κ:=by rw[e]
@[go_sem] theorem go_reg{hints:FuncId->Hint}(s:St)(κ:Ex×St->U ρ):go P hints h B (.reg L ls) s κ=goL P (eM P hints) h L ls s κ:=by
 simp only[go,j5,xX];rfl
@[go_sem] theorem atq:goL P call h [] ls s κ=κ (.normal,prune ls s):=rfl
@[go_sem] theorem aib:goL P call h (⟨d,ty,op,none⟩::r) ls ⟨env,ct,H⟩ κ=goB P call h (dF P call h (d.getD 0) ty op (St.val ⟨env,ct,H⟩) ⟨ct,H,[]⟩) d r ls ⟨env,ct,H⟩ κ:=by
 simp only[goL,goB,P3,xX];rfl
@[go_sem] theorem akd{k:Wk}:goB P call h (some (v,k)) d r ls s κ=goL P call h r ls (s.fin d v k) κ:=rfl
@[go_sem] theorem ake:goB P call h none d r ls s κ=none:=rfl
@[go_sem] theorem akf{α:Type}{o:U α}{f:α->U (SV×Wk)}:goB P call h (o.bind f) d r ls s κ=o.bind λy=>goB P call h (f y) d r ls s κ:=by simp only[goB,xX]
@[go_sem] theorem atr{c:Prop}[Decidable c]{y:U (SV×Wk)}:goB P call h (if c then x else y) d r ls s κ=if c then goB P call h x d r ls s κ else goB P call h y d r ls s κ:=by split <;>rfl
@[go_sem] theorem auz{α:Type}{o:U α}{f:α->U (SV×Wk)}:goB P call h (cb o f) d r ls s κ=cbK o λy=>goB P call h (f y) d r ls s κ:=by simp only[goB,cb,cbK,xX]
noncomputable def goG(P:Pz)(call:dH)(h:Hint)(t:Nat)(want:Bool)(g:SV)(d:U Nat)(ty:TypeId)(op:Op)(r:J dg)(ls:J Nat)(s:St)(κ:Ex×St->U ρ):U ρ:=
 match g with
 | .d (.bool b)=>(uw P call h d ty op want r {s with env:=oS t (.d (.bool b)) s.env} g).bind λs'=>κ (.normal,prune ls s')
 |_=>(uw P call h d ty op want r s g).bind λs'=>κ (.normal,prune ls s')
@[congr] theorem aic(e:v=v'):goG P call h t want v d ty op r ls s κ=goG P call h t want v' d ty op r ls s κ:=by rw[e]
@[go_sem] theorem aid:goL P call h (⟨d,ty,op,some (t,want)⟩::r) ls s κ=goG P call h t want (s.get t) d ty op r ls s κ:=by
 obtain⟨env,ct,H⟩:=s;simp only[goL,goG,P4];split
 .rename_i b a
  rw[a];simp only[Hu a]
 .rfl
@[go_sem] theorem awN:goG P call h t true (.d (.bool b)) d ty op r ls ⟨env,ct,H⟩ κ=if b=true then goB P call h (dF P call h (d.getD 0) ty op (St.val ⟨oS t (.d (.bool true)) env,ct,H⟩) ⟨ct,H,[]⟩) d r ls ⟨oS t (.d (.bool true)) env,ct,H⟩ κ else goL P call h r ls (St.fin ⟨oS t (.d (.bool false)) env,ct,H⟩ d (.aS []) ⟨ct,H,[]⟩) κ:=by
 cases b
 .simp only[goG,ux];rfl
 .simp only[goG,ux,if_true,goB,xX];rfl
@[go_sem] theorem awO:goG P call h t false (.d (.bool b)) d ty op r ls ⟨env,ct,H⟩ κ=if b=true then goL P call h r ls (St.fin ⟨oS t (.d (.bool true)) env,ct,H⟩ d (.aS []) ⟨ct,H,[]⟩) κ else goB P call h (dF P call h (d.getD 0) ty op (St.val ⟨oS t (.d (.bool false)) env,ct,H⟩) ⟨ct,H,[]⟩) d r ls ⟨oS t (.d (.bool false)) env,ct,H⟩ κ:=by
 cases b
 .simp only[goG,A5,goB,xH,if_false,xX];rfl
 .simp only[goG,A5];rfl
@[go_sem] theorem akg:goG P call h t want (.aS []) d ty op r ls ⟨env,ct,H⟩ κ=goL P call h r ls (St.fin ⟨env,ct,H⟩ d (.aS []) ⟨ct,H,[]⟩) κ:=by
 simp only[goG,NS];rfl
end
section
variable{f:FuncId}{ds:J D}{b:bn}{ct:J ((Nat×Nat)×T)}{H:J Ob}{tr:J Tr}{dst:Nat}
@[go_sem] theorem akh:fm call h dst f ds b ⟨ct,H,tr⟩=if(h.aV.contains dst&&D.aQ 0 ds)=true then
   cb (call f ds []) λp=>if p.2.length=0/\(b.sn=true->T.aY p.1=true)then pO dst p.1 ⟨ct,H,tr⟩else none
  else if h.aV.contains dst=true then none
  else cb (call f ds (fQ b.lk H)) λp=>
   if(b.sn=true->T.aY p.1=true/\gg p.2=true)/\ej (fQ b.lk H) p.2=true then pO dst p.1 ⟨ct,jQ H b.lk p.2,tr++[.bN]⟩else none:=rfl
end
def A8:Op->Bool
 | .panic _=>false
 |.call {callee:=.value _, .. }|.call {callee:=.invoke .., .. }=>false
 |_=>true
theorem uB{P:Pz}{call:dH}{h:Hint}{dst:Nat}{ty:TypeId}{op:Op}{ρ:Oz->SV}{k:Wk}(hp:A8 op=true):hU P call h dst ty op ρ k=(dF P call h dst ty op ρ k).bind λp=>some (none,p.1,p.2):=by
 unfold hU dF;split
 .simp[A8]at hp
 .simp[A8]at hp
 .simp[A8]at hp
 .rw[xF]
  split
  .simp[A8]at hp
  .rfl
noncomputable def goP(P:Pz)(call:dH)(h:Hint)(L:J dg)(ls:J Nat)(s:St)(κ:Ex×St->U ρ):U ρ:=(Ht P call h L s).bind λp=>match p.1 with |some d=>κ (.cQ d,p.2) |none=>κ (.normal,prune ls p.2)
noncomputable def wW(P:Pz)(call:dH)(h:Hint)(x:U (U D×SV×Wk))(d:U Nat)(r:J dg)(ls:J Nat)(s:St)(κ:Ex×St->U ρ):U ρ:=x.bind λp=>match p.1 with |some e=>κ (.cQ e,s.fin none .dead p.2.2) |none=>goP P call h r ls (s.fin d p.2.1 p.2.2) κ
section
variable{d:U Nat}{ty:TypeId}{op:Op}{L r:J dg}{ls:J Nat}{s s':St}{κ:Ex×St->U ρ}{x x':U (U D×SV×Wk)}{env:J (Nat×SV)}{ct:J ((Nat×Nat)×T)}{H:J Ob}{v:SV}{e:D}{k:Wk}
@[congr] theorem aie(q:s=s'):goP P call h L ls s κ=goP P call h L ls s' κ:=by rw[q]
@[congr] theorem ae3(q:x=x'):wW P call h x d r ls s κ=wW P call h x' d r ls s κ:=by rw[q]
@[go_sem] theorem go_regP{hints:FuncId->Hint}(s:St)(κ:Ex×St->U ρ):go P hints h B (.regP L ls) s κ=goP P (eM P hints) h L ls s κ:=by
 simp only[go,j5,xX,goP];refine congrArg _ (funext λp=> ?_)
 obtain⟨t,s'⟩:=p
 cases t <;>rfl
@[go_sem] theorem ats:goP P call h [] ls s κ=κ (.normal,prune ls s):=rfl
@[go_sem] theorem aki:goP P call h (⟨d,ty,op,none⟩::r) ls ⟨env,ct,H⟩ κ=wW P call h (hU P call h (d.getD 0) ty op (St.val ⟨env,ct,H⟩) ⟨ct,H,[]⟩) d r ls ⟨env,ct,H⟩ κ:=by
 simp only[goP,wW,Ht,xX];refine congrArg _ (funext λp=> ?_)
 obtain⟨t,q⟩:=p
 cases t <;>rfl
@[go_sem] theorem aif:wW P call h none d r ls s κ=none:=rfl
@[go_sem] theorem aig:wW P call h (some (none,v,k)) d r ls s κ=goP P call h r ls (s.fin d v k) κ:=rfl
@[go_sem] theorem akj:wW P call h (some (some e,v,k)) d r ls s κ=κ (.cQ e,s.fin none .dead k):=rfl
@[go_sem] theorem aih{α:Type}{o:U α}{f:α->U (U D×SV×Wk)}:wW P call h (o.bind f) d r ls s κ=o.bind λy=>wW P call h (f y) d r ls s κ:=by simp only[wW,xX]
@[go_sem] theorem akk{c:Prop}[Decidable c]{y:U (U D×SV×Wk)}:wW P call h (if c then x else y) d r ls s κ=if c then wW P call h x d r ls s κ else wW P call h y d r ls s κ:=by split <;>rfl
@[go_sem] theorem att{α:Type}{o:U α}{f:α->U (U D×SV×Wk)}:wW P call h (cb o f) d r ls s κ=cbK o λy=>wW P call h (f y) d r ls s κ:=by simp only[wW,cb,cbK,xX]
end
section
variable{P:Pz}{call:dH}{h:Hint}{dst:Nat}{ty t t2:TypeId}{ρ:Oz->SV}{k:Wk}{x y z:Oz}{n:Nat}{bo:BinOp}{uo:UnOp}{ps:Array (Nat×Oz)}{lo hi mx:U Oz}{bi:Builtin}{as bs:Array Oz}{cz:Array TypeId}{bb:Bool}{fn:Fn}
@[go_sem] theorem akl:hU P call h dst ty (.move x) ρ k=(dF P call h dst ty (.move x) ρ k).bind λp=>some (none,p.1,p.2):=uB rfl
@[go_sem] theorem akm:hU P call h dst ty (.load t x) ρ k=(dF P call h dst ty (.load t x) ρ k).bind λp=>some (none,p.1,p.2):=uB rfl
@[go_sem] theorem n?:hU P call h dst ty (.fieldAddr t x n) ρ k=(dF P call h dst ty (.fieldAddr t x n) ρ k).bind λp=>some (none,p.1,p.2):=uB rfl
@[go_sem] theorem aii:hU P call h dst ty (.binOp bo t x y t2) ρ k=(dF P call h dst ty (.binOp bo t x y t2) ρ k).bind λp=>some (none,p.1,p.2):=uB rfl
@[go_sem] theorem akn:hU P call h dst ty (.unOp uo t x) ρ k=(dF P call h dst ty (.unOp uo t x) ρ k).bind λp=>some (none,p.1,p.2):=uB rfl
@[go_sem] theorem aij:hU P call h dst ty (.build t ps) ρ k=(dF P call h dst ty (.build t ps) ρ k).bind λp=>some (none,p.1,p.2):=uB rfl
@[go_sem] theorem acF:hU P call h dst ty (.call {callee:=.builtin bi,args:=as,argTypes:=cz}) ρ k=(dF P call h dst ty (.call {callee:=.builtin bi,args:=as,argTypes:=cz}) ρ k).bind λp=>some (none,p.1,p.2):=uB rfl
end
noncomputable def goR(P:Pz)(call:dH)(h:Hint)(L:J LF)(ls:J Nat)(c:Cf)(acc:J Fp)(κ:Ex×St->U ρ):U ρ:=(zu P call h L c acc).bind λs'=>κ (.normal,prune ls s')
noncomputable def lO(P:Pz)(call:dH)(h:Hint)(x:U (SV×Wk))(o:LF)(r:J LF)(ls:J Nat)(c:Cf)(acc:J Fp)(w:Bool)(κ:Ex×St->U ρ):U ρ:=x.bind λp=>(lh P call h o r c acc w p.1 p.2).bind λs'=>κ (.normal,prune ls s')
noncomputable def D5(P:Pz)(call:dH)(h:Hint)(t:Nat)(want:Bool)(v:SV)(o:LF)(r:J LF)(ls:J Nat)(c:Cf)(acc:J Fp)(κ:Ex×St->U ρ):U ρ:=
 match v with
 | .d (.bool b)=>(zx P call h o want r ({c.1 with env:=oS t (.d (.bool b)) c.1.env},c.2) acc v).bind λs'=>κ (.normal,prune ls s')
 |_=>(zx P call h o want r c acc v).bind λs'=>κ (.normal,prune ls s')
noncomputable def goT(P:Pz)(call:dH)(h:Hint)(x:TL)(ls:J Nat)(s:St)(κ:Ex×St->U ρ):U ρ:=(ID P call h ls x s).bind λs'=>κ (.normal,s')
def kQ(a:St)(κ:Ex×St->U ρ):Ex×St->U ρ:=λr=>if St.beq a r.2=true then κ (.normal,a)else none
noncomputable def kT(P:Pz)(call:dH)(h:Hint)(x:TL)(ls:J Nat)(s:St)(κ:Ex×St->U ρ):Ex×St->U ρ:=λr=>goT P call h x ls s (kQ r.2 κ)
section
variable{d:U Nat}{g:U (Nat×Bool)}{ty:TypeId}{op:Op}{lk u:J Nat}{nd eff rds hr ho:Bool}{o:LF}{L r:J LF}{ls:J Nat}{κ:Ex×St->U ρ}{x x':U (SV×Wk)}{env:J (Nat×SV)}{ct ct':J ((Nat×Nat)×T)}{H H':J Ob}{tr:J Tr}{v v':SV}{t n:Nat}{b want w:Bool}{c c':Cf}{hi:pP}{acc acc':J Fp}
@[congr] theorem aik(e:c=c')(f:acc=acc'):goR P call h L ls c acc κ=goR P call h L ls c' acc' κ:=by rw[e,f]
@[congr] theorem ae4(e:x=x'):lO P call h x o r ls c acc w κ=lO P call h x' o r ls c acc w κ:=by rw[e]
@[congr] theorem ae5(e:v=v'):D5 P call h t want v o r ls c acc κ=D5 P call h t want v' o r ls c acc κ:=by rw[e]
@[go_sem] theorem go_regD{hints:FuncId->Hint}(s:St)(κ:Ex×St->U ρ):go P hints h B (.regD L ls) s κ=goR P (eM P hints) h L ls (s,kE s) [] κ:=by
 simp only[go,j5,xX];rfl
@[congr] theorem ako{X:TL}{s:St}{r a:Ex×St}(e:r=a):kT P call h X ls s κ r=kT P call h X ls s κ a:=by rw[e]
@[congr] theorem akp{s:St}{r a:Ex×St}(e:r=a):kQ s κ r=kQ s κ a:=by rw[e]
@[go_sem] theorem go_regT{hints:FuncId->Hint}{X:TL}(s:St)(κ:Ex×St->U ρ):go P hints h B (.regT X ls) s κ=goT P (eM P hints) h X ls s κ:=by
 simp only[go,j5,xX];rfl
@[go_sem] theorem akq{s:St}:goT P call h (.leaf L) ls s κ=goR P call h L ls (s,kE s) [] κ:=by
 simp only[goT,ID,goR,xF,xX];rfl
@[go_sem] theorem akr{X Y:TL}{s:St}:goT P call h (.node X Y) ls s κ=goT P call h X ls s (kT P call h Y ls s κ):=by
 simp only[goT,ID,kT,xX];congr 1;funext a;congr 1;funext b;unfold kQ
 simp only
 split <;>rfl
@[go_sem] theorem awP{X:TL}{s a:St}:kT P call h X ls s κ (.normal,a)=goT P call h X ls s (kQ a κ):=rfl
@[go_sem] theorem awQ{a s2:St}:kQ a κ (.normal,s2)=if St.beq a s2=true then κ (.normal,a)else none:=rfl
@[go_sem] theorem atu{s:St}:goR P call h [] ls (s,hi) acc κ=κ (.normal,prune ls s):=rfl
@[go_sem] theorem ail:goR P call h (⟨d,none,ty,op,lk,u,nd,eff,rds,hr,ho⟩::r) ls (⟨env,ct,H⟩,hi) acc κ=lO P call h (dF P call h (d.getD 0) ty op (St.val ⟨env,ct,H⟩) ⟨ct,H,[]⟩) ⟨d,none,ty,op,lk,u,nd,eff,rds,hr,ho⟩ r ls (⟨env,ct,H⟩,hi) acc true κ:=by
 simp only[goR,lO,P7,xX]
@[go_sem] theorem aim:goR P call h (⟨d,some (t,want),ty,op,lk,u,nd,eff,rds,hr,ho⟩::r) ls c acc κ=D5 P call h t want (c.1.get t) ⟨d,some (t,want),ty,op,lk,u,nd,eff,rds,hr,ho⟩ r ls c acc κ:=by
 obtain⟨⟨env,ct,H⟩,hi⟩:=c;simp only[goR,D5,P8];split
 .rename_i b a
  rw[a];simp only[Hu a]
 .rfl
@[go_sem] theorem auA:D5 P call h t true (.d (.bool b)) o r ls (⟨env,ct,H⟩,hi) acc κ=if b=true then lO P call h (dF P call h (o.d.getD 0) o.ty o.op (St.val ⟨oS t (.d (.bool true)) env,ct,H⟩) ⟨ct,H,[]⟩) o r ls (⟨oS t (.d (.bool true)) env,ct,H⟩,hi) acc true κ else lO P call h (some (.aS [],⟨ct,H,[]⟩)) o r ls (⟨oS t (.d (.bool false)) env,ct,H⟩,hi) acc false κ:=by
 cases b
 .simp only[D5,uy];rfl
 .simp only[D5,uy,if_true,lO,xX];rfl
@[go_sem] theorem auB:D5 P call h t false (.d (.bool b)) o r ls (⟨env,ct,H⟩,hi) acc κ=if b=true then lO P call h (some (.aS [],⟨ct,H,[]⟩)) o r ls (⟨oS t (.d (.bool true)) env,ct,H⟩,hi) acc false κ else lO P call h (dF P call h (o.d.getD 0) o.ty o.op (St.val ⟨oS t (.d (.bool false)) env,ct,H⟩) ⟨ct,H,[]⟩) o r ls (⟨oS t (.d (.bool false)) env,ct,H⟩,hi) acc true κ:=by
 cases b
 .simp only[D5,A6,lO,xH,if_false,xX];rfl
 .simp only[D5,A6];rfl
@[go_sem] theorem ain:D5 P call h t want (.aS []) o r ls (⟨env,ct,H⟩,hi) acc κ=lO P call h (some (.aS [],⟨ct,H,[]⟩)) o r ls (⟨env,ct,H⟩,hi) acc false κ:=by
 simp only[D5,NV];rfl
@[go_sem] theorem aio:lO P call h none o r ls c acc w κ=none:=rfl
@[go_sem] theorem aip{α:Type}{y:U α}{f:α->U (SV×Wk)}:lO P call h (y.bind f) o r ls c acc w κ=y.bind λz=>lO P call h (f z) o r ls c acc w κ:=by simp only[lO,xX]
@[go_sem] theorem aks{q:Prop}[Decidable q]{y:U (SV×Wk)}:lO P call h (if q then x else y) o r ls c acc w κ=if q then lO P call h x o r ls c acc w κ else lO P call h y o r ls c acc w κ:=by split <;>rfl
@[go_sem] theorem atv{α:Type}{y:U α}{f:α->U (SV×Wk)}:lO P call h (cb y f) o r ls c acc w κ=cbK y λz=>lO P call h (f z) o r ls c acc w κ:=by simp only[lO,cb,cbK,xX]
@[go_sem] theorem ae6:lO P call h (some (v,⟨ct',H',tr⟩)) ⟨d,g,ty,op,lk,[],false,eff,rds,hr,ho⟩ r ls c acc w κ=goR P call h r ls (c.1.fin d v ⟨ct',H',tr⟩,dV c.2 tr d (fZ op c.2 v)) (acc++[fp0]) κ:=by
 simp only[lO,xS,NW];rfl
@[go_sem] theorem aiq:lO P call h (some (v,⟨ct',H',tr⟩)) ⟨d,g,ty,op,lk,n::u,false,eff,rds,hr,ho⟩ r ls c acc w κ=if(n::u).all (gu acc (fpW ⟨d,g,ty,op,lk,n::u,false,eff,rds,hr,ho⟩ c.2 c.1 w v ⟨ct',H',tr⟩))=true then goR P call h r ls (c.1.fin d v ⟨ct',H',tr⟩,dV c.2 tr d (fZ op c.2 v)) (acc++[fp0]) κ else none:=by
 simp only[lO,xS,P9,Hm];rfl
@[go_sem] theorem atw:lO P call h (some (v,⟨ct',H',tr⟩)) ⟨d,g,ty,op,lk,u,true,eff,rds,hr,ho⟩ r ls c acc w κ=if u.all (gu acc (fpW ⟨d,g,ty,op,lk,u,true,eff,rds,hr,ho⟩ c.2 c.1 w v ⟨ct',H',tr⟩))=true then goR P call h r ls (c.1.fin d v ⟨ct',H',tr⟩,dV c.2 tr d (fZ op c.2 v)) (acc++[fpW ⟨d,g,ty,op,lk,u,true,eff,rds,hr,ho⟩ c.2 c.1 w v ⟨ct',H',tr⟩]) κ else none:=by
 simp only[lO,xS,Xk,Hm];rfl
end
end
section
variable{α:Type}{ρ:Type}
open Classical in
noncomputable def ae7(g:Nat->U ρ):U ρ:=if h:∃r,∃N,∀n,N<=n->g n=some r then some (Classical.choose h)else none
theorem A9{g:Nat->U ρ}{r:U ρ}(N:Nat)(h:∀n,N<=n->g n=r):ae7 g=r:=by
 unfold ae7
 cases r with
 |none=>
  rw[dif_neg]
  rintro⟨r,M,a⟩
  have b:=h (max N M) (l9 _ _);rw[a _ (kP _ _)]at b
  cases b
 |some r=>
  have c:∃r,∃N,∀n,N<=n->g n=some r:=⟨r,N,h⟩
  rw[dif_pos c];obtain⟨M,a⟩:=Classical.choose_spec c;rw[<-a (max N M) (kP _ _),h _ (l9 _ _)]
def zA(Φ:α->(α->Option ρ)->Option ρ):Nat->α->Option ρ
 |0,_=>none
 |n+1,v=>Φ v (zA Φ n)
noncomputable def iw(Φ:α->(α->U ρ)->U ρ)(v:α):U ρ:=ae7 λn=>zA Φ n v
theorem qD{Φ:α->(α->U ρ)->U ρ}(I:α->Prop)(E:α->U ρ)(a:α->Nat)(h:∀v k,I v->(∀v',I v'->a v'<a v->k v'=E v')->Φ v k=E v){v:α}(hv:I v):iw Φ v=E v:=by
 have:∀n v,I v->a v<n->zA Φ n v=E v:=by
  intro n
  induction n with
  |zero=>intro v _ hv;omega
  |succ n c=>intro v d hv;exact h v _ d λv' b f=>c v' b (by omega)
 exact A9 (a v+1) λn e=>this n v hv (by omega)
section
variable{P:Pz}{hints:FuncId->Hint}{h:Hint}{B:Code}
theorem DG{a:Code}{s:St}{r:Ex×St}:eP P hints h (.loop a) s=some r↔∃n,mB (eP P hints h a) n s=some r:=by
 constructor
 .intro e
  obtain⟨n,e⟩:=dT.1 e;simp only[ec]at e
  exact⟨n,lN (λs r e=>dT.2 ⟨n,e⟩) n n (dC _) s r e⟩
 .rintro⟨n,e⟩
  induction n generalizing s with
  |zero=>cases e
  |succ n c=>
   simp only[mB,xB]at e
   obtain⟨⟨d,s'⟩,f,b⟩:=e;rw[Hk,f,xS];simp only at b;unfold Jq
   simp only
   cases d with
   |normal=>exact c b
   |_=>exact b
theorem ap{k:Nat}{q:CL}(b:Jw h B k=some q){s:St}{κ:Ex×St->U ρ}:dI P hints h B k s κ=go P hints h B q s (kLp (λs=>dI P hints h B k s κ) κ):=by
 have a:∀s,eP P hints h (Cn B k) s=j5 P hints h B q s:=N3 b
 unfold dI go;rw[Hk,<-a,xX];congr 1;funext ⟨c,s'⟩
 cases c <;>rfl
theorem dD{k:Nat}{q:CL}(p:Jw h B k=some q){S:α->St}{κ:Ex×St->U ρ}{Φ:α->(α->U ρ)->U ρ}
  (c:∀(R:St->U ρ) (g:α->U ρ),(∀v,R (S v)=g v)->∀v,go P hints h B q (S v) (kLp R κ)=Φ v g) (v:α):dI P hints h B k (S v) κ=iw Φ v:=by
 have f:∀s,eP P hints h (Cn B k) s=j5 P hints h B q s:=N3 p
 unfold dI iw;generalize Cn B k=a at f |-
 have b:∀n s,(mB (eP P hints h a) (n+1) s).bind κ=go P hints h B q s (kLp (λs=>(mB (eP P hints h a) n s).bind κ) κ):=λn s=>by
  simp only[mB,go,<-f,xX];congr 1;funext ⟨m,s'⟩
  cases m <;>rfl
 have d:∀n v,(mB (eP P hints h a) n (S v)).bind κ=zA Φ n v:=by
  intro n
  induction n with
  |zero=>intro v;rfl
  |succ n l=>intro v;rw[b];exact c _ _ l v
 refine Eq.symm ?_
 cases e:eP P hints h (.loop a) (S v)with
 |none=>
  refine A9 0 λn _=> ?_
  rw[<-d]
  cases j:mB (eP P hints h a) n (S v)with
  |none=>rfl
  |some r=>rw[DG.2 ⟨n,j⟩]at e;cases e
 |some r=>
  obtain⟨N,o⟩:=DG.1 e;refine A9 N λn i=> ?_
  rw[<-d,lN (λ_ _ e=>e) N n i _ _ o]
end
end
section
variable{P:Pz}{κ ν:Type}[DecidableEq κ]{fk:κ->D}{fv:ν->D}
def jH(fk:κ->D)(fv:ν->D)(l:J (κ×ν)):J (D×T):=l.map λp=>(fk p.1,.d (fv p.2))
def Ky:List (κ×ν)->κ->Option ν
 | [],_=>none
 |(a,b)::r,k=>if k=a then some b else Ky r k
def lj:List (κ×ν)->κ->ν->List (κ×ν)
 | [],k,v=>[(k,v)]
 |(a,b)::r,k,v=>if k=a then(k,v)::r else(a,b)::lj r k v
def ae8(l:J (κ×ν))(k:κ):Bool:=(Ky l k).isSome
def kN(z:ν)(l:J (κ×ν))(k:κ):ν:=(Ky l k).getD z
omit [DecidableEq κ] in
theorem Xq:jH fk fv []=[]:=rfl
def se(P:Pz)(t:TypeId)(ob:Ob)(kd:D)(c:Bool):U SV:=
 (mz P t).bind λ(a,e)=>if(eC P a kd kd).isSome then(match ob with | .map d=>jX (eC P a) kd d | .sset f=>Mz f kd |_=>none).bind λr=>(dS P e).bind λz=>
    (match r with |some (.d x)=>some (x,true) |some _=>none |none=>some (z,false)).map λ(x,b)=>if c then .aS [.d x,.d (.bool b)]else .d x
   else none
omit [DecidableEq κ] in
@[go_sem] theorem acG{t:TypeId}{o:Nat}{kd:D}{a:Bool}{H:J Ob}:nA P t (.d (.map o)) (.d kd) a H=(H[o]?).bind λob=>se P t ob kd a:=by
 unfold nA se
 cases mz P t with
 |none=>cases H[o]? <;>rfl
 |some q=>
  obtain⟨b,e⟩:=q;simp only[xS]
  cases H[o]? with
  |none=>simp
  |some ob=>simp only[xS];cases ob <;>rfl
def uC(P:Pz)(t:TypeId)(ob:Ob)(kd y:D):U (J (D×T)):=
 (mz P t).bind λ(a,_)=>if(eC P a kd kd).isSome then(match ob with | .map b=>qt (eC P a) kd (.d y) b |_=>none)else none
def Xr(P:Pz)(t:TypeId)(ob:Ob)(kd:D)(y:J T):U (J (D×T)):=
 (mz P t).bind λ(a,_)=>if(eC P a kd kd).isSome then(match ob with | .map b=>qt (eC P a) kd (.own y) b |_=>none)else none
def Hv(P:Pz)(t:TypeId)(o:Nat)(kd y:D)(ob:Ob)(k:Wk):U Wk:=
 match ob with
 | .sset a=>(BV a kd y).bind λa=>some {k with H:=k.H.set o (.sset a)}
 |ob=>(uC P t ob kd y).bind λb=>some {k with H:=k.H.set o (.map b)}
def Xs(P:Pz)(t:TypeId)(o:Nat)(kd:D)(x:T)(k:Wk):U Wk:=
 match x with
 | .d y=>(k.H[o]?).bind λa=>Hv P t o kd y a k
 | .own l=>(k.H[o]?).bind λa=>(Xr P t a kd l).bind λb=>some {k with H:=k.H.set o (.map b)}
 |_=>none
omit [DecidableEq κ] in
@[go_sem] theorem ae9{nv:Nat}{t:TypeId}{o:Nat}{kd:D}{v:SV}{k:Wk}:hD P nv t (.d (.map o)) (.d kd) v k=if((mz P t).bind λq=>eC P q.1 kd kd).isSome=true then(fV nv v k).bind λq=>Xs P t o kd q.1 q.2 else none:=by
 unfold hD Xs Hv uC Xr
 cases mz P t with
 |none=>rfl
 |some q=>
  obtain⟨b,e⟩:=q;simp only[xS]
  cases hk:(eC P b kd kd).isSome with
  |false=>simp
  |true=>
   simp only[if_true];congr 1;funext ⟨x,k⟩
   simp only
   cases x with
   |d y=>
    cases k.H[o]? with
    |none=>rfl
    |some a=>cases a <;>simp only[xS,Option.bind_none,xF] <;>rfl
   |own y=>
    cases k.H[o]? with
    |none=>rfl
    |some a=>cases a <;>simp only[xS,Option.bind_none,xF] <;>rfl
   |_=>cases k.H[o]? <;>rfl
omit [DecidableEq κ] in
@[go_sem] theorem atx{t:TypeId}{o:Nat}{kd y:D}{ct:J ((Nat×Nat)×T)}{H:J Ob}{tr:J Tr}:Xs P t o kd (.d y) ⟨ct,H,tr⟩=(H[o]?).bind λob=>Hv P t o kd y ob ⟨ct,H,tr⟩:=rfl
omit [DecidableEq κ] in
@[go_sem] theorem afa{t:TypeId}{o:Nat}{kd y:D}{l:J (D×T)}{ct:J ((Nat×Nat)×T)}{H:J Ob}{tr:J Tr}:Hv P t o kd y (.map l) ⟨ct,H,tr⟩=(uC P t (.map l) kd y).bind λes=>some ⟨ct,H.set o (.map es),tr⟩:=rfl
omit [DecidableEq κ] in
@[go_sem] theorem afb{t:TypeId}{o:Nat}{kd y:D}{l:J (J UInt8)}{ct:J ((Nat×Nat)×T)}{H:J Ob}{tr:J Tr}:Hv P t o kd y (.sset l) ⟨ct,H,tr⟩=(BV l kd y).bind λks=>some ⟨ct,H.set o (.sset ks),tr⟩:=rfl
omit [DecidableEq κ] in
@[go_sem] theorem afc{s:J UInt8}{l:J (J UInt8)}:BV l (.str s) (.bool true)=some (s::l):=rfl
theorem Hw{kt:TypeId}(hk:∀a b,eC P kt (fk a) (fk b)=some (decide (a=b)))(k:κ):∀l:J (κ×ν),jX (eC P kt) (fk k) (jH fk fv l)=some ((Ky l k).map λv=>.d (fv v))
 | []=>rfl
 |(a,b)::r=>by
  have c:=Hw hk k r;simp only[jH,eG,jX,hk,xS,Ky,yD]at c |-
  split
  .rfl
  .exact c
theorem Jy{kt:TypeId}(hk:∀a b,eC P kt (fk a) (fk b)=some (decide (a=b)))(k:κ)(v:ν):∀l:J (κ×ν),qt (eC P kt) (fk k) (.d (fv v)) (jH fk fv l)=some (jH fk fv (lj l k v))
 | []=>rfl
 |(a,b)::r=>by
  have c:=Jy hk k v r;simp only[jH,eG,qt,hk,xS,lj,yD]at c |-
  split
  .rfl
  .rw[c];rfl
theorem N4{t kt e:TypeId}{l:J (κ×ν)}{k:κ}{z:ν}{c:Bool}(d:mz P t=some (kt,e))(hk:∀a b,eC P kt (fk a) (fk b)=some (decide (a=b)))(hz:dS P e=some (fv z)):
  se P t (.map (jH fk fv l)) (fk k) c=some (if c=true then .aS [.d (fv (kN z l k)),.d (.bool (ae8 l k))]else .d (fv (kN z l k))):=by
 simp only[se,d,xS,hk,AC,if_true,Hw hk,hz,kN,ae8]
 cases Ky l k <;>rfl
theorem Qd{t kt e:TypeId}{l:J (κ×ν)}{k:κ}{v:ν}(c:mz P t=some (kt,e))(hk:∀a b,eC P kt (fk a) (fk b)=some (decide (a=b))):
  uC P t (.map (jH fk fv l)) (fk k) (fv v)=some (jH fk fv (lj l k v)):=by
 simp only[uC,c,xS,hk,AC,if_true,Jy hk]
def auC(fv:ν->D):Bool->J ν->T
 |true,l=>.d (.sl false (List.map fv l))
 |false,l=>.own (tl fv l)
def akt(b:Bool)(fk:κ->D)(fv:ν->D)(l:J (κ×J ν)):J (D×T):=l.map λp=>(fk p.1,auC fv b p.2)
omit [DecidableEq κ] in
theorem Ui{b:Bool}:akt b fk fv ([]:J (κ×J ν))=[]:=rfl
end
attribute [go_sem] gg Ob.low
section
variable{κ ν:Type}{fk:κ->D}{fv:ν->D}
theorem Xt(hk:∀x,(fk x).cX=true)(hv:∀x,(fv x).cX=true)(l:J (κ×ν)):((jH fk fv l).all λe=>e.1.cX&&e.2.cX)=true:=by
 simp[jH,iy,T.cX,hk,hv]
end
end Go.Am
