/- A part of the proof: texts of mine, merged by a program (wip/dev/merge.py). -/
import Derived.Test.YteeabnledfmpjaaGreatDoorFn5
set_option linter.unusedSimpArgs false
set_option linter.unusedVariables false
namespace Go.Am
open Go
section
variable{P:Pz}{hints:FuncId->Hint}{call:dF}{h:Hint}{ρ:Type}{B:Code}
noncomputable def go(P:Pz)(hints:FuncId->Hint)(h:Hint)(B:Code)(c:CL)(s:St)(κ:Ex×St->U ρ):U ρ:=(jU P hints h B c s).bind κ
noncomputable def dG(P:Pz)(hints:FuncId->Hint)(h:Hint)(B:Code)(k:Nat)(s:St)(κ:Ex×St->U ρ):U ρ:=(eL P hints h (.loop (Cm B k)) s).bind κ
noncomputable def Hp(P:Pz)(hints:FuncId->Hint)(h:Hint)(B:Code)(b:CL)(κ:Ex×St->U ρ):Ex×St->U ρ:=λr=>match r.1 with | .normal=>go P hints h B b r.2 κ |_=>κ r
def Cn(id:Nat)(κ:Ex×St->U ρ):Ex×St->U ρ:=λr=>κ (Q1 id r.1,r.2)
def kLp(R:St->U ρ)(κ:Ex×St->U ρ):Ex×St->U ρ:=λr=>match r.1 with | .normal=>R r.2 |_=>κ r
@[congr] theorem go_congr{c:CL}{s s':St}{κ:Ex×St->U ρ}(e:s=s'):go P hints h B c s κ=go P hints h B c s' κ:=by rw[e]
@[congr] theorem aeI{k:Nat}{s s':St}{κ:Ex×St->U ρ}(e:s=s'):dG P hints h B k s κ=dG P hints h B k s' κ:=by rw[e]
@[congr] theorem aeJ{b:CL}{r a:Ex×St}{κ:Ex×St->U ρ}(e:r=a):Hp P hints h B b κ r=Hp P hints h B b κ a:=by rw[e]
@[congr] theorem aeK{b:Nat}{r a:Ex×St}{κ:Ex×St->U ρ}(e:r=a):Cn b κ r=Cn b κ a:=by rw[e]
@[congr] theorem ahP{R:St->U ρ}{r a:Ex×St}{κ:Ex×St->U ρ}(e:r=a):kLp R κ r=kLp R κ a:=by rw[e]
section
variable{a b:CL}{s:St}{κ:Ex×St->U ρ}{id j k:Nat}{env:J (Nat×SV)}{ct:J ((Nat×Nat)×T)}{H:J Ob}{R:St->U ρ}{L:J dd}{LD:J LF}{ls:J Nat}
@[go_sem] theorem go_seq:go P hints h B (.seq a b) s κ=go P hints h B a s (Hp P hints h B b κ):=by
 simp only[go,jU,xX];congr 1;funext r;unfold Hp
 split <;>simp_all [go]
@[go_sem] theorem go_block:go P hints h B (.block id a) s κ=go P hints h B a s (Cn id κ):=by
 simp only[go,jU,xX];rfl
@[go_sem] theorem go_skip:go P hints h B .skip s κ=κ (.normal,s):=rfl
@[go_sem] theorem go_ret:go P hints h B .ret s κ=κ (.ret,s):=rfl
@[go_sem] theorem go_exit:go P hints h B (.exit id) s κ=κ (.exit id,s):=rfl
@[go_sem] theorem go_cpy{p:Cpy}:go P hints h B (.cpy p) s κ=(Mm P p s).bind κ:=rfl
@[go_sem] theorem go_rng{f:Oz}{ps:J Nat}{x y:Code}:go P hints h B (.rng f ps x y) s κ=(kJ (eG P hints) h f ps x y s).bind κ:=rfl
@[go_sem] theorem go_loop:go P hints h B (.loop k) s κ=dG P hints h B k s κ:=rfl
@[go_sem] def oF(t:Nat)(v:SV):List (Nat×SV)->List (Nat×SV)
 | []=>[]
 |(k,w)::r=>if k=t then(k,v)::r else(k,w)::oF t v r
theorem Jp{t:Nat}{v:SV}:∀{env:J (Nat×SV)},look env t=some v->oF t v env=env
 | [],e=>by cases e
 |(k,w)::r,e=>by
  unfold oF;unfold look at e
  by_cases hk:k=t
  .rw[if_pos hk]at e |-
   simp only[xJ]at e
   rw[e]
  .rw[if_neg hk]at e |-
   rw[Jp e]
theorem Hq{t:Nat}{b:Bool}{env:J (Nat×SV)}{ct:J ((Nat×Nat)×T)}{H:J Ob}(e:St.get ⟨env,ct,H⟩ t=.d (.bool b)):oF t (.d (.bool b)) env=env:=by
 refine Jp ?_;unfold St.get at e
 cases a:look env t with
 |none=>rw[a]at e;cases e
 |some v=>rw[a]at e;exact congrArg some e
noncomputable def W8(P:Pz)(hints:FuncId->Hint)(h:Hint)(B:Code)(t:Nat)(v:SV)(a b:CL)(s:St)(κ:Ex×St->U ρ):U ρ:=
 match v with
 | .d (.bool x)=>if x=true then go P hints h B a {s with env:=oF t (.d (.bool x)) s.env} κ else go P hints h B b {s with env:=oF t (.d (.bool x)) s.env} κ
 |_=>none
@[congr] theorem aeL{t:Nat}{v v':SV}(e:v=v'):W8 P hints h B t v a b s κ=W8 P hints h B t v' a b s κ:=by rw[e]
@[go_sem] theorem go_cond{t:Nat}:go P hints h B (.cond (.tmp t) a b) s κ=W8 P hints h B t (s.get t) a b s κ:=by
 obtain⟨env,ct,H⟩:=s;simp only[go,jU,J9];unfold W8;split
 .rename_i x c
  rw[c];simp only[Hq c,go]
  cases x <;>rfl
 .rename_i d
  split
  .rename_i t c
   exact absurd c (d t)
  .rfl
@[go_sem] theorem ahQ{t:Nat}{x:Bool}:W8 P hints h B t (.d (.bool x)) a b ⟨env,ct,H⟩ κ=if x=true then go P hints h B a ⟨oF t (.d (.bool true)) env,ct,H⟩ κ else go P hints h B b ⟨oF t (.d (.bool false)) env,ct,H⟩ κ:=by
 cases x <;>rfl
theorem at8:Hp P hints h B b κ (.normal,s)=go P hints h B b s κ:=rfl
theorem at9:Hp P hints h B b κ (.ret,s)=κ (.ret,s):=rfl
theorem aua:Hp P hints h B b κ (.exit id,s)=κ (.exit id,s):=rfl
theorem aub:Cn id κ (.normal,s)=κ (.normal,s):=rfl
theorem auc:Cn id κ (.ret,s)=κ (.ret,s):=rfl
attribute[go_sem]at8 at9 aua aub auc
@[go_sem] theorem aud:Cn id κ (.exit j,s)=if j=id then κ (.normal,s)else κ (.exit j,s):=by
 unfold Cn Q1 Ex.block;by_cases e:j=id <;>simp[e]
theorem aue{d:D}:Hp P hints h B b κ (.cO d,s)=κ (.cO d,s):=rfl
theorem auf{d:D}:Cn id κ (.cO d,s)=κ (.cO d,s):=rfl
theorem awp{d:D}:kLp R κ (.cO d,s)=κ (.cO d,s):=rfl
theorem awq:kLp R κ (.normal,s)=R s:=rfl
theorem awr:kLp R κ (.ret,s)=κ (.ret,s):=rfl
theorem aws:kLp R κ (.exit id,s)=κ (.exit id,s):=rfl
attribute[go_sem]aue auf awp awq awr aws
end
noncomputable def goL(P:Pz)(call:dF)(h:Hint)(L:J dd)(ls:J Nat)(s:St)(κ:Ex×St->U ρ):U ρ:=(rO P call h L s).bind λs'=>κ (.normal,prune ls s')
def cb{α a:Type}(o:U α)(k:α->U a):U a:=o.bind k
def cbK{α a:Type}(o:U α)(k:α->U a):U a:=o.bind k
@[congr] theorem ajV{α a:Type}{o o':U α}{k:α->U a}(e:o=o'):cb o k=cb o' k:=by rw[e]
@[congr] theorem ahR{α a:Type}{o o':U α}{k:α->U a}(e:o=o'):cbK o k=cbK o' k:=by rw[e]
@[go_sem] theorem as6{α a b:Type}{o:U α}{k:α->U a}{g:a->U b}:(cb o k).bind g=cb o λy=>(k y).bind g:=xX _ _ _
noncomputable def goB(P:Pz)(call:dF)(h:Hint)(x:U (SV×Wk))(d:U Nat)(r:J dd)(ls:J Nat)(s:St)(κ:Ex×St->U ρ):U ρ:=x.bind λp=>goL P call h r ls (s.fin d p.1 p.2) κ
section
variable{d:U Nat}{ty:TypeId}{op:Op}{L r:J dd}{ls:J Nat}{s s':St}{κ:Ex×St->U ρ}{x x':U (SV×Wk)}{env:J (Nat×SV)}{ct ct':J ((Nat×Nat)×T)}{H H':J Ob}{tr:J Tr}{v v':SV}{t:Nat}{b want:Bool}
@[congr] theorem ahS(e:s=s'):goL P call h L ls s κ=goL P call h L ls s' κ:=by rw[e]
@[congr] theorem ahT(e:x=x'):goB P call h x d r ls s κ=goB P call h x' d r ls s κ:=by rw[e]
@[go_sem] theorem go_reg{hints:FuncId->Hint}(s:St)(κ:Ex×St->U ρ):go P hints h B (.reg L ls) s κ=goL P (eG P hints) h L ls s κ:=by
 simp only[go,jU,xX];rfl
@[go_sem] theorem as7:goL P call h [] ls s κ=κ (.normal,prune ls s):=rfl
@[go_sem] theorem ahU:goL P call h (⟨d,ty,op,none⟩::r) ls ⟨env,ct,H⟩ κ=goB P call h (dD P call h (d.getD 0) ty op (St.val ⟨env,ct,H⟩) ⟨ct,H,[]⟩) d r ls ⟨env,ct,H⟩ κ:=by
 simp only[goL,goB,PL,xX];rfl
@[go_sem] theorem ajW{k:Wk}:goB P call h (some (v,k)) d r ls s κ=goL P call h r ls (s.fin d v k) κ:=rfl
@[go_sem] theorem ajX:goB P call h none d r ls s κ=none:=rfl
@[go_sem] theorem ajY{α:Type}{o:U α}{f:α->U (SV×Wk)}:goB P call h (o.bind f) d r ls s κ=o.bind λy=>goB P call h (f y) d r ls s κ:=by simp only[goB,xX]
@[go_sem] theorem as8{c:Prop}[Decidable c]{y:U (SV×Wk)}:goB P call h (if c then x else y) d r ls s κ=if c then goB P call h x d r ls s κ else goB P call h y d r ls s κ:=by split <;>rfl
@[go_sem] theorem aug{α:Type}{o:U α}{f:α->U (SV×Wk)}:goB P call h (cb o f) d r ls s κ=cbK o λy=>goB P call h (f y) d r ls s κ:=by simp only[goB,cb,cbK,xX]
noncomputable def goG(P:Pz)(call:dF)(h:Hint)(t:Nat)(want:Bool)(g:SV)(d:U Nat)(ty:TypeId)(op:Op)(r:J dd)(ls:J Nat)(s:St)(κ:Ex×St->U ρ):U ρ:=
 match g with
 | .d (.bool b)=>(uq P call h d ty op want r {s with env:=oF t (.d (.bool b)) s.env} g).bind λs'=>κ (.normal,prune ls s')
 |_=>(uq P call h d ty op want r s g).bind λs'=>κ (.normal,prune ls s')
@[congr] theorem ahV(e:v=v'):goG P call h t want v d ty op r ls s κ=goG P call h t want v' d ty op r ls s κ:=by rw[e]
@[go_sem] theorem ahW:goL P call h (⟨d,ty,op,some (t,want)⟩::r) ls s κ=goG P call h t want (s.get t) d ty op r ls s κ:=by
 obtain⟨env,ct,H⟩:=s;simp only[goL,goG,PM];split
 .rename_i b a
  rw[a];simp only[Hq a]
 .rfl
@[go_sem] theorem awt:goG P call h t true (.d (.bool b)) d ty op r ls ⟨env,ct,H⟩ κ=if b=true then goB P call h (dD P call h (d.getD 0) ty op (St.val ⟨oF t (.d (.bool true)) env,ct,H⟩) ⟨ct,H,[]⟩) d r ls ⟨oF t (.d (.bool true)) env,ct,H⟩ κ else goL P call h r ls (St.fin ⟨oF t (.d (.bool false)) env,ct,H⟩ d (.aS []) ⟨ct,H,[]⟩) κ:=by
 cases b
 .simp only[goG,ur];rfl
 .simp only[goG,ur,if_true,goB,xX];rfl
@[go_sem] theorem awu:goG P call h t false (.d (.bool b)) d ty op r ls ⟨env,ct,H⟩ κ=if b=true then goL P call h r ls (St.fin ⟨oF t (.d (.bool true)) env,ct,H⟩ d (.aS []) ⟨ct,H,[]⟩) κ else goB P call h (dD P call h (d.getD 0) ty op (St.val ⟨oF t (.d (.bool false)) env,ct,H⟩) ⟨ct,H,[]⟩) d r ls ⟨oF t (.d (.bool false)) env,ct,H⟩ κ:=by
 cases b
 .simp only[goG,AU,goB,xH,if_false,xX];rfl
 .simp only[goG,AU];rfl
@[go_sem] theorem ajZ:goG P call h t want (.aS []) d ty op r ls ⟨env,ct,H⟩ κ=goL P call h r ls (St.fin ⟨env,ct,H⟩ d (.aS []) ⟨ct,H,[]⟩) κ:=by
 simp only[goG,ND];rfl
end
section
variable{f:FuncId}{ds:J D}{b:bq}{ct:J ((Nat×Nat)×T)}{H:J Ob}{tr:J Tr}{dst:Nat}
@[go_sem] theorem aj0:fg call h dst f ds b ⟨ct,H,tr⟩=if(h.aV.contains dst&&D.aQ 0 ds)=true then
   cb (call f ds []) λp=>if p.2.length=0/\(b.sn=true->T.aZ p.1=true)then pF dst p.1 ⟨ct,H,tr⟩else none
  else if h.aV.contains dst=true then none
  else cb (call f ds (fN b.lk H)) λp=>
   if(b.sn=true->T.aZ p.1=true/\gb p.2=true)/\ec (fN b.lk H) p.2=true then pF dst p.1 ⟨ct,jG H b.lk p.2,tr++[.bL]⟩else none:=rfl
end
def AW:Op->Bool
 | .panic _=>false
 |.call {callee:=.value _, .. }|.call {callee:=.invoke .., .. }=>false
 |_=>true
theorem uw{P:Pz}{call:dF}{h:Hint}{dst:Nat}{ty:TypeId}{op:Op}{ρ:Oz->SV}{k:Wk}(hp:AW op=true):gZ P call h dst ty op ρ k=(dD P call h dst ty op ρ k).bind λp=>some (none,p.1,p.2):=by
 unfold gZ dD;split
 .simp[AW]at hp
 .simp[AW]at hp
 .simp[AW]at hp
 .rw[xF]
  split
  .simp[AW]at hp
  .rfl
noncomputable def goP(P:Pz)(call:dF)(h:Hint)(L:J dd)(ls:J Nat)(s:St)(κ:Ex×St->U ρ):U ρ:=(Ho P call h L s).bind λp=>match p.1 with |some d=>κ (.cO d,p.2) |none=>κ (.normal,prune ls p.2)
noncomputable def wO(P:Pz)(call:dF)(h:Hint)(x:U (U D×SV×Wk))(d:U Nat)(r:J dd)(ls:J Nat)(s:St)(κ:Ex×St->U ρ):U ρ:=x.bind λp=>match p.1 with |some e=>κ (.cO e,s.fin none .dead p.2.2) |none=>goP P call h r ls (s.fin d p.2.1 p.2.2) κ
section
variable{d:U Nat}{ty:TypeId}{op:Op}{L r:J dd}{ls:J Nat}{s s':St}{κ:Ex×St->U ρ}{x x':U (U D×SV×Wk)}{env:J (Nat×SV)}{ct:J ((Nat×Nat)×T)}{H:J Ob}{v:SV}{e:D}{k:Wk}
@[congr] theorem ahX(q:s=s'):goP P call h L ls s κ=goP P call h L ls s' κ:=by rw[q]
@[congr] theorem aeM(q:x=x'):wO P call h x d r ls s κ=wO P call h x' d r ls s κ:=by rw[q]
@[go_sem] theorem go_regP{hints:FuncId->Hint}(s:St)(κ:Ex×St->U ρ):go P hints h B (.regP L ls) s κ=goP P (eG P hints) h L ls s κ:=by
 simp only[go,jU,xX,goP];refine congrArg _ (funext λp=> ?_)
 obtain⟨t,s'⟩:=p
 cases t <;>rfl
@[go_sem] theorem as9:goP P call h [] ls s κ=κ (.normal,prune ls s):=rfl
@[go_sem] theorem aj1:goP P call h (⟨d,ty,op,none⟩::r) ls ⟨env,ct,H⟩ κ=wO P call h (gZ P call h (d.getD 0) ty op (St.val ⟨env,ct,H⟩) ⟨ct,H,[]⟩) d r ls ⟨env,ct,H⟩ κ:=by
 simp only[goP,wO,Ho,xX];refine congrArg _ (funext λp=> ?_)
 obtain⟨t,q⟩:=p
 cases t <;>rfl
@[go_sem] theorem ahY:wO P call h none d r ls s κ=none:=rfl
@[go_sem] theorem ahZ:wO P call h (some (none,v,k)) d r ls s κ=goP P call h r ls (s.fin d v k) κ:=rfl
@[go_sem] theorem aj2:wO P call h (some (some e,v,k)) d r ls s κ=κ (.cO e,s.fin none .dead k):=rfl
@[go_sem] theorem ah0{α:Type}{o:U α}{f:α->U (U D×SV×Wk)}:wO P call h (o.bind f) d r ls s κ=o.bind λy=>wO P call h (f y) d r ls s κ:=by simp only[wO,xX]
@[go_sem] theorem aj3{c:Prop}[Decidable c]{y:U (U D×SV×Wk)}:wO P call h (if c then x else y) d r ls s κ=if c then wO P call h x d r ls s κ else wO P call h y d r ls s κ:=by split <;>rfl
@[go_sem] theorem ata{α:Type}{o:U α}{f:α->U (U D×SV×Wk)}:wO P call h (cb o f) d r ls s κ=cbK o λy=>wO P call h (f y) d r ls s κ:=by simp only[wO,cb,cbK,xX]
end
section
variable{P:Pz}{call:dF}{h:Hint}{dst:Nat}{ty t t2:TypeId}{ρ:Oz->SV}{k:Wk}{x y z:Oz}{n:Nat}{bo:BinOp}{uo:UnOp}{ps:Array (Nat×Oz)}{lo hi mx:U Oz}{bi:Builtin}{as bs:Array Oz}{cu:Array TypeId}{bb:Bool}{fn:Fn}
@[go_sem] theorem aj4:gZ P call h dst ty (.move x) ρ k=(dD P call h dst ty (.move x) ρ k).bind λp=>some (none,p.1,p.2):=uw rfl
@[go_sem] theorem aj5:gZ P call h dst ty (.load t x) ρ k=(dD P call h dst ty (.load t x) ρ k).bind λp=>some (none,p.1,p.2):=uw rfl
@[go_sem] theorem h_:gZ P call h dst ty (.fieldAddr t x n) ρ k=(dD P call h dst ty (.fieldAddr t x n) ρ k).bind λp=>some (none,p.1,p.2):=uw rfl
@[go_sem] theorem ah1:gZ P call h dst ty (.binOp bo t x y t2) ρ k=(dD P call h dst ty (.binOp bo t x y t2) ρ k).bind λp=>some (none,p.1,p.2):=uw rfl
@[go_sem] theorem aj6:gZ P call h dst ty (.unOp uo t x) ρ k=(dD P call h dst ty (.unOp uo t x) ρ k).bind λp=>some (none,p.1,p.2):=uw rfl
@[go_sem] theorem ah2:gZ P call h dst ty (.build t ps) ρ k=(dD P call h dst ty (.build t ps) ρ k).bind λp=>some (none,p.1,p.2):=uw rfl
@[go_sem] theorem acn:gZ P call h dst ty (.call {callee:=.builtin bi,args:=as,argTypes:=cu}) ρ k=(dD P call h dst ty (.call {callee:=.builtin bi,args:=as,argTypes:=cu}) ρ k).bind λp=>some (none,p.1,p.2):=uw rfl
end
noncomputable def goR(P:Pz)(call:dF)(h:Hint)(L:J LF)(ls:J Nat)(c:Cf)(acc:J Fp)(κ:Ex×St->U ρ):U ρ:=(zk P call h L c acc).bind λs'=>κ (.normal,prune ls s')
noncomputable def lE(P:Pz)(call:dF)(h:Hint)(x:U (SV×Wk))(o:LF)(r:J LF)(ls:J Nat)(c:Cf)(acc:J Fp)(w:Bool)(κ:Ex×St->U ρ):U ρ:=x.bind λp=>(kP P call h o r c acc w p.1 p.2).bind λs'=>κ (.normal,prune ls s')
noncomputable def D1(P:Pz)(call:dF)(h:Hint)(t:Nat)(want:Bool)(v:SV)(o:LF)(r:J LF)(ls:J Nat)(c:Cf)(acc:J Fp)(κ:Ex×St->U ρ):U ρ:=
 match v with
 | .d (.bool b)=>(zn P call h o want r ({c.1 with env:=oF t (.d (.bool b)) c.1.env},c.2) acc v).bind λs'=>κ (.normal,prune ls s')
 |_=>(zn P call h o want r c acc v).bind λs'=>κ (.normal,prune ls s')
noncomputable def goT(P:Pz)(call:dF)(h:Hint)(x:TL)(ls:J Nat)(s:St)(κ:Ex×St->U ρ):U ρ:=(Iv P call h ls x s).bind λs'=>κ (.normal,s')
def kQ(a:St)(κ:Ex×St->U ρ):Ex×St->U ρ:=λr=>if St.beq a r.2=true then κ (.normal,a)else none
noncomputable def kT(P:Pz)(call:dF)(h:Hint)(x:TL)(ls:J Nat)(s:St)(κ:Ex×St->U ρ):Ex×St->U ρ:=λr=>goT P call h x ls s (kQ r.2 κ)
section
variable{d:U Nat}{g:U (Nat×Bool)}{ty:TypeId}{op:Op}{lk u:J Nat}{nd eff rds hr ho:Bool}{o:LF}{L r:J LF}{ls:J Nat}{κ:Ex×St->U ρ}{x x':U (SV×Wk)}{env:J (Nat×SV)}{ct ct':J ((Nat×Nat)×T)}{H H':J Ob}{tr:J Tr}{v v':SV}{t n:Nat}{b want w:Bool}{c c':Cf}{hi:pG}{acc acc':J Fp}
@[congr] theorem ah3(e:c=c')(f:acc=acc'):goR P call h L ls c acc κ=goR P call h L ls c' acc' κ:=by rw[e,f]
@[congr] theorem aeN(e:x=x'):lE P call h x o r ls c acc w κ=lE P call h x' o r ls c acc w κ:=by rw[e]
@[congr] theorem aeO(e:v=v'):D1 P call h t want v o r ls c acc κ=D1 P call h t want v' o r ls c acc κ:=by rw[e]
@[go_sem] theorem go_regD{hints:FuncId->Hint}(s:St)(κ:Ex×St->U ρ):go P hints h B (.regD L ls) s κ=goR P (eG P hints) h L ls (s,ku s) [] κ:=by
 simp only[go,jU,xX];rfl
@[congr] theorem aj7{X:TL}{s:St}{r a:Ex×St}(e:r=a):kT P call h X ls s κ r=kT P call h X ls s κ a:=by rw[e]
@[congr] theorem aj8{s:St}{r a:Ex×St}(e:r=a):kQ s κ r=kQ s κ a:=by rw[e]
@[go_sem] theorem go_regT{hints:FuncId->Hint}{X:TL}(s:St)(κ:Ex×St->U ρ):go P hints h B (.regT X ls) s κ=goT P (eG P hints) h X ls s κ:=by
 simp only[go,jU,xX];rfl
@[go_sem] theorem aj9{s:St}:goT P call h (.leaf L) ls s κ=goR P call h L ls (s,ku s) [] κ:=by
 simp only[goT,Iv,goR,xF,xX];rfl
@[go_sem] theorem aka{X Y:TL}{s:St}:goT P call h (.node X Y) ls s κ=goT P call h X ls s (kT P call h Y ls s κ):=by
 simp only[goT,Iv,kT,xX];congr 1;funext a;congr 1;funext b;unfold kQ
 simp only
 split <;>rfl
@[go_sem] theorem awv{X:TL}{s a:St}:kT P call h X ls s κ (.normal,a)=goT P call h X ls s (kQ a κ):=rfl
@[go_sem] theorem aww{a s2:St}:kQ a κ (.normal,s2)=if St.beq a s2=true then κ (.normal,a)else none:=rfl
@[go_sem] theorem atb{s:St}:goR P call h [] ls (s,hi) acc κ=κ (.normal,prune ls s):=rfl
@[go_sem] theorem ah4:goR P call h (⟨d,none,ty,op,lk,u,nd,eff,rds,hr,ho⟩::r) ls (⟨env,ct,H⟩,hi) acc κ=lE P call h (dD P call h (d.getD 0) ty op (St.val ⟨env,ct,H⟩) ⟨ct,H,[]⟩) ⟨d,none,ty,op,lk,u,nd,eff,rds,hr,ho⟩ r ls (⟨env,ct,H⟩,hi) acc true κ:=by
 simp only[goR,lE,PP,xX]
@[go_sem] theorem ah5:goR P call h (⟨d,some (t,want),ty,op,lk,u,nd,eff,rds,hr,ho⟩::r) ls c acc κ=D1 P call h t want (c.1.get t) ⟨d,some (t,want),ty,op,lk,u,nd,eff,rds,hr,ho⟩ r ls c acc κ:=by
 obtain⟨⟨env,ct,H⟩,hi⟩:=c;simp only[goR,D1,PQ];split
 .rename_i b a
  rw[a];simp only[Hq a]
 .rfl
@[go_sem] theorem auh:D1 P call h t true (.d (.bool b)) o r ls (⟨env,ct,H⟩,hi) acc κ=if b=true then lE P call h (dD P call h (o.d.getD 0) o.ty o.op (St.val ⟨oF t (.d (.bool true)) env,ct,H⟩) ⟨ct,H,[]⟩) o r ls (⟨oF t (.d (.bool true)) env,ct,H⟩,hi) acc true κ else lE P call h (some (.aS [],⟨ct,H,[]⟩)) o r ls (⟨oF t (.d (.bool false)) env,ct,H⟩,hi) acc false κ:=by
 cases b
 .simp only[D1,ut];rfl
 .simp only[D1,ut,if_true,lE,xX];rfl
@[go_sem] theorem aui:D1 P call h t false (.d (.bool b)) o r ls (⟨env,ct,H⟩,hi) acc κ=if b=true then lE P call h (some (.aS [],⟨ct,H,[]⟩)) o r ls (⟨oF t (.d (.bool true)) env,ct,H⟩,hi) acc false κ else lE P call h (dD P call h (o.d.getD 0) o.ty o.op (St.val ⟨oF t (.d (.bool false)) env,ct,H⟩) ⟨ct,H,[]⟩) o r ls (⟨oF t (.d (.bool false)) env,ct,H⟩,hi) acc true κ:=by
 cases b
 .simp only[D1,AV,lE,xH,if_false,xX];rfl
 .simp only[D1,AV];rfl
@[go_sem] theorem ah6:D1 P call h t want (.aS []) o r ls (⟨env,ct,H⟩,hi) acc κ=lE P call h (some (.aS [],⟨ct,H,[]⟩)) o r ls (⟨env,ct,H⟩,hi) acc false κ:=by
 simp only[D1,NG];rfl
@[go_sem] theorem ah7:lE P call h none o r ls c acc w κ=none:=rfl
@[go_sem] theorem ah8{α:Type}{y:U α}{f:α->U (SV×Wk)}:lE P call h (y.bind f) o r ls c acc w κ=y.bind λz=>lE P call h (f z) o r ls c acc w κ:=by simp only[lE,xX]
@[go_sem] theorem akb{q:Prop}[Decidable q]{y:U (SV×Wk)}:lE P call h (if q then x else y) o r ls c acc w κ=if q then lE P call h x o r ls c acc w κ else lE P call h y o r ls c acc w κ:=by split <;>rfl
@[go_sem] theorem atc{α:Type}{y:U α}{f:α->U (SV×Wk)}:lE P call h (cb y f) o r ls c acc w κ=cbK y λz=>lE P call h (f z) o r ls c acc w κ:=by simp only[lE,cb,cbK,xX]
@[go_sem] theorem aeP:lE P call h (some (v,⟨ct',H',tr⟩)) ⟨d,g,ty,op,lk,[],false,eff,rds,hr,ho⟩ r ls c acc w κ=goR P call h r ls (c.1.fin d v ⟨ct',H',tr⟩,dT c.2 tr d (fV op c.2 v)) (acc++[fp0]) κ:=by
 simp only[lE,xS,NH];rfl
@[go_sem] theorem ah9:lE P call h (some (v,⟨ct',H',tr⟩)) ⟨d,g,ty,op,lk,n::u,false,eff,rds,hr,ho⟩ r ls c acc w κ=if(n::u).all (gk acc (fpW ⟨d,g,ty,op,lk,n::u,false,eff,rds,hr,ho⟩ c.2 c.1 w v ⟨ct',H',tr⟩))=true then goR P call h r ls (c.1.fin d v ⟨ct',H',tr⟩,dT c.2 tr d (fV op c.2 v)) (acc++[fp0]) κ else none:=by
 simp only[lE,xS,PR,Hh];rfl
@[go_sem] theorem atd:lE P call h (some (v,⟨ct',H',tr⟩)) ⟨d,g,ty,op,lk,u,true,eff,rds,hr,ho⟩ r ls c acc w κ=if u.all (gk acc (fpW ⟨d,g,ty,op,lk,u,true,eff,rds,hr,ho⟩ c.2 c.1 w v ⟨ct',H',tr⟩))=true then goR P call h r ls (c.1.fin d v ⟨ct',H',tr⟩,dT c.2 tr d (fV op c.2 v)) (acc++[fpW ⟨d,g,ty,op,lk,u,true,eff,rds,hr,ho⟩ c.2 c.1 w v ⟨ct',H',tr⟩]) κ else none:=by
 simp only[lE,xS,W3,Hh];rfl
end
end
section
variable{α:Type}{ρ:Type}
open Classical in
noncomputable def aeQ(g:Nat->U ρ):U ρ:=if h:∃r,∃N,∀n,N<=n->g n=some r then some (Classical.choose h)else none
theorem AY{g:Nat->U ρ}{r:U ρ}(N:Nat)(h:∀n,N<=n->g n=r):aeQ g=r:=by
 unfold aeQ
 cases r with
 |none=>
  rw[dif_neg]
  rintro⟨r,M,a⟩
  have b:=h (max N M) (lQ _ _);rw[a _ (kE _ _)]at b
  cases b
 |some r=>
  have c:∃r,∃N,∀n,N<=n->g n=some r:=⟨r,N,h⟩
  rw[dif_pos c];obtain⟨M,a⟩:=Classical.choose_spec c;rw[<-a (max N M) (kE _ _),h _ (lQ _ _)]
def zq(Φ:α->(α->Option ρ)->Option ρ):Nat->α->Option ρ
 |0,_=>none
 |n+1,v=>Φ v (zq Φ n)
noncomputable def im(Φ:α->(α->U ρ)->U ρ)(v:α):U ρ:=aeQ λn=>zq Φ n v
theorem qy{Φ:α->(α->U ρ)->U ρ}(I:α->Prop)(E:α->U ρ)(a:α->Nat)(h:∀v k,I v->(∀v',I v'->a v'<a v->k v'=E v')->Φ v k=E v){v:α}(hv:I v):im Φ v=E v:=by
 have:∀n v,I v->a v<n->zq Φ n v=E v:=by
  intro n
  induction n with
  |zero=>intro v _ hv;omega
  |succ n d=>intro v c hv;exact h v _ c λv' b f=>d v' b (by omega)
 exact AY (a v+1) λn e=>this n v hv (by omega)
section
variable{P:Pz}{hints:FuncId->Hint}{h:Hint}{B:Code}
theorem DF{a:Code}{s:St}{r:Ex×St}:eL P hints h (.loop a) s=some r↔∃n,mh (eL P hints h a) n s=some r:=by
 constructor
 .intro e
  obtain⟨n,e⟩:=dR.1 e;simp only[dZ]at e
  exact⟨n,lD (λs r e=>dR.2 ⟨n,e⟩) n n (dB _) s r e⟩
 .rintro⟨n,e⟩
  induction n generalizing s with
  |zero=>cases e
  |succ n d=>
   simp only[mh,xB]at e
   obtain⟨⟨f,s'⟩,c,b⟩:=e;rw[Hf,c,xS];simp only at b;unfold Ji
   simp only
   cases f with
   |normal=>exact d b
   |_=>exact b
theorem ap{k:Nat}{q:CL}(a:Jo h B k=some q){s:St}{κ:Ex×St->U ρ}:dG P hints h B k s κ=go P hints h B q s (kLp (λs=>dG P hints h B k s κ) κ):=by
 have b:∀s,eL P hints h (Cm B k) s=jU P hints h B q s:=NL a
 unfold dG go;rw[Hf,<-b,xX];congr 1;funext ⟨c,s'⟩
 cases c <;>rfl
theorem dA{k:Nat}{q:CL}(i:Jo h B k=some q){S:α->St}{κ:Ex×St->U ρ}{Φ:α->(α->U ρ)->U ρ}
  (c:∀(R:St->U ρ) (g:α->U ρ),(∀v,R (S v)=g v)->∀v,go P hints h B q (S v) (kLp R κ)=Φ v g) (v:α):dG P hints h B k (S v) κ=im Φ v:=by
 have f:∀s,eL P hints h (Cm B k) s=jU P hints h B q s:=NL i
 unfold dG im;generalize Cm B k=a at f |-
 have b:∀n s,(mh (eL P hints h a) (n+1) s).bind κ=go P hints h B q s (kLp (λs=>(mh (eL P hints h a) n s).bind κ) κ):=λn s=>by
  simp only[mh,go,<-f,xX];congr 1;funext ⟨p,s'⟩
  cases p <;>rfl
 have d:∀n v,(mh (eL P hints h a) n (S v)).bind κ=zq Φ n v:=by
  intro n
  induction n with
  |zero=>intro v;rfl
  |succ n l=>intro v;rw[b];exact c _ _ l v
 refine Eq.symm ?_
 cases e:eL P hints h (.loop a) (S v)with
 |none=>
  refine AY 0 λn _=> ?_
  rw[<-d]
  cases j:mh (eL P hints h a) n (S v)with
  |none=>rfl
  |some r=>rw[DF.2 ⟨n,j⟩]at e;cases e
 |some r=>
  obtain⟨N,o⟩:=DF.1 e;refine AY N λn m=> ?_
  rw[<-d,lD (λ_ _ e=>e) N n m _ _ o]
end
end
section
variable{P:Pz}{κ ν:Type}[DecidableEq κ]{fk:κ->D}{fv:ν->D}
def jw(fk:κ->D)(fv:ν->D)(l:J (κ×ν)):J (D×T):=l.map λp=>(fk p.1,.d (fv p.2))
def Km:List (κ×ν)->κ->Option ν
 | [],_=>none
 |(a,b)::r,k=>if k=a then some b else Km r k
def kS:List (κ×ν)->κ->ν->List (κ×ν)
 | [],k,v=>[(k,v)]
 |(a,b)::r,k,v=>if k=a then(k,v)::r else(a,b)::kS r k v
def aeR(l:J (κ×ν))(k:κ):Bool:=(Km l k).isSome
def kC(z:ν)(l:J (κ×ν))(k:κ):ν:=(Km l k).getD z
omit [DecidableEq κ] in
theorem W9:jw fk fv []=[]:=rfl
def rQ(P:Pz)(t:TypeId)(ob:Ob)(kd:D)(d:Bool):U SV:=
 (mf P t).bind λ(a,e)=>if(ew P a kd kd).isSome then(match ob with | .map f=>jO (ew P a) kd f | .sset c=>Mh c kd |_=>none).bind λr=>(dQ P e).bind λz=>
    (match r with |some (.d x)=>some (x,true) |some _=>none |none=>some (z,false)).map λ(x,b)=>if d then .aS [.d x,.d (.bool b)]else .d x
   else none
omit [DecidableEq κ] in
@[go_sem] theorem aco{t:TypeId}{o:Nat}{kd:D}{a:Bool}{H:J Ob}:nb P t (.d (.map o)) (.d kd) a H=(H[o]?).bind λob=>rQ P t ob kd a:=by
 unfold nb rQ
 cases mf P t with
 |none=>cases H[o]? <;>rfl
 |some q=>
  obtain⟨b,e⟩:=q;simp only[xS]
  cases H[o]? with
  |none=>simp
  |some ob=>simp only[xS];cases ob <;>rfl
def ux(P:Pz)(t:TypeId)(ob:Ob)(kd y:D):U (J (D×T)):=
 (mf P t).bind λ(a,_)=>if(ew P a kd kd).isSome then(match ob with | .map b=>qo (ew P a) kd (.d y) b |_=>none)else none
def Xa(P:Pz)(t:TypeId)(ob:Ob)(kd:D)(y:J T):U (J (D×T)):=
 (mf P t).bind λ(a,_)=>if(ew P a kd kd).isSome then(match ob with | .map b=>qo (ew P a) kd (.own y) b |_=>none)else none
def Hr(P:Pz)(t:TypeId)(o:Nat)(kd y:D)(ob:Ob)(k:Wk):U Wk:=
 match ob with
 | .sset a=>(BU a kd y).bind λa=>some {k with H:=k.H.set o (.sset a)}
 |ob=>(ux P t ob kd y).bind λb=>some {k with H:=k.H.set o (.map b)}
def Xb(P:Pz)(t:TypeId)(o:Nat)(kd:D)(x:T)(k:Wk):U Wk:=
 match x with
 | .d y=>(k.H[o]?).bind λa=>Hr P t o kd y a k
 | .own l=>(k.H[o]?).bind λa=>(Xa P t a kd l).bind λb=>some {k with H:=k.H.set o (.map b)}
 |_=>none
omit [DecidableEq κ] in
@[go_sem] theorem aeS{nv:Nat}{t:TypeId}{o:Nat}{kd:D}{v:SV}{k:Wk}:gX P nv t (.d (.map o)) (.d kd) v k=if((mf P t).bind λq=>ew P q.1 kd kd).isSome=true then(fR nv v k).bind λq=>Xb P t o kd q.1 q.2 else none:=by
 unfold gX Xb Hr ux Xa
 cases mf P t with
 |none=>rfl
 |some q=>
  obtain⟨b,e⟩:=q;simp only[xS]
  cases hk:(ew P b kd kd).isSome with
  |false=>simp
  |true=>
   simp only[if_true];congr 1;funext ⟨x,k⟩
   simp only
   cases x with
   |d y=>
    cases k.H[o]? with
    |none=>rfl
    |some a=>cases a <;>simp only[xS,Option.bind_none,xF] <;>rfl
   |own y=>
    cases k.H[o]? with
    |none=>rfl
    |some a=>cases a <;>simp only[xS,Option.bind_none,xF] <;>rfl
   |_=>cases k.H[o]? <;>rfl
omit [DecidableEq κ] in
@[go_sem] theorem ate{t:TypeId}{o:Nat}{kd y:D}{ct:J ((Nat×Nat)×T)}{H:J Ob}{tr:J Tr}:Xb P t o kd (.d y) ⟨ct,H,tr⟩=(H[o]?).bind λob=>Hr P t o kd y ob ⟨ct,H,tr⟩:=rfl
omit [DecidableEq κ] in
@[go_sem] theorem aeT{t:TypeId}{o:Nat}{kd y:D}{l:J (D×T)}{ct:J ((Nat×Nat)×T)}{H:J Ob}{tr:J Tr}:Hr P t o kd y (.map l) ⟨ct,H,tr⟩=(ux P t (.map l) kd y).bind λes=>some ⟨ct,H.set o (.map es),tr⟩:=rfl
omit [DecidableEq κ] in
@[go_sem] theorem aeU{t:TypeId}{o:Nat}{kd y:D}{l:J (J UInt8)}{ct:J ((Nat×Nat)×T)}{H:J Ob}{tr:J Tr}:Hr P t o kd y (.sset l) ⟨ct,H,tr⟩=(BU l kd y).bind λks=>some ⟨ct,H.set o (.sset ks),tr⟩:=rfl
omit [DecidableEq κ] in
@[go_sem] theorem aeV{s:J UInt8}{l:J (J UInt8)}:BU l (.str s) (.bool true)=some (s::l):=rfl
theorem Ht{kt:TypeId}(hk:∀a b,ew P kt (fk a) (fk b)=some (decide (a=b)))(k:κ):∀l:J (κ×ν),jO (ew P kt) (fk k) (jw fk fv l)=some ((Km l k).map λv=>.d (fv v))
 | []=>rfl
 |(a,b)::r=>by
  have c:=Ht hk k r;simp only[jw,eJ,jO,hk,xS,Km,yD]at c |-
  split
  .rfl
  .exact c
theorem Jq{kt:TypeId}(hk:∀a b,ew P kt (fk a) (fk b)=some (decide (a=b)))(k:κ)(v:ν):∀l:J (κ×ν),qo (ew P kt) (fk k) (.d (fv v)) (jw fk fv l)=some (jw fk fv (kS l k v))
 | []=>rfl
 |(a,b)::r=>by
  have c:=Jq hk k v r;simp only[jw,eJ,qo,hk,xS,kS,yD]at c |-
  split
  .rfl
  .rw[c];rfl
theorem NM{t kt e:TypeId}{l:J (κ×ν)}{k:κ}{z:ν}{c:Bool}(d:mf P t=some (kt,e))(hk:∀a b,ew P kt (fk a) (fk b)=some (decide (a=b)))(hz:dQ P e=some (fv z)):
  rQ P t (.map (jw fk fv l)) (fk k) c=some (if c=true then .aS [.d (fv (kC z l k)),.d (.bool (aeR l k))]else .d (fv (kC z l k))):=by
 simp only[rQ,d,xS,hk,Ar,if_true,Ht hk,hz,kC,aeR]
 cases Km l k <;>rfl
theorem PW{t kt e:TypeId}{l:J (κ×ν)}{k:κ}{v:ν}(c:mf P t=some (kt,e))(hk:∀a b,ew P kt (fk a) (fk b)=some (decide (a=b))):
  ux P t (.map (jw fk fv l)) (fk k) (fv v)=some (jw fk fv (kS l k v)):=by
 simp only[ux,c,xS,hk,Ar,if_true,Jq hk]
def auj(fv:ν->D):Bool->J ν->T
 |true,l=>.d (.sl false (List.map fv l))
 |false,l=>.own (tl fv l)
def akc(b:Bool)(fk:κ->D)(fv:ν->D)(l:J (κ×J ν)):J (D×T):=l.map λp=>(fk p.1,auj fv b p.2)
omit [DecidableEq κ] in
theorem TX{b:Bool}:akc b fk fv ([]:J (κ×J ν))=[]:=rfl
end
attribute [go_sem] gb Ob.low
section
variable{κ ν:Type}{fk:κ->D}{fv:ν->D}
theorem Xc(hk:∀x,(fk x).cW=true)(hv:∀x,(fv x).cW=true)(l:J (κ×ν)):((jw fk fv l).all λe=>e.1.cW&&e.2.cW)=true:=by
 simp[jw,io,T.cW,hk,hv]
end
end Go.Am
