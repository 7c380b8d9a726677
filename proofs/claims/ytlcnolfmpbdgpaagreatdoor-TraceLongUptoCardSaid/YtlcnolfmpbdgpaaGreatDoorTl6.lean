/- A part of the proof. -/
import Derived.Test.YtlcnolfmpbdgpaaGreatDoorTl5
set_option linter.unusedSimpArgs false
set_option linter.unusedVariables false
namespace Go.Am
open Go
section
variable{P:Program}{hints:FuncId→Hint}{call:ak}{h:Hint}{ρ:Type}{B:Code}
noncomputable def go(P:Program)(hints:FuncId→Hint)(h:Hint)(B:Code)(c:CL)(s:St)(κ:Ex×St→Option ρ):Option ρ:=(eN P hints h B c s).bind κ
noncomputable def cX(P:Program)(hints:FuncId→Hint)(h:Hint)(B:Code)(k:Nat)(s:St)(κ:Ex×St→Option ρ):Option ρ:=(aY P hints h (.loop (sL B k)) s).bind κ
noncomputable def zb(P:Program)(hints:FuncId→Hint)(h:Hint)(B:Code)(b:CL)(κ:Ex×St→Option ρ):Ex×St→Option ρ:=fun r=>match r.1 with | .normal=>go P hints h B b r.2 κ |_=>κ r
def uH(id:Nat)(κ:Ex×St→Option ρ):Ex×St→Option ρ:=fun r=>κ (FC id r.1,r.2)
def kLp(R:St→Option ρ)(κ:Ex×St→Option ρ):Ex×St→Option ρ:=fun r=>match r.1 with | .normal=>R r.2 |_=>κ r
@[congr] theorem go_congr{c:CL}{s s':St}{κ:Ex×St→Option ρ}(e:s=s'):go P hints h B c s κ=go P hints h B c s' κ:=by rw[e]
@[congr] theorem Sy{k:Nat}{s s':St}{κ:Ex×St→Option ρ}(e:s=s'):cX P hints h B k s κ=cX P hints h B k s' κ:=by rw[e]
@[congr] theorem SA{b:CL}{r r':Ex×St}{κ:Ex×St→Option ρ}(e:r=r'):zb P hints h B b κ r=zb P hints h B b κ r':=by rw[e]
@[congr] theorem SD{b:Nat}{r r':Ex×St}{κ:Ex×St→Option ρ}(e:r=r'):uH b κ r=uH b κ r':=by rw[e]
@[congr] theorem Vk{R:St→Option ρ}{r r':Ex×St}{κ:Ex×St→Option ρ}(e:r=r'):kLp R κ r=kLp R κ r':=by rw[e]
section
variable{a b:CL}{s:St}{κ:Ex×St→Option ρ}{id j k:Nat}{env:List (Nat×SV)}{ct:List ((Nat×Nat)×T)}{H:List Ob}{R:St→Option ρ}{L:List Lite}{LD:List LF}{ls:List Nat}
@[go_sem] theorem go_seq:go P hints h B (.seq a b) s κ=go P hints h B a s (zb P hints h B b κ):=by
 simp only[go,eN,xX];congr 1;funext r;unfold zb
 split <;>simp_all [go]
@[go_sem] theorem go_block:go P hints h B (.block id a) s κ=go P hints h B a s (uH id κ):=by
 simp only[go,eN,xX];rfl
@[go_sem] theorem go_skip:go P hints h B .skip s κ=κ (.normal,s):=rfl
@[go_sem] theorem go_ret:go P hints h B .ret s κ=κ (.ret,s):=rfl
@[go_sem] theorem go_exit:go P hints h B (.exit id) s κ=κ (.exit id,s):=rfl
@[go_sem] theorem go_cpy{p:Cpy}:go P hints h B (.cpy p) s κ=(B7 P p s).bind κ:=rfl
@[go_sem] theorem go_loop:go P hints h B (.loop k) s κ=cX P hints h B k s κ:=rfl
@[go_sem] def iU(t:Nat)(v:SV):List (Nat×SV)→List (Nat×SV)
 | []=>[]
 |(k,w)::r=>if k=t then(k,v)::r else(k,w)::iU t v r
theorem Af{t:Nat}{v:SV}:∀{env:List (Nat×SV)},look env t=some v→iU t v env=env
 | [],e=>by cases e
 |(k,w)::r,e=>by
  unfold iU;unfold look at e
  by_cases hk:k=t
  ·rw[if_pos hk]at e ⊢
   simp only[xJ]at e
   rw[e]
  ·rw[if_neg hk]at e ⊢
   rw[Af e]
theorem xz{t:Nat}{b:Bool}{env:List (Nat×SV)}{ct:List ((Nat×Nat)×T)}{H:List Ob}(e:St.get ⟨env,ct,H⟩ t=.d (.bool b)):iU t (.d (.bool b)) env=env:=by
 refine Af ?_;unfold St.get at e
 cases hl:look env t with
 |none=>rw[hl]at e;cases e
 |some v=>rw[hl]at e;exact congrArg some e
noncomputable def J5(P:Program)(hints:FuncId→Hint)(h:Hint)(B:Code)(t:Nat)(v:SV)(a b:CL)(s:St)(κ:Ex×St→Option ρ):Option ρ:=
 match v with
 | .d (.bool x)=>if x=true then go P hints h B a {s with env:=iU t (.d (.bool x)) s.env} κ else go P hints h B b {s with env:=iU t (.d (.bool x)) s.env} κ
 |_=>none
@[congr] theorem SF{t:Nat}{v v':SV}(e:v=v'):J5 P hints h B t v a b s κ=J5 P hints h B t v' a b s κ:=by rw[e]
@[go_sem] theorem go_cond{t:Nat}:go P hints h B (.cond (.tmp t) a b) s κ=J5 P hints h B t (s.get t) a b s κ:=by
 obtain⟨env,ct,H⟩:=s;simp only[go,eN,AW];unfold J5;split
 ·rename_i x hx
  rw[hx];simp only[xz hx,go]
  cases x <;>rfl
 ·rename_i hne
  split
  ·rename_i t hx
   exact absurd hx (hne t)
  ·rfl
@[go_sem] theorem Vl{t:Nat}{x:Bool}:J5 P hints h B t (.d (.bool x)) a b ⟨env,ct,H⟩ κ=if x=true then go P hints h B a ⟨iU t (.d (.bool true)) env,ct,H⟩ κ else go P hints h B b ⟨iU t (.d (.bool false)) env,ct,H⟩ κ:=by
 cases x <;>rfl
@[go_sem] theorem aes:zb P hints h B b κ (.normal,s)=go P hints h B b s κ:=rfl
@[go_sem] theorem aet:zb P hints h B b κ (.ret,s)=κ (.ret,s):=rfl
@[go_sem] theorem aeu:zb P hints h B b κ (.exit id,s)=κ (.exit id,s):=rfl
@[go_sem] theorem aev:uH id κ (.normal,s)=κ (.normal,s):=rfl
@[go_sem] theorem aew:uH id κ (.ret,s)=κ (.ret,s):=rfl
@[go_sem] theorem aex:uH id κ (.exit j,s)=if j=id then κ (.normal,s)else κ (.exit j,s):=by
 unfold uH FC Ex.block;by_cases e:j=id <;>simp[e]
@[go_sem] theorem aey{d:D}:zb P hints h B b κ (.pan d,s)=κ (.pan d,s):=rfl
@[go_sem] theorem aez{d:D}:uH id κ (.pan d,s)=κ (.pan d,s):=rfl
@[go_sem] theorem agE{d:D}:kLp R κ (.pan d,s)=κ (.pan d,s):=rfl
@[go_sem] theorem agF:kLp R κ (.normal,s)=R s:=rfl
@[go_sem] theorem agG:kLp R κ (.ret,s)=κ (.ret,s):=rfl
@[go_sem] theorem agH:kLp R κ (.exit id,s)=κ (.exit id,s):=rfl
end
noncomputable def goL(P:Program)(call:ak)(h:Hint)(L:List Lite)(ls:List Nat)(s:St)(κ:Ex×St→Option ρ):Option ρ:=(kP P call h L s).bind fun s'=>κ (.normal,prune ls s')
def cb{α β:Type}(o:Option α)(k:α→Option β):Option β:=o.bind k
def cbK{α β:Type}(o:Option α)(k:α→Option β):Option β:=o.bind k
@[congr] theorem Xe{α β:Type}{o o':Option α}{k:α→Option β}(e:o=o'):cb o k=cb o' k:=by rw[e]
@[congr] theorem Vm{α β:Type}{o o':Option α}{k:α→Option β}(e:o=o'):cbK o k=cbK o' k:=by rw[e]
@[go_sem] theorem adt{α β γ:Type}{o:Option α}{k:α→Option β}{g:β→Option γ}:(cb o k).bind g=cb o fun y=>(k y).bind g:=xX _ _ _
noncomputable def goB(P:Program)(call:ak)(h:Hint)(x:Option (SV×Wk))(d:Option Nat)(r:List Lite)(ls:List Nat)(s:St)(κ:Ex×St→Option ρ):Option ρ:=x.bind fun p=>goL P call h r ls (s.fin d p.1 p.2) κ
section
variable{d:Option Nat}{ty:TypeId}{op:Op}{L r:List Lite}{ls:List Nat}{s s':St}{κ:Ex×St→Option ρ}{x x':Option (SV×Wk)}{env:List (Nat×SV)}{ct ct':List ((Nat×Nat)×T)}{H H':List Ob}{tr:List Tr}{v v':SV}{t:Nat}{b want:Bool}
@[congr] theorem Vn(e:s=s'):goL P call h L ls s κ=goL P call h L ls s' κ:=by rw[e]
@[congr] theorem Vo(e:x=x'):goB P call h x d r ls s κ=goB P call h x' d r ls s κ:=by rw[e]
@[go_sem] theorem go_reg{hints:FuncId→Hint}(s:St)(κ:Ex×St→Option ρ):go P hints h B (.reg L ls) s κ=goL P (aX P hints) h L ls s κ:=by
 simp only[go,eN,xX];rfl
@[go_sem] theorem adu:goL P call h [] ls s κ=κ (.normal,prune ls s):=rfl
@[go_sem] theorem Vp:goL P call h (⟨d,ty,op,none⟩::r) ls ⟨env,ct,H⟩ κ=goB P call h (am P call h (d.getD 0) ty op (St.val ⟨env,ct,H⟩) ⟨ct,H,[]⟩) d r ls ⟨env,ct,H⟩ κ:=by
 simp only[goL,goB,EI,xX];rfl
@[go_sem] theorem Xf{k:Wk}:goB P call h (some (v,k)) d r ls s κ=goL P call h r ls (s.fin d v k) κ:=rfl
@[go_sem] theorem Xg:goB P call h none d r ls s κ=none:=rfl
@[go_sem] theorem Xh{α:Type}{o:Option α}{f:α→Option (SV×Wk)}:goB P call h (o.bind f) d r ls s κ=o.bind fun y=>goB P call h (f y) d r ls s κ:=by simp only[goB,xX]
@[go_sem] theorem adv{c:Prop}[Decidable c]{y:Option (SV×Wk)}:goB P call h (if c then x else y) d r ls s κ=if c then goB P call h x d r ls s κ else goB P call h y d r ls s κ:=by split <;>rfl
@[go_sem] theorem aeA{α:Type}{o:Option α}{f:α→Option (SV×Wk)}:goB P call h (cb o f) d r ls s κ=cbK o fun y=>goB P call h (f y) d r ls s κ:=by simp only[goB,cb,cbK,xX]
noncomputable def goG(P:Program)(call:ak)(h:Hint)(t:Nat)(want:Bool)(g:SV)(d:Option Nat)(ty:TypeId)(op:Op)(r:List Lite)(ls:List Nat)(s:St)(κ:Ex×St→Option ρ):Option ρ:=
 match g with
 | .d (.bool b)=>(mC P call h d ty op want r {s with env:=iU t (.d (.bool b)) s.env} g).bind fun s'=>κ (.normal,prune ls s')
 |_=>(mC P call h d ty op want r s g).bind fun s'=>κ (.normal,prune ls s')
@[congr] theorem Vq(e:v=v'):goG P call h t want v d ty op r ls s κ=goG P call h t want v' d ty op r ls s κ:=by rw[e]
@[go_sem] theorem Vr:goL P call h (⟨d,ty,op,some (t,want)⟩::r) ls s κ=goG P call h t want (s.get t) d ty op r ls s κ:=by
 obtain⟨env,ct,H⟩:=s;simp only[goL,goG,EJ];split
 ·rename_i b hb
  rw[hb];simp only[xz hb]
 ·rfl
@[go_sem] theorem agI:goG P call h t true (.d (.bool b)) d ty op r ls ⟨env,ct,H⟩ κ=if b=true then goB P call h (am P call h (d.getD 0) ty op (St.val ⟨iU t (.d (.bool true)) env,ct,H⟩) ⟨ct,H,[]⟩) d r ls ⟨iU t (.d (.bool true)) env,ct,H⟩ κ else goL P call h r ls (St.fin ⟨iU t (.d (.bool false)) env,ct,H⟩ d (.tup []) ⟨ct,H,[]⟩) κ:=by
 cases b
 ·simp only[goG,mD];rfl
 ·simp only[goG,mD,if_true,goB,xX];rfl
@[go_sem] theorem agJ:goG P call h t false (.d (.bool b)) d ty op r ls ⟨env,ct,H⟩ κ=if b=true then goL P call h r ls (St.fin ⟨iU t (.d (.bool true)) env,ct,H⟩ d (.tup []) ⟨ct,H,[]⟩) κ else goB P call h (am P call h (d.getD 0) ty op (St.val ⟨iU t (.d (.bool false)) env,ct,H⟩) ⟨ct,H,[]⟩) d r ls ⟨iU t (.d (.bool false)) env,ct,H⟩ κ:=by
 cases b
 ·simp only[goG,rA,goB,xH,if_false,xX];rfl
 ·simp only[goG,rA];rfl
@[go_sem] theorem Xi:goG P call h t want (.tup []) d ty op r ls ⟨env,ct,H⟩ κ=goL P call h r ls (St.fin ⟨env,ct,H⟩ d (.tup []) ⟨ct,H,[]⟩) κ:=by
 simp only[goG,Dc];rfl
end
section
variable{f:FuncId}{ds:List D}{b:Lend}{ct:List ((Nat×Nat)×T)}{H:List Ob}{tr:List Tr}{dst:Nat}
@[go_sem] theorem Xj:aU call h dst f ds b ⟨ct,H,tr⟩=if(h.keep.contains dst&&D.lows 0 ds)=true then
   cb (call f ds []) fun p=>if p.2.length=0∧(b.sn=true→T.imms p.1=true)then iT dst p.1 ⟨ct,H,tr⟩else none
  else if h.keep.contains dst=true then none
  else cb (call f ds (bB b.lk H)) fun p=>
   if(b.sn=true→T.imms p.1=true∧bE p.2=true)∧aS (bB b.lk H) p.2=true then iT dst p.1 ⟨ct,dZ H b.lk p.2,tr++[.killO]⟩else none:=rfl
end
def uT:Op→Bool
 | .panic _=>false
 | .call {callee:=.value _, .. }=>false
 |_=>true
theorem qj{P:Program}{call:ak}{h:Hint}{dst:Nat}{ty:TypeId}{op:Op}{ρ:Operand→SV}{k:Wk}(hp:uT op=true):cZ P call h dst ty op ρ k=(am P call h dst ty op ρ k).bind fun p=>some (none,p.1,p.2):=by
 unfold cZ am;split
 ·simp[uT]at hp
 ·simp[uT]at hp
 ·rw[xF]
  split
  ·simp[uT]at hp
  ·rfl
noncomputable def goP(P:Program)(call:ak)(h:Hint)(L:List Lite)(ls:List Nat)(s:St)(κ:Ex×St→Option ρ):Option ρ:=(xw P call h L s).bind fun p=>match p.1 with |some d=>κ (.pan d,p.2) |none=>κ (.normal,prune ls p.2)
noncomputable def ou(P:Program)(call:ak)(h:Hint)(x:Option (Option D×SV×Wk))(d:Option Nat)(r:List Lite)(ls:List Nat)(s:St)(κ:Ex×St→Option ρ):Option ρ:=x.bind fun p=>match p.1 with |some e=>κ (.pan e,s.fin none .dead p.2.2) |none=>goP P call h r ls (s.fin d p.2.1 p.2.2) κ
section
variable{d:Option Nat}{ty:TypeId}{op:Op}{L r:List Lite}{ls:List Nat}{s s':St}{κ:Ex×St→Option ρ}{x x':Option (Option D×SV×Wk)}{env:List (Nat×SV)}{ct:List ((Nat×Nat)×T)}{H:List Ob}{v:SV}{e:D}{k:Wk}
@[congr] theorem Vs(q:s=s'):goP P call h L ls s κ=goP P call h L ls s' κ:=by rw[q]
@[congr] theorem SG(q:x=x'):ou P call h x d r ls s κ=ou P call h x' d r ls s κ:=by rw[q]
@[go_sem] theorem go_regP{hints:FuncId→Hint}(s:St)(κ:Ex×St→Option ρ):go P hints h B (.regP L ls) s κ=goP P (aX P hints) h L ls s κ:=by
 simp only[go,eN,xX,goP];refine congrArg _ (funext fun p=> ?_)
 obtain⟨t,s'⟩:=p
 cases t <;>rfl
@[go_sem] theorem adw:goP P call h [] ls s κ=κ (.normal,prune ls s):=rfl
@[go_sem] theorem Xk:goP P call h (⟨d,ty,op,none⟩::r) ls ⟨env,ct,H⟩ κ=ou P call h (cZ P call h (d.getD 0) ty op (St.val ⟨env,ct,H⟩) ⟨ct,H,[]⟩) d r ls ⟨env,ct,H⟩ κ:=by
 simp only[goP,ou,xw,xX];refine congrArg _ (funext fun p=> ?_)
 obtain⟨t,q⟩:=p
 cases t <;>rfl
@[go_sem] theorem Vt:ou P call h none d r ls s κ=none:=rfl
@[go_sem] theorem Vu:ou P call h (some (none,v,k)) d r ls s κ=goP P call h r ls (s.fin d v k) κ:=rfl
@[go_sem] theorem Xl:ou P call h (some (some e,v,k)) d r ls s κ=κ (.pan e,s.fin none .dead k):=rfl
@[go_sem] theorem Vv{α:Type}{o:Option α}{f:α→Option (Option D×SV×Wk)}:ou P call h (o.bind f) d r ls s κ=o.bind fun y=>ou P call h (f y) d r ls s κ:=by simp only[ou,xX]
@[go_sem] theorem Xm{c:Prop}[Decidable c]{y:Option (Option D×SV×Wk)}:ou P call h (if c then x else y) d r ls s κ=if c then ou P call h x d r ls s κ else ou P call h y d r ls s κ:=by split <;>rfl
@[go_sem] theorem adx{α:Type}{o:Option α}{f:α→Option (Option D×SV×Wk)}:ou P call h (cb o f) d r ls s κ=cbK o fun y=>ou P call h (f y) d r ls s κ:=by simp only[ou,cb,cbK,xX]
end
section
variable{P:Program}{call:ak}{h:Hint}{dst:Nat}{ty t t2:TypeId}{ρ:Operand→SV}{k:Wk}{x y z:Operand}{n:Nat}{bo:BinOp}{uo:UnOp}{ps:Array (Nat×Operand)}{lo hi mx:Option Operand}{bi:Builtin}{as bs:Array Operand}{ats:Array TypeId}{bb:Bool}{fn:Fn}
@[go_sem] theorem Xn:cZ P call h dst ty (.move x) ρ k=(am P call h dst ty (.move x) ρ k).bind fun p=>some (none,p.1,p.2):=qj rfl
@[go_sem] theorem Xo:cZ P call h dst ty (.load t x) ρ k=(am P call h dst ty (.load t x) ρ k).bind fun p=>some (none,p.1,p.2):=qj rfl
@[go_sem] theorem Me:cZ P call h dst ty (.fieldAddr t x n) ρ k=(am P call h dst ty (.fieldAddr t x n) ρ k).bind fun p=>some (none,p.1,p.2):=qj rfl
@[go_sem] theorem Vw:cZ P call h dst ty (.binOp bo t x y t2) ρ k=(am P call h dst ty (.binOp bo t x y t2) ρ k).bind fun p=>some (none,p.1,p.2):=qj rfl
@[go_sem] theorem Vx:cZ P call h dst ty (.build t ps) ρ k=(am P call h dst ty (.build t ps) ρ k).bind fun p=>some (none,p.1,p.2):=qj rfl
@[go_sem] theorem Qv:cZ P call h dst ty (.call {callee:=.builtin bi,args:=as,argTypes:=ats}) ρ k=(am P call h dst ty (.call {callee:=.builtin bi,args:=as,argTypes:=ats}) ρ k).bind fun p=>some (none,p.1,p.2):=qj rfl
end
noncomputable def goR(P:Program)(call:ak)(h:Hint)(L:List LF)(ls:List Nat)(c:Cf)(acc:List Fp)(κ:Ex×St→Option ρ):Option ρ:=(ry P call h L c acc).bind fun s'=>κ (.normal,prune ls s')
noncomputable def fK(P:Program)(call:ak)(h:Hint)(x:Option (SV×Wk))(o:LF)(r:List LF)(ls:List Nat)(c:Cf)(acc:List Fp)(w:Bool)(κ:Ex×St→Option ρ):Option ρ:=x.bind fun p=>(fc P call h o r c acc w p.1 p.2).bind fun s'=>κ (.normal,prune ls s')
noncomputable def uI(P:Program)(call:ak)(h:Hint)(t:Nat)(want:Bool)(v:SV)(o:LF)(r:List LF)(ls:List Nat)(c:Cf)(acc:List Fp)(κ:Ex×St→Option ρ):Option ρ:=
 match v with
 | .d (.bool b)=>(qh P call h o want r ({c.1 with env:=iU t (.d (.bool b)) c.1.env},c.2) acc v).bind fun s'=>κ (.normal,prune ls s')
 |_=>(qh P call h o want r c acc v).bind fun s'=>κ (.normal,prune ls s')
section
variable{d:Option Nat}{g:Option (Nat×Bool)}{ty:TypeId}{op:Op}{lk u:List Nat}{nd eff rds hr ho:Bool}{o:LF}{L r:List LF}{ls:List Nat}{κ:Ex×St→Option ρ}{x x':Option (SV×Wk)}{env:List (Nat×SV)}{ct ct':List ((Nat×Nat)×T)}{H H':List Ob}{tr:List Tr}{v v':SV}{t n:Nat}{b want w:Bool}{c c':Cf}{hi:jl}{acc acc':List Fp}
@[congr] theorem Vy(e:c=c')(f:acc=acc'):goR P call h L ls c acc κ=goR P call h L ls c' acc' κ:=by rw[e,f]
@[congr] theorem SH(e:x=x'):fK P call h x o r ls c acc w κ=fK P call h x' o r ls c acc w κ:=by rw[e]
@[congr] theorem SJ(e:v=v'):uI P call h t want v o r ls c acc κ=uI P call h t want v' o r ls c acc κ:=by rw[e]
@[go_sem] theorem go_regD{hints:FuncId→Hint}(s:St)(κ:Ex×St→Option ρ):go P hints h B (.regD L ls) s κ=goR P (aX P hints) h L ls (s,gM s) [] κ:=by
 simp only[go,eN,xX];rfl
@[go_sem] theorem ady{s:St}:goR P call h [] ls (s,hi) acc κ=κ (.normal,prune ls s):=rfl
@[go_sem] theorem Vz:goR P call h (⟨d,none,ty,op,lk,u,nd,eff,rds,hr,ho⟩::r) ls (⟨env,ct,H⟩,hi) acc κ=fK P call h (am P call h (d.getD 0) ty op (St.val ⟨env,ct,H⟩) ⟨ct,H,[]⟩) ⟨d,none,ty,op,lk,u,nd,eff,rds,hr,ho⟩ r ls (⟨env,ct,H⟩,hi) acc true κ:=by
 simp only[goR,fK,EN,xX]
@[go_sem] theorem VA:goR P call h (⟨d,some (t,want),ty,op,lk,u,nd,eff,rds,hr,ho⟩::r) ls c acc κ=uI P call h t want (c.1.get t) ⟨d,some (t,want),ty,op,lk,u,nd,eff,rds,hr,ho⟩ r ls c acc κ:=by
 obtain⟨⟨env,ct,H⟩,hi⟩:=c;simp only[goR,uI,EO];split
 ·rename_i b hb
  rw[hb];simp only[xz hb]
 ·rfl
@[go_sem] theorem aeB:uI P call h t true (.d (.bool b)) o r ls (⟨env,ct,H⟩,hi) acc κ=if b=true then fK P call h (am P call h (o.d.getD 0) o.ty o.op (St.val ⟨iU t (.d (.bool true)) env,ct,H⟩) ⟨ct,H,[]⟩) o r ls (⟨iU t (.d (.bool true)) env,ct,H⟩,hi) acc true κ else fK P call h (some (.tup [],⟨ct,H,[]⟩)) o r ls (⟨iU t (.d (.bool false)) env,ct,H⟩,hi) acc false κ:=by
 cases b
 ·simp only[uI,mE];rfl
 ·simp only[uI,mE,if_true,fK,xX];rfl
@[go_sem] theorem aeC:uI P call h t false (.d (.bool b)) o r ls (⟨env,ct,H⟩,hi) acc κ=if b=true then fK P call h (some (.tup [],⟨ct,H,[]⟩)) o r ls (⟨iU t (.d (.bool true)) env,ct,H⟩,hi) acc false κ else fK P call h (am P call h (o.d.getD 0) o.ty o.op (St.val ⟨iU t (.d (.bool false)) env,ct,H⟩) ⟨ct,H,[]⟩) o r ls (⟨iU t (.d (.bool false)) env,ct,H⟩,hi) acc true κ:=by
 cases b
 ·simp only[uI,rB,fK,xH,if_false,xX];rfl
 ·simp only[uI,rB];rfl
@[go_sem] theorem VB:uI P call h t want (.tup []) o r ls (⟨env,ct,H⟩,hi) acc κ=fK P call h (some (.tup [],⟨ct,H,[]⟩)) o r ls (⟨env,ct,H⟩,hi) acc false κ:=by
 simp only[uI,Df];rfl
@[go_sem] theorem VD:fK P call h none o r ls c acc w κ=none:=rfl
@[go_sem] theorem VF{α:Type}{y:Option α}{f:α→Option (SV×Wk)}:fK P call h (y.bind f) o r ls c acc w κ=y.bind fun z=>fK P call h (f z) o r ls c acc w κ:=by simp only[fK,xX]
@[go_sem] theorem Xp{q:Prop}[Decidable q]{y:Option (SV×Wk)}:fK P call h (if q then x else y) o r ls c acc w κ=if q then fK P call h x o r ls c acc w κ else fK P call h y o r ls c acc w κ:=by split <;>rfl
@[go_sem] theorem adz{α:Type}{y:Option α}{f:α→Option (SV×Wk)}:fK P call h (cb y f) o r ls c acc w κ=cbK y fun z=>fK P call h (f z) o r ls c acc w κ:=by simp only[fK,cb,cbK,xX]
@[go_sem] theorem SK:fK P call h (some (v,⟨ct',H',tr⟩)) ⟨d,g,ty,op,lk,[],false,eff,rds,hr,ho⟩ r ls c acc w κ=goR P call h r ls (c.1.fin d v ⟨ct',H',tr⟩,aF c.2 tr d (cG op c.2 v)) (acc++[fp0]) κ:=by
 simp only[fK,xS,Dg];rfl
@[go_sem] theorem VG:fK P call h (some (v,⟨ct',H',tr⟩)) ⟨d,g,ty,op,lk,n::u,false,eff,rds,hr,ho⟩ r ls c acc w κ=if(n::u).all (cQ acc (fpW ⟨d,g,ty,op,lk,n::u,false,eff,rds,hr,ho⟩ c.2 c.1 w v ⟨ct',H',tr⟩))=true then goR P call h r ls (c.1.fin d v ⟨ct',H',tr⟩,aF c.2 tr d (cG op c.2 v)) (acc++[fp0]) κ else none:=by
 simp only[fK,xS,EP,xu];rfl
@[go_sem] theorem adA:fK P call h (some (v,⟨ct',H',tr⟩)) ⟨d,g,ty,op,lk,u,true,eff,rds,hr,ho⟩ r ls c acc w κ=if u.all (cQ acc (fpW ⟨d,g,ty,op,lk,u,true,eff,rds,hr,ho⟩ c.2 c.1 w v ⟨ct',H',tr⟩))=true then goR P call h r ls (c.1.fin d v ⟨ct',H',tr⟩,aF c.2 tr d (cG op c.2 v)) (acc++[fpW ⟨d,g,ty,op,lk,u,true,eff,rds,hr,ho⟩ c.2 c.1 w v ⟨ct',H',tr⟩]) κ else none:=by
 simp only[fK,xS,J0,xu];rfl
end
end
section
variable{α:Type}{ρ:Type}
open Classical in
noncomputable def SM(g:Nat→Option ρ):Option ρ:=if h:∃r,∃N,∀n,N≤n→g n=some r then some (Classical.choose h)else none
theorem rD{g:Nat→Option ρ}{r:Option ρ}(N:Nat)(h:∀n,N≤n→g n=r):SM g=r:=by
 unfold SM
 cases r with
 |none=>
  rw[dif_neg]
  rintro⟨r,M,hm⟩
  have h1:=h (max N M) (Nat.le_max_left _ _);rw[hm _ (Nat.le_max_right _ _)]at h1
  cases h1
 |some r=>
  have hx:∃r,∃N,∀n,N≤n→g n=some r:=⟨r,N,h⟩
  rw[dif_pos hx];obtain⟨M,hm⟩:=Classical.choose_spec hx;rw[←hm (max N M) (Nat.le_max_right _ _),h _ (Nat.le_max_left _ _)]
def qk(Φ:α→(α→Option ρ)→Option ρ):Nat→α→Option ρ
 |0,_=>none
 |n+1,v=>Φ v (qk Φ n)
noncomputable def dD(Φ:α→(α→Option ρ)→Option ρ)(v:α):Option ρ:=SM fun n=>qk Φ n v
theorem ir{Φ:α→(α→Option ρ)→Option ρ}(I:α→Prop)(E:α→Option ρ)(μ:α→Nat)(h:∀v k,I v→(∀v',I v'→μ v'<μ v→k v'=E v')→Φ v k=E v){v:α}(hv:I v):dD Φ v=E v:=by
 have:∀n v,I v→μ v<n→qk Φ n v=E v:=by
  intro n
  induction n with
  |zero=>intro v _ hv;omega
  |succ n ih=>intro v hI hv;exact h v _ hI fun v' hI' hl=>ih v' hI' (by omega)
 exact rD (μ v+1) fun n hn=>this n v hv (by omega)
section
variable{P:Program}{hints:FuncId→Hint}{h:Hint}{B:Code}
theorem ur{a:Code}{s:St}{r:Ex×St}:aY P hints h (.loop a) s=some r↔∃n,gi (aY P hints h a) n s=some r:=by
 constructor
 ·intro e
  obtain⟨n,e⟩:=aA.1 e;simp only[aB]at e
  exact⟨n,fI (fun s r e=>aA.2 ⟨n,e⟩) n n (Nat.le_refl _) s r e⟩
 ·rintro⟨n,e⟩
  induction n generalizing s with
  |zero=>cases e
  |succ n ih=>
   simp only[gi,xB]at e
   obtain⟨⟨ex,s'⟩,e1,e2⟩:=e;rw[xn,e1,xS];simp only at e2;unfold zY
   simp only
   cases ex with
   |normal=>exact ih e2
   |_=>exact e2
theorem ap{k:Nat}{q:CL}(hq:Ae h B k=some q){s:St}{κ:Ex×St→Option ρ}:cX P hints h B k s κ=go P hints h B q s (kLp (fun s=>cX P hints h B k s κ) κ):=by
 have hb:∀s,aY P hints h (sL B k) s=eN P hints h B q s:=Di hq
 unfold cX go;rw[xn,←hb,xX];congr 1;funext ⟨ex,s'⟩
 cases ex <;>rfl
theorem aj{k:Nat}{q:CL}(hq:Ae h B k=some q){S:α→St}{κ:Ex×St→Option ρ}{Φ:α→(α→Option ρ)→Option ρ}
  (hΦ:∀(R:St→Option ρ) (g:α→Option ρ),(∀v,R (S v)=g v)→∀v,go P hints h B q (S v) (kLp R κ)=Φ v g) (v:α):cX P hints h B k (S v) κ=dD Φ v:=by
 have hb:∀s,aY P hints h (sL B k) s=eN P hints h B q s:=Di hq
 unfold cX dD;generalize sL B k=a at hb ⊢
 have step:∀n s,(gi (aY P hints h a) (n+1) s).bind κ=go P hints h B q s (kLp (fun s=>(gi (aY P hints h a) n s).bind κ) κ):=fun n s=>by
  simp only[gi,go,←hb,xX];congr 1;funext ⟨ex,s'⟩
  cases ex <;>rfl
 have gn:∀n v,(gi (aY P hints h a) n (S v)).bind κ=qk Φ n v:=by
  intro n
  induction n with
  |zero=>intro v;rfl
  |succ n ih=>intro v;rw[step];exact hΦ _ _ ih v
 refine Eq.symm ?_
 cases e:aY P hints h (.loop a) (S v)with
 |none=>
  refine rD 0 fun n _=> ?_
  rw[←gn]
  cases hl:gi (aY P hints h a) n (S v)with
  |none=>rfl
  |some r=>rw[ur.2 ⟨n,hl⟩]at e;cases e
 |some r=>
  obtain⟨N,hN⟩:=ur.1 e;refine rD N fun n hn=> ?_
  rw[←gn,fI (fun _ _ e=>e) N n hn _ _ hN]
end
end
section
variable{P:Program}{κ ν:Type}[DecidableEq κ]{fk:κ→D}{fv:ν→D}
def dT(fk:κ→D)(fv:ν→D)(l:List (κ×ν)):List (D×T):=l.map fun p=>(fk p.1,.d (fv p.2))
def xE:List (κ×ν)→κ→Option ν
 | [],_=>none
 |(a,b)::r,k=>if k=a then some b else xE r k
def fd:List (κ×ν)→κ→ν→List (κ×ν)
 | [],k,v=>[(k,v)]
 |(a,b)::r,k,v=>if k=a then(k,v)::r else(a,b)::fd r k v
def SN(l:List (κ×ν))(k:κ):Bool:=(xE l k).isSome
def dU(z:ν)(l:List (κ×ν))(k:κ):ν:=(xE l k).getD z
omit [DecidableEq κ] in
theorem J6:dT fk fv []=[]:=rfl
def kT(P:Program)(t:TypeId)(ob:Ob)(kd:D)(ok:Bool):Option SV:=
 (gg P t).bind fun(kt,e)=>if(aI P kt kd kd).isSome then(match ob with | .map es=>ec (aI P kt) kd es | .sset ks=>B5 ks kd |_=>none).bind fun r=>(aO P e).bind fun z=>
    (match r with |some (.d x)=>some (x,true) |some _=>none |none=>some (z,false)).map fun(x,b)=>if ok then .tup [.d x,.d (.bool b)]else .d x
   else none
omit [DecidableEq κ] in
@[go_sem] theorem Qw{t:TypeId}{o:Nat}{kd:D}{ok:Bool}{H:List Ob}:gO P t (.d (.map o)) (.d kd) ok H=(H[o]?).bind fun ob=>kT P t ob kd ok:=by
 unfold gO kT
 cases gg P t with
 |none=>cases H[o]? <;>rfl
 |some q=>
  obtain⟨kt,e⟩:=q;simp only[xS]
  cases H[o]? with
  |none=>simp
  |some ob=>simp only[xS];cases ob <;>rfl
def mG(P:Program)(t:TypeId)(ob:Ob)(kd y:D):Option (List (D×T)):=
 (gg P t).bind fun(kt,_)=>if(aI P kt kd kd).isSome then(match ob with | .map es=>jX (aI P kt) kd (.d y) es |_=>none)else none
def J7(P:Program)(t:TypeId)(ob:Ob)(kd:D)(y:List T):Option (List (D×T)):=
 (gg P t).bind fun(kt,_)=>if(aI P kt kd kd).isSome then(match ob with | .map es=>jX (aI P kt) kd (.own y) es |_=>none)else none
def xI(P:Program)(t:TypeId)(o:Nat)(kd y:D)(ob:Ob)(k:Wk):Option Wk:=
 match ob with
 | .sset ks=>(sk ks kd y).bind fun ks=>some {k with H:=k.H.set o (.sset ks)}
 |ob=>(mG P t ob kd y).bind fun es=>some {k with H:=k.H.set o (.map es)}
def J8(P:Program)(t:TypeId)(o:Nat)(kd:D)(x:T)(k:Wk):Option Wk:=
 match x with
 | .d y=>(k.H[o]?).bind fun ob=>xI P t o kd y ob k
 | .own l=>(k.H[o]?).bind fun ob=>(J7 P t ob kd l).bind fun es=>some {k with H:=k.H.set o (.map es)}
 |_=>none
omit [DecidableEq κ] in
@[go_sem] theorem SS{nv:Nat}{t:TypeId}{o:Nat}{kd:D}{v:SV}{k:Wk}:cD P nv t (.d (.map o)) (.d kd) v k=if((gg P t).bind fun q=>aI P q.1 kd kd).isSome=true then(bD nv v k).bind fun q=>J8 P t o kd q.1 q.2 else none:=by
 unfold cD J8 xI mG J7
 cases gg P t with
 |none=>rfl
 |some q=>
  obtain⟨kt,e⟩:=q;simp only[xS]
  cases hk:(aI P kt kd kd).isSome with
  |false=>simp
  |true=>
   simp only[if_true];congr 1;funext ⟨x,k⟩
   simp only
   cases x with
   |d y=>
    cases k.H[o]? with
    |none=>rfl
    |some ob=>cases ob <;>simp only[xS,Option.bind_none,xF] <;>rfl
   |own y=>
    cases k.H[o]? with
    |none=>rfl
    |some ob=>cases ob <;>simp only[xS,Option.bind_none,xF] <;>rfl
   |_=>cases k.H[o]? <;>rfl
omit [DecidableEq κ] in
@[go_sem] theorem adB{t:TypeId}{o:Nat}{kd y:D}{ct:List ((Nat×Nat)×T)}{H:List Ob}{tr:List Tr}:J8 P t o kd (.d y) ⟨ct,H,tr⟩=(H[o]?).bind fun ob=>xI P t o kd y ob ⟨ct,H,tr⟩:=rfl
omit [DecidableEq κ] in
@[go_sem] theorem ST{t:TypeId}{o:Nat}{kd y:D}{l:List (D×T)}{ct:List ((Nat×Nat)×T)}{H:List Ob}{tr:List Tr}:xI P t o kd y (.map l) ⟨ct,H,tr⟩=(mG P t (.map l) kd y).bind fun es=>some ⟨ct,H.set o (.map es),tr⟩:=rfl
omit [DecidableEq κ] in
@[go_sem] theorem SW{t:TypeId}{o:Nat}{kd y:D}{l:List (List UInt8)}{ct:List ((Nat×Nat)×T)}{H:List Ob}{tr:List Tr}:xI P t o kd y (.sset l) ⟨ct,H,tr⟩=(sk l kd y).bind fun ks=>some ⟨ct,H.set o (.sset ks),tr⟩:=rfl
omit [DecidableEq κ] in
@[go_sem] theorem SX{s:List UInt8}{l:List (List UInt8)}:sk l (.str s) (.bool true)=some (s::l):=rfl
theorem x7{kt:TypeId}(hk:∀a b,aI P kt (fk a) (fk b)=some (decide (a=b)))(k:κ):∀l:List (κ×ν),ec (aI P kt) (fk k) (dT fk fv l)=some ((xE l k).map fun v=>.d (fv v))
 | []=>rfl
 |(a,b)::r=>by
  have ih:=x7 hk k r;simp only[dT,List.map_cons,ec,hk,xS,xE,yD]at ih ⊢
  split
  ·rfl
  ·exact ih
theorem Ag{kt:TypeId}(hk:∀a b,aI P kt (fk a) (fk b)=some (decide (a=b)))(k:κ)(v:ν):∀l:List (κ×ν),jX (aI P kt) (fk k) (.d (fv v)) (dT fk fv l)=some (dT fk fv (fd l k v))
 | []=>rfl
 |(a,b)::r=>by
  have ih:=Ag hk k v r;simp only[dT,List.map_cons,jX,hk,xS,fd,yD]at ih ⊢
  split
  ·rfl
  ·rw[ih];rfl
theorem Dj{t kt e:TypeId}{l:List (κ×ν)}{k:κ}{z:ν}{ok:Bool}(hm:gg P t=some (kt,e))(hk:∀a b,aI P kt (fk a) (fk b)=some (decide (a=b)))(hz:aO P e=some (fv z)):
  kT P t (.map (dT fk fv l)) (fk k) ok=some (if ok=true then .tup [.d (fv (dU z l k)),.d (.bool (SN l k))]else .d (fv (dU z l k))):=by
 simp only[kT,hm,xS,hk,Option.isSome_some,if_true,x7 hk,hz,dU,SN]
 cases xE l k <;>rfl
theorem EQ{t kt e:TypeId}{l:List (κ×ν)}{k:κ}{v:ν}(hm:gg P t=some (kt,e))(hk:∀a b,aI P kt (fk a) (fk b)=some (decide (a=b))):
  mG P t (.map (dT fk fv l)) (fk k) (fv v)=some (dT fk fv (fd l k v)):=by
 simp only[mG,hm,xS,hk,Option.isSome_some,if_true,Ag hk]
def aeD(fv:ν→D):Bool→List ν→T
 |true,l=>.d (.sl false (List.map fv l))
 |false,l=>.own (tl fv l)
def Xq(b:Bool)(fk:κ→D)(fv:ν→D)(l:List (κ×List ν)):List (D×T):=l.map fun p=>(fk p.1,aeD fv b p.2)
omit [DecidableEq κ] in
theorem Hw{b:Bool}:Xq b fk fv ([]:List (κ×List ν))=[]:=rfl
end
attribute [go_sem] bE Ob.low
section
variable{κ ν:Type}{fk:κ→D}{fv:ν→D}
theorem J9(hk:∀x,(fk x).imm=true)(hv:∀x,(fv x).imm=true)(l:List (κ×ν)):((dT fk fv l).all fun e=>e.1.imm&&e.2.imm)=true:=by
 simp[dT,List.all_eq_true,T.imm,hk,hv]
end
end Go.Am
