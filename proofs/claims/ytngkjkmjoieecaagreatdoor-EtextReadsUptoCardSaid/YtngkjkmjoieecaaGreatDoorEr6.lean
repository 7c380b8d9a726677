/- A part of the proof: texts of mine, merged by a program (wip/dev/merge.py). -/
import Derived.Test.YtngkjkmjoieecaaGreatDoorEr5
set_option linter.unusedSimpArgs false
set_option linter.unusedVariables false
namespace Go.Am
open Go
section
variable{P:Program}{hints:FuncId→Hint}{call:CallF}{h:Hint}{ρ:Type}{B:Code}
noncomputable def go(P:Program)(hints:FuncId→Hint)(h:Hint)(B:Code)(c:CL)(s:St)(κ:Ex×St→Option ρ):Option ρ:=(codeC P hints h B c s).bind κ
noncomputable def goLp(P:Program)(hints:FuncId→Hint)(h:Hint)(B:Code)(k:Nat)(s:St)(κ:Ex×St→Option ρ):Option ρ:=(codeX P hints h (.loop (lpAt B k)) s).bind κ
noncomputable def kSeq(P:Program)(hints:FuncId→Hint)(h:Hint)(B:Code)(b:CL)(κ:Ex×St→Option ρ):Ex×St→Option ρ:=fun r=>match r.1 with | .normal=>go P hints h B b r.2 κ |_=>κ r
def kBlk(id:Nat)(κ:Ex×St→Option ρ):Ex×St→Option ρ:=fun r=>κ (exOut id r.1,r.2)
def kLp(R:St→Option ρ)(κ:Ex×St→Option ρ):Ex×St→Option ρ:=fun r=>match r.1 with | .normal=>R r.2 |_=>κ r
@[congr] theorem go_congr{c:CL}{s s':St}{κ:Ex×St→Option ρ}(e:s=s'):go P hints h B c s κ=go P hints h B c s' κ:=by rw[e]
@[congr] theorem goLp_congr{k:Nat}{s s':St}{κ:Ex×St→Option ρ}(e:s=s'):goLp P hints h B k s κ=goLp P hints h B k s' κ:=by rw[e]
@[congr] theorem kSeq_congr{b:CL}{r r':Ex×St}{κ:Ex×St→Option ρ}(e:r=r'):kSeq P hints h B b κ r=kSeq P hints h B b κ r':=by rw[e]
@[congr] theorem kBlk_congr{b:Nat}{r r':Ex×St}{κ:Ex×St→Option ρ}(e:r=r'):kBlk b κ r=kBlk b κ r':=by rw[e]
@[congr] theorem kLp_congr{R:St→Option ρ}{r r':Ex×St}{κ:Ex×St→Option ρ}(e:r=r'):kLp R κ r=kLp R κ r':=by rw[e]
section
variable{a b:CL}{s:St}{κ:Ex×St→Option ρ}{id j k:Nat}{env:List (Nat×SV)}{ct:List ((Nat×Nat)×T)}{H:List Ob}{R:St→Option ρ}{L:List Lite}{LD:List LF}{ls:List Nat}
@[go_sem] theorem go_seq:go P hints h B (.seq a b) s κ=go P hints h B a s (kSeq P hints h B b κ):=by
 simp only[go,codeC,xX]
 congr 1
 funext r
 unfold kSeq
 split <;>simp_all [go]
@[go_sem] theorem go_block:go P hints h B (.block id a) s κ=go P hints h B a s (kBlk id κ):=by
 simp only[go,codeC,xX];rfl
@[go_sem] theorem go_skip:go P hints h B .skip s κ=κ (.normal,s):=rfl
@[go_sem] theorem go_ret:go P hints h B .ret s κ=κ (.ret,s):=rfl
@[go_sem] theorem go_exit:go P hints h B (.exit id) s κ=κ (.exit id,s):=rfl
@[go_sem] theorem go_loop:go P hints h B (.loop k) s κ=goLp P hints h B k s κ:=rfl
@[go_sem] def putS(t:Nat)(v:SV):List (Nat×SV)→List (Nat×SV)
 | []=>[]
 |(k,w)::r=>if k=t then(k,v)::r else(k,w)::putS t v r
theorem putS_same{t:Nat}{v:SV}:∀{env:List (Nat×SV)},look env t=some v→putS t v env=env
 | [],e=>by cases e
 |(k,w)::r,e=>by
  unfold putS
  unfold look at e
  by_cases hk:k=t
  ·rw[if_pos hk]at e ⊢
   simp only[xJ]at e
   rw[e]
  ·rw[if_neg hk]at e ⊢
   rw[putS_same e]
theorem putS_get{t:Nat}{b:Bool}{env:List (Nat×SV)}{ct:List ((Nat×Nat)×T)}{H:List Ob}(e:St.get ⟨env,ct,H⟩ t=.d (.bool b)):putS t (.d (.bool b)) env=env:=by
 refine putS_same ?_
 unfold St.get at e
 cases hl:look env t with
 |none=>rw[hl]at e;cases e
 |some v=>rw[hl]at e;exact congrArg some e
noncomputable def goCd(P:Program)(hints:FuncId→Hint)(h:Hint)(B:Code)(t:Nat)(v:SV)(a b:CL)(s:St)(κ:Ex×St→Option ρ):Option ρ:=
 match v with
 | .d (.bool x)=>if x=true then go P hints h B a {s with env:=putS t (.d (.bool x)) s.env} κ else go P hints h B b {s with env:=putS t (.d (.bool x)) s.env} κ
 |_=>none
@[congr] theorem goCd_congr{t:Nat}{v v':SV}(e:v=v'):goCd P hints h B t v a b s κ=goCd P hints h B t v' a b s κ:=by rw[e]
@[go_sem] theorem go_cond{t:Nat}:go P hints h B (.cond (.tmp t) a b) s κ=goCd P hints h B t (s.get t) a b s κ:=by
 obtain⟨env,ct,H⟩:=s
 simp only[go,codeC,val_tmp]
 unfold goCd
 split
 ·rename_i x hx
  rw[hx]
  simp only[putS_get hx,go]
  cases x <;>rfl
 ·rename_i hne
  split
  ·rename_i t hx
   exact absurd hx (hne t)
  ·rfl
@[go_sem] theorem goCd_bool{t:Nat}{x:Bool}:goCd P hints h B t (.d (.bool x)) a b ⟨env,ct,H⟩ κ=if x=true then go P hints h B a ⟨putS t (.d (.bool true)) env,ct,H⟩ κ else go P hints h B b ⟨putS t (.d (.bool false)) env,ct,H⟩ κ:=by
 cases x <;>rfl
@[go_sem] theorem kSeq_n:kSeq P hints h B b κ (.normal,s)=go P hints h B b s κ:=rfl
@[go_sem] theorem kSeq_r:kSeq P hints h B b κ (.ret,s)=κ (.ret,s):=rfl
@[go_sem] theorem kSeq_e:kSeq P hints h B b κ (.exit id,s)=κ (.exit id,s):=rfl
@[go_sem] theorem kBlk_n:kBlk id κ (.normal,s)=κ (.normal,s):=rfl
@[go_sem] theorem kBlk_r:kBlk id κ (.ret,s)=κ (.ret,s):=rfl
@[go_sem] theorem kBlk_e:kBlk id κ (.exit j,s)=if j=id then κ (.normal,s)else κ (.exit j,s):=by
 unfold kBlk exOut Ex.block;by_cases e:j=id <;>simp[e]
@[go_sem] theorem kLp_n:kLp R κ (.normal,s)=R s:=rfl
@[go_sem] theorem kLp_r:kLp R κ (.ret,s)=κ (.ret,s):=rfl
@[go_sem] theorem kLp_e:kLp R κ (.exit id,s)=κ (.exit id,s):=rfl
end
noncomputable def goL(P:Program)(call:CallF)(h:Hint)(L:List Lite)(ls:List Nat)(s:St)(κ:Ex×St→Option ρ):Option ρ:=(runL P call h L s).bind fun s'=>κ (.normal,prune ls s')
def cb{α β:Type}(o:Option α)(k:α→Option β):Option β:=o.bind k
def cbK{α β:Type}(o:Option α)(k:α→Option β):Option β:=o.bind k
@[congr] theorem cb_congr{α β:Type}{o o':Option α}{k:α→Option β}(e:o=o'):cb o k=cb o' k:=by rw[e]
@[congr] theorem cbK_congr{α β:Type}{o o':Option α}{k:α→Option β}(e:o=o'):cbK o k=cbK o' k:=by rw[e]
@[go_sem] theorem cb_bind{α β γ:Type}{o:Option α}{k:α→Option β}{g:β→Option γ}:(cb o k).bind g=cb o fun y=>(k y).bind g:=xX _ _ _
noncomputable def goB(P:Program)(call:CallF)(h:Hint)(x:Option (SV×Wk))(d:Option Nat)(r:List Lite)(ls:List Nat)(s:St)(κ:Ex×St→Option ρ):Option ρ:=x.bind fun p=>goL P call h r ls (s.fin d p.1 p.2) κ
section
variable{d:Option Nat}{ty:TypeId}{op:Op}{L r:List Lite}{ls:List Nat}{s s':St}{κ:Ex×St→Option ρ}{x x':Option (SV×Wk)}{env:List (Nat×SV)}{ct ct':List ((Nat×Nat)×T)}{H H':List Ob}{tr:List Tr}{v v':SV}{t:Nat}{b want:Bool}
@[congr] theorem goL_congr(e:s=s'):goL P call h L ls s κ=goL P call h L ls s' κ:=by rw[e]
@[congr] theorem goB_congr(e:x=x'):goB P call h x d r ls s κ=goB P call h x' d r ls s κ:=by rw[e]
@[go_sem] theorem go_reg{hints:FuncId→Hint}(s:St)(κ:Ex×St→Option ρ):go P hints h B (.reg L ls) s κ=goL P (callX P hints) h L ls s κ:=by
 simp only[go,codeC,xX];rfl
@[go_sem] theorem goL_nil:goL P call h [] ls s κ=κ (.normal,prune ls s):=rfl
@[go_sem] theorem goL_plain:goL P call h (⟨d,ty,op,none⟩::r) ls ⟨env,ct,H⟩ κ=goB P call h (stepE P call h (d.getD 0) ty op (St.val ⟨env,ct,H⟩) ⟨ct,H,[]⟩) d r ls ⟨env,ct,H⟩ κ:=by
 simp only[goL,goB,runL_plain,xX];rfl
@[go_sem] theorem goB_some{k:Wk}:goB P call h (some (v,k)) d r ls s κ=goL P call h r ls (s.fin d v k) κ:=rfl
@[go_sem] theorem goB_none:goB P call h none d r ls s κ=none:=rfl
@[go_sem] theorem goB_bind{α:Type}{o:Option α}{f:α→Option (SV×Wk)}:goB P call h (o.bind f) d r ls s κ=o.bind fun y=>goB P call h (f y) d r ls s κ:=by simp only[goB,xX]
@[go_sem] theorem goB_ite{c:Prop}[Decidable c]{y:Option (SV×Wk)}:goB P call h (if c then x else y) d r ls s κ=if c then goB P call h x d r ls s κ else goB P call h y d r ls s κ:=by split <;>rfl
@[go_sem] theorem goB_cb{α:Type}{o:Option α}{f:α→Option (SV×Wk)}:goB P call h (cb o f) d r ls s κ=cbK o fun y=>goB P call h (f y) d r ls s κ:=by simp only[goB,cb,cbK,xX]
noncomputable def goG(P:Program)(call:CallF)(h:Hint)(t:Nat)(want:Bool)(g:SV)(d:Option Nat)(ty:TypeId)(op:Op)(r:List Lite)(ls:List Nat)(s:St)(κ:Ex×St→Option ρ):Option ρ:=
 match g with
 | .d (.bool b)=>(guardL P call h d ty op want r {s with env:=putS t (.d (.bool b)) s.env} g).bind fun s'=>κ (.normal,prune ls s')
 |_=>(guardL P call h d ty op want r s g).bind fun s'=>κ (.normal,prune ls s')
@[congr] theorem goG_congr(e:v=v'):goG P call h t want v d ty op r ls s κ=goG P call h t want v' d ty op r ls s κ:=by rw[e]
@[go_sem] theorem goL_guard:goL P call h (⟨d,ty,op,some (t,want)⟩::r) ls s κ=goG P call h t want (s.get t) d ty op r ls s κ:=by
 obtain⟨env,ct,H⟩:=s
 simp only[goL,goG,runL_guard]
 split
 ·rename_i b hb
  rw[hb]
  simp only[putS_get hb]
 ·rfl
@[go_sem] theorem goG_t:goG P call h t true (.d (.bool b)) d ty op r ls ⟨env,ct,H⟩ κ=if b=true then goB P call h (stepE P call h (d.getD 0) ty op (St.val ⟨putS t (.d (.bool true)) env,ct,H⟩) ⟨ct,H,[]⟩) d r ls ⟨putS t (.d (.bool true)) env,ct,H⟩ κ else goL P call h r ls (St.fin ⟨putS t (.d (.bool false)) env,ct,H⟩ d (.tup []) ⟨ct,H,[]⟩) κ:=by
 cases b
 ·simp only[goG,guardL_bool];rfl
 ·simp only[goG,guardL_bool,if_true,goB,xX];rfl
@[go_sem] theorem goG_f:goG P call h t false (.d (.bool b)) d ty op r ls ⟨env,ct,H⟩ κ=if b=true then goL P call h r ls (St.fin ⟨putS t (.d (.bool true)) env,ct,H⟩ d (.tup []) ⟨ct,H,[]⟩) κ else goB P call h (stepE P call h (d.getD 0) ty op (St.val ⟨putS t (.d (.bool false)) env,ct,H⟩) ⟨ct,H,[]⟩) d r ls ⟨putS t (.d (.bool false)) env,ct,H⟩ κ:=by
 cases b
 ·simp only[goG,guardL_boolF,goB,xH,if_false,xX];rfl
 ·simp only[goG,guardL_boolF];rfl
@[go_sem] theorem goG_skip:goG P call h t want (.tup []) d ty op r ls ⟨env,ct,H⟩ κ=goL P call h r ls (St.fin ⟨env,ct,H⟩ d (.tup []) ⟨ct,H,[]⟩) κ:=by
 simp only[goG,guardL_skip];rfl
end
section
variable{f:FuncId}{ds:List D}{b:Lend}{ct:List ((Nat×Nat)×T)}{H:List Ob}{tr:List Tr}{dst:Nat}
@[go_sem] theorem callE_mk:callE0 call h dst f ds b ⟨ct,H,tr⟩=if(h.keep.contains dst&&D.lows 0 ds)=true then
   cb (call f ds []) fun p=>if p.2.length=0∧(b.sn=true→T.imms p.1=true)then resE dst p.1 ⟨ct,H,tr⟩else none
  else if h.keep.contains dst=true then none
  else cb (call f ds (lockSome b.lk H)) fun p=>
   if(b.sn=true→T.imms p.1=true∧obsImm p.2=true)∧sameObs (lockSome b.lk H) p.2=true then resE dst p.1 ⟨ct,unlock H b.lk p.2,tr++[.killO]⟩else none:=rfl
end
def plainOp:Op→Bool
 | .panic _=>false
 | .call {callee:=.value _, .. }=>false
 |_=>true
theorem stP_op{P:Program}{call:CallF}{h:Hint}{dst:Nat}{ty:TypeId}{op:Op}{ρ:Operand→SV}{k:Wk}(hp:plainOp op=true):stepP P call h dst ty op ρ k=(stepE P call h dst ty op ρ k).bind fun p=>some (none,p.1,p.2):=by
 unfold stepP stepE
 split
 ·simp[plainOp]at hp
 ·simp[plainOp]at hp
 ·rw[xF]
  split
  ·simp[plainOp]at hp
  ·rfl
def callMv(P:Program)(call:CallF)(h:Hint)(dst:Nat)(f:SV)(xs:List SV)(k:Wk):Option (SV×Wk):=
 match f with
 | .d (.fn (.func g) [] [])=>if YB≤g then none else(mvE P call h dst g xs k).bind noPan
 |_=>none
@[go_sem] theorem stP_mv{P:Program}{call:CallF}{h:Hint}{dst:Nat}{ty:TypeId}{f:Operand}{args:Array Operand}{ats:Array TypeId}{ρ:Operand→SV}{k:Wk}(hm:h.mv.contains dst=true):stepP P call h dst ty (.call {callee:=.value f,args:=args,argTypes:=ats}) ρ k=(callMv P call h dst (ρ f) (args.toList.map ρ) k).bind fun p=>some (none,p.1,p.2):=by
 unfold callMv
 simp only[stepP]
 cases ρ f with
 |d x=>
  cases x with
  |fn g a c=>
   cases g with
   |func g=>
    simp only[if_pos hm]
    cases a with
    |nil=>
     cases c with
     |nil=>
      simp only[List.isEmpty_nil,Bool.and_self,if_true,xF]
      split <;>rfl
     |cons _ _=>simp
    |cons _ _=>simp
   |_=>rfl
  |_=>rfl
 |_=>rfl
@[go_sem] theorem callMv_fn{P:Program}{call:CallF}{h:Hint}{dst:Nat}{g:FuncId}{xs:List SV}{k:Wk}(hg:g<1099511627776):callMv P call h dst (.d (.fn (.func g) [] [])) xs k=(mvE P call h dst g xs k).bind noPan:=by
 simp only[callMv,if_neg (show¬YB≤g from Nat.not_le.2 hg)]
def mvT(call:CallF)(dst:Nat)(g:FuncId)(ds:List D)(t:T)(k:Wk):Option (SV×Wk):=
 match t with
 | .own es=>if T.lows 0 es=true then cb (call g (canon false ds) [.row es]) fun p=>if p.2.length=0 then resE dst p.1 k else none else none
 | .d .nils=>cb (call g (canon false ds) [.row []]) fun p=>if p.2.length=0 then resE dst p.1 k else none
 |_=>none
@[go_sem] theorem mvE_eq{P:Program}{call:CallF}{h:Hint}{dst:Nat}{g:FuncId}{x:SV}{r:List SV}{k:Wk}:mvE P call h dst g (x::r) k=(snapA (h.nvAt dst) r k {}).bind fun p=>
  if(p.2.2.sn=false∧D.lows 0 p.1=true)∧((P.funcs[g]?).map fun fn=>fn.params.size+fn.nfree)=some (p.1.length+1)then(absorb 0 x p.2.1).bind fun q=>mvT call dst g p.1 q.1 q.2 else none:=by
 simp only[mvE]
 refine congrArg _ (funext fun p=> ?_)
 obtain⟨ds,k1,b⟩:=p
 simp only
 split
 ·refine congrArg _ (funext fun q=> ?_)
  obtain⟨t,k2⟩:=q
  simp only
  cases t with
  |d x=>cases x <;>rfl
  |_=>rfl
 ·rfl
@[go_sem] theorem mvT_own{call:CallF}{dst:Nat}{g:FuncId}{ds:List D}{es:List T}{k:Wk}:mvT call dst g ds (.own es) k=if T.lows 0 es=true then cb (call g (canon false ds) [.row es]) fun p=>if p.2.length=0 then resE dst p.1 k else none else none:=rfl
noncomputable def goP(P:Program)(call:CallF)(h:Hint)(L:List Lite)(ls:List Nat)(s:St)(κ:Ex×St→Option ρ):Option ρ:=(runLP P call h L s).bind fun p=>match p.1 with |some d=>κ (.pan d,p.2) |none=>κ (.normal,prune ls p.2)
noncomputable def goPB(P:Program)(call:CallF)(h:Hint)(x:Option (Option D×SV×Wk))(d:Option Nat)(r:List Lite)(ls:List Nat)(s:St)(κ:Ex×St→Option ρ):Option ρ:=x.bind fun p=>match p.1 with |some e=>κ (.pan e,s.fin none .dead p.2.2) |none=>goP P call h r ls (s.fin d p.2.1 p.2.2) κ
section
variable{d:Option Nat}{ty:TypeId}{op:Op}{L r:List Lite}{ls:List Nat}{s s':St}{κ:Ex×St→Option ρ}{x x':Option (Option D×SV×Wk)}{env:List (Nat×SV)}{ct:List ((Nat×Nat)×T)}{H:List Ob}{v:SV}{e:D}{k:Wk}
@[congr] theorem goP_congr(q:s=s'):goP P call h L ls s κ=goP P call h L ls s' κ:=by rw[q]
@[congr] theorem goPB_congr(q:x=x'):goPB P call h x d r ls s κ=goPB P call h x' d r ls s κ:=by rw[q]
@[go_sem] theorem go_regP{hints:FuncId→Hint}(s:St)(κ:Ex×St→Option ρ):go P hints h B (.regP L ls) s κ=goP P (callX P hints) h L ls s κ:=by
 simp only[go,codeC,xX,goP]
 refine congrArg _ (funext fun p=> ?_)
 obtain⟨t,s'⟩:=p
 cases t <;>rfl
@[go_sem] theorem goP_nil:goP P call h [] ls s κ=κ (.normal,prune ls s):=rfl
@[go_sem] theorem goP_cons:goP P call h (⟨d,ty,op,none⟩::r) ls ⟨env,ct,H⟩ κ=goPB P call h (stepP P call h (d.getD 0) ty op (St.val ⟨env,ct,H⟩) ⟨ct,H,[]⟩) d r ls ⟨env,ct,H⟩ κ:=by
 simp only[goP,goPB,runLP,xX]
 refine congrArg _ (funext fun p=> ?_)
 obtain⟨t,q⟩:=p
 cases t <;>rfl
@[go_sem] theorem goPB_none:goPB P call h none d r ls s κ=none:=rfl
@[go_sem] theorem goPB_some:goPB P call h (some (none,v,k)) d r ls s κ=goP P call h r ls (s.fin d v k) κ:=rfl
@[go_sem] theorem goPB_bind{α:Type}{o:Option α}{f:α→Option (Option D×SV×Wk)}:goPB P call h (o.bind f) d r ls s κ=o.bind fun y=>goPB P call h (f y) d r ls s κ:=by simp only[goPB,xX]
@[go_sem] theorem goPB_ite{c:Prop}[Decidable c]{y:Option (Option D×SV×Wk)}:goPB P call h (if c then x else y) d r ls s κ=if c then goPB P call h x d r ls s κ else goPB P call h y d r ls s κ:=by split <;>rfl
@[go_sem] theorem goPB_cb{α:Type}{o:Option α}{f:α→Option (Option D×SV×Wk)}:goPB P call h (cb o f) d r ls s κ=cbK o fun y=>goPB P call h (f y) d r ls s κ:=by simp only[goPB,cb,cbK,xX]
end
section
variable{P:Program}{call:CallF}{h:Hint}{dst:Nat}{ty t t2:TypeId}{ρ:Operand→SV}{k:Wk}{x y z:Operand}{n:Nat}{bo:BinOp}{uo:UnOp}{ps:Array (Nat×Operand)}{lo hi mx:Option Operand}{bi:Builtin}{as bs:Array Operand}{ats:Array TypeId}{bb:Bool}{fn:Fn}
@[go_sem] theorem stP_move:stepP P call h dst ty (.move x) ρ k=(stepE P call h dst ty (.move x) ρ k).bind fun p=>some (none,p.1,p.2):=stP_op rfl
@[go_sem] theorem stP_assign:stepP P call h dst ty (.assign x) ρ k=(stepE P call h dst ty (.assign x) ρ k).bind fun p=>some (none,p.1,p.2):=stP_op rfl
@[go_sem] theorem stP_load:stepP P call h dst ty (.load t x) ρ k=(stepE P call h dst ty (.load t x) ρ k).bind fun p=>some (none,p.1,p.2):=stP_op rfl
end
noncomputable def goR(P:Program)(call:CallF)(h:Hint)(L:List LF)(ls:List Nat)(c:Cf)(acc:List Fp)(κ:Ex×St→Option ρ):Option ρ:=(runC P call h L c acc).bind fun s'=>κ (.normal,prune ls s')
noncomputable def goRB(P:Program)(call:CallF)(h:Hint)(x:Option (SV×Wk))(o:LF)(r:List LF)(ls:List Nat)(c:Cf)(acc:List Fp)(w:Bool)(κ:Ex×St→Option ρ):Option ρ:=x.bind fun p=>(nextC P call h o r c acc w p.1 p.2).bind fun s'=>κ (.normal,prune ls s')
noncomputable def goRG(P:Program)(call:CallF)(h:Hint)(t:Nat)(want:Bool)(v:SV)(o:LF)(r:List LF)(ls:List Nat)(c:Cf)(acc:List Fp)(κ:Ex×St→Option ρ):Option ρ:=
 match v with
 | .d (.bool b)=>(guardC P call h o want r ({c.1 with env:=putS t (.d (.bool b)) c.1.env},c.2) acc v).bind fun s'=>κ (.normal,prune ls s')
 |_=>(guardC P call h o want r c acc v).bind fun s'=>κ (.normal,prune ls s')
section
variable{d:Option Nat}{g:Option (Nat×Bool)}{ty:TypeId}{op:Op}{lk u:List Nat}{nd eff rds hr ho:Bool}{o:LF}{L r:List LF}{ls:List Nat}{κ:Ex×St→Option ρ}{x x':Option (SV×Wk)}{env:List (Nat×SV)}{ct ct':List ((Nat×Nat)×T)}{H H':List Ob}{tr:List Tr}{v v':SV}{t n:Nat}{b want w:Bool}{c c':Cf}{hi:Hist}{acc acc':List Fp}
@[congr] theorem goR_congr(e:c=c')(f:acc=acc'):goR P call h L ls c acc κ=goR P call h L ls c' acc' κ:=by rw[e,f]
@[congr] theorem goRB_congr(e:x=x'):goRB P call h x o r ls c acc w κ=goRB P call h x' o r ls c acc w κ:=by rw[e]
@[congr] theorem goRG_congr(e:v=v'):goRG P call h t want v o r ls c acc κ=goRG P call h t want v' o r ls c acc κ:=by rw[e]
@[go_sem] theorem go_regD{hints:FuncId→Hint}(s:St)(κ:Ex×St→Option ρ):go P hints h B (.regD L ls) s κ=goR P (callX P hints) h L ls (s,hist0 s) [] κ:=by
 simp only[go,codeC,xX];rfl
@[go_sem] theorem goR_nil{s:St}:goR P call h [] ls (s,hi) acc κ=κ (.normal,prune ls s):=rfl
@[go_sem] theorem goR_plain:goR P call h (⟨d,none,ty,op,lk,u,nd,eff,rds,hr,ho⟩::r) ls (⟨env,ct,H⟩,hi) acc κ=goRB P call h (stepE P call h (d.getD 0) ty op (St.val ⟨env,ct,H⟩) ⟨ct,H,[]⟩) ⟨d,none,ty,op,lk,u,nd,eff,rds,hr,ho⟩ r ls (⟨env,ct,H⟩,hi) acc true κ:=by
 simp only[goR,goRB,runC_plain,xX]
@[go_sem] theorem goR_guard:goR P call h (⟨d,some (t,want),ty,op,lk,u,nd,eff,rds,hr,ho⟩::r) ls c acc κ=goRG P call h t want (c.1.get t) ⟨d,some (t,want),ty,op,lk,u,nd,eff,rds,hr,ho⟩ r ls c acc κ:=by
 obtain⟨⟨env,ct,H⟩,hi⟩:=c
 simp only[goR,goRG,runC_guard]
 split
 ·rename_i b hb
  rw[hb]
  simp only[putS_get hb]
 ·rfl
@[go_sem] theorem goRG_t:goRG P call h t true (.d (.bool b)) o r ls (⟨env,ct,H⟩,hi) acc κ=if b=true then goRB P call h (stepE P call h (o.d.getD 0) o.ty o.op (St.val ⟨putS t (.d (.bool true)) env,ct,H⟩) ⟨ct,H,[]⟩) o r ls (⟨putS t (.d (.bool true)) env,ct,H⟩,hi) acc true κ else goRB P call h (some (.tup [],⟨ct,H,[]⟩)) o r ls (⟨putS t (.d (.bool false)) env,ct,H⟩,hi) acc false κ:=by
 cases b
 ·simp only[goRG,guardC_bool];rfl
 ·simp only[goRG,guardC_bool,if_true,goRB,xX];rfl
@[go_sem] theorem goRG_f:goRG P call h t false (.d (.bool b)) o r ls (⟨env,ct,H⟩,hi) acc κ=if b=true then goRB P call h (some (.tup [],⟨ct,H,[]⟩)) o r ls (⟨putS t (.d (.bool true)) env,ct,H⟩,hi) acc false κ else goRB P call h (stepE P call h (o.d.getD 0) o.ty o.op (St.val ⟨putS t (.d (.bool false)) env,ct,H⟩) ⟨ct,H,[]⟩) o r ls (⟨putS t (.d (.bool false)) env,ct,H⟩,hi) acc true κ:=by
 cases b
 ·simp only[goRG,guardC_boolF,goRB,xH,if_false,xX];rfl
 ·simp only[goRG,guardC_boolF];rfl
@[go_sem] theorem goRB_none:goRB P call h none o r ls c acc w κ=none:=rfl
@[go_sem] theorem goRB_bind{α:Type}{y:Option α}{f:α→Option (SV×Wk)}:goRB P call h (y.bind f) o r ls c acc w κ=y.bind fun z=>goRB P call h (f z) o r ls c acc w κ:=by simp only[goRB,xX]
@[go_sem] theorem goRB_ite{q:Prop}[Decidable q]{y:Option (SV×Wk)}:goRB P call h (if q then x else y) o r ls c acc w κ=if q then goRB P call h x o r ls c acc w κ else goRB P call h y o r ls c acc w κ:=by split <;>rfl
@[go_sem] theorem goRB_cb{α:Type}{y:Option α}{f:α→Option (SV×Wk)}:goRB P call h (cb y f) o r ls c acc w κ=cbK y fun z=>goRB P call h (f z) o r ls c acc w κ:=by simp only[goRB,cb,cbK,xX]
@[go_sem] theorem goRB_quiet:goRB P call h (some (v,⟨ct',H',tr⟩)) ⟨d,g,ty,op,lk,[],false,eff,rds,hr,ho⟩ r ls c acc w κ=goR P call h r ls (c.1.fin d v ⟨ct',H',tr⟩,histAdd c.2 tr d (histV op c.2 v)) (acc++[fp0]) κ:=by
 simp only[goRB,xS,nextC_quiet];rfl
@[go_sem] theorem goRB_last:goRB P call h (some (v,⟨ct',H',tr⟩)) ⟨d,g,ty,op,lk,n::u,false,eff,rds,hr,ho⟩ r ls c acc w κ=if(n::u).all (apartAt acc (fpW ⟨d,g,ty,op,lk,n::u,false,eff,rds,hr,ho⟩ c.2 c.1 w v ⟨ct',H',tr⟩))=true then goR P call h r ls (c.1.fin d v ⟨ct',H',tr⟩,histAdd c.2 tr d (histV op c.2 v)) (acc++[fp0]) κ else none:=by
 simp only[goRB,xS,nextC_last,bind_ite];rfl
@[go_sem] theorem goRB_mk:goRB P call h (some (v,⟨ct',H',tr⟩)) ⟨d,g,ty,op,lk,u,true,eff,rds,hr,ho⟩ r ls c acc w κ=if u.all (apartAt acc (fpW ⟨d,g,ty,op,lk,u,true,eff,rds,hr,ho⟩ c.2 c.1 w v ⟨ct',H',tr⟩))=true then goR P call h r ls (c.1.fin d v ⟨ct',H',tr⟩,histAdd c.2 tr d (histV op c.2 v)) (acc++[fpW ⟨d,g,ty,op,lk,u,true,eff,rds,hr,ho⟩ c.2 c.1 w v ⟨ct',H',tr⟩]) κ else none:=by
 simp only[goRB,xS,nextC_mk,bind_ite];rfl
end
end
section
variable{α:Type}{ρ:Type}
open Classical in
noncomputable def limE(g:Nat→Option ρ):Option ρ:=if h:∃r,∃N,∀n,N≤n→g n=some r then some (Classical.choose h)else none
theorem limE_eq{g:Nat→Option ρ}{r:Option ρ}(N:Nat)(h:∀n,N≤n→g n=r):limE g=r:=by
 unfold limE
 cases r with
 |none=>
  rw[dif_neg]
  rintro⟨r,M,hm⟩
  have h1:=h (max N M) (Nat.le_max_left _ _)
  rw[hm _ (Nat.le_max_right _ _)]at h1
  cases h1
 |some r=>
  have hx:∃r,∃N,∀n,N≤n→g n=some r:=⟨r,N,h⟩
  rw[dif_pos hx]
  obtain⟨M,hm⟩:=Classical.choose_spec hx
  rw[←hm (max N M) (Nat.le_max_right _ _),h _ (Nat.le_max_left _ _)]
def iterCN(Φ:α→(α→Option ρ)→Option ρ):Nat→α→Option ρ
 |0,_=>none
 |n+1,v=>Φ v (iterCN Φ n)
noncomputable def iterC(Φ:α→(α→Option ρ)→Option ρ)(v:α):Option ρ:=limE fun n=>iterCN Φ n v
theorem iterC_is{Φ:α→(α→Option ρ)→Option ρ}(I:α→Prop)(E:α→Option ρ)(μ:α→Nat)(h:∀v k,I v→(∀v',I v'→μ v'<μ v→k v'=E v')→Φ v k=E v){v:α}(hv:I v):iterC Φ v=E v:=by
 have:∀n v,I v→μ v<n→iterCN Φ n v=E v:=by
  intro n
  induction n with
  |zero=>intro v _ hv;omega
  |succ n ih=>intro v hI hv;exact h v _ hI fun v' hI' hl=>ih v' hI' (by omega)
 exact limE_eq (μ v+1) fun n hn=>this n v hv (by omega)
section
variable{P:Program}{hints:FuncId→Hint}{h:Hint}{B:Code}
theorem codeX_loopN{a:Code}{s:St}{r:Ex×St}:codeX P hints h (.loop a) s=some r↔∃n,loopN (codeX P hints h a) n s=some r:=by
 constructor
 ·intro e
  obtain⟨n,e⟩:=codeX_iff.1 e
  simp only[codeN]at e
  exact⟨n,loopN_mono (fun s r e=>codeX_iff.2 ⟨n,e⟩) n n (Nat.le_refl _) s r e⟩
 ·rintro⟨n,e⟩
  induction n generalizing s with
  |zero=>cases e
  |succ n ih=>
   simp only[loopN,xB]at e
   obtain⟨⟨ex,s'⟩,e1,e2⟩:=e
   rw[codeX_loop,e1,xS]
   simp only at e2
   unfold thenX
   simp only
   cases ex with
   |normal=>exact ih e2
   |_=>exact e2
theorem goLp_turn{k:Nat}{q:CL}(hq:compL h B k=some q){s:St}{κ:Ex×St→Option ρ}:goLp P hints h B k s κ=go P hints h B q s (kLp (fun s=>goLp P hints h B k s κ) κ):=by
 have hb:∀s,codeX P hints h (lpAt B k) s=codeC P hints h B q s:=compL_ok hq
 unfold goLp go
 rw[codeX_loop,←hb,xX]
 congr 1
 funext ⟨ex,s'⟩
 cases ex <;>rfl
theorem goLp_iter{k:Nat}{q:CL}(hq:compL h B k=some q){S:α→St}{κ:Ex×St→Option ρ}{Φ:α→(α→Option ρ)→Option ρ}
  (hΦ:∀(R:St→Option ρ) (g:α→Option ρ),(∀v,R (S v)=g v)→∀v,go P hints h B q (S v) (kLp R κ)=Φ v g) (v:α):goLp P hints h B k (S v) κ=iterC Φ v:=by
 have hb:∀s,codeX P hints h (lpAt B k) s=codeC P hints h B q s:=compL_ok hq
 unfold goLp iterC
 generalize lpAt B k=a at hb ⊢
 have step:∀n s,(loopN (codeX P hints h a) (n+1) s).bind κ=go P hints h B q s (kLp (fun s=>(loopN (codeX P hints h a) n s).bind κ) κ):=fun n s=>by
  simp only[loopN,go,←hb,xX]
  congr 1
  funext ⟨ex,s'⟩
  cases ex <;>rfl
 have gn:∀n v,(loopN (codeX P hints h a) n (S v)).bind κ=iterCN Φ n v:=by
  intro n
  induction n with
  |zero=>intro v;rfl
  |succ n ih=>intro v;rw[step];exact hΦ _ _ ih v
 refine Eq.symm ?_
 cases e:codeX P hints h (.loop a) (S v)with
 |none=>
  refine limE_eq 0 fun n _=> ?_
  rw[←gn]
  cases hl:loopN (codeX P hints h a) n (S v)with
  |none=>rfl
  |some r=>rw[codeX_loopN.2 ⟨n,hl⟩]at e;cases e
 |some r=>
  obtain⟨N,hN⟩:=codeX_loopN.1 e
  refine limE_eq N fun n hn=> ?_
  rw[←gn,loopN_mono (fun _ _ e=>e) N n hn _ _ hN]
end
end
section
variable{P:Program}{κ ν:Type}[DecidableEq κ]{fk:κ→D}{fv:ν→D}
def ents(fk:κ→D)(fv:ν→D)(l:List (κ×ν)):List (D×T):=l.map fun p=>(fk p.1,.d (fv p.2))
omit [DecidableEq κ] in
theorem ents_nil:ents fk fv []=[]:=rfl
def lookOb(P:Program)(t:TypeId)(ob:Ob)(kd:D)(ok:Bool):Option SV:=
 (mapOf P t).bind fun(kt,e)=>if(keyEq P kt kd kd).isSome then(match ob with | .map es=>findK (keyEq P kt) kd es |_=>none).bind fun r=>(zeroOf P e).bind fun z=>
    (match r with |some (.d x)=>some (x,true) |some _=>none |none=>some (z,false)).map fun(x,b)=>if ok then .tup [.d x,.d (.bool b)]else .d x
   else none
omit [DecidableEq κ] in
@[go_sem] theorem lookupE_map{t:TypeId}{o:Nat}{kd:D}{ok:Bool}{H:List Ob}:lookupE P t (.d (.map o)) (.d kd) ok H=(H[o]?).bind fun ob=>lookOb P t ob kd ok:=by
 unfold lookupE lookOb
 cases mapOf P t with
 |none=>cases H[o]? <;>rfl
 |some q=>
  obtain⟨kt,e⟩:=q
  simp only[xS]
  cases H[o]? with
  |none=>simp
  |some ob=>simp only[xS];cases ob <;>rfl
def putOb(P:Program)(t:TypeId)(ob:Ob)(kd y:D):Option (List (D×T)):=
 (mapOf P t).bind fun(kt,_)=>if(keyEq P kt kd kd).isSome then(match ob with | .map es=>putK (keyEq P kt) kd (.d y) es |_=>none)else none
def putObR(P:Program)(t:TypeId)(ob:Ob)(kd:D)(y:List T):Option (List (D×T)):=
 (mapOf P t).bind fun(kt,_)=>if(keyEq P kt kd kd).isSome then(match ob with | .map es=>putK (keyEq P kt) kd (.own y) es |_=>none)else none
def putAt(P:Program)(t:TypeId)(o:Nat)(kd:D)(x:T)(k:Wk):Option Wk:=
 match x with
 | .d y=>(k.H[o]?).bind fun ob=>(putOb P t ob kd y).bind fun es=>some {k with H:=k.H.set o (.map es)}
 | .own l=>(k.H[o]?).bind fun ob=>(putObR P t ob kd l).bind fun es=>some {k with H:=k.H.set o (.map es)}
 |_=>none
omit [DecidableEq κ] in
@[go_sem] theorem mapPut_map{nv:Nat}{t:TypeId}{o:Nat}{kd:D}{v:SV}{k:Wk}:mapPutE P nv t (.d (.map o)) (.d kd) v k=if((mapOf P t).bind fun q=>keyEq P q.1 kd kd).isSome=true then(absorb nv v k).bind fun q=>putAt P t o kd q.1 q.2 else none:=by
 unfold mapPutE putAt putOb putObR
 cases mapOf P t with
 |none=>rfl
 |some q=>
  obtain⟨kt,e⟩:=q
  simp only[xS]
  cases hk:(keyEq P kt kd kd).isSome with
  |false=>simp
  |true=>
   simp only[if_true]
   congr 1
   funext ⟨x,k⟩
   simp only
   cases x with
   |d y=>
    cases k.H[o]? with
    |none=>rfl
    |some ob=>cases ob <;>simp only[xS,Option.bind_none,xF] <;>rfl
   |own y=>
    cases k.H[o]? with
    |none=>rfl
    |some ob=>cases ob <;>simp only[xS,Option.bind_none,xF] <;>rfl
   |_=>cases k.H[o]? <;>rfl
omit [DecidableEq κ] in
@[go_sem] theorem putAt_d{t:TypeId}{o:Nat}{kd y:D}{ct:List ((Nat×Nat)×T)}{H:List Ob}{tr:List Tr}:putAt P t o kd (.d y) ⟨ct,H,tr⟩=(H[o]?).bind fun ob=>(putOb P t ob kd y).bind fun es=>some ⟨ct,H.set o (.map es),tr⟩:=rfl
def entB(fv:ν→D):Bool→List ν→T
 |true,l=>.d (.sl false (List.map fv l))
 |false,l=>.own (tl fv l)
def entsB(b:Bool)(fk:κ→D)(fv:ν→D)(l:List (κ×List ν)):List (D×T):=l.map fun p=>(fk p.1,entB fv b p.2)
omit [DecidableEq κ] in
theorem entsB_nil{b:Bool}:entsB b fk fv ([]:List (κ×List ν))=[]:=rfl
end
attribute [go_sem] obsImm Ob.low
end Go.Am
