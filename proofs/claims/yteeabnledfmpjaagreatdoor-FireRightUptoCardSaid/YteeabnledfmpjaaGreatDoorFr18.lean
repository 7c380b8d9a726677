/- 'FireRightUptoCardSaid': each state that a move leads to is right, and that Do, Follow and On tell the same of it. Condition: what is read is of bulk at most 1048576; the listed variables hold what the program's text lays them with (tied by the card). -/
import Derived.Test.YteeabnledfmpjaaGreatDoorFr17
import Derived.Test.YteeabnledfmpjaaGreatDoorCards
import Derived.Test.YteeabnledfmpjaaGreatDoorTie
import Derived.Deep.DeepHandedRow
import Derived.Deep.DeepLaidRun
set_option linter.unusedSimpArgs false
set_option linter.unusedVariables false
namespace Go.Proofs.YteeabnledfmpjaaGreatDoor
open Go Go.Am Go.Etx Go.Etd Go.ChangeShapes Go.WideShapes Go.ChangeAt Go.RowKit
set_option maxRecDepth 20000
namespace FireRightLaw
theorem own:ownKnob Tryz.prog.godebug=none:=by kernel_rfl
theorem follows:Tryz.prog.follows .mixedOrders=true:=by kernel_rfl
theorem laid:laidOutB Tryz.prog=true:=by kernel_rfl
theorem asu:Ed Tryz.prog 10 28=true:=by kernel_rfl
theorem asv:(Tryz.prog.readableRec 28&&decide (28<Tryz.prog.types.size))=true:=by kernel_rfl
theorem asw:Ed Tryz.prog 10 29=true:=by kernel_rfl
theorem asx:(Tryz.prog.readableRec 29&&decide (29<Tryz.prog.types.size))=true:=by kernel_rfl
theorem l!(H:Type)(enc:TypeId×Vz->H)(W:Wz)(b:Nat)(args:Array Vz)(ds w:J (DataW H))(a:J MemPlace)
  (c:∀(j:Nat) t v,Tryz.f8.params[j]? =some t->args[j]? =some v->Value.okWide Tryz.prog W .any b t v)
  (u:DataW.Whole enc Tryz.prog Tryz.f8.params.toList Rows.fireRightSpec.vars false W args.toList ds w a) (hk:Rows.uptoSmall H (ds++w)=true) (K:laidMetH Tryz.prog Rows.fireRightUptoRow.laid W):
  Calls Tryz.prog 8 args W λe x=>∃v,e=.returned v/\Rows.fireRightSpec.post enc Tryz.prog Tryz.f8 false true false false W args v x:=by
 have s:=u;obtain⟨p,q,k,z,rfl,G,L⟩:=u;have m:DataW.TrodAll enc Tryz.prog W 0 (λ_=>true) true Tryz.f8.params.toList args.toList ds p:=k
 obtain⟨rfl,rfl⟩:=trodVars_none z;have U:Rows.uptoBulkAll ds<=1048576:=of_decide_eq_true (by simpa [Rows.uptoSmall]using hk)
 have h:Tryz.f8.params.toList=[28,29]:=by rw[Tryz.params8]
 obtain⟨Y,B,d,o⟩:=Ip (P:=Tryz.prog) (n:=10) Tryz.f8.params.toList args.toList ds p (by rw[h];simp[asu,asw]) (λj t v r E=>⟨b,c j t v (by simpa using r) (by simpa using E)⟩) m
 rw[h]at d
 obtain⟨X,r0,rfl,N,a1,r1,rfl,r,rfl⟩:=d;obtain⟨A,rfl,R⟩:=aso (n:=0) N;obtain⟨I,rfl,O⟩:=arO (n:=8) r;have f:=fj o U;simp only[D.bA,asp,arP,kV]at f
 obtain⟨n,y⟩:=gS.1 (IJ A I R O (by omega))
 refine(QU follows l_ Vt (show¬YB<=8 by unfold YB;omega) y (ahB (II (by kernel_rfl) K)) B).mono λe x ⟨C,l⟩=> ?_
 subst C
 obtain⟨i,g,rfl⟩:∃i g,ds=[i,g]:=by
  rw[h]at m
  obtain⟨v0,S,i,F,p0,q0,_,rfl,rfl,_,T⟩:=trodAll_cons m;obtain⟨Z,V,g,Q,p1,q1,_,rfl,rfl,_,M⟩:=trodAll_cons T;obtain⟨_,rfl,_⟩:=trodAll_nil M
  exact⟨i,g,rfl⟩
 exact⟨_,rfl,j_ s rfl rfl l laid (by
  rw[h];intro t d;simp only[xY,List.not_mem_nil,or_false]at d
  obtain rfl |rfl:=d
  .simpa using asv
  .simpa using asx) (by kernel_rfl) Tryz.underlying4⟩
noncomputable def low:Nat:=(World.holding Tryz.prog default ⟨#[], #[],[]⟩).heap.size
def cell1:DataW Unit->J Vz
 | .lit (.int k n)=>[.int k n]
 | .lit (.string s)=>[.string ⟨s.toArray⟩]
 |_=>[]
def asy:DataW Unit->J Vz
 | .agg l=>l.flatMap cell1
 |x=>cell1 x
def cells:DataW Unit->Array Vz
 | .agg l=>(l.flatMap asy).toArray
 |_=> #[]
noncomputable def CY(c:Os):Wz:=
 let w0:=World.holding Tryz.prog c ⟨#[], #[],[]⟩
 let b (g:Nat) (d:Array Vz) (h:Array Obj):Array Obj:=h.modify g λ
  | .cells _ t a=>.cells d t a
  |o=>o
 {w0 with heap:=b 0 (cells Rows.laid_lariat_lex_own) w0.heap}
theorem m_(a:Os):laidMet Tryz.prog Rows.fireRightUptoRow.laid ((CY a).forCall (λ_ _=>0) ⟨#[], #[.agg #[.slice none 0 0,.slice none 0 0,.slice none 0 0,.slice none 0 0,.slice none 0 0],.slice none 0 0],[]⟩).memory:=
 laidMet_of_run3 8 (by kernel_rfl) (by kernel_rfl) (by kernel_rfl)
theorem reads(b:Os){H:Type}(enc:TypeId×Vz->H):∃a,DataW.whole enc Tryz.prog ((CY b).forCall (λ_ _=>0) ⟨#[], #[.agg #[.slice none 0 0,.slice none 0 0,.slice none 0 0,.slice none 0 0,.slice none 0 0],.slice none 0 0],[]⟩).memory Tryz.f8.params.toList Rows.fireRightSpec.vars false (#[.agg #[.slice none 0 0,.slice none 0 0,.slice none 0 0,.slice none 0 0,.slice none 0 0],.slice none 0 0]:Array Vz).toList 10=some ([.agg [.nil,.nil,.nil,.nil,.nil],.nil],[],a):=
 ⟨[],by kernel_rfl⟩
set_option maxRecDepth 100000 in
theorem lifted(d:Os)(a:d.Started)(H:Type)(enc:TypeId×Vz->H)(F:Stop.Interp):
  ReturnsInHanded {} Tryz.checked d 8 .any ((Rows.OpenSpec.upto Rows.fireRightSpec).preRow enc Tryz.prog Tryz.f8 Rows.fireRightUptoRow.domain false Rows.fireRightUptoRow.laid) (((Rows.OpenSpec.upto Rows.fireRightSpec).at F).post enc Tryz.prog Tryz.f8 false true false false):=by
 obtain⟨h,i⟩:=reads d enc
 refine returnsInHanded_of_row (C:=Tryz.checked) (s:=Rows.OpenSpec.upto Rows.fireRightSpec) own a (by kernel_rfl) Tryz.func8
  (witness_row_at (enc:=enc) (C:=Tryz.checked) false (CY d) #[.agg #[.slice none 0 0,.slice none 0 0,.slice none 0 0,.slice none 0 0,.slice none 0 0],.slice none 0 0] rfl (by kernel_rfl) (by kernel_rfl) (by kernel_rfl)
   (OpenSpec.preRow_of_cond 10 i (by kernel_rfl) (λk hk=>by cases hk;kernel_rfl) (by kernel_rfl) (m_ d))) ?_
 intro W f g n m b e l _ c _ j _ _;exact l! H enc W f g n m b e l (c _ rfl) j
theorem saidUpto:Rows.FireRightUptoSaid:=
 OpenClaim.holds_of_cond 8 Tryz.f8 rfl rfl rfl rfl rfl rfl rfl ⟨rfl,rfl,rfl,rfl,rfl⟩ rfl rfl rfl rfl rfl (by kernel_rfl) Tryz.func8 ahC
  (of_decide_eq_true (by kernel_rfl)) (by unfold Func.isWrapper;first |(rw[if_pos (by decide +kernel)];kernel_rfl) |(rw[if_neg (by decide +kernel)];exact⟨rfl,rfl⟩))
  (λc a H b _ F=>by rw[OpenClaim.pre_eq_preRow];exact lifted c a H b F)
theorem plain(f:FuncId)(fn:Func)(hf:Tryz.pinned.checked.prog.funcNamed "lariat/lariatlaw20.FireRight" =some f)(b:Tryz.pinned.checked.prog.funcs[f]? =some fn):
  true=Tryz.pinned.checked.prog.looks []/\∀(j:Nat) t,fn.params[j]? =some t->Tryz.pinned.checked.prog.wantsStandIn t=false:=by
 obtain rfl:f=8:=Option.some.inj ((show Tryz.prog.funcNamed "lariat/lariatlaw20.FireRight" =some 8 by kernel_rfl).symm.trans hf) |>.symm
 obtain rfl:fn=Tryz.f8:=(Option.some.inj (Tryz.func8.symm.trans b)).symm
 refine⟨by kernel_rfl,λj t c=> ?_⟩
 rw[Tryz.params8]at c
 have d:t∈[28,29]:=by simpa using Array.mem_of_getElem? c
 have a:([28,29].all λu=> !Tryz.prog.wantsStandIn u)=true:=by kernel_rfl
 exact(show Tryz.prog.wantsStandIn t=false by simpa using List.all_eq_true.1 a t d)
end FireRightLaw
theorem fireRight_uptoCard:Rows.FireRightUptoCardSaid:=
 Claim7.holds_tied_plain_at .later [] _ _ _ _ FireRightLaw.saidUpto (λ_ h=>by cases h) (by kernel_rfl) (λ_ h=>by cases h) fireRightUpto_row_tie rfl ⟨rfl,rfl⟩ (by kernel_rfl) rfl FireRightLaw.plain (by kernel_rfl)
end Go.Proofs.YteeabnledfmpjaaGreatDoor
