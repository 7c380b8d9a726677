/- 'FireAloneUptoCardSaid': nothing moves just if no command instance is on, and that then the state stays. Condition: what is read is of bulk at most 1048576; the listed variables hold what the program's text lays them with (tied by the card). -/
import Derived.Test.YteeabnledfmpjaaGreatDoorFn17
import Derived.Test.YteeabnledfmpjaaGreatDoorCards
import Derived.Test.YteeabnledfmpjaaGreatDoorTie
import Derived.Deep.DeepHandedRow
import Derived.Deep.DeepLaidRun
set_option linter.unusedSimpArgs false
set_option linter.unusedVariables false
namespace Go.Proofs.YteeabnledfmpjaaGreatDoor
open Go Go.Am Go.Etx Go.Etd Go.ChangeShapes Go.WideShapes Go.ChangeAt Go.RowKit
set_option maxRecDepth 20000
namespace FireAloneLaw
theorem own:ownKnob Tryz.prog.godebug=none:=by kernel_rfl
theorem follows:Tryz.prog.follows .mixedOrders=true:=by kernel_rfl
theorem laid:laidOutB Tryz.prog=true:=by kernel_rfl
theorem asa:D9 Tryz.prog 10 28=true:=by kernel_rfl
theorem asb:(Tryz.prog.readableRec 28&&decide (28<Tryz.prog.types.size))=true:=by kernel_rfl
theorem asc:D9 Tryz.prog 10 29=true:=by kernel_rfl
theorem asd:(Tryz.prog.readableRec 29&&decide (29<Tryz.prog.types.size))=true:=by kernel_rfl
theorem f?(H:Type)(enc:TypeId×Vz->H)(W:Wz)(b:Nat)(args:Array Vz)(ds x:J (DataW H))(a:J MemPlace)
  (c:∀(j:Nat) t v,Tryz.f6.params[j]? =some t->args[j]? =some v->Value.okWide Tryz.prog W .any b t v)
  (u:DataW.Whole enc Tryz.prog Tryz.f6.params.toList Rows.fireAloneSpec.vars false W args.toList ds x a) (hk:Rows.uptoSmall H (ds++x)=true) (A:laidMetH Tryz.prog Rows.fireAloneUptoRow.laid W):
  Calls Tryz.prog 6 args W λe w=>∃v,e=.returned v/\Rows.fireAloneSpec.post enc Tryz.prog Tryz.f6 false true false false W args v w:=by
 have k:=u;obtain⟨p,q,s,G,rfl,C,T⟩:=u;have r:DataW.TrodAll enc Tryz.prog W 0 (λ_=>true) true Tryz.f6.params.toList args.toList ds p:=s
 obtain⟨rfl,rfl⟩:=trodVars_none G;have I:Rows.uptoBulkAll ds<=1048576:=of_decide_eq_true (by simpa [Rows.uptoSmall]using hk)
 have i:Tryz.f6.params.toList=[28,29]:=by rw[Tryz.params6]
 obtain⟨xs,F,d,l⟩:=Ih (P:=Tryz.prog) (n:=10) Tryz.f6.params.toList args.toList ds p (by rw[i];simp[asa,asc]) (λj t v o S=>⟨b,c j t v (by simpa using o) (by simpa using S)⟩) r
 rw[i]at d
 obtain⟨Z,r0,rfl,z,Y,X,rfl,o,rfl⟩:=d;obtain⟨V,rfl,K⟩:=ar4 (n:=0) z;obtain⟨M,rfl,Q⟩:=arv (n:=8) o;have f:=ff l I;simp only[D.bA,ar5,arw,kH]at f
 obtain⟨n,E⟩:=gP.1 (IB V M K Q (by omega))
 refine(QB follows e! U9 (show¬YB<=6 by unfold YB;omega) E (ahk (IA (by kernel_rfl) A)) F).mono λe w ⟨U,m⟩=> ?_
 subst U
 obtain⟨h,g,rfl⟩:∃h g,ds=[h,g]:=by
  rw[i]at r
  obtain⟨v0,L,h,R,p0,q0,_,rfl,rfl,_,y⟩:=trodAll_cons r;obtain⟨v1,B,g,N,p1,q1,_,rfl,rfl,_,O⟩:=trodAll_cons y;obtain⟨_,rfl,_⟩:=trodAll_nil O
  exact⟨h,g,rfl⟩
 exact⟨_,rfl,c! k rfl rfl m laid (by
  rw[i];intro t d;simp only[xY,List.not_mem_nil,or_false]at d
  obtain rfl |rfl:=d
  .simpa using asb
  .simpa using asd) (by kernel_rfl) Tryz.underlying4⟩
noncomputable def low:Nat:=(World.holding Tryz.prog default ⟨#[], #[],[]⟩).heap.size
def cell1:DataW Unit->J Vz
 | .lit (.int k n)=>[.int k n]
 | .lit (.string s)=>[.string ⟨s.toArray⟩]
 |_=>[]
def ase:DataW Unit->J Vz
 | .agg l=>l.flatMap cell1
 |x=>cell1 x
def cells:DataW Unit->Array Vz
 | .agg l=>(l.flatMap ase).toArray
 |_=> #[]
noncomputable def CY(c:Os):Wz:=
 let w0:=World.holding Tryz.prog c ⟨#[], #[],[]⟩
 let b (g:Nat) (d:Array Vz) (h:Array Obj):Array Obj:=h.modify g λ
  | .cells _ t a=>.cells d t a
  |o=>o
 {w0 with heap:=b 0 (cells Rows.laid_lariat_lex_own) w0.heap}
theorem g_(a:Os):laidMet Tryz.prog Rows.fireAloneUptoRow.laid ((CY a).forCall (λ_ _=>0) ⟨#[], #[.agg #[.slice none 0 0,.slice none 0 0,.slice none 0 0,.slice none 0 0,.slice none 0 0],.slice none 0 0],[]⟩).memory:=
 laidMet_of_run3 8 (by kernel_rfl) (by kernel_rfl) (by kernel_rfl)
theorem reads(b:Os){H:Type}(enc:TypeId×Vz->H):∃a,DataW.whole enc Tryz.prog ((CY b).forCall (λ_ _=>0) ⟨#[], #[.agg #[.slice none 0 0,.slice none 0 0,.slice none 0 0,.slice none 0 0,.slice none 0 0],.slice none 0 0],[]⟩).memory Tryz.f6.params.toList Rows.fireAloneSpec.vars false (#[.agg #[.slice none 0 0,.slice none 0 0,.slice none 0 0,.slice none 0 0,.slice none 0 0],.slice none 0 0]:Array Vz).toList 10=some ([.agg [.nil,.nil,.nil,.nil,.nil],.nil],[],a):=
 ⟨[],by kernel_rfl⟩
set_option maxRecDepth 100000 in
theorem lifted(e:Os)(a:e.Started)(H:Type)(enc:TypeId×Vz->H)(F:Stop.Interp):
  ReturnsInHanded {} Tryz.checked e 6 .any ((Rows.OpenSpec.upto Rows.fireAloneSpec).preRow enc Tryz.prog Tryz.f6 Rows.fireAloneUptoRow.domain false Rows.fireAloneUptoRow.laid) (((Rows.OpenSpec.upto Rows.fireAloneSpec).at F).post enc Tryz.prog Tryz.f6 false true false false):=by
 obtain⟨h,n⟩:=reads e enc
 refine returnsInHanded_of_row (C:=Tryz.checked) (s:=Rows.OpenSpec.upto Rows.fireAloneSpec) own a (by kernel_rfl) Tryz.func6
  (witness_row_at (enc:=enc) (C:=Tryz.checked) false (CY e) #[.agg #[.slice none 0 0,.slice none 0 0,.slice none 0 0,.slice none 0 0,.slice none 0 0],.slice none 0 0] rfl (by kernel_rfl) (by kernel_rfl) (by kernel_rfl)
   (OpenSpec.preRow_of_cond 10 n (by kernel_rfl) (λk hk=>by cases hk;kernel_rfl) (by kernel_rfl) (g_ e))) ?_
 intro W f g j m b d l _ c _ i _ _;exact f? H enc W f g j m b d l (c _ rfl) i
theorem saidUpto:Rows.FireAloneUptoSaid:=
 OpenClaim.holds_of_cond 6 Tryz.f6 rfl rfl rfl rfl rfl rfl rfl ⟨rfl,rfl,rfl,rfl,rfl⟩ rfl rfl rfl rfl rfl (by kernel_rfl) Tryz.func6 ahl
  (of_decide_eq_true (by kernel_rfl)) (by unfold Func.isWrapper;first |(rw[if_pos (by decide +kernel)];kernel_rfl) |(rw[if_neg (by decide +kernel)];exact⟨rfl,rfl⟩))
  (λc a H b _ F=>by rw[OpenClaim.pre_eq_preRow];exact lifted c a H b F)
theorem plain(f:FuncId)(fn:Func)(hf:Tryz.pinned.checked.prog.funcNamed "lariat/lariatlaw20.FireAlone" =some f)(b:Tryz.pinned.checked.prog.funcs[f]? =some fn):
  true=Tryz.pinned.checked.prog.looks []/\∀(j:Nat) t,fn.params[j]? =some t->Tryz.pinned.checked.prog.wantsStandIn t=false:=by
 obtain rfl:f=6:=Option.some.inj ((show Tryz.prog.funcNamed "lariat/lariatlaw20.FireAlone" =some 6 by kernel_rfl).symm.trans hf) |>.symm
 obtain rfl:fn=Tryz.f6:=(Option.some.inj (Tryz.func6.symm.trans b)).symm
 refine⟨by kernel_rfl,λj t c=> ?_⟩
 rw[Tryz.params6]at c
 have d:t∈[28,29]:=by simpa using Array.mem_of_getElem? c
 have a:([28,29].all λu=> !Tryz.prog.wantsStandIn u)=true:=by kernel_rfl
 exact(show Tryz.prog.wantsStandIn t=false by simpa using List.all_eq_true.1 a t d)
end FireAloneLaw
theorem fireAlone_uptoCard:Rows.FireAloneUptoCardSaid:=
 Claim7.holds_tied_plain_at .later [] _ _ _ _ FireAloneLaw.saidUpto (λ_ h=>by cases h) (by kernel_rfl) (λ_ h=>by cases h) fireAloneUpto_row_tie rfl ⟨rfl,rfl⟩ (by kernel_rfl) rfl FireAloneLaw.plain (by kernel_rfl)
end Go.Proofs.YteeabnledfmpjaaGreatDoor
