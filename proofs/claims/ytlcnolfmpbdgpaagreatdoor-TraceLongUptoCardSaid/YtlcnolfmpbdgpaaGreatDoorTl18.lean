/- 'TraceLongUptoCardSaid': a text that is too long is told as such, and a run of no loop as none. Condition: what is read is of bulk at most 1048576; the listed variables hold what the program's text lays them with (tied by the card). -/
import Derived.Test.YtlcnolfmpbdgpaaGreatDoorTl17
import Derived.Test.YtlcnolfmpbdgpaaGreatDoorCards
import Derived.Test.YtlcnolfmpbdgpaaGreatDoorTie
import Derived.Deep.DeepHandedRow
import Derived.Deep.DeepLaidRun
set_option linter.unusedSimpArgs false
set_option linter.unusedVariables false
namespace Go.Proofs.YtlcnolfmpbdgpaaGreatDoor
open Go Go.Am Go.Etx Go.Etd Go.ChangeShapes Go.WideShapes Go.ChangeAt Go.RowKit
set_option maxRecDepth 20000
namespace TraceLongLaw
theorem own:ownKnob Tryz.prog.godebug=none:=by kernel_rfl
theorem follows:Tryz.prog.follows .mixedOrders=true:=by kernel_rfl
theorem laid:laidOutB Tryz.prog=true:=by kernel_rfl
theorem agb:tB Tryz.prog 10 5=true:=by kernel_rfl
theorem agc:(Tryz.prog.readableRec 5&&decide (5<Tryz.prog.types.size))=true:=by kernel_rfl
theorem acB:tB Tryz.prog 10 28=true:=by kernel_rfl
theorem acC:(Tryz.prog.readableRec 28&&decide (28<Tryz.prog.types.size))=true:=by kernel_rfl
theorem acD:tB Tryz.prog 10 29=true:=by kernel_rfl
theorem acE:(Tryz.prog.readableRec 29&&decide (29<Tryz.prog.types.size))=true:=by kernel_rfl
theorem L9(H:Type)(enc:TypeId×Value→H)(W:World)(base:Nat)(args:Array Value)(ds gs:List (DataW H))(before:List MemPlace)
  (hval:∀(j:Nat) t v,Tryz.f3.params[j]? =some t→args[j]? =some v→Value.okWide Tryz.prog W .any base t v)
  (hW:DataW.Whole enc Tryz.prog Tryz.f3.params.toList Rows.traceLongSpec.vars false W args.toList ds gs before) (hk:Rows.uptoSmall H (ds++gs)=true) (hL:laidMetH Tryz.prog Rows.traceLongUptoRow.laid W):
  Calls Tryz.prog 3 args W fun e W'=>∃v,e=.returned v∧Rows.traceLongSpec.post enc Tryz.prog Tryz.f3 false true false false W args v W':=by
 have hW':=hW;obtain⟨p,q,hA0,hV,rfl,hfz,hnd⟩:=hW;have hA:DataW.TrodAll enc Tryz.prog W 0 (fun _=>true) true Tryz.f3.params.toList args.toList ds p:=hA0
 obtain⟨rfl,rfl⟩:=trodVars_none hV;have hb:Rows.uptoBulkAll ds≤1048576:=of_decide_eq_true (by simpa [Rows.uptoSmall]using hk)
 have hp:Tryz.f3.params.toList=[28,29,5]:=by rw[Tryz.params3]
 obtain⟨xs,hv,ht,hbk⟩:=yz (P:=Tryz.prog) (n:=10) Tryz.f3.params.toList args.toList ds p (by rw[hp];simp[agb,acB,acD]) (fun j t v h1 h2=>⟨base,hval j t v (by simpa using h1) (by simpa using h2)⟩) hA
 rw[hp]at ht
 obtain⟨a0,r0,rfl,h0,a1,r1,rfl,h1,a2,r2,rfl,h2,rfl⟩:=ht;obtain⟨x0,rfl,k0⟩:=acp (n:=0) h0;obtain⟨x1,rfl,k1⟩:=abT (n:=7) h1;obtain⟨x2,rfl,k2⟩:=afN (n:=9) h2;have hbk2:=Nat.le_trans hbk hb;simp only[D.bulks,afO,acq,abU,Nat.add_zero]at hbk2
 obtain⟨n,hn⟩:=cx.1 (zj x0 x1 x2 k0 k1 k2 (by omega))
 refine(Fj follows L7 Iq (show¬YB≤3 by unfold YB;omega) hn (UT (zi (by kernel_rfl) hL)) hv).mono fun e W' ⟨he,hbl⟩=> ?_
 subst he
 obtain⟨d0,d1,d2,rfl⟩:∃d0 d1 d2,ds=[d0,d1,d2]:=by
  rw[hp]at hA
  obtain⟨v0,vs0,d0,ds0,p0,q0,_,rfl,rfl,_,g0⟩:=trodAll_cons hA;obtain⟨v1,vs1,d1,ds1,p1,q1,_,rfl,rfl,_,g1⟩:=trodAll_cons g0;obtain⟨v2,vs2,d2,ds2,p2,q2,_,rfl,rfl,_,g2⟩:=trodAll_cons g1;obtain⟨_,rfl,_⟩:=trodAll_nil g2
  exact⟨d0,d1,d2,rfl⟩
 exact⟨_,rfl,LY hW' rfl rfl hbl laid (by
  rw[hp];intro t ht;simp only[xY,List.not_mem_nil,or_false]at ht
  rcases ht with rfl |rfl |rfl
  ·simpa using acC
  ·simpa using acE
  ·simpa using agc) (by kernel_rfl) Tryz.underlying4⟩
noncomputable def low:Nat:=(World.holding Tryz.prog default ⟨#[], #[],[]⟩).heap.size
def cell1:DataW Unit→List Value
 | .lit (.int k n)=>[.int k n]
 | .lit (.string s)=>[.string ⟨s.toArray⟩]
 |_=>[]
def acF:DataW Unit→List Value
 | .agg l=>l.flatMap cell1
 |x=>cell1 x
def cells:DataW Unit→Array Value
 | .agg l=>(l.flatMap acF).toArray
 |_=> #[]
noncomputable def tD(os:Os):World:=
 let w0:=World.holding Tryz.prog os ⟨#[.cells #[.string ⟨#[118,97,108,117,101,32,111,117,116,32,111,102,32,114,97,110,103,101]⟩] 314,.cells #[.string ⟨#[105,110,118,97,108,105,100,32,115,121,110,116,97,120]⟩] 314], #[],[]⟩
 let put (g:Nat) (vs:Array Value) (h:Array Obj):Array Obj:=h.modify g fun
  | .cells _ t frozen=>.cells vs t frozen
  |o=>o
 {w0 with heap:=put 1 (cells Rows.laid_lariat_lex_own) (put 2 #[.iface 312 (.pointer (some ⟨low+1,0,none⟩))] (put 3 #[.iface 312 (.pointer (some ⟨low,0,none⟩))] (put 4 (cells Rows.laid_internal_strconv_uint64pow10) (put 5 (cells Rows.laid_unicode_utf8_first) (put 6 (cells Rows.laid_unicode_utf8_acceptRanges) (put 7 (cells Rows.laid_math_bits_deBruijn32tab) (put 8 (cells Rows.laid_math_bits_deBruijn64tab) w0.heap)))))))}
theorem Ma(os:Os):laidMet Tryz.prog Rows.traceLongUptoRow.laid ((tD os).forCall (fun _ _=>0) ⟨#[], #[.agg #[.slice none 0 0,.slice none 0 0,.slice none 0 0,.slice none 0 0,.slice none 0 0],.slice none 0 0,.int .u8 0],[]⟩).memory:=
 laidMet_of_run3 8 (by kernel_rfl) (by kernel_rfl) (by kernel_rfl)
theorem reads(os:Os){H:Type}(enc:TypeId×Value→H):∃places,DataW.whole enc Tryz.prog ((tD os).forCall (fun _ _=>0) ⟨#[], #[.agg #[.slice none 0 0,.slice none 0 0,.slice none 0 0,.slice none 0 0,.slice none 0 0],.slice none 0 0,.int .u8 0],[]⟩).memory Tryz.f3.params.toList Rows.traceLongSpec.vars false (#[.agg #[.slice none 0 0,.slice none 0 0,.slice none 0 0,.slice none 0 0,.slice none 0 0],.slice none 0 0,.int .u8 0]:Array Value).toList 10=some ([.agg [.nil,.nil,.nil,.nil,.nil],.nil,.lit (.int .u8 0)],[],places):=
 ⟨[],by kernel_rfl⟩
set_option maxRecDepth 100000 in
theorem lifted(os:Os)(started:os.Started)(H:Type)(enc:TypeId×Value→H)(F:Stop.Interp):
  ReturnsInHanded {} Tryz.checked os 3 .any ((Rows.OpenSpec.upto Rows.traceLongSpec).preRow enc Tryz.prog Tryz.f3 Rows.traceLongUptoRow.domain false Rows.traceLongUptoRow.laid) (((Rows.OpenSpec.upto Rows.traceLongSpec).at F).post enc Tryz.prog Tryz.f3 false true false false):=by
 obtain⟨places,hx⟩:=reads os enc
 refine returnsInHanded_of_row (C:=Tryz.checked) (s:=Rows.OpenSpec.upto Rows.traceLongSpec) own started (by kernel_rfl) Tryz.func3
  (witness_row_at (enc:=enc) (C:=Tryz.checked) false (tD os) #[.agg #[.slice none 0 0,.slice none 0 0,.slice none 0 0,.slice none 0 0,.slice none 0 0],.slice none 0 0,.int .u8 0] rfl (by kernel_rfl) (by kernel_rfl) (by kernel_rfl)
   (OpenSpec.preRow_of_cond 10 hx (by kernel_rfl) (fun k hk=>by cases hk;kernel_rfl) (by kernel_rfl) (Ma os))) ?_
 intro W base args ds gs before hval hW _ hcond _ hL _ _;exact L9 H enc W base args ds gs before hval hW (hcond _ rfl) hL
theorem saidUpto:Rows.TraceLongUptoSaid:=
 OpenClaim.holds_of_cond 3 Tryz.f3 rfl rfl rfl rfl rfl rfl rfl ⟨rfl,rfl,rfl,rfl,rfl⟩ rfl rfl rfl rfl rfl (by kernel_rfl) Tryz.func3 UU
  (of_decide_eq_true (by kernel_rfl)) (by unfold Func.isWrapper;first |(rw[if_pos (by decide +kernel)];kernel_rfl) |(rw[if_neg (by decide +kernel)];exact⟨rfl,rfl⟩))
  (fun os started H enc _ F=>by rw[OpenClaim.pre_eq_preRow];exact lifted os started H enc F)
theorem plain(f:FuncId)(fn:Func)(hf:Tryz.pinned.checked.prog.funcNamed "lariat/lariatlaw45.TraceLong" =some f)(hfn:Tryz.pinned.checked.prog.funcs[f]? =some fn):
  true=Tryz.pinned.checked.prog.looks []∧∀(j:Nat) t,fn.params[j]? =some t→Tryz.pinned.checked.prog.wantsStandIn t=false:=by
 obtain rfl:f=3:=Option.some.inj ((show Tryz.prog.funcNamed "lariat/lariatlaw45.TraceLong" =some 3 by kernel_rfl).symm.trans hf) |>.symm
 obtain rfl:fn=Tryz.f3:=(Option.some.inj (Tryz.func3.symm.trans hfn)).symm
 refine⟨by kernel_rfl,fun j t ht=> ?_⟩
 rw[Tryz.params3]at ht
 have hm:t∈[28,29,5]:=by simpa using Array.mem_of_getElem? ht
 have hall:([28,29,5].all fun u=> !Tryz.prog.wantsStandIn u)=true:=by kernel_rfl
 exact(show Tryz.prog.wantsStandIn t=false by simpa using List.all_eq_true.1 hall t hm)
end TraceLongLaw
theorem traceLong_uptoCard:Rows.TraceLongUptoCardSaid:=
 Claim7.holds_tied_plain_at .later [] _ _ _ _ TraceLongLaw.saidUpto (fun _ h=>by cases h) (by kernel_rfl) (fun _ h=>by cases h) traceLongUpto_row_tie rfl ⟨rfl,rfl⟩ (by kernel_rfl) rfl TraceLongLaw.plain (by kernel_rfl)
end Go.Proofs.YtlcnolfmpbdgpaaGreatDoor
