/- A part of the proof: texts of mine, merged by a program (wip/dev/merge.py). -/
import Derived.Test.YtngkjkmjoieecaaGreatDoorEr3
import Derived.Tactics
import Derived.RangeFuncIn
import Derived.RangeFuncLeaves
import Derived.LoopNIn
import Derived.Scope
import Derived.RecoverIn
set_option linter.unusedSimpArgs false
set_option linter.unusedVariables false
namespace Go.Am
open Go
structure Eqv(c d:Cf):Prop where
 get:∀t,d.1.get t=c.1.get t
 ct:∀x,lookR d.1.ct x=lookR c.1.ct x
 H:d.1.H=c.1.H
 hi:∀t,histOf d.2 t=histOf c.2 t
theorem Eqv.refl(c:Cf):Eqv c c:=⟨fun _=>rfl,fun _=>rfl,rfl,fun _=>rfl⟩
theorem Eqv.trans{a b c:Cf}(x:Eqv a b)(y:Eqv b c):Eqv a c:=⟨fun t=>(y.get t).trans (x.get t),fun t=>(y.ct t).trans (x.ct t),y.H.trans x.H,fun t=>(y.hi t).trans (x.hi t)⟩
def Inv(c:Cf):Prop:=∀t,∀r∈(c.1.get t).srts,r∈histOf c.2 t
theorem mem_meet{a b:List Root}(h:meet a b=false):∀r∈b,r∉a:=fun r hb ha=>by
 simp only[meet,yG]at h
 have:=h r ha
 simp only[List.any_eq_true,yD,not_exists,not_and]at this
 exact this r hb rfl
theorem newKeys_pre{k k':Wk}{pre:List ((Nat×Nat)×T)}(hp:k'.ct=pre++k.ct):newKeys k k'=pre.map fun p=>Root.l p.1.1 p.1.2:=by
 unfold newKeys
 rw[hp];simp
theorem lookR_none{pre:List ((Nat×Nat)×T)}{n j:Nat}(h:Root.l n j∉pre.map fun p=>Root.l p.1.1 p.1.2):lookR pre (n,j)=none:=by
 induction pre with
 |nil=>rfl
 |cons p pre ih=>
  obtain⟨⟨a,b⟩,t⟩:=p
  simp only[List.map_cons,xY,not_or]at h
  show(if(a,b)=(n,j)then some t else lookR pre (n,j))=_
  rw[if_neg (fun e=>h.1 (by cases e;rfl))]
  exact ih h.2
theorem newKeys_get{k k':Wk}(hg:∃pre,k'.ct=pre++k.ct)(n j:Nat)(h:Root.l n j∉newKeys k k'):lookR k'.ct (n,j)=lookR k.ct (n,j):=by
 obtain⟨pre,hp⟩:=hg
 rw[newKeys_pre hp]at h
 rw[hp,lookR_app,lookR_none h];rfl
section
variable{P:Program}{call:CallF}{h:Hint}{ops:List Oper}
theorem runOpF_some{o:Oper}{c d:Cf}{f:Fp}(e:runOpF P call h ops o c=some (d,f)):
  ∃w v k,evalO P call h ops o c.1=some (w,v,k)∧d=(c.1.fin o.dst v k,histAdd c.2 k.tr o.dst (histV o.op c.2 v))∧f=fpOf h ops o c.2 c.1 w v k:=by
 simp only[runOpF,xM,pJ]at e
 obtain⟨⟨w,v,k⟩,e1,e2,e3⟩:=e
 exact⟨w,v,k,e1,e2.symm,e3.symm⟩
theorem runOpF_mk{o:Oper}{c:Cf}{w:Bool}{v:SV}{k:Wk}(e:evalO P call h ops o c.1=some (w,v,k)):
  runOpF P call h ops o c=some ((c.1.fin o.dst v k,histAdd c.2 k.tr o.dst (histV o.op c.2 v)),fpOf h ops o c.2 c.1 w v k):=by
 simp only[runOpF,e,xQ]
theorem rxOf_congr{tk:Bool}{op:Op}{σ τ:Operand→SV}(v:SV)(hx:∀x∈op.operands,σ x=τ x):rxOf tk op σ v=rxOf tk op τ v:=by
 unfold rxOf
 split
 ·rfl
 ·rename_i t a _
  rw[hx a (by simp[Op.operands])]
 ·rfl
 ·rfl
theorem wxOf_congr{op:Op}{σ τ:Operand→SV}(hx:∀x∈op.operands,σ x=τ x):wxOf op σ=wxOf op τ:=by
 unfold wxOf
 split
 ·rename_i args ats
  split
  ·rename_i x y hl
   have:x∈args.toList:=by rw[hl];simp
   rw[hx x (by simp at this;simp[Op.operands,Call.operands,this])]
  ·rfl
 ·rfl
theorem fpOf_congr{o:Oper}{c d:Cf}{w:Bool}{v:SV}{k k':Wk}(hg:∀t∈looks ops o,d.1.get t=c.1.get t)(hh:∀t∈looks ops o,histOf d.2 t=histOf c.2 t)(h1:newKeys d.1.wk k'=newKeys c.1.wk k)(h2:k'.tr=k.tr):fpOf h ops o d.2 d.1 w v k'=fpOf h ops o c.2 c.1 w v k:=by
 unfold fpOf
 have:(looks ops o).flatMap (histOf d.2)=(looks ops o).flatMap (histOf c.2):=by
  simp only[List.flatMap_def]
  rw[List.map_congr_left hh]
 have hcur:((looks ops o).flatMap fun t=>(d.1.get t).rts)=(looks ops o).flatMap fun t=>(c.1.get t).rts:=by
  simp only[List.flatMap_def]
  rw[List.map_congr_left fun t ht=>by rw[hg t ht]]
 have hv:=val_congr (s:=c.1) (s2:=d.1) (op:=o.op) fun t ht=>hg t (looks_tmp ht)
 have hm:((looks ops o).map fun t=>d.1.get t)=(looks ops o).map fun t=>c.1.get t:=List.map_congr_left hg
 rw[this,hcur,h1,h2,rxOf_congr v hv,wxOf_congr hv,hm]
theorem Eqv.sm{c d:Cf}(q:Eqv c d):Sm (fun _=>False) true c.1.wk d.1.wk:=by
 refine⟨fun r _=> ?_,fun _=>q.H,rfl,rfl,by simp⟩
 cases r with
 |l n j=>simp only[Wk.get,Go.Am.cont,St.wk,q.ct]
 |o n=>simp only[Wk.get,Go.Am.cont,St.wk,q.H]
theorem Par.keys{b:Bool}{k k' k1 k1':Wk}(p:Par b k k' k1 k1'):newKeys k' k1'=newKeys k k1:=by
 obtain⟨pre,h1,h2⟩:=p.ct
 rw[newKeys_pre h1,newKeys_pre h2]
theorem histV_congr{op:Op}{a b:Hist}{v:SV}(h:∀t,histOf a t=histOf b t):histV op a v=histV op b v:=by
 unfold histV
 split
 ·exact h _
 ·rfl
theorem runOpF_congr{o:Oper}{c d c1:Cf}{f:Fp}(q:Eqv c d)(e:runOpF P call h ops o c=some (c1,f)):∃d1,runOpF P call h ops o d=some (d1,f)∧Eqv c1 d1:=by
 obtain⟨w,v,k,e1,rfl,rfl⟩:=runOpF_some e
 obtain⟨k2,e2,p⟩:=evalO_sim q.sm (fun t _=>q.get t) (fun h=>by cases h) (fun _ _ t _ r _ h=>h) e1
 refine⟨(d.1.fin o.dst v k2,histAdd d.2 k2.tr o.dst (histV o.op d.2 v)),by rw[runOpF_mk e2,fpOf_congr (c:=c) (fun t _=>q.get t) (fun t _=>q.hi t) p.keys p.tr],fun t=> ?_,fun x=> ?_,p.H rfl,fun t=> ?_⟩
 ·simp only[get_fin,q.get,p.tr]
 ·obtain⟨pre,h1,h2⟩:=p.ct
  show lookR k2.ct x=lookR k.ct x
  rw[h1,h2,lookR_app,lookR_app]
  show _=(lookR pre x).or (lookR c.1.ct x)
  rw[←q.ct];rfl
 ·simp only[hist_add,q.hi,p.tr]
  rw[histV_congr q.hi]
theorem runOpsF_congr:∀(l:List Oper) {c d c1:Cf} {fs:List Fp},Eqv c d→runOpsF P call h ops l c=some (c1,fs)→∃d1,runOpsF P call h ops l d=some (d1,fs)∧Eqv c1 d1
 | [],c,d,c1,fs,q,e=>by
  simp only[runOpsF,xJ,pJ]at e
  obtain⟨rfl,rfl⟩:=e
  exact⟨d,rfl,q⟩
 |o::l,c,d,c1,fs,q,e=>by
  simp only[runOpsF,xB,xM,pJ]at e
  obtain⟨⟨c2,f⟩,e1,⟨c3,fs'⟩,e2,rfl,rfl⟩:=e
  obtain⟨d2,g1,q2⟩:=runOpF_congr q e1
  obtain⟨d3,g2,q3⟩:=runOpsF_congr l q2 e2
  exact⟨d3,by simp only[runOpsF,g1,xS,g2,xQ],q3⟩
theorem evalO_move{s:St}{o:Oper}{t:Nat}{w:Bool}{v:SV}{k:Wk}(ho:o.op=.move (.tmp t)):evalO P call h ops o s=some (w,v,k)↔wantE ops s o=some w∧v=(if w=true then s.get t else .tup [])∧k=s.wk:=by
 have e:stepE P call h (o.dst.getD 0) o.type (.move (.tmp t)) s.val s.wk=some (s.get t,s.wk):=rfl
 simp only[evalO,ho,e]
 cases wantE ops s o with
 |none=>simp
 |some x=>
  cases x
  ·simp only[xS,xH,if_false,xJ,pJ]
   constructor
   ·rintro⟨rfl,rfl,rfl⟩;simp
   ·rintro⟨rfl,h2,rfl⟩;exact⟨rfl,by simpa using h2.symm,rfl⟩
  ·simp only[xS,if_true,xQ,xJ,pJ]
   constructor
   ·rintro⟨rfl,rfl,rfl⟩;simp
   ·rintro⟨rfl,h2,rfl⟩;exact⟨rfl,by simpa using h2.symm,rfl⟩
theorem isMove_iff{op:Op}(h:isMove op=true):∃t,op=.move (.tmp t):=by
 unfold isMove at h
 split at h
 ·exact⟨_,rfl⟩
 ·cases h
theorem histV_plain{op:Op}{hi:Hist}{v:SV}(h:isMove op=false):histV op hi v=v.srts:=by
 unfold histV
 split
 ·cases h
 ·rfl
theorem histV_sub{o:Oper}{c:Cf}{w:Bool}{v:SV}{k:Wk}(hi:Inv c)(e:evalO P call h ops o c.1=some (w,v,k)):∀r∈v.srts,r∈histV o.op c.2 v:=fun r hr=>by
 cases hm:isMove o.op with
 |false=>rw[histV_plain hm];exact hr
 |true=>
  obtain⟨t,ht⟩:=isMove_iff hm
  obtain⟨_,h2,_⟩:=(evalO_move ht).1 e
  rw[ht]
  show r∈histOf c.2 t
  cases w with
  |true=>rw[if_pos rfl]at h2;exact hi t r (h2▸hr)
  |false=>rw[if_neg (by simp)]at h2;subst h2;simp[SV.srts,SV.srtss]at hr
theorem Inv.step{o:Oper}{c d:Cf}{f:Fp}(hi:Inv c)(e:runOpF P call h ops o c=some (d,f)):Inv d:=by
 obtain⟨w,v,k,e1,rfl,rfl⟩:=runOpF_some e
 intro t r hr
 simp only[get_fin,hist_add]at hr ⊢
 split at hr
 ·rw[if_pos ‹_›];exact histV_sub hi e1 r hr
 ·rw[if_neg ‹_›];exact trv_rts_sub _ _ _ (hi t) r hr
theorem stays{w:Bool}{v:SV}{k:Wk}{o:Oper}{c:Cf}(e:evalO P call h ops o c.1=some (w,v,k)){L:List Root}
  (hm:∀r∈L,r∉(fpOf h ops o c.2 c.1 w v k).wr) (hh:(fpOf h ops o c.2 c.1 w v k).hw=true→L.any Root.isO=false):
  (∀u:SV,(∀r∈u.srts,r∈L)→trv k.tr u=u)∧(∀M:List Root,(∀r∈M,r∈L)→histTr k.tr M=M)∧((fpOf h ops o c.2 c.1 w v k).hw=false→k.H=c.1.H∧k.tr.any Tr.isKillO=false):=by
 have hwr:(fpOf h ops o c.2 c.1 w v k).wr=newKeys c.1.wk k++k.tr.flatMap Tr.rts:=rfl
 have hhv:(fpOf h ops o c.2 c.1 w v k).hw=((w&&effOf h (o.dst.getD 0) o.op)&&(hOf h (o.dst.getD 0) o.op || (leansO o.op&&((looks ops o).flatMap fun t=>(c.1.get t).rts).any Root.isO) || k.tr.any Tr.isKillO)):=rfl
 rw[hwr]at hm
 have hm2:∀r∈L,r∉k.tr.flatMap Tr.rts:=fun r hr hx=>hm r hr (xR _ hx)
 obtain⟨g,g2⟩:=evalO_grown e
 have hw0:(fpOf h ops o c.2 c.1 w v k).hw=false→k.H=c.1.H∧k.tr.any Tr.isKillO=false:=fun hf=>by
  cases he:(w&&effOf h (o.dst.getD 0) o.op)with
  |false=>rw[g2 he];exact⟨rfl,rfl⟩
  |true=>
   rw[hhv,he]at hf
   simp only[Bool.true_and,Bool.or_eq_false_iff]at hf
   refine⟨g.H ⟨hf.1.1,fun hlo t ht=> ?_⟩,hf.2⟩
   have h2:=hf.1.2
   rw[hlo,Bool.true_and]at h2
   have h3:=List.any_eq_false.1 h2
   exact List.any_eq_false.2 fun r hr=>h3 r (List.mem_flatMap.2 ⟨t,ht,hr⟩)
 refine⟨fun u hu=>trv_id _ _ (fun r hr=>hm2 r (hu r hr)) (fun hk=> ?_),fun M hM=>histTr_id _ _ (fun r hr=>hm2 r (hM r hr)),hw0⟩
 have:(fpOf h ops o c.2 c.1 w v k).hw=true:=by
  cases hf:(fpOf h ops o c.2 c.1 w v k).hw with
  |true=>rfl
  |false=>rw[(hw0 hf).2]at hk;cases hk
 exact List.any_eq_false.2 fun r hr=>List.any_eq_false.1 (hh this) r (hu r hr)
theorem apart_spec{x y:Fp}(hp:apartB x y=true):(∀d,x.dst=some d→d∉y.sl)∧(∀d,x.dst=some d→y.dst≠some d)∧(∀d,y.dst=some d→d∉x.sl)∧(∀r∈y.rd,r∉x.wr)∧(∀r∈y.wr,r∉x.wr)∧(∀r∈x.rd,r∉y.wr)∧(x.hw=true→y.hr=false∧y.hw=false)∧(y.hw=true→x.hr=false)∧(x.ren=false∨y.ren=false):=by
 simp only[apartB,xA,Bool.not_eq_true',Bool.and_eq_false_iff]at hp
 obtain⟨⟨⟨⟨⟨⟨⟨h1,h2⟩,h3⟩,h4⟩,h5⟩,h6⟩,h7⟩,h8⟩:=hp
 refine⟨fun d hd=> ?_,fun d hd=> ?_,fun d hd=> ?_,mem_meet h3,mem_meet h4,mem_meet h5,fun q=> ?_,fun q=> ?_,h8⟩
 ·rw[hd]at h1;simp at h1;exact h1.1
 ·rw[hd]at h1;simp at h1;exact fun e=>h1.2 e
 ·rw[hd]at h2;simp at h2;exact h2
 ·rcases h6 with x |x
  ·rw[q]at x;cases x
  ·simpa using x
 ·rcases h7 with x |x
  ·rw[q]at x;cases x
  ·exact x
theorem swap0{a i:Oper}{c c1 c2:Cf}{fa fi:Fp}(hmA:isMove a.op=false)(hmI:isMove i.op=false)(hi:Inv c)(ea:runOpF P call h ops a c=some (c1,fa))(ei:runOpF P call h ops i c1=some (c2,fi))(hp:apartB fa fi=true):
  ∃d1 d2,runOpF P call h ops i c=some (d1,fi)∧runOpF P call h ops a d1=some (d2,fa)∧Eqv c2 d2:=by
 obtain⟨wa,va,ka,ea1,rfl,hfa⟩:=runOpF_some ea
 obtain⟨wi,vi,ki,ei1,rfl,hfi⟩:=runOpF_some ei
 rw[histV_plain hmA]at hfi ⊢
 rw[histV_plain hmI]
 obtain⟨s1,s2,s3,m1,m2,m3,w1,w2,rn⟩:=apart_spec hp
 have da:fa.dst=a.dst:=by rw[hfa];rfl
 have di:fi.dst=i.dst:=by rw[hfi];rfl
 have la:fa.sl=looks ops a:=by rw[hfa];rfl
 have li:fi.sl=looks ops i:=by rw[hfi];rfl
 have ne1:∀t∈looks ops i,a.dst≠some t:=fun t ht e=>s1 t (da.trans e) (by rw[li];exact ht)
 have ne2:∀t∈looks ops a,i.dst≠some t:=fun t ht e=>s3 t (di.trans e) (by rw[la];exact ht)
 have ne3:∀t,a.dst=some t→i.dst≠some t:=fun t e q=>s2 t (da.trans e) (di.trans q)
 simp only at ei1
 -- what i leans on
 have rdI:fi.rd=(looks ops i).flatMap (histOf (histAdd c.2 ka.tr a.dst va.srts))++vi.srts++(if reads i.op then(looks ops i).flatMap fun t=>((c.1.fin a.dst va ka).get t).rts else []):=by rw[hfi];simp only[fpOf,hmI,xH,if_false]
 have rdA:fa.rd=(looks ops a).flatMap (histOf c.2)++va.srts++(if reads a.op then(looks ops a).flatMap fun t=>(c.1.get t).rts else []):=by rw[hfa];simp only[fpOf,hmA,xH,if_false]
 have inI:∀t∈looks ops i,∀r∈histOf c.2 t,r∈fi.rd:=fun t ht r hr=>by
  rw[rdI]
  exact xL _ (xL _ (List.mem_flatMap.2 ⟨t,ht,by rw[hist_add,if_neg (ne1 t ht)];exact histTr_sub _ _ r hr⟩))
 have inIv:∀r∈vi.srts,r∈fi.rd:=fun r hr=>by rw[rdI];exact xL _ (xR _ hr)
 have inIc:reads i.op=true→∀t∈looks ops i,∀r∈((c.1.fin a.dst va ka).get t).rts,r∈fi.rd:=fun hrd t ht r hr=>by rw[rdI,if_pos hrd];exact xR _ (List.mem_flatMap.2 ⟨t,ht,hr⟩)
 have inA:∀t∈looks ops a,∀r∈histOf c.2 t,r∈fa.rd:=fun t ht r hr=>by rw[rdA];exact xL _ (xL _ (List.mem_flatMap.2 ⟨t,ht,hr⟩))
 have inAv:∀r∈va.srts,r∈fa.rd:=fun r hr=>by rw[rdA];exact xL _ (xR _ hr)
 have inAc:reads a.op=true→∀t∈looks ops a,∀r∈(c.1.get t).rts,r∈fa.rd:=fun hrd t ht r hr=>by rw[rdA,if_pos hrd];exact xR _ (List.mem_flatMap.2 ⟨t,ht,hr⟩)
 -- of shared objects
 have noA:fi.hw=true→(wa=true→hrOf h (a.dst.getD 0) a.op=false)∧fa.rd.any Root.isO=false∧fa.wr.any Root.isO=false∧ka.tr.any Tr.isKillO=false:=fun q=>by
  have e:fa.hr=((wa&&hrOf h (a.dst.getD 0) a.op) || fa.rd.any Root.isO || fa.wr.any Root.isO || ka.tr.any Tr.isKillO):=by rw[hfa];rfl
  have:=w2 q
  rw[e]at this
  simp only[Bool.or_eq_false_iff]at this
  exact⟨fun hw=>by simpa [hw]using this.1.1.1,this.1.1.2,this.1.2,this.2⟩
 have noI:fa.hw=true→(wi=true→hrOf h (i.dst.getD 0) i.op=false)∧fi.rd.any Root.isO=false∧fi.wr.any Root.isO=false∧ki.tr.any Tr.isKillO=false:=fun q=>by
  have e:fi.hr=((wi&&hrOf h (i.dst.getD 0) i.op) || fi.rd.any Root.isO || fi.wr.any Root.isO || ki.tr.any Tr.isKillO):=by rw[hfi];rfl
  have:=(w1 q).1
  rw[e]at this
  simp only[Bool.or_eq_false_iff]at this
  exact⟨fun hw=>by simpa [hw]using this.1.1.1,this.1.1.2,this.1.2,this.2⟩
 have wrA:fa.wr=newKeys c.1.wk ka++ka.tr.flatMap Tr.rts:=by rw[hfa];rfl
 have wrI:fi.wr=newKeys (c.1.fin a.dst va ka).wk ki++ki.tr.flatMap Tr.rts:=by rw[hfi];rfl
 -- i ahead of a
 have st1:=stays (L:=fi.rd) ea1 (fun r hr=>by rw[←hfa];exact m1 r hr) (fun q=>by rw[←hfa]at q;exact(noI q).2.1)
 rw[←hfa]at st1
 obtain⟨t1,t2,t3⟩:=st1
 have getI:∀t∈looks ops i,(c.1.fin a.dst va ka).get t=c.1.get t:=fun t ht=>by
  rw[get_fin,if_neg (ne1 t ht)]
  exact t1 _ (fun r hr=>inI t ht r (hi t r hr))
 have gA:=(evalO_grown ea1).1.ct
 have sm1:Sm (fun r=>r∈fa.wr∨(fa.hw=true∧r.isO=true)) (!fa.hw) (c.1.fin a.dst va ka).wk c.1.wk:=by
  refine⟨fun r hr=> ?_,fun q=> ?_,rfl,rfl,fun q n=>.inr ⟨by simpa using q,rfl⟩⟩
  ·cases r with
   |l n j=>
    have:Root.l n j∉newKeys c.1.wk ka:=fun hx=>hr (.inl (by rw[wrA];exact xL _ hx))
    simp only[Wk.get,Go.Am.cont]
    exact(newKeys_get gA n j this).symm
   |o n=>
    have:fa.hw=false:=by cases hw:fa.hw with |false=>rfl |true=>exact absurd (.inr ⟨hw,rfl⟩) hr
    simp only[Wk.get,Go.Am.cont,St.wk,St.fin,(t3 this).1]
  ·exact(t3 (by simpa using q)).1.symm
 obtain⟨ki',ei2,p1⟩:=evalO_sim sm1 (fun t ht=>(getI t ht).symm) (fun q=>(noI (by simpa using q)).1) (fun hrd _ t ht r hr hz=>by
  have hrI:=inIc hrd t ht r hr
  rcases hz with hz |⟨q,hz⟩
  ·exact m1 r hrI hz
  ·have:=List.any_eq_false.1 (noI q).2.1 r hrI;rw[hz]at this;simp at this) ei1
 have fpi:fpOf h ops i c.2 c.1 wi vi ki'=fi:=by
  rw[hfi]
  exact fpOf_congr (c:=(c.1.fin a.dst va ka,histAdd c.2 ka.tr a.dst va.srts)) (d:=c) (fun t ht=>(getI t ht).symm) (fun t ht=>by simp only;rw[hist_add,if_neg (ne1 t ht),t2 _ (inI t ht)]) p1.keys p1.tr
 -- a behind it
 have st2:=stays (L:=fa.rd) ei2 (fun r hr=>by rw[fpi];exact m3 r hr) (fun q=>by rw[fpi]at q;exact(noA q).2.1)
 rw[fpi]at st2
 obtain⟨u1,u2,u3⟩:=st2
 have getA:∀t∈looks ops a,(c.1.fin i.dst vi ki').get t=c.1.get t:=fun t ht=>by
  rw[get_fin,if_neg (ne2 t ht)]
  exact u1 _ (fun r hr=>inA t ht r (hi t r hr))
 have gI:=(evalO_grown ei2).1.ct
 have wrI':fi.wr=newKeys c.1.wk ki'++ki'.tr.flatMap Tr.rts:=by rw[←fpi];rfl
 have sm2:Sm (fun r=>r∈fi.wr∨(fi.hw=true∧r.isO=true)) (!fi.hw) c.1.wk (c.1.fin i.dst vi ki').wk:=by
  refine⟨fun r hr=> ?_,fun q=> ?_,rfl,rfl,fun q n=>.inr ⟨by simpa using q,rfl⟩⟩
  ·cases r with
   |l n j=>
    have:Root.l n j∉newKeys c.1.wk ki':=fun hx=>hr (.inl (by rw[wrI'];exact xL _ hx))
    simp only[Wk.get,Go.Am.cont]
    exact newKeys_get gI n j this
   |o n=>
    have:fi.hw=false:=by cases hw:fi.hw with |false=>rfl |true=>exact absurd (.inr ⟨hw,rfl⟩) hr
    simp only[Wk.get,Go.Am.cont,St.wk,St.fin,(u3 this).1]
  ·exact(u3 (by simpa using q)).1
 obtain⟨ka',ea2,p2⟩:=evalO_sim sm2 getA (fun q=>(noA (by simpa using q)).1) (fun hrd _ t ht r hr hz=>by
  have hrA:=inAc hrd t ht r hr
  rcases hz with hz |⟨q,hz⟩
  ·exact m3 r hrA hz
  ·have:=List.any_eq_false.1 (noA q).2.1 r hrA;rw[hz]at this;simp at this) ea1
 have fpa:fpOf h ops a (histAdd c.2 ki'.tr i.dst vi.srts) (c.1.fin i.dst vi ki') wa va ka'=fa:=by
  rw[hfa]
  exact fpOf_congr (c:=c) (d:=(c.1.fin i.dst vi ki',histAdd c.2 ki'.tr i.dst vi.srts)) getA (fun t ht=>by simp only;rw[hist_add,if_neg (ne2 t ht),u2 _ (inA t ht)]) p2.keys p2.tr
 -- what is told
 have vi1:trv ka.tr vi=vi:=t1 _ inIv
 have va1:trv ki'.tr va=va:=u1 _ inAv
 have told:∀x∈ki.tr,∀y∈ka.tr,(∀r∈x.rts,r∉y.rts)∧(x.isKillO=true→y.rts.any Root.isO=false)∧(y.isKillO=true→x.rts.any Root.isO=false):=fun x hx y hy=>by
  have hxw:∀r∈x.rts,r∈fi.wr:=fun r hr=>by rw[wrI];exact xR _ (List.mem_flatMap.2 ⟨x,hx,hr⟩)
  have hyw:∀r∈y.rts,r∈fa.wr:=fun r hr=>by rw[wrA];exact xR _ (List.mem_flatMap.2 ⟨y,hy,hr⟩)
  refine⟨fun r h1 h2=>m2 r (hxw r h1) (hyw r h2),fun q=> ?_,fun q=> ?_⟩
  ·have hw:fi.hw=true:=by
    cases hw:fi.hw with
    |true=>rfl
    |false=>
     have:=(u3 hw).2
     rw[p1.tr]at this
     have:=List.any_eq_false.1 this x hx
     rw[q]at this;simp at this
   exact List.any_eq_false.2 fun r hr=>List.any_eq_false.1 (noA hw).2.2.1 r (hyw r hr)
  ·have hw:fa.hw=true:=by
    cases hw:fa.hw with
    |true=>rfl
    |false=>
     have:=List.any_eq_false.1 (t3 hw).2 y hy
     rw[q]at this;simp at this
   exact List.any_eq_false.2 fun r hr=>List.any_eq_false.1 (noI hw).2.2.1 r (hxw r hr)
 have rens:ka.tr.any Tr.isRen=false∨ki.tr.any Tr.isRen=false:=by
  have e1:fa.ren=ka.tr.any Tr.isRen:=by rw[hfa];rfl
  have e2:fi.ren=ki.tr.any Tr.isRen:=by rw[hfi];rfl
  rw[←e1,←e2];exact rn
 refine⟨_,_,(runOpF_mk ei2).trans (congrArg some (Prod.ext (by rw[histV_plain hmI]) fpi)),(runOpF_mk (c:=(c.1.fin i.dst vi ki',histAdd c.2 ki'.tr i.dst vi.srts)) ea2).trans (congrArg some (Prod.ext (by rw[histV_plain hmA]) fpa)),fun t=> ?_,fun x=> ?_,?_,fun t=> ?_⟩
 ·simp only[get_fin,p1.tr,p2.tr]
  by_cases h1:a.dst=some t
  ·rw[if_pos h1,if_neg (ne3 t h1),if_pos h1,←p1.tr,va1]
  ·rw[if_neg h1,if_neg h1]
   by_cases h2:i.dst=some t
   ·rw[if_pos h2,if_pos h2,vi1]
   ·rw[if_neg h2,if_neg h2]
    exact(trv_comm _ _ _ told).symm
 ·obtain⟨pi,q1,q2⟩:=p1.ct
  obtain⟨pa,q3,q4⟩:=p2.ct
  show lookR ka'.ct x=lookR ki.ct x
  rw[q1,q4]
  show lookR (pa++ki'.ct) x=lookR (pi++ka.ct) x
  rw[q2,q3,lookR_app,lookR_app,lookR_app,lookR_app]
  obtain⟨n,j⟩:=x
  by_cases hk:Root.l n j∈pa.map fun p=>Root.l p.1.1 p.1.2
  ·have h1:Root.l n j∈fa.wr:=by rw[wrA,newKeys_pre q3];exact xL _ hk
   have h2:Root.l n j∉pi.map fun p=>Root.l p.1.1 p.1.2:=fun hx=>m2 _ (by rw[wrI,newKeys_pre q1];exact xL _ hx) h1
   rw[lookR_none h2];simp
  ·rw[lookR_none hk];simp
 ·show ka'.H=ki.H
  cases hwa:fa.hw with
  |true=>
   have hb:(!fa.hw)=false:=by rw[hwa];rfl
   have hb2:(!fi.hw)=true:=by rw[(w1 hwa).2];rfl
   rw[p2.H hb2]
   exact(p1.Hs hb).1.symm
  |false=>
   have hb:(!fa.hw)=true:=by rw[hwa];rfl
   have h1:=p1.H hb
   cases hwi:fi.hw with
   |true=>
    have hb2:(!fi.hw)=false:=by rw[hwi];rfl
    rw[(p2.Hs hb2).2];exact h1
   |false=>
    have hb2:(!fi.hw)=true:=by rw[hwi];rfl
    rw[p2.H hb2,←h1,(t3 hwa).1,(u3 hwi).1]
 ·simp only[hist_add,p1.tr,p2.tr]
  by_cases h1:a.dst=some t
  ·rw[if_pos h1,if_neg (ne3 t h1),if_pos h1,←p1.tr,u2 _ inAv]
  ·rw[if_neg h1,if_neg h1]
   by_cases h2:i.dst=some t
   ·rw[if_pos h2,if_pos h2,t2 _ inIv]
   ·rw[if_neg h2,if_neg h2]
    exact histTr_comm _ _ _ rens
theorem sv_d'(x:Tr){y:D}:x.sv (.d y)=.d y:=by cases x <;>rfl
theorem sv_tup0(x:Tr):x.sv (.tup [])=.tup []:=by cases x <;>rfl
theorem sv_bool_back(x:Tr){u:SV}{b:Bool}(h:x.sv u=.d (.bool b)):u=.d (.bool b):=by
 cases u with
 |d y=>rw[sv_d']at h;exact h
 |bor r p o l=>
  cases x <;>simp only[Tr.sv]at h <;>(repeat' split at h) <;>cases h
 |loc r p i o=>
  cases x <;>simp only[Tr.sv]at h <;>(repeat' split at h) <;>cases h
 |_=>cases x <;>simp only[Tr.sv]at h <;>cases h
theorem sv_tup_back(x:Tr){u:SV}(h:x.sv u=.tup []):u=.tup []:=by
 cases u with
 |d y=>rw[sv_d']at h;exact h
 |bor r p o l=>
  cases x <;>simp only[Tr.sv]at h <;>(repeat' split at h) <;>cases h
 |loc r p i o=>
  cases x <;>simp only[Tr.sv]at h <;>(repeat' split at h) <;>cases h
 |tup l=>
  have:x.sv (.tup l)=.tup (Tr.svs x l):=by cases x <;>rfl
  rw[this]at h
  cases l with
  |nil=>rfl
  |cons a r=>simp[Tr.svs]at h
 |_=>cases x <;>simp only[Tr.sv]at h <;>cases h
theorem trv_bool_back:∀(l:List Tr) {u:SV} {b:Bool},trv l u=.d (.bool b)→u=.d (.bool b)
 | [],_,_,h=>h
 |x::l,_,_,h=>sv_bool_back x (trv_bool_back l h)
theorem trv_tup_back:∀(l:List Tr) {u:SV},trv l u=.tup []→u=.tup []
 | [],_,h=>h
 |x::l,_,h=>sv_tup_back x (trv_tup_back l h)
theorem wantE_back{s:St}{o:Oper}{w:Bool}{d:Option Nat}{v:SV}{k:Wk}(e:wantE ops (s.fin d v k) o=some w)(hd:∀t∈looks ops o,d≠some t):wantE ops s o=some w:=by
 unfold wantE looks at *
 cases hg:o.guard with
 |none=>try rw[hg]at e
        try rw[hg]
        exact e
 |some p=>
  obtain⟨j,want⟩:=p
  try rw[hg]at e
  try rw[hg]at hd
  try rw[hg]
  simp only at e hd ⊢
  cases hj:(ops[j]?).bind (·.dst)with
  |none=>(try rw[hj]at e);cases e
  |some t=>
   try rw[hj]at e
   try rw[hj]at hd
   simp only at e ⊢
   have ht:(s.fin d v k).get t=trv k.tr (s.get t):=by rw[get_fin,if_neg (hd t (by simp))]
   rw[ht]at e
   split at e
   ·rename_i b hb;rw[trv_bool_back _ hb];exact e
   ·rename_i hb;rw[trv_tup_back _ hb];exact e
   ·cases e
theorem wantE_fin{s:St}{o:Oper}{w:Bool}{d:Option Nat}{v:SV}{k:Wk}(e:wantE ops s o=some w)(hd:∀t∈looks ops o,d≠some t):wantE ops (s.fin d v k) o=some w:=by
 unfold wantE looks at *
 cases hg:o.guard with
 |none=>try rw[hg]at e
        try rw[hg]
        exact e
 |some p=>
  obtain⟨j,want⟩:=p
  try rw[hg]at e
  try rw[hg]at hd
  try rw[hg]
  simp only at e hd ⊢
  cases hj:(ops[j]?).bind (·.dst)with
  |none=>(try rw[hj]at e);cases e
  |some t=>
   try rw[hj]at e
   try rw[hj]at hd
   simp only at e ⊢
   have ht:(s.fin d v k).get t=trv k.tr (s.get t):=by rw[get_fin,if_neg (hd t (by simp))]
   have hb:∀(l:List Tr) (b:Bool),trv l (.d (.bool b))=.d (.bool b):=fun l b=>by induction l with |nil=>rfl |cons x l ih=>simp only[trv,sv_d' x];exact ih
   have hu:∀(l:List Tr),trv l (.tup [])=.tup []:=fun l=>by induction l with |nil=>rfl |cons x l ih=>simp only[trv];rw[sv_tup0 x];exact ih
   rw[ht]
   split at e
   ·rename_i b hb';rw[hb',hb];exact e
   ·rename_i hb';rw[hb',hu];exact e
   ·cases e
theorem move_fp{o:Oper}{hi:Hist}{s:St}{w:Bool}{v:SV}(hm:isMove o.op=true):fpOf h ops o hi s w v s.wk=⟨looks ops o,o.dst,[],[],false,false,false,none,[],none,[]⟩:=by
 obtain⟨t,ht⟩:=isMove_iff hm
 have hm':=hm
 rw[ht]at hm'
 simp[fpOf,ht,isMove,newKeys,St.wk,hrOf,effOf,rxOf,wxOf,sxOf,oxOf]
theorem swapA{a i:Oper}{c c1 c2:Cf}{fa fi:Fp}(hmA:isMove a.op=true)(ea:runOpF P call h ops a c=some (c1,fa))(ei:runOpF P call h ops i c1=some (c2,fi))(hp:apartB fa fi=true):
  ∃d1 d2,runOpF P call h ops i c=some (d1,fi)∧runOpF P call h ops a d1=some (d2,fa)∧Eqv c2 d2:=by
 obtain⟨wa,va,ka,ea1,rfl,hfa⟩:=runOpF_some ea
 obtain⟨wi,vi,ki,ei1,rfl,hfi⟩:=runOpF_some ei
 obtain⟨s1,s2,s3,_⟩:=apart_spec hp
 have da:fa.dst=a.dst:=by rw[hfa];rfl
 have di:fi.dst=i.dst:=by rw[hfi];rfl
 have la:fa.sl=looks ops a:=by rw[hfa];rfl
 have li:fi.sl=looks ops i:=by rw[hfi];rfl
 have ne1:∀t∈looks ops i,a.dst≠some t:=fun t ht e=>s1 t (da.trans e) (by rw[li];exact ht)
 have ne2:∀t∈looks ops a,i.dst≠some t:=fun t ht e=>s3 t (di.trans e) (by rw[la];exact ht)
 have ne3:∀t,a.dst=some t→i.dst≠some t:=fun t e q=>s2 t (da.trans e) (di.trans q)
 obtain⟨t0,ht0⟩:=isMove_iff hmA
 obtain⟨hw,hv,rfl⟩:=(evalO_move ht0).1 ea1
 have hlook:t0∈looks ops a:=looks_tmp (by rw[ht0];simp[tmpsOf,Op.operands,opndTmp])
 have h0:∀t,trv ([]:List Tr) t=t:=fun _=>rfl
 simp only at ei1 hfi
 have gI:∀t∈looks ops i,c.1.get t=(c.1.fin a.dst va c.1.wk).get t:=fun t ht=>by rw[get_fin,if_neg (ne1 t ht)];rfl
 have ei2:evalO P call h ops i c.1=some (wi,vi,ki):=by
  rw[←ei1]
  exact evalO_congr gI rfl rfl
 have fpi:fpOf h ops i c.2 c.1 wi vi ki=fi:=by
  rw[hfi]
  exact fpOf_congr (c:=(c.1.fin a.dst va c.1.wk,histAdd c.2 c.1.wk.tr a.dst (histV a.op c.2 va))) (d:=c) gI (fun t ht=>by simp only;rw[hist_add,if_neg (ne1 t ht)];rfl) rfl rfl
 have hvi:histV i.op (histAdd c.2 c.1.wk.tr a.dst (histV a.op c.2 va)) vi=histV i.op c.2 vi:=by
  cases hm:isMove i.op with
  |false=>rw[histV_plain hm,histV_plain hm]
  |true=>
   obtain⟨u,hu⟩:=isMove_iff hm
   rw[hu]
   show histOf _ u=histOf _ u
   rw[hist_add,if_neg (ne1 u (looks_tmp (by rw[hu];simp[tmpsOf,Op.operands,opndTmp])))];rfl
 have hsv:(if wa=true then(c.1.fin i.dst vi ki).get t0 else .tup [])=trv ki.tr va:=by
  rw[hv]
  cases wa with
  |true=>rw[if_pos rfl,if_pos rfl,get_fin,if_neg (ne2 t0 hlook)]
  |false=>
   have hu:∀(l:List Tr),trv l (.tup [])=.tup []:=fun l=>by induction l with |nil=>rfl |cons x l ih=>simp only[trv];rw[sv_tup0 x];exact ih
   rw[if_neg (by simp),if_neg (by simp),hu]
 have ea2:evalO P call h ops a (c.1.fin i.dst vi ki)=some (wa,trv ki.tr va,(c.1.fin i.dst vi ki).wk):=(evalO_move ht0).2 ⟨wantE_fin hw ne2,hsv.symm,rfl⟩
 refine⟨_,_,(runOpF_mk ei2).trans (congrArg some (Prod.ext rfl fpi)),(runOpF_mk (c:=(c.1.fin i.dst vi ki,histAdd c.2 ki.tr i.dst (histV i.op c.2 vi))) ea2).trans (congrArg some (Prod.ext rfl ?_)),fun t=> ?_,fun x=>rfl,rfl,fun t=> ?_⟩
 ·rw[hfa];simp only;rw[move_fp hmA,move_fp hmA]
 ·simp only[get_fin]
  by_cases h1:a.dst=some t
  ·rw[if_pos h1,if_neg (ne3 t h1),if_pos h1]
  ·rw[if_neg h1,if_neg h1];rfl
 ·simp only[hist_add,hvi]
  by_cases h1:a.dst=some t
  ·rw[if_pos h1,if_neg (ne3 t h1),if_pos h1,ht0]
   show histOf _ t0=histTr ki.tr (histOf c.2 t0)
   rw[hist_add,if_neg (ne2 t0 hlook)]
  ·rw[if_neg h1,if_neg h1];rfl
theorem swapI{a i:Oper}{c c1 c2:Cf}{fa fi:Fp}(hmI:isMove i.op=true)(ea:runOpF P call h ops a c=some (c1,fa))(ei:runOpF P call h ops i c1=some (c2,fi))(hp:apartB fa fi=true):
  ∃d1 d2,runOpF P call h ops i c=some (d1,fi)∧runOpF P call h ops a d1=some (d2,fa)∧Eqv c2 d2:=by
 obtain⟨wa,va,ka,ea1,rfl,hfa⟩:=runOpF_some ea
 obtain⟨wi,vi,ki,ei1,rfl,hfi⟩:=runOpF_some ei
 obtain⟨s1,s2,s3,_⟩:=apart_spec hp
 have da:fa.dst=a.dst:=by rw[hfa];rfl
 have di:fi.dst=i.dst:=by rw[hfi];rfl
 have la:fa.sl=looks ops a:=by rw[hfa];rfl
 have li:fi.sl=looks ops i:=by rw[hfi];rfl
 have ne1:∀t∈looks ops i,a.dst≠some t:=fun t ht e=>s1 t (da.trans e) (by rw[li];exact ht)
 have ne2:∀t∈looks ops a,i.dst≠some t:=fun t ht e=>s3 t (di.trans e) (by rw[la];exact ht)
 have ne3:∀t,a.dst=some t→i.dst≠some t:=fun t e q=>s2 t (da.trans e) (di.trans q)
 obtain⟨t0,ht0⟩:=isMove_iff hmI
 simp only at ei1 hfi
 obtain⟨hw,hv,rfl⟩:=(evalO_move ht0).1 ei1
 have hlook:t0∈looks ops i:=looks_tmp (by rw[ht0];simp[tmpsOf,Op.operands,opndTmp])
 have hb:∀(l:List Tr) (b:Bool),trv l (.d (.bool b))=.d (.bool b):=fun l b=>by induction l with |nil=>rfl |cons x l ih=>simp only[trv,sv_d' x];exact ih
 have hu:∀(l:List Tr),trv l (.tup [])=.tup []:=fun l=>by induction l with |nil=>rfl |cons x l ih=>simp only[trv];rw[sv_tup0 x];exact ih
 have hw0:wantE ops c.1 i=some wi:=wantE_back hw ne1
 have ei2:evalO P call h ops i c.1=some (wi,(if wi=true then c.1.get t0 else .tup []),c.1.wk):=(evalO_move ht0).2 ⟨hw0,rfl,rfl⟩
 have hvi:vi=trv ka.tr (if wi=true then c.1.get t0 else .tup []):=by
  rw[hv]
  cases wi with
  |true=>rw[if_pos rfl,if_pos rfl,get_fin,if_neg (ne1 t0 hlook)]
  |false=>rw[if_neg (by simp),if_neg (by simp),hu]
 generalize (if wi=true then c.1.get t0 else .tup [])=v0 at ei2 hvi
 subst hvi
 have gA:∀t∈looks ops a,(c.1.fin i.dst v0 c.1.wk).get t=c.1.get t:=fun t ht=>by rw[get_fin,if_neg (ne2 t ht)];rfl
 have ea2:evalO P call h ops a (c.1.fin i.dst v0 c.1.wk)=some (wa,va,ka):=by
  rw[←ea1]
  exact evalO_congr gA rfl rfl
 have hva:histV a.op (histAdd c.2 c.1.wk.tr i.dst (histV i.op c.2 v0)) va=histV a.op c.2 va:=by
  cases hm:isMove a.op with
  |false=>rw[histV_plain hm,histV_plain hm]
  |true=>
   obtain⟨u,hu⟩:=isMove_iff hm
   rw[hu]
   show histOf _ u=histOf _ u
   rw[hist_add,if_neg (ne2 u (looks_tmp (by rw[hu];simp[tmpsOf,Op.operands,opndTmp])))];rfl
 refine⟨_,_,(runOpF_mk ei2).trans (congrArg some (Prod.ext rfl ?_)),(runOpF_mk (c:=(c.1.fin i.dst v0 c.1.wk,histAdd c.2 c.1.wk.tr i.dst (histV i.op c.2 v0))) ea2).trans (congrArg some (Prod.ext rfl ?_)),fun t=> ?_,fun x=>rfl,rfl,fun t=> ?_⟩
 ·rw[hfi];simp only;rw[move_fp hmI,move_fp hmI]
 ·rw[hfa]
  exact fpOf_congr (c:=c) (d:=(c.1.fin i.dst v0 c.1.wk,histAdd c.2 c.1.wk.tr i.dst (histV i.op c.2 v0))) gA (fun t ht=>by simp only;rw[hist_add,if_neg (ne2 t ht)];rfl) rfl rfl
 ·simp only[get_fin]
  by_cases h1:a.dst=some t
  ·rw[if_pos h1,if_neg (ne3 t h1),if_pos h1];rfl
  ·rw[if_neg h1,if_neg h1]
   by_cases h2:i.dst=some t
   ·rw[if_pos h2,if_pos h2]
   ·rw[if_neg h2,if_neg h2];rfl
 ·simp only[hist_add,hva]
  by_cases h1:a.dst=some t
  ·rw[if_pos h1,if_neg (ne3 t h1),if_pos h1];rfl
  ·rw[if_neg h1,if_neg h1]
   by_cases h2:i.dst=some t
   ·rw[if_pos h2,if_pos h2,ht0]
    show histTr ka.tr (histOf c.2 t0)=histOf _ t0
    rw[hist_add,if_neg (ne1 t0 hlook)]
   ·rw[if_neg h2,if_neg h2];rfl
theorem swapX{a i:Oper}{c c1 c2:Cf}{fa fi:Fp}(ea:runOpF P call h ops a c=some (c1,fa))(ei:runOpF P call h ops i c1=some (c2,fi))(hp:apartX fa fi=true):
  ∃d1 d2,runOpF P call h ops i c=some (d1,fi)∧runOpF P call h ops a d1=some (d2,fa)∧Eqv c2 d2:=by simp[apartX]at hp
theorem swapY{a i:Oper}{c c1 c2:Cf}{fa fi:Fp}(ea:runOpF P call h ops a c=some (c1,fa))(ei:runOpF P call h ops i c1=some (c2,fi))(hp:apartX fi fa=true):
  ∃d1 d2,runOpF P call h ops i c=some (d1,fi)∧runOpF P call h ops a d1=some (d2,fa)∧Eqv c2 d2:=by simp[apartX]at hp
theorem swap{a i:Oper}{c c1 c2:Cf}{fa fi:Fp}(hi:Inv c)(ea:runOpF P call h ops a c=some (c1,fa))(ei:runOpF P call h ops i c1=some (c2,fi))(hp:apartFp fa fi=true):
  ∃d1 d2,runOpF P call h ops i c=some (d1,fi)∧runOpF P call h ops a d1=some (d2,fa)∧Eqv c2 d2:=by
 simp only[apartFp,Bool.or_eq_true]at hp
 rcases hp with(hp |hp) |hp
 ·cases hA:isMove a.op with
  |true=>exact swapA hA ea ei hp
  |false=>
   cases hI:isMove i.op with
   |true=>exact swapI hI ea ei hp
   |false=>exact swap0 hA hI hi ea ei hp
 ·exact swapX ea ei hp
 ·exact swapY ea ei hp
theorem front:∀(A:List Oper) (i:Oper) (B:List Oper) {c c':Cf} {fs:List Fp},Inv c→runOpsF P call h ops (A++i::B) c=some (c',fs)→(∀fi,fs[A.length]? =some fi→∀f∈fs.take A.length,apartFp f fi=true)→
  ∃c1 d fi,fs[A.length]? =some fi∧runOpF P call h ops i c=some (c1,fi)∧runOpsF P call h ops (A++B) c1=some (d,fs.take A.length++fs.drop (A.length+1))∧Eqv c' d
 | [],i,B,c,c',fs,hi,e,hp=>by
  simp only[List.nil_append,runOpsF,xB,xM,pJ]at e
  obtain⟨⟨c1,f⟩,e1,⟨c2,fs'⟩,e2,rfl,rfl⟩:=e
  exact⟨c1,c2,f,rfl,e1,by simpa using e2,.refl _⟩
 |a::A,i,B,c,c',fs,hi,e,hp=>by
  simp only[List.cons_append,runOpsF,xB,xM,pJ]at e
  obtain⟨⟨ca,fa⟩,e1,⟨c2,fs'⟩,e2,rfl,rfl⟩:=e
  simp only at e2
  obtain⟨c1,d,fi,g1,g2,g3,g4⟩:=front A i B (hi.step e1) e2 (fun fi q f hf=>hp fi (by simpa using q) f (by simp[hf]))
  have hap:=hp fi (by simpa using g1) fa (by simp)
  obtain⟨d1,d2,p1,p2,p3⟩:=swap hi e1 g2 hap
  obtain⟨d3,r1,r2⟩:=runOpsF_congr _ p3 g3
  refine⟨d1,d3,fi,by simpa using g1,p1,?_,g4.trans r2⟩
  simp only[List.cons_append,runOpsF,p2,xS,r1,xQ,xZ,List.take_succ_cons,List.drop_succ_cons]
end
end Go.Am
namespace Go.Am
open Go Go.RowKit
theorem befOf_fold(acc:List Nat)(x:Nat):∀(l:List Edge) (m:Nat),(l.foldl (fun m e=>if Region.binds .any e then m ||| 2 ^ e.on ||| (acc[e.on]?).getD 0 else m) m).testBit x=true→
  m.testBit x=true∨∃e∈l,Region.binds .any e=true∧(x=e.on∨((acc[e.on]?).getD 0).testBit x=true)
 | [],m,h=>.inl h
 |e::l,m,h=>by
  simp only[List.foldl_cons]at h
  rcases befOf_fold acc x l _ h with q |⟨e',h1,h2⟩
  ·split at q
   ·rename_i hb
    simp only[Nat.testBit_or,Bool.or_eq_true,Nat.testBit_two_pow,yD]at q
    rcases q with(q |q) |q
    ·exact .inl q
    ·exact .inr ⟨e,by simp,hb,.inl q.symm⟩
    ·exact .inr ⟨e,by simp,hb,.inr q⟩
   ·exact .inl q
  ·exact .inr ⟨e',by simp[h1],h2⟩
theorem befs_spec:∀(l:List Oper) (acc bs:List Nat),befs l acc=some bs→(∃r,bs=acc++r)∧bs.length=acc.length+l.length∧
  ∀i o,l[i]? =some o→(∀e∈o.after.toList,Region.binds .any e=true→e.on<acc.length+i)∧∃b,bs[acc.length+i]? =some b∧b=befOf (bs.take (acc.length+i)) o
 | [],acc,bs,h=>by simp only[befs,xJ]at h;subst h;exact⟨⟨[],by simp⟩,by simp,by simp⟩
 |o::l,acc,bs,h=>by
  simp only[befs]at h
  split at h
  ·rename_i hall
   obtain⟨⟨r,hr⟩,h2,h3⟩:=befs_spec l _ bs h
   simp only[xP,xZ,yN]at h2 h3
   refine⟨⟨befOf acc o::r,by rw[hr];simp⟩,by simp only[xZ];omega,fun i o' ho=> ?_⟩
   cases i with
   |zero=>
    simp only[yE,xJ]at ho
    subst ho
    refine⟨fun e he hb=> ?_,befOf acc o,by rw[hr];simp,?_⟩
    ·have:=List.all_eq_true.1 hall e he
     simpa [hb]using this
    ·rw[hr];simp
   |succ i=>
    simp only[List.getElem?_cons_succ]at ho
    obtain⟨q1,q2⟩:=h3 i o' ho
    have e1:acc.length+(0+1)+i=acc.length+(i+1):=by omega
    rw[e1]at q1 q2
    exact⟨q1,q2⟩
  ·cases h
theorem checkRow_spec(b:Nat)(f:Fp):∀(l:List Fp) (j:Nat),checkRow b f j l=true→∀i g,l[i]? =some g→b.testBit (j+i)=false→apartFp g f=true
 | [],j,_,i,g,hg,_=>by simp at hg
 |a::l,j,h,i,g,hg,hb=>by
  simp only[checkRow,xA,Bool.or_eq_true]at h
  cases i with
  |zero=>
   simp only[yE,xJ]at hg
   subst hg
   rcases h.1 with q |q
   ·rw[Nat.add_zero]at hb;rw[hb]at q;cases q
   ·exact q
  |succ i=>
   simp only[List.getElem?_cons_succ]at hg
   exact checkRow_spec b f l (j+1) h.2 i g hg (by rw[show j+1+i=j+(i+1)by omega];exact hb)
theorem checkF_spec(all:List Fp):∀(bs:List Nat) (fs:List Fp) (i:Nat),checkF all i bs fs=true→∀j b f,bs[j]? =some b→fs[j]? =some f→checkRow b f 0 (all.take (i+j))=true
 | [],fs,i,_,j,b,f,hb,_=>by simp at hb
 |b0::bs,[],i,_,j,b,f,_,hf=>by simp at hf
 |b0::bs,f0::fs,i,h,j,b,f,hb,hf=>by
  simp only[checkF,xA]at h
  cases j with
  |zero=>
   simp only[yE,xJ]at hb hf
   subst hb;subst hf
   exact h.1
  |succ j=>
   simp only[List.getElem?_cons_succ]at hb hf
   have:=checkF_spec all bs fs (i+1) h.2 j b f hb hf
   rwa [show i+1+j=i+(j+1)by omega]at this
section
variable{P:Program}{A:Av}{call:CallF}{hint:Hint}
theorem SR.drawn{s:St}{a:Act}{w:World}{n:Nat}(hs:SR A s a w):SR A s a {w with drawn:=n}:=by
 obtain⟨ρ,S,hd,h,hv⟩:=hs
 have ext:Ext (cxOf A s.H.length ρ S [] w) (cxOf A s.H.length ρ S [] {w with drawn:=n}):=⟨fun t b hp=>⟨hp,rfl⟩,Nat.le_refl _,fun _ _=>rfl⟩
 refine⟨ρ,S,hd,⟨fun r t ht=>TC.ext ext _ _ _ (fun _ _=>rfl) (h.cont r t ht),h.gone,h.obj,fun n ob he hpl=> ?_,h.dis,h.blk,by simp,⟨h.fr.os,h.fr.tape,h.fr.output,h.fr.size,h.fr.kept,h.fr.recs⟩,h.Fold,h.rho⟩,fun t=> ?_⟩
 ·exact(h.map n ob he hpl).ext ext (fun _ _=>rfl) rfl rfl
 ·exact SO.keep ext (fun r q=>h.hold (k':=s.wk) (hd':=hd) _ rfl rfl (fun _ _=>rfl) q) (hv t)
theorem runOp_evalO{ops:List Oper}{o:Oper}{s:St}:runOp P call hint ops o s=(evalO P call hint ops o s).map fun(w,v,k)=>s.fin o.dst v k:=by
 unfold runOp evalO
 cases wantE ops s o with
 |none=>rfl
 |some w=>
  cases w with
  |true=>simp only[xS,if_true,Option.map_map];rfl
  |false=>rfl
theorem runOpF_op{ops:List Oper}{o:Oper}{c d:Cf}{f:Fp}(e:runOpF P call hint ops o c=some (d,f)):runOp P call hint ops o c.1=some d.1:=by
 obtain⟨w,v,k,e1,rfl,rfl⟩:=runOpF_some e
 rw[runOp_evalO,e1];rfl
theorem runOpsF_len{ops:List Oper}:∀(l:List Oper) {c d:Cf} {fs:List Fp},runOpsF P call hint ops l c=some (d,fs)→fs.length=l.length
 | [],c,d,fs,e=>by simp only[runOpsF,xJ,pJ]at e;rw[←e.2];rfl
 |o::l,c,d,fs,e=>by
  simp only[runOpsF,xB,xM,pJ]at e
  obtain⟨⟨c1,f⟩,_,⟨c2,fs'⟩,e2,_,rfl⟩:=e
  simp[runOpsF_len l e2]
theorem runOps_ok{G:Nat→Option D}(hc:CallOK P G call)(hG:GA G A)(hgl:∀g d,hint.gl g=some d→G g=some d){ops:Array Oper}{ro:Option Nat}{Q:Exit→Act→World→Prop}{a0:Act}{ds:List Nat}:∀(l:List Oper) {s s':St} {a:Act} {w:World},SR A s a w→Kp a0 ds a→(∀o∈l,∀d,o.dst=some d→d∈ds∧d<a0.tmps.size)→runOps P call hint ops.toList l s=some s'→
  (∀a' w',SR A s' a' w'→Kp a0 ds a'→Q .normal a' w')→wpListIn (FW ro) 0 P ops Q l a w
 | [],s,s',a,w,hs,hkp,hd,e,hQ=>by
  simp only[runOps,xJ]at e
  subst e
  exact hQ a w hs hkp
 |o::l,s,s',a,w,hs,hkp,hd,e,hQ=>by
  simp only[runOps,xB]at e
  obtain⟨s1,e1,e2⟩:=e
  refine wpListIn_step fun K hK=>runOp_ok hc hG hgl hs hkp (hd o (by simp)) e1 fun a' w' g1 g2=>hK _ _ ?_
  exact runOps_ok hc hG hgl l g1 g2 (fun o' ho=>hd o' (by simp[ho])) e2 hQ
theorem filterMap_len{α:Type}(l:List α):∀(L:List Nat),(∀i∈L,i<l.length)→(L.filterMap fun i=>l[i]?).length=L.length
 | [],_=>rfl
 |i::L,h=>by
  have hi:=h i (by simp)
  rw[List.filterMap_cons,xG hi]
  simp[filterMap_len l L (fun j hj=>h j (by simp[hj]))]
theorem setTrue(listed:Array Bool)(i j:Nat)(hi:i<listed.size):(listed.setIfInBounds i true).getD j true=if j=i then true else listed.getD j true:=by
 by_cases h:j=i
 ·subst h;simp[hi]
 ·rw[if_neg h];simp[yB,Array.getElem?_setIfInBounds_ne (Ne.symm h)]
theorem getD_tf{listed:Array Bool}{i:Nat}(hi:i<listed.size):listed.getD i false=listed.getD i true:=by simp[yB,hi]
def LeftO(ops:Array Oper)(listed:Array Bool):List Nat:=(List.range ops.size).filter fun i=> !listed.getD i true
def Un(ops:Array Oper)(listed:Array Bool)(x:Nat):Prop:=x<ops.size∧listed.getD x true=false
theorem mem_LeftO{ops:Array Oper}{listed:Array Bool}{x:Nat}:x∈LeftO ops listed↔Un ops listed x:=by
 simp[LeftO,Un,List.mem_filter]
def Closed(bs:List Nat)(listed:Array Bool):Prop:=∀i b,listed.getD i false=true→bs[i]? =some b→∀x,b.testBit x=true→listed.getD x false=true
inductive RT where
 |leaf (L:List Nat) (fs:List Fp) (c:Cf)
 |node (i j:Nat) (a b:RT)
def RE(bs:List Nat)(E:List (Nat×Nat))(p q:Nat×Fp):Prop:=(∀b,bs[q.1]? =some b→b.testBit p.1=false→apartFp p.2 q.2=true)∨∃e∈E,leB bs p.1 e.1=true∧leB bs e.2 q.1=true
def RT.Ok(P:Program)(call:CallF)(hint:Hint)(ops:Array Oper)(bs:List Nat)(listed:Array Bool)(c:Cf):List (Nat×Nat)→RT→Prop
 |E,.leaf L fs c'=>L.Perm (LeftO ops listed)∧runOpsF P call hint ops.toList (opsAt ops.toList L) c=some (c',fs)∧(L.zip fs).Pairwise (RE bs E)
 |E,.node i j a b=>i≠j∧Un ops listed i∧Un ops listed j∧RT.Ok P call hint ops bs listed c ((i,j)::E) a∧RT.Ok P call hint ops bs listed c ((j,i)::E) b
def RT.Ends(K:Cf→Prop):RT→Prop
 | .leaf _ _ c=>K c
 | .node _ _ a b=>RT.Ends K a∧RT.Ends K b
theorem opsAt_len{ops:Array Oper}(L:List Nat)(h:∀x∈L,x<ops.size):(opsAt ops.toList L).length=L.length:=filterMap_len ops.toList L (fun x hx=>by rw[yF];exact h x hx)
theorem left_set{ops:Array Oper}{listed:Array Bool}{i:Nat}(hsz:listed.size=ops.size)(hi:i<ops.size):LeftO ops (listed.setIfInBounds i true)=(LeftO ops listed).filter fun x=>decide (x≠i):=by
 unfold LeftO
 rw[List.filter_filter]
 refine List.filter_congr fun x _=> ?_
 rw[setTrue listed i x (by omega)]
 by_cases hx:x=i
 ·simp[hx]
 ·simp[hx]
theorem un_set{ops:Array Oper}{listed:Array Bool}{i x:Nat}(hsz:listed.size=ops.size)(hi:i<ops.size)(hx:Un ops listed x)(hne:x≠i):Un ops (listed.setIfInBounds i true) x:=
 ⟨hx.1,by rw[setTrue listed i x (by omega),if_neg hne];exact hx.2⟩
theorem leaf_step{ops:Array Oper}{bs:List Nat}{listed:Array Bool}{c c':Cf}{E:List (Nat×Nat)}{L:List Nat}{fs:List Fp}{i:Nat}{o:Oper}{b:Nat}(hsz:listed.size=ops.size)(hinv:Inv c)(ho:ops[i]? =some o)(hun:Un ops listed i)(hbi:bs[i]? =some b)(hfree:∀x,Un ops listed x→b.testBit x=false)
  (hE:∀e∈E,Un ops listed e.1∧Un ops listed e.2∧e.2≠i) (h:RT.Ok P call hint ops bs listed c E (.leaf L fs c')):
  ∃c1 fi L' fs' d,runOpF P call hint ops.toList o c=some (c1,fi)∧RT.Ok P call hint ops bs (listed.setIfInBounds i true) c1 (E.filter fun e=>decide (e.1≠i)) (.leaf L' fs' d)∧Eqv c' d:=by
 obtain⟨hperm,e,hpw⟩:=h
 have hmem:i∈L:=hperm.mem_iff.2 (mem_LeftO.2 hun)
 obtain⟨LA,LB,rfl⟩:=List.append_of_mem hmem
 have hall:∀x∈LA++i::LB,Un ops listed x:=fun x hx=>mem_LeftO.1 (hperm.mem_iff.1 hx)
 have hnd:(LA++i::LB).Nodup:=hperm.nodup_iff.2 (List.Pairwise.filter _ List.nodup_range)
 have n1:=List.nodup_append.1 hnd
 have hoi:ops.toList[i]? =some o:=by rw[yM];exact ho
 have hlenA:=opsAt_len (ops:=ops) LA (fun x hx=>(hall x (by simp[hx])).1)
 have hlenB:=opsAt_len (ops:=ops) LB (fun x hx=>(hall x (by simp[hx])).1)
 have hat:opsAt ops.toList (LA++i::LB)=opsAt ops.toList LA++o::opsAt ops.toList LB:=by
  simp only[opsAt,List.filterMap_append,List.filterMap_cons,hoi]
 rw[hat]at e
 have hlen:=runOpsF_len _ e
 simp only[xP,xZ,hlenA,hlenB]at hlen
 obtain⟨fA,fi0,fB,hfs,hfA⟩:∃fA fi fB,fs=fA++fi::fB∧fA.length=LA.length:=by
  have hlt':LA.length<fs.length:=by omega
  refine⟨fs.take LA.length,fs[LA.length],fs.drop (LA.length+1),?_,by simp;omega⟩
  rw[List.getElem_cons_drop]
  exact(yP _ _).symm
 subst hfs
 rw[List.zip_append (by omega),List.zip_cons_cons]at hpw
 have neU:∀x,Un ops listed x→x≠i→leB bs x i=false:=fun x hx hne=>by
  simp[leB,hne,hbi,hfree x hx]
 obtain⟨c1,d,fi,g1,g2,g3,g4⟩:=front _ o _ hinv e (fun fi hfi f hf=>by
  rw[hlenA,←hfA]at hfi hf
  simp only[xN (Nat.le_refl _),Nat.sub_self,yE,xJ]at hfi
  subst hfi
  rw[List.take_left']at hf
  ·obtain⟨p,hp,rfl⟩:=List.getElem_of_mem hf
   have hz:(LA[p]'(by omega),fA[p])∈LA.zip fA:=List.mem_iff_getElem.2 ⟨p,by simp;omega,by simp⟩
   have hux:=hall (LA[p]'(by omega)) (by simp)
   rcases(List.pairwise_append.1 hpw).2.2 _ hz (i,fi0) (by simp)with q |⟨ed,he,q1,q2⟩
   ·exact q b hbi (hfree _ hux)
   ·obtain⟨_,u2,u3⟩:=hE ed he
    rw[neU _ u2 u3]at q2;cases q2
  ·rfl)
 rw[hlenA,←hfA]at g1 g3
 simp only[xN (Nat.le_refl _),Nat.sub_self,yE,xJ]at g1
 subst g1
 have e3:(fA++fi0::fB).take fA.length++(fA++fi0::fB).drop (fA.length+1)=fA++fB:=by simp
 rw[e3]at g3
 refine⟨c1,fi0,LA++LB,fA++fB,d,g2,⟨?_,?_,?_⟩,g4⟩
 ·rw[left_set hsz hun.1]
  have q:=hperm.filter fun x=>decide (x≠i)
  rw[List.filter_append,List.filter_cons]at q
  rw[List.filter_eq_self.2 (fun x hx=>by
   simp only[yD]
   exact fun h=>n1.2.2 x hx i (by simp) h),List.filter_eq_self.2 (fun x hx=>by
   simp only[yD]
   intro h
   subst h
   exact(List.nodup_cons.1 n1.2.1).1 hx)]at q
  simpa using q
 ·have:opsAt ops.toList (LA++LB)=opsAt ops.toList LA++opsAt ops.toList LB:=by simp only[opsAt,List.filterMap_append]
  rw[this]
  exact g3
 ·rw[List.zip_append (by omega)]
  have hpw2:(LA.zip fA++LB.zip fB).Pairwise (RE bs E):=hpw.sublist (List.Sublist.append (List.Sublist.refl _) (List.sublist_cons_self _ _))
  have hin:∀p∈LA.zip fA++LB.zip fB,Un ops listed p.1∧p.1≠i:=fun p hp=>by
   rcases List.mem_append.1 hp with q |q
   ·have:=(List.of_mem_zip q).1
    exact⟨hall _ (by simp[this]),fun h=>n1.2.2 _ this i (by simp) h⟩
   ·have:=(List.of_mem_zip q).1
    exact⟨hall _ (by simp[this]),fun h=>(List.nodup_cons.1 n1.2.1).1 (h▸this)⟩
  refine hpw2.imp_of_mem fun{p q} hp hq r=>r.imp id fun⟨ed,he,q1,q2⟩=>⟨ed,?_,q1,q2⟩
  refine List.mem_filter.2 ⟨he,?_⟩
  simp only[yD]
  intro hei
  rw[hei,neU _ (hin p hp).1 (hin p hp).2]at q1
  cases q1
theorem rt_step{ops:Array Oper}{bs:List Nat}{listed:Array Bool}{c:Cf}{i:Nat}{o:Oper}{b:Nat}(hsz:listed.size=ops.size)(hinv:Inv c)(ho:ops[i]? =some o)(hun:Un ops listed i)(hbi:bs[i]? =some b)(hfree:∀x,Un ops listed x→b.testBit x=false){K:Cf→Prop}(hK:∀c' d,Eqv c' d→K c'→K d):
  ∀(t:RT) (E:List (Nat×Nat)),(∀e∈E,Un ops listed e.1∧Un ops listed e.2∧e.2≠i)→RT.Ok P call hint ops bs listed c E t→RT.Ends K t→
   ∃c1 fi t',runOpF P call hint ops.toList o c=some (c1,fi)∧RT.Ok P call hint ops bs (listed.setIfInBounds i true) c1 (E.filter fun e=>decide (e.1≠i)) t'∧RT.Ends K t'
 | .leaf L fs c',E,hE,h,hk=>by
  obtain⟨c1,fi,L',fs',d,g1,g2,g3⟩:=leaf_step hsz hinv ho hun hbi hfree hE h
  exact⟨c1,fi,.leaf L' fs' d,g1,g2,hK _ _ g3 hk⟩
 | .node u v a t,E,hE,h,hk=>by
  obtain⟨hne,hu,hv,ha,ht⟩:=h
  by_cases hui:u=i
  ·subst hui
   obtain⟨c1,fi,a',g1,g2,g3⟩:=rt_step hsz hinv ho hun hbi hfree hK a ((u,v)::E) (fun e he=>by
    rcases List.mem_cons.1 he with rfl |he
    ·exact⟨hu,hv,Ne.symm hne⟩
    ·exact hE e he) ha hk.1
   refine⟨c1,fi,a',g1,?_,g3⟩
   rw[List.filter_cons,if_neg (by simp)]at g2
   exact g2
  ·by_cases hvi:v=i
   ·subst hvi
    obtain⟨c1,fi,t',g1,g2,g3⟩:=rt_step hsz hinv ho hun hbi hfree hK t ((v,u)::E) (fun e he=>by
     rcases List.mem_cons.1 he with rfl |he
     ·exact⟨hv,hu,hne⟩
     ·exact hE e he) ht hk.2
    refine⟨c1,fi,t',g1,?_,g3⟩
    rw[List.filter_cons,if_neg (by simp)]at g2
    exact g2
   ·obtain⟨c1,fi,a',g1,g2,g3⟩:=rt_step hsz hinv ho hun hbi hfree hK a ((u,v)::E) (fun e he=>by
     rcases List.mem_cons.1 he with rfl |he
     ·exact⟨hu,hv,hvi⟩
     ·exact hE e he) ha hk.1
    obtain⟨c2,fi2,t',p1,p2,p3⟩:=rt_step hsz hinv ho hun hbi hfree hK t ((v,u)::E) (fun e he=>by
     rcases List.mem_cons.1 he with rfl |he
     ·exact⟨hv,hu,hui⟩
     ·exact hE e he) ht hk.2
    rw[g1]at p1
    simp only[xJ,pJ]at p1
    obtain⟨rfl,rfl⟩:=p1
    rw[List.filter_cons,if_pos (by simpa using hui)]at g2
    rw[List.filter_cons,if_pos (by simpa using hvi)]at p2
    exact⟨c1,fi,.node u v a' t',g1,⟨hne,un_set hsz hun.1 hu hui,un_set hsz hun.1 hv hvi,g2,p2⟩,g3,p3⟩
theorem wpAny_ok{G:Nat→Option D}(hc:CallOK P G call)(hG:GA G A)(hgl:∀g d,hint.gl g=some d→G g=some d){ops:Array Oper}{ro:Option Nat}{bs:List Nat}(hb:befs ops.toList []=some bs){Q:Exit→Act→World→Prop}{a0:Act}{ds:List Nat}(hd:∀o∈ops.toList,∀d,o.dst=some d→d∈ds∧d<a0.tmps.size):
  ∀(m:Nat) (listed:Array Bool) (t:RT) (c:Cf) (a:Act) (w:World),listed.size=ops.size→(LeftO ops listed).length=m→Closed bs listed→Inv c→SR A c.1 a w→Kp a0 ds a→RT.Ok P call hint ops bs listed c [] t→
   RT.Ends (fun c'=>∀c2 a' w',Eqv c' c2→SR A c2.1 a' w'→Kp a0 ds a'→Q .normal a' w') t→wpAnyIn (FW ro) 0 P .any ops Q m listed a w:=by
 obtain⟨_,hbl,hbs⟩:=befs_spec _ _ _ hb
 simp only[yN,Nat.zero_add,yF]at hbl hbs
 have hbs':∀i o,ops[i]? =some o→(∀e∈o.after.toList,Region.binds .any e=true→e.on<i)∧∃b,bs[i]? =some b∧b=befOf (bs.take i) o:=fun i o ho=>hbs i o (by rw[yM];exact ho)
 intro m
 induction m with
 |zero=>
  intro listed t c a w hsz hm hcl hinv hs hkp hok hends
  have hnil:=yL hm
  cases t with
  |node i j a b=>
   have:=mem_LeftO.2 hok.2.1
   rw[hnil]at this
   cases this
  |leaf L fs c'=>
   obtain⟨hperm,e,_⟩:=hok
   rw[hnil,List.perm_nil]at hperm
   subst hperm
   simp only[opsAt,List.filterMap_nil,runOpsF,xJ,pJ]at e
   obtain⟨rfl,_⟩:=e
   refine⟨?_,hends c a w (.refl _) hs hkp⟩
   refine List.eq_nil_iff_forall_not_mem.2 fun i hi=> ?_
   simp only[Region.ready,List.mem_filter,xA]at hi
   have:i∈LeftO ops listed:=List.mem_filter.2 ⟨hi.1,hi.2.1⟩
   rw[hnil]at this
   cases this
 |succ m ih=>
  intro listed t c a w hsz hm hcl hinv hs hkp hok hends
  refine⟨fun hr=> ?_,fun i hi=> ?_⟩
  ·-- the first that is left is ready
   exfalso
   generalize hL:LeftO ops listed=L at hm
   cases L with
   |nil=>cases hm
   |cons l0 L=>
    have hl0:l0∈(List.range ops.size).filter fun i=> !listed.getD i true:=by
     show l0∈LeftO ops listed
     rw[hL];simp
    obtain⟨q1,q2⟩:=List.mem_filter.1 hl0
    have hlt:l0<ops.size:=by simpa using q1
    obtain⟨o,ho⟩:∃o,ops[l0]? =some o:=⟨_,Array.getElem?_eq_getElem hlt⟩
    have:l0∈Region.ready .any ops listed:=by
     simp only[Region.ready,List.mem_filter,xA]
     refine⟨q1,q2,?_⟩
     rw[ho]
     simp only[xQ,Option.getD_some]
     rw[Array.all_eq_true']
     intro e he
     cases hbe:Region.binds .any e with
     |false=>rfl
     |true=>
      have hon:=(hbs' l0 o ho).1 e (by simpa using he) hbe
      simp only[Bool.not_true,Bool.false_or]
      rw[getD_tf (by omega)]
      cases hx:listed.getD e.on true with
      |true=>rfl
      |false=>
       have hmem:e.on∈LeftO ops listed:=mem_LeftO.2 ⟨by omega,hx⟩
       have hsorted:(LeftO ops listed).Pairwise (·< ·):=List.Pairwise.filter _ List.pairwise_lt_range
       rw[hL]at hmem hsorted
       rw[List.pairwise_cons]at hsorted
       rcases List.mem_cons.1 hmem with h |h
       ·omega
       ·have:=hsorted.1 _ h;omega
    rw[hr]at this
    cases this
  ·simp only[Region.ready,List.mem_filter,xA]at hi
   obtain⟨q1,q2,q3⟩:=hi
   have hlt:i<ops.size:=by simpa using q1
   obtain⟨o,ho⟩:∃o,ops[i]? =some o:=⟨_,Array.getElem?_eq_getElem hlt⟩
   rw[ho]at q3
   simp only[xQ,Option.getD_some]at q3
   rw[Array.all_eq_true']at q3
   have hun:Un ops listed i:=⟨hlt,by simpa using q2⟩
   have hoi:ops.toList[i]? =some o:=by rw[yM];exact ho
   -- those that are left need not go before it
   obtain⟨hedge,b,hbi,hbo⟩:=hbs' i o ho
   have hfree:∀x,Un ops listed x→b.testBit x=false:=fun x hux=>by
    cases hbx:b.testBit x with
    |false=>rfl
    |true=>
     exfalso
     rw[hbo]at hbx
     rcases befOf_fold _ x _ 0 hbx with q |⟨ed,he,hbe,q⟩
     ·simp at q
     ·have hon:=hedge ed he hbe
      have hlis:listed.getD ed.on false=true:=by
       have:=q3 ed (by simpa using he)
       simpa [hbe]using this
      rcases q with rfl |q
      ·rw[getD_tf (by omega),hux.2]at hlis;cases hlis
      ·rw[xU,if_pos hon]at q
       cases hbe2:bs[ed.on]? with
       |none=>rw[hbe2]at q;simp at q
       |some b2=>
        rw[hbe2]at q
        have:=hcl ed.on b2 hlis hbe2 x q
        rw[getD_tf (by have:=hux.1;omega),hux.2]at this
        cases this
   obtain⟨c1,fi,t',g2,g3,g4⟩:=rt_step hsz hinv ho hun hbi hfree (K:=fun c'=>∀c2 a' w',Eqv c' c2→SR A c2.1 a' w'→Kp a0 ds a'→Q .normal a' w') (fun c' d hq hk c2 a' w' p=>hk c2 a' w' (hq.trans p)) t [] (by simp) hok hends
   have hset:∀x,(listed.setIfInBounds i true).getD x true=if x=i then true else listed.getD x true:=fun x=>setTrue listed i x (by omega)
   unfold wpOpIn
   rw[ho]
   simp only
   have main:=runOp_ok (ro:=ro) (Q:=Q) hc hG hgl hs hkp (hd o (yS hoi)) (runOpF_op g2) (K:=wpAnyIn (FW ro) 0 P .any ops Q m (listed.setIfInBounds i true)) (fun a' w' k1 k2=>by
    refine ih (listed.setIfInBounds i true) t' c1 a' w' (by simpa using hsz) ?_ (fun j bj hj hbj x hx=> ?_) (hinv.step g2) k1 k2 g3 g4
    ·have hmem:i∈LeftO ops listed:=mem_LeftO.2 hun
     have hnd:(LeftO ops listed).Nodup:=List.Pairwise.filter _ List.nodup_range
     rw[left_set hsz hlt]
     have:((LeftO ops listed).filter fun x=>decide (x≠i))=(LeftO ops listed).erase i:=by
      rw[hnd.erase_eq_filter]
      refine List.filter_congr fun x _=> ?_
      by_cases hx:x=i <;>simp[hx]
     rw[this,List.length_erase_of_mem hmem,hm]
     rfl
    ·have hjs:j<(listed.setIfInBounds i true).size:=by
      rcases Nat.lt_or_ge j (listed.setIfInBounds i true).size with q |q
      ·exact q
      ·simp[yB,Array.getElem?_eq_none q]at hj
     have old:∀y,listed.getD y false=true→(listed.setIfInBounds i true).getD y false=true:=fun y hy=>by
      have hys:y<listed.size:=by
       rcases Nat.lt_or_ge y listed.size with q |q
       ·exact q
       ·simp[yB,Array.getElem?_eq_none q]at hy
      rw[getD_tf (by simpa using hys),hset]
      by_cases hyi:y=i
      ·rw[if_pos hyi]
      ·rw[if_neg hyi];exact(getD_tf hys).symm.trans hy
     by_cases hji:j=i
     ·subst hji
      rw[hbi]at hbj
      simp only[xJ]at hbj
      subst hbj
      rw[hbo]at hx
      rcases befOf_fold _ x _ 0 hx with q |⟨ed,he,hbe,q⟩
      ·simp at q
      ·have hlis:listed.getD ed.on false=true:=by
        have:=q3 ed (by simpa using he)
        simpa [hbe]using this
       rcases q with rfl |q
       ·exact old _ hlis
       ·rw[xU,if_pos (hedge ed he hbe)]at q
        cases hbe2:bs[ed.on]? with
        |none=>rw[hbe2]at q;simp at q
        |some b2=>
         rw[hbe2]at q
         exact old _ (hcl ed.on b2 hlis hbe2 x q)
     ·rw[getD_tf hjs,hset,if_neg hji]at hj
      have hjs':j<listed.size:=by simpa using hjs
      rw[←getD_tf hjs']at hj
      exact old _ (hcl j bj hj hbj x hx))
   exact main
theorem Inv.start(s:St):Inv (s,hist0 s):=fun t r hr=>by
 have:histOf (hist0 s) t=(s.get t).srts:=by
  simp only[histOf,hist0,St.get,look_map]
  cases look s.env t with
  |none=>rfl
  |some u=>rfl
 rw[this];exact hr
theorem left_start(ops:Array Oper):LeftO ops (Array.replicate ops.size false)=List.range ops.size:=by
 refine List.filter_eq_self.2 fun x hx=> ?_
 have:x<ops.size:=by simpa using hx
 simp[yB,this]
theorem closed_start(bs:List Nat)(n:Nat):Closed bs (Array.replicate n false):=fun i b hi=>by
 exfalso
 by_cases hlt:i<n
 ·simp[yB,hlt]at hi
 ·simp[yB,hlt]at hi
theorem opsAt_range(ops:Array Oper):opsAt ops.toList (List.range ops.size)=ops.toList:=by
 have:∀(l pre:List Oper),(List.range' pre.length l.length).filterMap (fun i=>(pre++l)[i]?)=l:=fun l=>by
  induction l with
  |nil=>intro pre;rfl
  |cons x l ih=>
   intro pre
   rw[xZ,List.range'_succ,List.filterMap_cons]
   have e1:(pre++x::l)[pre.length]? =some x:=by simp
   rw[e1]
   have:=ih (pre++[x])
   simp only[xP,List.length_singleton,xK,List.singleton_append]at this
   simp only[this]
 have:=this ops.toList []
 rw[yN,←List.range_eq_range',yF]at this
 exact this
theorem region_tree{G:Nat→Option D}(hc:CallOK P G call)(hG:GA G A)(hgl:∀g d,hint.gl g=some d→G g=some d)(hm:P.follows .mixedOrders=true){id:Nat}{ops:Array Oper}{ro:Option Nat}{Q:Exit→Act→World→Prop}{s:St}{bs:List Nat}{a:Act}{ds:List Nat}{w:World}(hs:SR A s a w)(hd:∀o∈ops.toList,∀d,o.dst=some d→d∈ds∧d<a.tmps.size)(hb:befs ops.toList []=some bs){t:RT}
  (hok:RT.Ok P call hint ops bs (Array.replicate ops.size false) (s,hist0 s) [] t) (hends:RT.Ends (fun c'=>∀c2 a' w',Eqv c' c2→SR A c2.1 a' w'→Kp a ds a'→Q .normal a' w') t):(Code.region id ops true).wpIn (FW ro) 0 P Q a w:=
 wpIn_region_any hm (wpAny_ok (hint:=hint) (a0:=a) (ds:=ds) hc hG hgl hb hd ops.size _ t (s,hist0 s) a _ (by simp) (by rw[left_start];simp) (closed_start _ _) (Inv.start s) hs.drawn (.refl _ _) hok hends)
theorem region_any{G:Nat→Option D}(hc:CallOK P G call)(hG:GA G A)(hgl:∀g d,hint.gl g=some d→G g=some d)(hm:P.follows .mixedOrders=true){id:Nat}{ops:Array Oper}{ro:Option Nat}{Q:Exit→Act→World→Prop}{s:St}{c':Cf}{fs:List Fp}{a:Act}{ds:List Nat}{w:World}(hs:SR A s a w)(hd:∀o∈ops.toList,∀d,o.dst=some d→d∈ds∧d<a.tmps.size)
  (e:runOpsF P call hint ops.toList ops.toList (s,hist0 s)=some (c',fs)) (hk:checkR ops.toList fs=true)
  (hQ:∀c2 a' w',Eqv c' c2→SR A c2.1 a' w'→Kp a ds a'→Q .normal a' w'):(Code.region id ops true).wpIn (FW ro) 0 P Q a w:=by
 unfold checkR at hk
 split at hk
 ·rename_i bs hb
  have hbl:=(befs_spec _ _ _ hb).2.1
  simp only[yN,Nat.zero_add,yF]at hbl
  have hlen:=runOpsF_len _ e
  rw[yF]at hlen
  refine region_tree hc hG hgl hm hs hd hb (t:=.leaf (List.range ops.size) fs c') ⟨by rw[left_start],by rw[opsAt_range];exact e,?_⟩ hQ
  rw[List.pairwise_iff_getElem]
  intro i j hi hj hij
  left
  intro b hbj hbf
  simp only[List.getElem_zip,List.getElem_range]at hbj hbf ⊢
  simp only[List.length_zip,List.length_range,hlen,Nat.min_self]at hi hj
  have:=checkF_spec fs bs fs 0 hk j b (fs[j]'(by omega)) hbj (xG _)
  exact checkRow_spec b _ _ 0 this i _ (by rw[Nat.zero_add,xU,if_pos hij];exact xG _) (by simpa using hbf)
 ·cases hk
theorem treeN_ok{live:List Nat}{ops:Array Oper}{bs:List Nat}{s:St}:∀(t:OT) (E:List (Nat×Nat)) (s':St),treeN P call hint live ops.toList bs s t E=some s'→∃rt,RT.Ok P call hint ops bs (Array.replicate ops.size false) (s,hist0 s) E rt∧RT.Ends (fun c=>prune live c.1=s') rt:=fun _ _ _ e=>by simp[treeN]at e
theorem RT.Ends.imp{K K':Cf→Prop}(h:∀c,K c→K' c):∀(t:RT),RT.Ends K t→RT.Ends K' t
 | .leaf _ _ c,hk=>h c hk
 | .node _ _ a b,hk=>⟨RT.Ends.imp h a hk.1,RT.Ends.imp h b hk.2⟩
end
end Go.Am
namespace Go.Am
open Go Go.RowKit
def ExIs(ex:Ex)(x:Exit):Prop:=
 match ex with
 | .normal=>x=.normal
 | .exit id=>x=.exit id
 | .ret=>x=.ret
 | .pan d=>∃v,x=.panic [{v:=v,recovered:=false}]∧∀c,VV c d v
structure Av.le(A' A:Av):Prop where
 F:∀t b,A.F t b→A'.F t b
 n0:A.n0≤A'.n0
 rho:∀o,o<A.n0→A'.ρ0 o=A.ρ0 o
 O0:∀b,b<A.w0.heap.size→A'.O0 b→A.O0 b
 fr:Fr A A'.w0
 fold:∀t b,A.F t b→b<A.w0.heap.size
theorem Fr.le{A A':Av}(hl:A'.le A){w:World}(h:Fr A' w):Fr A w:=
 ⟨h.os.trans hl.fr.os,h.tape.trans hl.fr.tape,h.output.trans hl.fr.output,Nat.le_trans hl.fr.size h.size,fun b hb hO=>
  (h.kept b (yA hb hl.fr.size) (fun q=>hO (hl.O0 b hb q))).trans (hl.fr.kept b hb hO),hl.fr.recs.trans h.recs⟩
theorem Av.le.trans{A A' B:Av}(x:B.le A')(y:A'.le A):B.le A:=
 ⟨fun t b h=>x.F t b (y.F t b h),Nat.le_trans y.n0 x.n0,fun o ho=>(x.rho o (yA ho y.n0)).trans (y.rho o ho),fun b hb h=>y.O0 b hb (x.O0 b (yA hb y.fr.size) h),Fr.le y x.fr,y.fold⟩
section
variable{P:Program}{A A':Av}{ρ:Nat→Nat}{S:Root→List Nat}{hd:Root→Value}{fl:List Nat}{k k':Wk}{vals:List (SV×Value)}{w:World}{G:Nat→Option D}
theorem Av.le.refl(h:KR A ρ S hd fl k vals w):A.le A:=⟨fun _ _ h=>h,Nat.le_refl _,fun _ _=>rfl,fun _ _ h=>h,⟨rfl,rfl,rfl,Nat.le_refl _,fun _ _ _=>rfl,.refl _⟩,h.Fold⟩
theorem KR.up(hl:A'.le A)(h:KR A' ρ S hd fl k vals w):KR A ρ S hd fl k vals w∧Ext (cxOf A' k.H.length ρ S fl w) (cxOf A k.H.length ρ S fl w):=by
 have ext:Ext (cxOf A' k.H.length ρ S fl w) (cxOf A k.H.length ρ S fl w):=⟨fun t b hp=>⟨⟨hp.1,fun q=>hp.2.1 (hl.F t b q),hp.2.2⟩,rfl⟩,Nat.le_refl _,fun _ _=>rfl⟩
 refine⟨⟨fun r t ht=>TC.ext ext _ _ _ (fun _ _=>rfl) (h.cont r t ht),h.gone,h.obj,fun n ob he hp=>(h.map n ob he hp).ext ext (fun _ _=>rfl) rfl rfl,h.dis,fun b hb=> ?_,fun p hp=> ?_,Fr.le hl h.fr,hl.fold,⟨Nat.le_trans hl.n0 h.rho.1,fun o ho=>(h.rho.2 o (yA ho hl.n0)).trans (hl.rho o ho)⟩⟩,ext⟩
 ·have:=h.blk b hb
  exact⟨this.1,fun t q=>this.2.1 t (hl.F t b q),fun hlt=>hl.O0 b hlt (this.2.2 (yA hlt hl.fr.size))⟩
 ·exact SO.keep ext (fun r q=>h.hold (k':=k) (hd':=hd) _ rfl rfl (fun _ _=>rfl) q) (h.vals p hp)
theorem KR.upW(hl:A'.le A)(h:KR A' ρ S hd fl k vals w){w':World}(ho:w'.os=w.os)(ht:w'.tape=w.tape)(hu:w'.output=w.output)(hsz:w'.heap.size=w.heap.size)(hsame:∀b,w'.heap[b]? =w.heap[b]? ∨(A.w0.heap.size≤b∧∀t,A'.F t b))(hrec:Recs w w'):
  KR A ρ S hd fl k vals w'∧Ext (cxOf A' k.H.length ρ S fl w) (cxOf A k.H.length ρ S fl w'):=by
 have ext:Ext (cxOf A' k.H.length ρ S fl w) (cxOf A k.H.length ρ S fl w'):=⟨fun t b hp=>⟨⟨hp.1,fun q=>hp.2.1 (hl.F t b q),by rw[hsz];exact hp.2.2⟩,(hsame b).resolve_right fun q=>hp.2.1 (q.2 t)⟩,Nat.le_refl _,fun _ _=>rfl⟩
 have kept:∀r,∀b∈S r,w'.heap[b]? =w.heap[b]? :=fun r b hb=>(hsame b).resolve_right fun q=>(h.blk b (.inl ⟨r,hb⟩)).2.1 true (q.2 true)
 have f0:=Fr.le hl h.fr
 refine⟨⟨fun r t ht=>TC.ext ext _ _ _ (kept r) (h.cont r t ht),h.gone,h.obj,fun n ob he hp=>(h.map n ob he hp).ext ext (kept _) rfl rfl,h.dis,fun b hb=> ?_,fun p hp=> ?_,⟨ho.trans f0.os,ht.trans f0.tape,hu.trans f0.output,by rw[hsz];exact f0.size,fun b hb hO=> ?_,f0.recs.trans hrec⟩,hl.fold,⟨Nat.le_trans hl.n0 h.rho.1,fun o ho=>(h.rho.2 o (yA ho hl.n0)).trans (hl.rho o ho)⟩⟩,ext⟩
 ·have:=h.blk b hb
  exact⟨by rw[hsz];exact this.1,fun t q=>this.2.1 t (hl.F t b q),fun hlt=>hl.O0 b hlt (this.2.2 (yA hlt hl.fr.size))⟩
 ·exact SO.keep ext (fun r q=>h.hold (k':=k) (hd':=hd) _ rfl rfl (kept r) q) (h.vals p hp)
 ·rw[(hsame b).resolve_right fun q=>by omega]
  exact f0.kept b hb hO
theorem SR.upW{s:St}{a:Act}(hl:A'.le A)(hs:SR A' s a w){w':World}(ho:w'.os=w.os)(ht:w'.tape=w.tape)(hu:w'.output=w.output)(hsz:w'.heap.size=w.heap.size)(hsame:∀b,w'.heap[b]? =w.heap[b]? ∨(A.w0.heap.size≤b∧∀t,A'.F t b))(hrec:Recs w w'):SR A s a w':=by
 obtain⟨ρ,S,hd,h,hv⟩:=hs
 obtain⟨h1,ext⟩:=h.upW hl ho ht hu hsz hsame hrec
 have kept:∀r,∀b∈S r,w'.heap[b]? =w.heap[b]? :=fun r b hb=>(hsame b).resolve_right fun q=>(h.blk b (.inl ⟨r,hb⟩)).2.1 true (q.2 true)
 exact⟨ρ,S,hd,h1,fun t=>SO.keep ext (fun r q=>h.hold (k':=s.wk) (hd':=hd) _ rfl rfl (kept r) q) (hv t)⟩
theorem SR.up{s:St}{a:Act}(hl:A'.le A)(hs:SR A' s a w):SR A s a w:=by
 obtain⟨ρ,S,hd,h,hv⟩:=hs
 obtain⟨h1,ext⟩:=h.up hl
 exact⟨ρ,S,hd,h1,fun t=>SO.keep ext (fun r q=>h.hold (k':=s.wk) (hd':=hd) _ rfl rfl (fun _ _=>rfl) q) (hv t)⟩
def Mk(A:Av)(b:Nat):Prop:=(∀t,A.F t b)∧¬A.O0 b∧b<A.w0.heap.size∧A.w0.heap[b]? =some (.deferred (some []))
theorem Mk.le{b:Nat}(hl:A'.le A)(h:Mk A b):Mk A' b:=
 ⟨fun t=>hl.F t b (h.1 t),fun q=>h.2.1 (hl.O0 b h.2.2.1 q),yA h.2.2.1 hl.fr.size,(hl.fr.kept b h.2.2.1 h.2.1).trans h.2.2.2⟩
theorem Mk.now{b:Nat}(h:Mk A b)(hf:Fr A w):w.heap[b]? =some (.deferred (some [])):=(hf.kept b h.2.2.1 h.2.1).trans h.2.2.2
def mkD(b:Nat):Deferred:={target:=.collected b,args:= #[]}
structure Kc(b:Bool)(A0 A:Av)(a0:Act)(ds:List Nat)(a:Act):Prop where
 size:a.tmps.size=a0.tmps.size
 tmps:∀t,t∉ds→a.tmps[t]? =a0.tmps[t]?
 mks:∃l:List Nat,a.defers=l.map mkD++a0.defers∧l.Nodup∧∀b∈l,A0.w0.heap.size≤b∧Mk A b
 nst:b=true→a.defers=a0.defers
theorem Kc.of{q:Bool}{A0:Av}{a0 a:Act}{ds:List Nat}(h:Kp a0 ds a):Kc q A0 A a0 ds a:=⟨h.2.1,h.2.2,⟨[],by simp[h.1],List.nodup_nil,by simp⟩,fun _=>h.1⟩
theorem Kc.refl{q:Bool}{A0:Av}(a:Act)(ds:List Nat):Kc q A0 A a ds a:=.of (.refl _ _)
theorem Kc.trans{q:Bool}{A0:Av}{a b c:Act}{ds es:List Nat}(h0:A.le A0)(hl:A'.le A)(x:Kc q A0 A a ds b)(y:Kc q A A' b es c):Kc q A0 A' a (ds++es) c:=by
 obtain⟨l,h1,hn,h2⟩:=x.mks
 obtain⟨l',h3,hn',h4⟩:=y.mks
 refine⟨y.size.trans x.size,fun t ht=> ?_,⟨l'++l,by rw[h3,h1,List.map_append,xK],?_,fun b hb=> ?_⟩,fun hq=>(y.nst hq).trans (x.nst hq)⟩
 ·simp only[xD,not_or]at ht
  exact(y.tmps t ht.2).trans (x.tmps t ht.1)
 ·rw[xT]
  refine⟨hn',hn,fun b hb d hd e=> ?_⟩
  subst e
  have q1:=(h4 b hb).1
  have q2:=(h2 b hd).2.2.2.1
  omega
 ·rcases List.mem_append.1 hb with q |q
  ·exact⟨Nat.le_trans h0.fr.size (h4 b q).1,(h4 b q).2⟩
  ·exact⟨(h2 b q).1,(h2 b q).2.le hl⟩
theorem Kc.more{q:Bool}{A0:Av}{a b:Act}{ds es:List Nat}(x:Kc q A0 A a ds b)(h:∀t∈ds,t∈es):Kc q A0 A a es b:=⟨x.size,fun t ht=>x.tmps t (fun q=>ht (h t q)),x.mks,x.nst⟩
def Av.reb(A:Av)(S:Root→List Nat)(fl X:List Nat)(w:World)(n:Nat)(ρ:Nat→Nat):Av:=
 {w0:=w,F:=fun t b=>A.F t b∨b∈X,O0:=fun b=>Own S fl b,n0:=n,ρ0:=ρ,mono:=fun b h=>h.imp (A.mono b) id}
theorem reb_cx{X:List Nat}{n:Nat}(nO:Nat)(ρ':Nat→Nat)(w':World)(S':Root→List Nat)(fl':List Nat)(h:∀b,Own S' fl' b∨b∈X↔Own S (X++fl) b):cxOf (A.reb S fl X w n ρ) nO ρ' S' fl' w'=cxOf A nO ρ' S (X++fl) w':=by
 simp only[cxOf,Av.reb,Cx.mk.injEq,true_and,and_true]
 funext t b
 refine propext ⟨fun q=>⟨fun ho=> ?_,fun hF=>q.2.1 (.inl hF),q.2.2⟩,fun q=>⟨fun ho=>q.1 ((h b).1 (.inl ho)),fun hF=> ?_,q.2.2⟩⟩
 ·rcases(h b).2 ho with r |r
  ·exact q.1 r
  ·exact q.2.1 (.inr r)
 ·rcases hF with r |r
  ·exact q.2.1 r
  ·exact q.1 ((h b).1 (.inr r))
theorem KR.reb{X:List Nat}(h:KR A ρ S hd (X++fl) k vals w):KR (A.reb S fl X w k.H.length ρ) ρ S hd fl k vals w∧(A.reb S fl X w k.H.length ρ).le A∧cxOf (A.reb S fl X w k.H.length ρ) k.H.length ρ S fl w=cxOf A k.H.length ρ S (X++fl) w:=by
 have hown:∀b,Own S fl b∨b∈X↔Own S (X++fl) b:=fun b=>by
  constructor
  ·rintro((q |q) |q)
   ·exact .inl q
   ·exact .inr (xR _ q)
   ·exact .inr (xL _ q)
  ·rintro(q |q)
   ·exact .inl (.inl q)
   ·rcases List.mem_append.1 q with q |q
    ·exact .inr q
    ·exact .inl (.inr q)
 have ecx:cxOf (A.reb S fl X w k.H.length ρ) k.H.length ρ S fl w=cxOf A k.H.length ρ S (X++fl) w:=reb_cx _ _ _ _ _ hown
 have hdF:=h.dis.ndF
 rw[xT]at hdF
 refine⟨⟨fun r t ht=>by rw[ecx];exact h.cont r t ht,h.gone,h.obj,fun n ob he hp=>by rw[ecx];exact h.map n ob he hp,⟨h.dis.nd,hdF.2.1,h.dis.one,fun r b hb hf=>h.dis.oneF r b hb (xR _ hf)⟩,fun b hb=> ?_,fun p hp=>by rw[ecx];exact h.vals p hp,⟨rfl,rfl,rfl,Nat.le_refl _,fun _ _ _=>rfl,.refl _⟩,fun t b hF=> ?_,Nat.le_refl _,fun _ _=>rfl⟩,⟨fun t b hF=>.inl hF,h.rho.1,h.rho.2,fun b hb ho=> ?_,h.fr,h.Fold⟩,ecx⟩
 ·have:=h.blk b ((hown b).1 (.inl hb))
  refine⟨this.1,fun t hF=> ?_,fun _=>hb⟩
  rcases hF with hF |hF
  ·exact this.2.1 t hF
  ·rcases hb with⟨r,hr⟩ |hb
   ·exact h.dis.oneF r b hr (xL _ hF)
   ·exact hdF.2.2 b hF b hb rfl
 ·rcases hF with hF |hF
  ·exact yA (h.Fold t b hF) h.fr.size
  ·exact(h.blk b (.inr (xL _ hF))).1
 ·exact(h.blk b ((hown b).1 (.inl ho))).2.2 hb
theorem GA.reb{X:List Nat}(hG:GA G A)(h:KR A ρ S hd (X++fl) k vals w):GA G (A.reb S fl X w k.H.length ρ):=fun g d e=>by
 obtain⟨q1,q2,q3⟩:=hG.now h e
 obtain⟨_,_,h3,vs,h4,h5⟩:=hG g d e
 refine⟨q2,fun ho=>q1 ?_,fun t ht=> ?_,vs,h4.same q3,h5⟩
 ·rcases ho with ho |ho
  ·exact .inl ho
  ·exact .inr (xR _ ho)
 ·rcases ht with ht |ht
  ·exact h3 t ht
  ·exact q1 (.inr (xL _ ht))
theorem KR.rebW(h:KR A ρ S hd fl k vals w){w':World}(hsz:w'.heap.size=w.heap.size)(hsame:∀b,w'.heap[b]? =w.heap[b]? ∨∀t,A.F t b):
  KR (A.reb S fl [] w' k.H.length ρ) ρ S hd fl k vals w'∧Ext (cxOf A k.H.length ρ S fl w) (cxOf (A.reb S fl [] w' k.H.length ρ) k.H.length ρ S fl w'):=by
 have ext:Ext (cxOf A k.H.length ρ S fl w) (cxOf (A.reb S fl [] w' k.H.length ρ) k.H.length ρ S fl w'):=⟨fun t b hp=>⟨⟨hp.1,fun q=>q.elim hp.2.1 (by simp),by rw[hsz];exact hp.2.2⟩,(hsame b).resolve_right fun q=>hp.2.1 (q t)⟩,Nat.le_refl _,fun _ _=>rfl⟩
 have kept:∀r,∀b∈S r,w'.heap[b]? =w.heap[b]? :=fun r b hb=>(hsame b).resolve_right fun q=>(h.blk b (.inl ⟨r,hb⟩)).2.1 true (q true)
 refine⟨⟨fun r t ht=>TC.ext ext _ _ _ (kept r) (h.cont r t ht),h.gone,h.obj,fun n ob he hp=>(h.map n ob he hp).ext ext (kept _) rfl rfl,h.dis,fun b hb=> ?_,fun p hp=> ?_,⟨rfl,rfl,rfl,Nat.le_refl _,fun _ _ _=>rfl,.refl _⟩,fun t b hF=> ?_,Nat.le_refl _,fun _ _=>rfl⟩,ext⟩
 ·have:=h.blk b hb
  exact⟨by rw[hsz];exact this.1,fun t q=>q.elim (this.2.1 t) (by simp),fun _=>hb⟩
 ·exact SO.keep ext (fun r q=>h.hold (k':=k) (hd':=hd) _ rfl rfl (kept r) q) (h.vals p hp)
 ·rcases hF with hF |hF
  ·show b<w'.heap.size
   rw[hsz]
   exact yA (h.Fold t b hF) h.fr.size
  ·cases hF
def ownL(S:Root→List Nat)(ct:List ((Nat×Nat)×T)):List Nat:=(keysOf ct).flatMap fun x=>S (.l x.1 x.2)
def soO(S:Root→List Nat):Root→List Nat
 | .l _ _=>[]
 | .o n=>S (.o n)
theorem Ext.of{c c':Cx}(e:c=c'):Ext c c':=e▸⟨fun _ _ hp=>⟨hp,rfl⟩,Nat.le_refl _,fun _ _=>rfl⟩
theorem rangeN_ok{call:CallF}(hc:CallOK P G call)(hG:GA G A){hint:Hint}{f:Operand}{ps:Array Nat}{x y:Code}{s s':St}{ex:Ex}{act:Act}{Q:Exit→Act→World→Prop}(hs:SR A s act w)(hk:codeOk act.tmps.size (.rangeFunc f ps x y)=true)(e:rangeN call hint f ps.toList x y s=some (ex,s'))
  (hQ:∀A' a' w',A'.le A→GA G A'→SR A' s' a' w'→Kc hint.nest A A' act [] a'→ex=.normal→Q .normal a' w'):(Code.rangeFunc f ps x y).wpIn (FW none) 0 P Q act w:=by simp[rangeN]at e
structure Shut(l:List Nat)(w w':World):Prop where
 os:w'.os=w.os
 tape:w'.tape=w.tape
 output:w'.output=w.output
 size:w'.heap.size=w.heap.size
 same:∀b,w'.heap[b]? =w.heap[b]? ∨b∈l
 recs:Recs w w'
theorem leavesM{fn:Func}{tmps:Array Value}{R:Ending→World→Prop}{u:FrameMode}(hu:u≠ .run){ds:List Deferred}:∀(l:List Nat) (w:World),l.Nodup→(∀b∈l,w.heap[b]? =some (.deferred (some [])))→(∀w',Shut l w w'→LeavesInM (FW none) 0 P fn tmps R ds u w')→LeavesInM (FW none) 0 P fn tmps R (l.map mkD++ds) u w
 | [],w,_,_,h=>h w ⟨rfl,rfl,rfl,rfl,fun _=>.inl rfl,.refl _⟩
 |b::l,w,hn,hl,h=>by
  rw[List.nodup_cons]at hn
  have hb:=hl b (by simp)
  have hlt:b<w.heap.size:=(Array.getElem?_eq_some_iff.1 hb).1
  refine⟨hu,.inl ⟨b,w.putObj b (.deferred none),rfl,run_takeDeferred hb,leavesM hu l _ hn.2 (fun d hd=> ?_) (fun w' hw=>h w' ?_)⟩⟩
  ·have hne:d≠b:=fun e=>hn.1 (e▸hd)
   exact(World.putObj_heap_other hne).trans (hl d (by simp[hd]))
  ·refine⟨hw.os,hw.tape,hw.output,hw.size.trans World.putObj_size,fun d=> ?_,Recs.trans (Recs.other (g:=b) (fun d hd=>World.putObj_heap_other hd) (fun r=>by rw[hb];simp)) hw.recs⟩
   rcases hw.same d with q |q
   ·by_cases e:d=b
    ·exact .inr (by simp[e])
    ·exact .inl (q.trans (World.putObj_heap_other e))
   ·exact .inr (by simp[q])
end
end Go.Am
namespace Go.Am
open Go Go.RowKit
section
variable{P:Program}{A:Av}{call:CallF}{hint:Hint}
theorem prune_eqv{c c':Cf}(q:Eqv c c')(live:List Nat):prune live c'.1=prune live c.1:=by
 have:(live.map fun t=>(t,c'.1.get t))=live.map fun t=>(t,c.1.get t):=List.map_congr_left fun t _=>by rw[q.get]
 have hp:∀l,pick c'.1.ct l=pick c.1.ct l:=fun l=>by
  induction l with
  |nil=>rfl
  |cons x l ih=>simp only[pick,q.ct,ih]
 simp only[Go.Am.prune,this,hp,q.H]
theorem opsOk_spec{n:Nat}{ops:Array Oper}(h:opsOk n ops=true):∀o∈ops.toList,∀d,o.dst=some d→d<n:=fun o ho d hd=>by
 have:=List.all_eq_true.1 h o ho
 rw[hd]at this
 simpa using this
theorem region_text{G:Nat→Option D}(hc:CallOK P G call)(hG:GA G A)(hgl:∀g d,hint.gl g=some d→G g=some d){id:Nat}{ops:Array Oper}{ro:Option Nat}{Q:Exit→Act→World→Prop}{s s':St}{a:Act}{ds:List Nat}{w:World}(hs:SR A s a w)(hd:∀o∈ops.toList,∀d,o.dst=some d→d∈ds∧d<a.tmps.size)
  (e:runOps P call hint ops.toList ops.toList s=some s') (hQ:∀a' w',SR A s' a' w'→Kp a ds a'→Q .normal a' w'):(Code.region id ops false).wpIn (FW ro) 0 P Q a w:=
 wpIn_region (by rw[List.range_eq_range',←yF,wpOpsIn_eq_wpListIn ops.toList 0 (by simp)];exact runOps_ok (hint:=hint) hc hG hgl ops.toList hs (.refl _ _) hd e hQ)
theorem region_pan{G:Nat→Option D}(hc:CallOK P G call)(hG:GA G A)(hgl:∀g d,hint.gl g=some d→G g=some d){id:Nat}{ops:Array Oper}{ro:Option Nat}{Q:Exit→Act→World→Prop}{s s':St}{t:Option D}{a:Act}{ds:List Nat}{w:World}(hs:SR A s a w)(hd:∀o∈ops.toList,∀d,o.dst=some d→d∈ds∧d<a.tmps.size)
  (e:runOpsP P call hint ops.toList ops.toList s=some (t,s')) (hQ:t=none→∀a' w',SR A s' a' w'→Kp a ds a'→Q .normal a' w') (hP:∀d,t=some d→∀x a' w',SR A s' a' w'→Kp a ds a'→(∀c,VV c d x)→Q (.panic [{v:=x,recovered:=false}]) a' w'):(Code.region id ops false).wpIn (FW ro) 0 P Q a w:=
 wpIn_region (by rw[List.range_eq_range',←yF,wpOpsIn_eq_wpListIn ops.toList 0 (by simp)];exact runOpsP_ok (hint:=hint) hc hG hgl ops.toList hs (.refl _ _) hd e hQ hP)
theorem wpIn_scope{ro:Option Nat}{Q:Exit→Act→World→Prop}{a:Act}{w:World}{c:Code}(h:c.wpIn (FW ro) 0 P (Exit.noGoto Q) a w):(Code.scope c).wpIn (FW ro) 0 P Q a w:=by
 intro b k cs hro hb hr
 obtain⟨e,a',w',hq,harr⟩:=h b (.inScope c::k) cs hro hb hr
 have hstep:step P (lone (b.atR a (.code (.scope c)::k)) cs w)=.next (lone (b.atR a (.code c:: .inScope c::k)) cs w):=step_lone_go (by simp[stepG,stepG.exec,Frame.atR])
 have hback:step P (lone (b.atR a' (.inScope c::k)) cs w')=.next (lone (b.atR a' k) cs w'):=step_lone_go (by simp[stepG,stepG.exec,Frame.atR])
 have h0:StepsIn (Machine.fenced P (FW ro)) P (lone (b.atR a (.code (.scope c)::k)) cs w) (lone (b.atR a (.code c:: .inScope c::k)) cs w):=.one (fenced_calm hb hr rfl) hstep
 cases e with
 |normal=>exact⟨.normal,a',w',hq,StepsIn.trans h0 (StepsIn.trans harr (.one (fenced_calm (fr:=b.atR a' (.inScope c::k)) hb hr rfl) hback))⟩
 |goto l=>exact hq.elim
 |exit id=>exact⟨.exit id,a',w',hq,.of_steps h0 ⟨fun k' hk=>harr.1 k' (by simp[exitTo,hk]),fun hr hk=>harr.2 hr (by simp[exitTo,hk])⟩⟩
 |ret=>exact⟨_,a',w',hq,.of_steps h0 harr⟩
 |panic ch=>exact⟨_,a',w',hq,.of_steps h0 harr⟩
 |outgrown=>exact⟨_,a',w',hq,.of_steps h0 harr⟩
theorem SR.le{s:St}{a:Act}{w:World}(hs:SR A s a w):A.le A:=by
 obtain⟨ρ,S,hd,h,_⟩:=hs
 exact .refl h
theorem opsOk_in{n:Nat}{ops:Array Oper}(h:opsOk n ops=true):∀o∈ops.toList,∀d,o.dst=some d→d∈ops.toList.filterMap (·.dst)∧d<n:=fun o ho d hd=>⟨List.mem_filterMap.2 ⟨o,ho,hd⟩,opsOk_spec h o ho d hd⟩
theorem codeN_ok{G:Nat→Option D}(hc:CallOK P G call)(hgl:∀g d,hint.gl g=some d→G g=some d)(hm:P.follows .mixedOrders=true)(fuel:Nat){ro:Option Nat}(hro:hint.nest=true∨ro=none):∀(c:Code) {A:Av} {s s':St} {ex:Ex} {a:Act} {w:World} {Q:Exit→Act→World→Prop},GA G A→codeN P call hint fuel c s=some (ex,s')→SR A s a w→codeOk a.tmps.size c=true→
  (∀A' a' w' x,A'.le A→GA G A'→SR A' s' a' w'→Kc hint.nest A A' a (dsts c) a'→ExIs ex x→Q x a' w')→c.wpIn (FW ro) 0 P Q a w
 | .skip,A,s,s',ex,a,w,Q,hG,e,hs,hk,hQ=>by
  simp only[codeN,xJ,pJ]at e
  obtain⟨rfl,rfl⟩:=e
  exact wpIn_skip (hQ A a w _ hs.le hG hs (.refl _ _) rfl)
 | .label l,A,s,s',ex,a,w,Q,hG,e,hs,hk,hQ=>by
  simp only[codeN,xJ,pJ]at e
  obtain⟨rfl,rfl⟩:=e
  exact wpIn_label (hQ A a w _ hs.le hG hs (.refl _ _) rfl)
 | .ret,A,s,s',ex,a,w,Q,hG,e,hs,hk,hQ=>by
  simp only[codeN,xJ,pJ]at e
  obtain⟨rfl,rfl⟩:=e
  exact wpIn_ret (hQ A a w _ hs.le hG hs (.refl _ _) rfl)
 | .exit id,A,s,s',ex,a,w,Q,hG,e,hs,hk,hQ=>by
  simp only[codeN,xJ,pJ]at e
  obtain⟨rfl,rfl⟩:=e
  exact wpIn_exit (hQ A a w _ hs.le hG hs (.refl _ _) rfl)
 | .region id ops dr,A,s,s',ex,a,w,Q,hG,e,hs,hk,hQ=>by
  simp only[codeOk]at hk
  simp only[codeN]at e
  cases dr with
  |true=>
   simp only[if_true]at e
   split at e
   ·rename_i t ht
    simp only[xB,xM,pJ]at e
    obtain⟨bs,hb,s1,e1,rfl,rfl⟩:=e
    obtain⟨rt,r1,r2⟩:=treeN_ok t [] s1 e1
    refine region_tree hc hG hgl hm hs (opsOk_in hk) hb r1 (RT.Ends.imp (fun c0 hc0 c2 a' w' q1 q2 q3=>hQ A a' w' _ hs.le hG ?_ (.of q3) rfl) rt r2)
    rw[←hc0,←prune_eqv q1]
    exact q2.prune _
   simp only[xB]at e
   obtain⟨⟨c',fs⟩,e1,e⟩:=e
   simp only at e
   split at e
   ·rename_i hck
    simp only[xJ,pJ]at e
    obtain⟨rfl,rfl⟩:=e
    refine region_any hc hG hgl hm hs (opsOk_in hk) e1 hck fun c2 a' w' q1 q2 q3=>hQ A a' w' _ hs.le hG ?_ (.of q3) rfl
    rw[←prune_eqv q1]
    exact q2.prune _
   ·cases e
  |false=>
   simp only[xH,if_false]at e
   split at e
   ·simp only[xM]at e
    obtain⟨⟨t,s1⟩,e1,e2⟩:=e
    refine region_pan hc hG hgl hs (opsOk_in hk) e1 (fun ht a' w' q2 q3=> ?_) (fun d ht x a' w' q2 q3 q4=> ?_)
    ·subst ht
     simp only[pJ]at e2
     obtain⟨rfl,rfl⟩:=e2
     exact hQ A a' w' _ hs.le hG (q2.prune _) (.of q3) rfl
    ·subst ht
     simp only[pJ]at e2
     obtain⟨rfl,rfl⟩:=e2
     exact hQ A a' w' _ hs.le hG q2 (.of q3) ⟨x,rfl,q4⟩
   ·simp only[xM,pJ]at e
    obtain⟨s1,e1,rfl,rfl⟩:=e
    exact region_text hc hG hgl hs (opsOk_in hk) e1 fun a' w' q2 q3=>hQ A a' w' _ hs.le hG (q2.prune _) (.of q3) rfl
 | .seq x y,A,s,s',ex,a,w,Q,hG,e,hs,hk,hQ=>by
  simp only[codeOk,xA]at hk
  simp only[codeN,xB]at e
  obtain⟨⟨ex1,s1⟩,e1,e2⟩:=e
  refine wpIn_seq (codeN_ok hc hgl hm fuel hro x hG e1 hs hk.1 fun A1 a' w' z l1 G1 g1 g2 g3=> ?_)
  simp only at e2
  split at e2
  ·have:z=.normal:=g3
   subst this
   exact codeN_ok hc hgl hm fuel hro y G1 e2 g1 (by rw[g2.size];exact hk.2) fun A2 a2 w2 z2 l2 G2 p1 p2 p3=>hQ A2 a2 w2 z2 (l2.trans l1) G2 p1 (Kc.trans l1 l2 g2 p2) p3
  ·rename_i ex0 hne
   simp only[xJ,pJ]at e2
   obtain⟨rfl,rfl⟩:=e2
   have k:=g2.more (es:=dsts (.seq x y)) (fun t ht=>xL _ ht)
   cases ex1 with
   |normal=>exact absurd rfl hne
   |exit id=>have:z=.exit id:=g3;subst this;exact hQ A1 a' w' _ l1 G1 g1 k rfl
   |ret=>have:z=.ret:=g3;subst this;exact hQ A1 a' w' _ l1 G1 g1 k rfl
   |pan d=>obtain⟨v,rfl,hv⟩:=g3;exact hQ A1 a' w' _ l1 G1 g1 k ⟨v,rfl,hv⟩
 | .cond c x y,A,s,s',ex,a,w,Q,hG,e,hs,hk,hQ=>by
  simp only[codeOk,xA]at hk
  simp only[codeN]at e
  have hs0:=hs
  obtain⟨ρ,S,hd,h,hv⟩:=hs0
  have hcv:=SR.val hv c
  split at e
  ·rename_i t ht
   rw[ht]at hcv
   refine wpIn_cond (VV.of_bool hcv) ?_
   cases t with
   |true=>exact codeN_ok hc hgl hm fuel hro x hG e hs hk.1 fun A' a' w' z l1 G1 g1 g2 g3=>hQ A' a' w' z l1 G1 g1 (g2.more fun t ht=>xL _ ht) g3
   |false=>exact codeN_ok hc hgl hm fuel hro y hG e hs hk.2 fun A' a' w' z l1 G1 g1 g2 g3=>hQ A' a' w' z l1 G1 g1 (g2.more fun t ht=>xR _ ht) g3
  ·cases e
 | .block id c,A,s,s',ex,a,w,Q,hG,e,hs,hk,hQ=>by
  simp only[codeOk]at hk
  simp only[codeN,xM,pJ]at e
  obtain⟨⟨ex1,s1⟩,e1,e2,rfl⟩:=e
  refine wpIn_block (codeN_ok hc hgl hm fuel hro c hG e1 hs hk fun A1 a' w' z l1 G1 g1 g2 g3=> ?_)
  have:=fun x=>hQ A1 a' w' x l1 G1 g1 g2
  simp only at e2
  cases ex1 with
  |normal=>have hz:z=.normal:=g3;subst hz;subst e2;exact this _ rfl
  |ret=>have hz:z=.ret:=g3;subst hz;subst e2;exact this _ rfl
  |pan d=>obtain⟨v,rfl,hv⟩:=g3;subst e2;exact this _ ⟨v,rfl,hv⟩
  |exit id'=>
   have hz:z=.exit id':=g3
   subst hz
   simp only[Exit.inBlock]
   simp only[Ex.block]at e2
   by_cases hid:id'=id
   ·subst hid;rw[if_pos rfl]at e2 ⊢;subst e2;exact this _ rfl
   ·rw[if_neg hid]at e2 ⊢;subst e2;exact this _ rfl
 | .loop c,A,s,s',ex,a,w,Q,hG,e,hs,hk,hQ=>by
  simp only[codeOk]at hk
  simp only[codeN]at e
  refine wpIn_loop_rounds fuel ?_
  have key:∀(n:Nat) (A1:Av) (s:St) (a1:Act) (w1:World),A1.le A→GA G A1→loopN (codeN P call hint fuel c) n s=some (ex,s')→SR A1 s a1 w1→Kc hint.nest A A1 a (dsts c) a1→Code.roundsIn (FW ro) 0 P c Q n a1 w1:=by
   intro n
   induction n with
   |zero=>intro A1 s a1 w1 l1 G1 e;cases e
   |succ n ih=>
    intro A1 s a1 w1 l1 G1 e hs h1
    simp only[loopN,xB]at e
    obtain⟨⟨ex1,s1⟩,e1,e2⟩:=e
    rw[roundsIn_succ]
    refine codeN_ok hc hgl hm fuel hro c G1 e1 hs (by rw[h1.size];exact hk) fun A2 a' w' z l2 G2 g1 g2 g3=> ?_
    have k:=(Kc.trans l1 l2 h1 g2).more (es:=dsts c) (fun t ht=>(List.mem_append.1 ht).elim id id)
    simp only at e2
    split at e2
    ·have hz:z=.normal:=g3
     subst hz
     exact ih A2 s1 a' w' (l2.trans l1) G2 e2 g1 k
    ·rename_i ex0 hne
     simp only[xJ,pJ]at e2
     obtain⟨rfl,rfl⟩:=e2
     cases ex1 with
     |normal=>exact absurd rfl hne
     |exit id=>have hz:z=.exit id:=g3;subst hz;exact hQ A2 a' w' _ (l2.trans l1) G2 g1 k rfl
     |ret=>have hz:z=.ret:=g3;subst hz;exact hQ A2 a' w' _ (l2.trans l1) G2 g1 k rfl
     |pan d=>obtain⟨v,rfl,hv⟩:=g3;exact hQ A2 a' w' _ (l2.trans l1) G2 g1 k ⟨v,rfl,hv⟩
  exact key fuel A s a w hs.le hG e hs (.refl _ _)
 | .scope c,A,s,s',ex,a,w,Q,hG,e,hs,hk,hQ=>by
  simp only[codeOk]at hk
  simp only[codeN]at e
  refine wpIn_scope (codeN_ok hc hgl hm fuel hro c hG e hs hk fun A1 a' w' z l1 G1 g1 g2 g3=> ?_)
  have:=hQ A1 a' w' z l1 G1 g1 g2 g3
  cases ex with
  |pan d=>obtain⟨v,rfl,_⟩:=g3;exact this
  |normal=>have hz:z=.normal:=g3;subst hz;exact this
  |ret=>have hz:z=.ret:=g3;subst hz;exact this
  |exit id=>have hz:z=.exit id:=g3;subst hz;exact this
 | .rangeFunc f ps x y,A,s,s',ex,a,w,Q,hG,e,hs,hk,hQ=>by
  simp only[codeN]at e
  rcases hro with hro |rfl
  ·simp[rangeN]at e
  ·refine rangeN_ok hc hG hs hk e fun A' a' w' l1 G1 g1 g2 g3=>hQ A' a' w' _ l1 G1 g1 g2 ?_
   subst g3
   rfl
 | .goto _,A,s,s',ex,a,w,Q,hG,e,hs,hk,hQ=>by simp[codeN]at e
 | .refuse _,A,s,s',ex,a,w,Q,hG,e,hs,hk,hQ=>by simp[codeN]at e
def retF(tmps:Array Value):ResultVar→Sem Value
 | .tmp t=>pure (tmps.getD t undef)
 | .cell p t=>do loadVar t (←asAddr (tmps.getD p undef))
theorem retVals_ok{ρ:Nat→Nat}{S:Root→List Nat}{hd:Root→Value}{s:St}{a:Act}{w:World}(h:KR A ρ S hd [] s.wk [] w)(hv:∀t,SO (cxOf A s.H.length ρ S [] w) s.wk.get hd (s.get t) (a.tmps.getD t undef)):
  ∀(l:List ResultVar) (svs:List SV),retVals P s l=some svs→∃vs:List Value,(l.mapM (retF a.tmps)).run P w=.ok vs w∧All2 (fun u v=>SO (cxOf A s.H.length ρ S [] w) s.wk.get hd u v) svs vs
 | [],svs,e=>by
  simp only[retVals,xJ]at e
  subst e
  exact⟨[],by simp,rfl⟩
 |r::l,svs,e=>by
  simp only[retVals,xB,xM]at e
  obtain⟨u,e1,us,e2,rfl⟩:=e
  obtain⟨vs,h1,h2⟩:=retVals_ok h hv l us e2
  have one:∃v,(retF a.tmps r).run P w=.ok v w∧SO (cxOf A s.H.length ρ S [] w) s.wk.get hd u v:=by
   cases r with
   |tmp t=>
    simp only[retVal,xJ]at e1
    subst e1
    exact⟨_,rfl,hv t⟩
   |cell p t=>
    obtain⟨val,q1,q2⟩:=loadE_ok h (hv p) e1
    exact⟨val,run_sure q1,q2⟩
  obtain⟨v,g1,g2⟩:=one
  refine⟨v::vs,?_,v,vs,rfl,g2,h2⟩
  rw[List.mapM_cons]
  simp only[Sem.run_bind,g1,Result.andThen_ok,h1,Sem.run_pure]
theorem results_ok{fn:Func}{a:Act}{w:World}{vs:List Value}(h:(fn.results.toList.mapM (retF a.tmps)).run P w=.ok vs w):(results fn a.tmps).run P w=.ok (tupV vs) w:=by
 have e:results fn a.tmps=(do let vs ←fn.results.mapM (retF a.tmps);pure (if h:vs.size=1 then vs[0]else .tuple vs)):=rfl
 rw[e,Array.mapM_eq_mapM_toList,map_eq_pure_bind]
 simp only[Sem.run_bind,h,Result.andThen_ok,Sem.run_pure]
 match vs with
 | []=>rfl
 | [x]=>rfl
 |x::y::r=>simp[tupV]
theorem frz_fits{b:Bool}{t:T}{x:D}{v:Value}(h:T.frz b t=some x)(hf:fitsT t v):fits x v:=by
 cases t with
 |d y=>simp only[T.frz,xJ]at h;subst h;exact fits_norm hf
 |own es=>simp only[T.frz,xM]at h;obtain⟨l,_,rfl⟩:=h;exact hf
 |agg cs=>simp only[T.frz,xM]at h;obtain⟨l,_,rfl⟩:=h;exact hf
 |dead=>simp[T.frz]at h
theorem RetAll.frz{c c':Cx}(hx:Ext c c'):∀(ts:List T) (vs:List Value) (M:List Nat) (xs:List D),T.frzs false ts=some xs→Pure c c' false M→RetAll c ts vs M→RetAll c' (xs.map T.d) vs []
 | [],vs,M,xs,e,_,h=>by
  simp only[T.frzs,xJ]at e
  subst e
  obtain⟨rfl,rfl⟩:=h
  exact⟨rfl,rfl⟩
 |t::ts,vs,M,xs,e,hp,h=>by
  simp only[T.frzs,xB,xM]at e
  obtain⟨x,e1,ys,e2,rfl⟩:=e
  obtain⟨v,r,M1,M2,rfl,rfl,h3,h4,h5⟩:=h
  exact⟨v,_,[],[],rfl,rfl,by simp only[TC];exact⟨trivial,T.frz_ok hx false t x _ M1 e1 hp.left h3⟩,frz_fits e1 h4,RetAll.frz hx ts r M2 ys e2 hp.right h5⟩
theorem RetAll.lend{c:Cx}(hm:∀b,c.pm false b→c.pm true b):∀(xs:List D) (vs:List Value),RetAll c (xs.map T.d) vs []→RetAll c ((D.lends xs).map T.d) vs []
 | [],vs,h=>h
 |x::xs,vs,h=>by
  obtain⟨v,r,M1,M2,rfl,hM,h3,h4,h5⟩:=h
  obtain⟨rfl,rfl⟩:M1=[]∧M2=[]:=by simpa using hM.symm
  simp only[TC]at h3
  exact⟨v,r,[],[],rfl,rfl,by simp only[TC];exact⟨trivial,VC.lend hm _ _ h3.2⟩,fits_lend h4,RetAll.lend hm xs r h5⟩
theorem RetAll.canon{c:Cx}(hm:∀b,c.pm false b→c.pm true b){sn:Bool}{xs:List D}{vs:List Value}(h:RetAll c (xs.map T.d) vs []):RetAll c ((canon sn xs).map T.d) vs []:=by
 unfold Go.Am.canon
 split
 ·exact h
 ·exact RetAll.lend hm xs vs h
theorem leave_ok{fn:Func}{s:St}{a:Act}{w:World}{ex:Ex}{own:Bool}{rs:List T}{H2:List Ob}(hs:SR A s a w)(hex:ex=.normal∨ex=.ret)(e:leave P own fn A.n0 (ex,s)=some (rs,H2)):
  isPanT rs=false∧∃v,(results fn a.tmps).run P w=.ok v w∧Over A H2 rs v w:=by
 have e':((retVals P s fn.results.toList).bind fun vs=>(absorbQ vs s.wk).bind fun(ts,k)=>(settle own ts).bind fun ts=>if isPanT ts=true then none else some (ts,trunc A.n0 ts k.H))=some (rs,H2):=by
  rcases hex with rfl |rfl <;>exact e
 simp only[xB]at e'
 obtain⟨svs,e1,⟨ts1,k⟩,e2,ts,e3,e4⟩:=e'
 simp only at e3 e4
 split at e4
 ·cases e4
 rename_i hnp
 simp only[xJ,pJ]at e4
 obtain⟨rfl,rfl⟩:=e4
 refine⟨by simpa using hnp,?_⟩
 obtain⟨ρ,S,hd,h,hv⟩:=hs
 obtain⟨vs,h1,h2⟩:=retVals_ok h hv _ _ e1
 refine⟨_,results_ok h1,?_⟩
 have hk:KR A ρ S hd [] s.wk (svs.zip vs) w:=h.withVals (fun p hp=>by
  have:∀(svs:List SV) (vs:List Value),All2 (fun u v=>SO (cxOf A s.H.length ρ S [] w) s.wk.get hd u v) svs vs→∀p∈svs.zip vs,SO (cxOf A s.H.length ρ S [] w) s.wk.get hd p.1 p.2:=by
   intro svs
   induction svs with
   |nil=>intro vs _ p hp;simp at hp
   |cons u us ih=>
    intro vs ha p hp
    obtain⟨v,r,rfl,q1,q2⟩:=ha
    rcases List.mem_cons.1 hp with rfl |hp
    ·exact q1
    ·exact ih r q2 p hp
  exact this svs vs h2 p hp)
 have hall:All2 (fun u v=>(u,v)∈svs.zip vs) svs vs:=by
  have:∀(svs:List SV) (vs:List Value) (L:List (SV×Value)),All2 (fun u v=>SO (cxOf A s.H.length ρ S [] w) s.wk.get hd u v) svs vs→(∀p∈svs.zip vs,p∈L)→All2 (fun u v=>(u,v)∈L) svs vs:=by
   intro svs
   induction svs with
   |nil=>intro vs L ha _;exact ha
   |cons u us ih=>
    intro vs L ha hL
    obtain⟨v,r,rfl,q1,q2⟩:=ha
    exact⟨v,r,rfl,hL _ (by simp),ih r L q2 (fun p hp=>hL p (by simp[hp]))⟩
  exact this svs vs _ h2 (fun p hp=>hp)
 obtain⟨S1,M1,g1,g2,g3,g4⟩:=absorbQ_ok svs vs ts1 s.wk k S [] hk hall e2
 rw[List.append_nil]at g1 g2 g3
 have settled:∃M,KR A ρ S1 hd M k (svs.zip vs) w∧RetAll (cxOf A k.H.length ρ S1 M w) ts vs M:=by
  unfold settle at e3
  split at e3
  ·simp only[xJ]at e3
   subst e3
   exact⟨M1,g1,RetAll.fresh _ _ _ g3⟩
  ·simp only[xM]at e3
   obtain⟨xs,e3,rfl⟩:=e3
   obtain⟨q1,q2⟩:=g1.letGo (fl':=[]) (by simp) (by simp)
   refine⟨[],q1,RetAll.canon (cxOf_mono _ _ _ _ _ _) (RetAll.frz q2 ts1 vs M1 xs e3 (fun g hg=> ?_) g3)⟩
   have hb:=g1.blk g (.inr hg)
   refine⟨⟨fun ho=> ?_,hb.2.1 _,hb.1⟩,rfl⟩
   rcases ho with⟨r,ho⟩ |ho
   ·exact g1.dis.oneF r g ho hg
   ·simp at ho
 clear g1 g2 g3
 obtain⟨M,g1,g3⟩:=settled
 have hn:=g1.rho.1
 have full:∃S',KR A ρ S' hd M {ct:=[],H:=k.H} [] w∧RetAll (cxOf A k.H.length ρ S' M w) ts vs M:=by
  obtain⟨S',q1,q2⟩:=g1.cut (n2:=k.H.length) (Nat.le_refl _) hn (.inl rfl)
  rw[List.take_length]at q1
  exact⟨S',q1,RetAll.ext q2 _ _ _ (fun _ _=>rfl) g3⟩
 unfold trunc
 split
 ·obtain⟨S',q1,q2⟩:=full
  exact⟨ρ,S',hd,M,vs,q1,q2,rfl⟩
 ·split
  ·rename_i hl
   obtain⟨hl1,hl2⟩:=hl
   obtain⟨S',q1,q2⟩:=g1.cut (n2:=A.n0) hn (Nat.le_refl _) (.inr (fun ob hob=>List.all_eq_true.1 hl2 ob hob))
   have hlen:(k.H.take A.n0).length=A.n0:=by simp;omega
   exact⟨ρ,S',hd,M,vs,q1,by rw[hlen];exact RetAll.ext q2 _ _ _ (fun _ _=>rfl) (RetAll.lo _ _ _ hl1 g3),rfl⟩
  ·obtain⟨S',q1,q2⟩:=full
   exact⟨ρ,S',hd,M,vs,q1,q2,rfl⟩
theorem leave_pan{s:St}{a:Act}{w:World}{d:D}{x:Value}(hs:SR A s a w)(hx:∀c,VV c d x):Over A (trunc A.n0 [.d d] s.H) [.d d,.agg []] (.tuple #[x,.agg #[]]) w:=by
 obtain⟨ρ,S,hd,h,_⟩:=hs
 have ret:∀c,RetAll c [.d d,.agg []] [x,.agg #[]] []:=fun c=>⟨x,[.agg #[]],[],[],rfl,rfl,by simp only[TC];exact⟨trivial,(hx c).1⟩,(hx c).2,.agg #[],[],[],[],rfl,rfl,by simp[TC,TCs,Value.cells],⟨#[],rfl⟩,rfl,rfl⟩
 have hn:A.n0≤s.H.length:=h.rho.1
 have full:∃S',KR A ρ S' hd [] {ct:=[],H:=s.H} [] w:=by
  obtain⟨S',q1,q2⟩:=h.cut (n2:=s.H.length) (Nat.le_refl _) hn (.inl rfl)
  rw[show List.take s.H.length s.wk.H=s.H from List.take_length]at q1
  exact⟨S',q1⟩
 unfold trunc
 split
 ·obtain⟨S',q1⟩:=full
  exact⟨ρ,S',hd,[],_,q1,ret _,rfl⟩
 ·split
  ·rename_i hl
   obtain⟨hl1,hl2⟩:=hl
   obtain⟨S',q1,q2⟩:=h.cut (n2:=A.n0) hn (Nat.le_refl _) (.inr (fun ob hob=>List.all_eq_true.1 hl2 ob hob))
   exact⟨ρ,S',hd,[],_,q1,ret _,rfl⟩
  ·obtain⟨S',q1⟩:=full
   exact⟨ρ,S',hd,[],_,q1,ret _,rfl⟩
theorem body_ok{G:Nat→Option D}(hc:CallOK P G call)(hgl:∀g d,hint.gl g=some d→G g=some d)(hm:P.follows .mixedOrders=true)(fuel:Nat){f:FuncId}{fn:Func}{c:Code}(hf:P.funcs[f]? =some fn)(hb:fn.body=some c){args:Array Value}(hG:GA G A){s s':St}{ex:Ex}{own:Bool}{rs:List T}{H2:List Ob}
  (hs:SR A s {tmps:=args++Array.replicate (fn.ntmps - args.size) undef,defers:=[]} A.w0) (hk:codeOk (args++Array.replicate (fn.ntmps - args.size) undef).size c=true) (e1:codeN P call hint fuel c s=some (ex,s')) (e2:leave P own fn A.n0 (ex,s')=some (rs,H2)):
  Calls P f args A.w0 fun e w'=>∃v,Ends (isPanT rs) e v∧Over A H2 rs v w':=by
 refine callsIn_fw.1 (callsIn_of_wp_marks (F:=FW none) (n:=0) hf hb trivial (codeN_ok hc hgl hm fuel (.inr rfl) c hG e1 hs hk fun A' a' w' x l1 G1 g1 g2 g3=> ?_))
 obtain⟨l,hdef,hnd,hmk⟩:=g2.mks
 simp only[List.append_nil]at hdef
 have now:∀b∈l,w'.heap[b]? =some (.deferred (some [])):=fun b hb=>by
  obtain⟨ρ,S,hd,h,_⟩:=g1
  exact(hmk b hb).2.now h.fr
 have up:∀w'',Shut l w' w''→SR A s' a' w'':=fun w'' sh=>SR.upW l1 g1 sh.os sh.tape sh.output sh.size (fun b=>(sh.same b).imp id fun q=>⟨(hmk b q).1,(hmk b q).2.1⟩) sh.recs
 cases ex with
 |exit id=>simp[leave]at e2
 |normal=>
  have hz:x=.normal:=g3
  subst hz
  show LeavesInM _ _ _ _ _ _ _ _ _
  rw[hdef,←List.append_nil (l.map mkD)]
  refine leavesM (by simp) l w' hnd now fun w'' sh=> ?_
  obtain⟨q1,v,q2,q3⟩:=leave_ok (up w'' sh) (.inl rfl) e2
  exact⟨v,q2,v,by unfold Ends;rw[q1,if_neg (by simp)],q3⟩
 |ret=>
  have hz:x=.ret:=g3
  subst hz
  show LeavesInM _ _ _ _ _ _ _ _ _
  rw[hdef,←List.append_nil (l.map mkD)]
  refine leavesM (by simp) l w' hnd now fun w'' sh=> ?_
  obtain⟨q1,v,q2,q3⟩:=leave_ok (up w'' sh) (.inr rfl) e2
  exact⟨v,q2,v,by unfold Ends;rw[q1,if_neg (by simp)],q3⟩
 |pan d=>
  obtain⟨v,rfl,hv⟩:=g3
  simp only[leave,xJ,pJ]at e2
  obtain⟨rfl,rfl⟩:=e2
  show LeavesInM _ _ _ _ _ _ _ _ _
  rw[hdef,←List.append_nil (l.map mkD)]
  refine leavesM (by simp) l w' hnd now fun w'' sh=> ?_
  exact⟨.tuple #[v,.agg #[]],by unfold Ends;rw[if_pos (show isPanT [.d d,.agg []]=true from rfl)];exact⟨v,rfl,rfl⟩,leave_pan (up w'' sh) hv⟩
theorem look_enter(ds:List D)(vs:List Value)(t:Nat){c:Cx}{K:Root→Option T}{hd:Root→Value}(h:VVs c ds vs):∀j,SO c K hd ((look ((ds.zipIdx j).map fun p=>(p.2,SV.d p.1)) t).getD .dead) ((if j≤t then vs[t - j]? else none).getD undef):=by
 induction ds generalizing vs with
 |nil=>intro j;trivial
 |cons d ds ih=>
  intro j
  simp only[VVs]at h
  obtain⟨v,r,rfl,h1,h2,h3⟩:=h
  simp only[List.zipIdx_cons,List.map_cons,look]
  by_cases hj:j=t
  ·subst hj
   rw[if_pos rfl,if_pos (Nat.le_refl _),Nat.sub_self]
   exact(⟨h1,h2⟩:VV c d v)
  ·rw[if_neg hj]
   have:=ih r h3 (j+1)
   by_cases hlt:j≤t
   ·rw[if_pos (by omega)]at this
    rw[if_pos hlt,show t - j=(t - (j+1))+1 by omega,List.getElem?_cons_succ]
    exact this
   ·rw[if_neg (by omega)]at this
    rw[if_neg hlt]
    exact this
theorem enter_ok{ds:List D}{H:List Ob}{args:Array Value}{S:Root→List Nat}{hd:Root→Value}{n:Nat}(h:KR A A.ρ0 S hd [] {ct:=[],H} [] A.w0)(ha:VVs (cxOf A H.length A.ρ0 S [] A.w0) ds args.toList):
  SR A (enter ds H) {tmps:=args++Array.replicate (n - args.size) undef,defers:=[]} A.w0:=by
 refine⟨A.ρ0,S,hd,h,fun t=> ?_⟩
 have:=look_enter (K:=(enter ds H).wk.get) (hd:=hd) ds args.toList t ha 0
 simp only[Nat.zero_le,if_true,Nat.sub_zero]at this
 have e2:((args++Array.replicate (n - args.size) undef).getD t undef)=(args.toList[t]?).getD undef:=by
  rw[yM]
  by_cases hlt:t<args.size
  ·rw[yB,Array.getElem?_append_left hlt]
  ·rw[yB,Array.getElem?_append_right (by omega),Array.getElem?_eq_none (xs:=args) (by omega)]
   by_cases h2:t - args.size<n - args.size
   ·rw[Array.getElem?_replicate,if_pos h2];rfl
   ·rw[Array.getElem?_replicate,if_neg h2]
 show SO _ _ _ ((look (ds.zipIdx.map fun p=>(p.2,SV.d p.1)) t).getD .dead) _
 rw[e2]
 exact this
theorem enterE_ok{b:Bool}{H:List Ob}{args:Array Value}{S:Root→List Nat}{hd:Root→Value}{n:Nat}{v:Value}(h:KR A A.ρ0 S hd [] {ct:=[],H} [] A.w0)(ha:args.toList=[v])(hv:∃a cap,v=.slice a 0 cap∧b=a.isNone):
  SR A (enterE b H) {tmps:=args++Array.replicate (n - args.size) undef,defers:=[]} A.w0:=by
 refine⟨A.ρ0,S,hd,h,fun t=> ?_⟩
 have hs:args.size=1:=by rw[←yF,ha];rfl
 show SO _ _ _ ((look [(0,SV.ns b)] t).getD .dead) _
 by_cases ht:t=0
 ·subst ht
  have:((args++Array.replicate (n - args.size) undef).getD 0 undef)=v:=by
   rw[yB,Array.getElem?_append_left (by omega),←yM,ha];rfl
  rw[this]
  exact hv
 ·have:(look [(0,SV.ns b)] t).getD .dead=.dead:=by
   simp only[look]
   rw[if_neg fun e=>ht e.symm];rfl
  rw[this]
  trivial
theorem over_flag{A:Av}{H2:List Ob}{c:Bool}{v:Value}{w':World}(h:Over A H2 [.d (.sl false [])] v w'):Over A H2 [.d (.sl c [])] v w':=by
 obtain⟨ρ',S',hd',M,vs,h1,h2,h3⟩:=h
 refine⟨ρ',S',hd',M,vs,h1,?_,h3⟩
 simp only[RetAll]at h2 ⊢
 obtain⟨u,r,M1,M2,e1,e2,h4,h5,h6⟩:=h2
 refine⟨u,r,M1,M2,e1,e2,?_,h5,h6⟩
 simp only[TC,VC]at h4 ⊢
 obtain⟨q,a,len,cap,q1,q2,q3,_⟩:=h4
 exact⟨q,a,len,cap,q1,q2,q3,fun h=>absurd rfl h⟩
theorem allLock_eq:∀{H:List Ob},allLock H=true→H=List.replicate H.length .lock
 | [],_=>rfl
 |o::H,h=>by
  simp only[allLock,List.all_cons,xA]at h
  have h1:=allLock_eq (H:=H) h.2
  cases o with
  |lock=>simp only[xZ,List.replicate_succ];rw[←h1]
  |_=>cases h.1
theorem VVs.len{c:Cx}:∀(l:List D) (vs:List Value),VVs c l vs→vs.length=l.length
 | [],vs,h=>by simp only[VVs]at h;simp[h]
 |d::ds,vs,h=>by
  simp only[VVs]at h
  obtain⟨v,r,rfl,_,_,h3⟩:=h
  simp[VVs.len ds r h3]
theorem opsOk_mono{n m:Nat}(h:n≤m){ops:Array Oper}(hk:opsOk n ops=true):opsOk m ops=true:=by
 refine List.all_eq_true.2 fun o ho=> ?_
 have:=List.all_eq_true.1 hk o ho
 cases hd:o.dst with
 |none=>rfl
 |some d=>
  simp only[hd,yD]at this ⊢
  exact yA this h
theorem codeOk_mono{n m:Nat}(h:n≤m):∀(c:Code),codeOk n c=true→codeOk m c=true
 | .region _ ops _,hk=>opsOk_mono h hk
 | .seq a b,hk=>by simp only[codeOk,xA]at hk ⊢;exact⟨codeOk_mono h a hk.1,codeOk_mono h b hk.2⟩
 | .cond _ a b,hk=>by simp only[codeOk,xA]at hk ⊢;exact⟨codeOk_mono h a hk.1,codeOk_mono h b hk.2⟩
 | .block _ c,hk=>codeOk_mono h c hk
 | .loop c,hk=>codeOk_mono h c hk
 | .scope c,hk=>codeOk_mono h c hk
 | .skip,_=>rfl
 | .rangeFunc _ ps a b,hk=>by
  simp only[codeOk,xA,List.all_eq_true,yD]at hk ⊢
  exact⟨⟨fun t ht=>yA (hk.1.1 t ht) h,codeOk_mono h a hk.1.2⟩,codeOk_mono h b hk.2⟩
 | .exit _,_=>rfl
 | .label _,_=>rfl
 | .goto _,_=>rfl
 | .ret,_=>rfl
 | .refuse _,_=>rfl
end
end Go.Am
namespace Go.Am
open Go Go.RowKit
section
variable{P:Program}{A A':Av}{ρ:Nat→Nat}{S:Root→List Nat}{hd:Root→Value}{fl:List Nat}{k k':Wk}{vals:List (SV×Value)}{w:World}{G:Nat→Option D}
theorem GA.rebW(hG:GA G A)(h:KR A ρ S hd [] k vals w){w':World}(hsz:w'.heap.size=w.heap.size)(hsame:∀b,w'.heap[b]? =w.heap[b]? ∨∀t,A.F t b):GA G (A.reb S [] [] w' k.H.length ρ):=fun g d e=>by
 obtain⟨q1,q2,q3⟩:=hG.now h e
 obtain⟨_,_,h3,vs,h4,h5⟩:=hG g d e
 have q4:w'.heap[g]? =w.heap[g]? :=(hsame g).resolve_right fun q=>h3 true (q true)
 refine⟨by show g<w'.heap.size;rw[hsz];exact q2,q1,fun t ht=>ht.elim (h3 t) (by simp),vs,h4.same (q4.trans q3),h5⟩
theorem roundN_ok{call:CallF}(hc:CallOK P G call)(hints:FuncId→Hint)(hgl:∀f g d,(hints f).gl g=some d→G g=some d)(hm:P.follows .mixedOrders=true)(n:Nat){o:Nat}{ds:List D}{H:List Ob}{rs:List T}{H2:List Ob}(e:roundN P call hints n o ds H=some (rs,H2)){args:Array Value}(hA:A.n0=H.length)(hG:GA G A)(hkr:KR A A.ρ0 S hd [] {ct:=[],H} [] A.w0)(hargs:VVs (cxOf A H.length A.ρ0 S [] A.w0) ds args.toList):
  CallsY P A.ρ0 (YB+o) args A.w0 fun e w'=>∃v,Ends (isPanT rs) e v∧Over A H2 rs v w':=by simp[roundN]at e
end
end Go.Am
namespace Go.Am
open Go Go.RowKit
section
variable{P:Program}{A A':Av}{ρ:Nat→Nat}{S:Root→List Nat}{hd:Root→Value}{fl:List Nat}{k k':Wk}{vals:List (SV×Value)}{w:World}{G:Nat→Option D}
theorem recN_ok{call:CallF}(hc:CallOK P G call){hints:FuncId→Hint}(hgl:∀f g d,(hints f).gl g=some d→G g=some d)(hm:P.follows .mixedOrders=true)(n:Nat){f:FuncId}{fn:Func}{c:Code}{nt:Nat}(hf:P.funcs[f]? =some fn)(hb:fn.body=some c){args:Array Value}(hG:GA G A){s s':St}{ex:Ex}{own:Bool}{rs:List T}{H2:List Ob}
  (hs:SR A s {tmps:=args++Array.replicate (fn.ntmps - args.size) undef,defers:=[]} A.w0) (hk:codeOk (args++Array.replicate (fn.ntmps - args.size) undef).size c=true) (e1:recN P call hints n f c nt s=some (ex,s')) (e2:leave P own fn A.n0 (ex,s')=some (rs,H2)):
  Calls P f args A.w0 fun e w'=>∃v,Ends (isPanT rs) e v∧Over A H2 rs v w':=by simp[recN]at e1
end
end Go.Am
namespace Go.Am
open Go Go.RowKit
section
variable{P:Program}{A:Av}{G:Nat→Option D}
theorem enterR_ok{ds:List D}{es:List T}{v:Value}{vs:List Value}{S:Root→List Nat}{hd:Root→Value}{n:Nat}(h:KR A A.ρ0 S hd [] {ct:=[((0,0),.own es)],H:=[]} [] A.w0)
  (hs:SB (cxOf A 0 A.ρ0 S [] A.w0) ({ct:=[((0,0),.own es)],H:=[]}:Wk).get hd (.bor (.l 0 0) [] 0 es.length) v) (ha:VVs (cxOf A 0 A.ρ0 S [] A.w0) ds vs):
  SR A (enterR es ds) {tmps:=(v::vs).toArray++Array.replicate (n - (v::vs).toArray.size) undef,defers:=[]} A.w0:=by
 refine⟨A.ρ0,S,hd,h,fun t=> ?_⟩
 have e2:(((v::vs).toArray++Array.replicate (n - (v::vs).toArray.size) undef).getD t undef)=((v::vs)[t]?).getD undef:=by
  generalize ha:(v::vs).toArray=args
  have e3:v::vs=args.toList:=by rw[←ha]
  rw[e3,yM]
  by_cases hlt:t<args.size
  ·rw[yB,Array.getElem?_append_left hlt]
  ·rw[yB,Array.getElem?_append_right (by omega),Array.getElem?_eq_none (xs:=args) (by omega)]
   by_cases h2:t - args.size<n - args.size
   ·rw[Array.getElem?_replicate,if_pos h2];rfl
   ·rw[Array.getElem?_replicate,if_neg h2]
 have e4:(enterR es ds).env=(0,.bor (.l 0 0) [] 0 es.length)::(ds.zipIdx 1).map fun p=>(p.2,SV.d p.1):=by
  simp only[enterR]
  rw[List.zipIdx_succ,List.map_map]
  rfl
 show SO _ _ _ ((look (enterR es ds).env t).getD .dead) _
 rw[e2,e4]
 simp only[look]
 by_cases ht:0=t
 ·subst ht
  exact hs
 ·rw[if_neg ht]
  have:=look_enter (K:=(enterR es ds).wk.get) (hd:=hd) ds vs t ha 1
  rw[if_pos (by omega)]at this
  cases t with
  |zero=>exact absurd rfl ht
  |succ t=>exact this
def ExtOK(P:Program)(G:Nat→Option D)(f:FuncId)(F:List D→Option (List T)):Prop:=
 Enters P f∧∀ds rs (H:List Ob),F ds=some rs→isPanT rs=false→∀(A:Av) (S:Root→List Nat) (hd:Root→Value) (args:Array Value),A.n0=H.length→GA G A→KR A A.ρ0 S hd [] {ct:=[],H} [] A.w0→VVs (cxOf A H.length A.ρ0 S [] A.w0) ds args.toList→
  CallsY P A.ρ0 f args A.w0 fun e w'=>∃v,Ends false e v∧Over A H rs v w'
theorem callN_ok(hm:P.follows .mixedOrders=true)(hints:FuncId→Hint)(hgl:∀f g d,(hints f).gl g=some d→G g=some d)(hext:∀f F,(hints f).ext=some F→ExtOK P G f F):∀n,CallOK P G (callN P hints n)
 |0=>⟨fun f ds H r e=>by simp[callN]at e,fun f ds H rs H2 e=>by simp[callN]at e,fun f ds es rs H2 e=>by simp[callN]at e⟩
 |n+1=>by
  have ih:=callN_ok hm hints hgl hext n
  refine⟨fun f ds H r e=> ?_,fun f ds H rs H2 e A S hd args hA hG hkr hargs=> ?_,fun f ds es rs H2 e h0 hy har A S hd v vs hA hG hkr hs hargs=> ?_⟩
  ·simp only[callN]at e
   split at e
   ·rename_i hy;exact .inl hy
   split at e
   ·rename_i F hF
    exact(hext f F hF).1
   ·simp only[xB]at e
    obtain⟨fn,hf,c,hb,e⟩:=e
    split at e
    ·rename_i hh
     exact .inr ⟨fn,hf,by rw[hb];rfl,hh.2.2⟩
    ·split at e
     ·rename_i hh
      exact .inr ⟨fn,hf,by rw[hb];rfl,hh.2.2⟩
     ·cases e
  rotate_left
  ·simp only[callN]at e
   rw[if_neg hy]at e
   split at e
   ·simp only[xB]at e
    obtain⟨rs',_,e⟩:=e
    split at e
    ·cases e
    ·simp only[xJ,pJ]at e
     obtain⟨_,rfl⟩:=e
     simp at h0
   ·simp only[xB]at e
    obtain⟨fn,hf,c,hb,e⟩:=e
    rw[hf,xQ,xJ]at har
    rw[if_neg (fun q=>by omega)]at e
    split at e
    ·rename_i hh
     simp only[rowOf,xS,xB]at e
     obtain⟨⟨ex,s'⟩,e1,e2⟩:=e
     rw[←hA]at e2
     exact body_ok ih (hgl f) hm n hf hb hG (enterR_ok hkr hs hargs) (codeOk_mono (by simp;omega) c hh.2.1) e1 e2
    ·cases e
  simp only[callN]at e
  split at e
  ·rename_i hy
   obtain⟨o,rfl⟩:=Nat.exists_eq_add_of_le hy
   rw[Nat.add_sub_cancel_left]at e
   exact roundN_ok ih hints hgl hm n e hA hG hkr hargs
  rename_i hy
  split at e
  ·rename_i F hF
   simp only[xB]at e
   obtain⟨rs',e1,e⟩:=e
   split at e
   ·cases e
   rename_i hp
   simp only[xJ,pJ]at e
   obtain⟨rfl,rfl⟩:=e
   have hp':isPanT rs'=false:=by simpa using hp
   rw[hp']
   exact(hext f F hF).2 ds rs' H e1 hp' A S hd args hA hG hkr hargs
  unfold CallsY
  rw[if_neg hy]
  simp only[xB]at e
  obtain⟨fn,hf,c,hb,e⟩:=e
  split at e
  ·rename_i hh
   obtain⟨hl,hk,hnm⟩:=hh
   have hk':codeOk (args++Array.replicate (fn.ntmps - args.size) undef).size c=true:=codeOk_mono (by simp;omega) c hk
   split at e
   ·rename_i hrcv
    simp only[xB]at e
    obtain⟨⟨ex,s'⟩,e1,e2⟩:=e
    rw[←hA]at e2
    exact recN_ok ih hgl hm n hf hb hG (enter_ok hkr hargs) hk' e1 e2
   by_cases hnil:(decide ((hints f).nilt≠0)&&emptyArg ds)=true
   ·rw[if_pos hnil]at e
    obtain⟨t1,t2,H1,H2',ht,q1,q2,l1,l2,m1,m2,hr⟩:=bothE_some e
    obtain⟨b0,rfl⟩:∃b0,ds=[.sl b0 []]:=by
     simp only[xA]at hnil
     have h2:=hnil.2
     unfold emptyArg at h2
     split at h2
     ·exact⟨_,rfl⟩
     ·cases h2
    obtain⟨v,hv1,a,cap,rfl⟩:∃v,args.toList=[v]∧∃a cap,v=.slice a 0 cap:=by
     simp only[VVs]at hargs
     obtain⟨v,r,h1,h2,h3,rfl⟩:=hargs
     have h4:=VV.inv (c:=_) ⟨h2,h3⟩ (by simp)
     simp only[VC,xC,and_true]at h4
     obtain⟨a,len,cap,rfl,rfl,_⟩:=h4
     exact⟨_,h1,a,cap,rfl⟩
    have go:∀(b:Bool) (Hb:List Ob),b=a.isNone→allLock Hb=true→Hb.length=H.length→(codeN P (callN P hints n) (hints f) n c (enterE b H)).bind (leave P (hints f).own fn H.length)=some ([t1],Hb)→
      Calls P f args A.w0 fun e w'=>∃v,Ends (isPanT rs) e v∧Over A H2 rs v w':=by
     intro b Hb hba hlk hlen hrun
     obtain rfl:Hb=H2:=by rw[allLock_eq hlk,hlen];exact(congrArg Prod.snd hr).symm
     obtain rfl:rs=[t2]:=congrArg Prod.fst hr
     have told:∀{v w'},Over A Hb [t1] v w'→Over A Hb [t2] v w':=fun q=>by
      rcases ht with⟨rfl,rfl⟩ |⟨rfl,rfl⟩
      ·exact over_flag q
      ·exact q
     simp only[xB]at hrun
     obtain⟨⟨ex,s'⟩,e1,e2⟩:=hrun
     rw[←hA]at e2
     have hp:isPanT [t1]=false∧isPanT [t2]=false:=by
      rcases ht with⟨rfl,rfl⟩ |⟨rfl,rfl⟩ <;>exact⟨rfl,rfl⟩
     refine Calls.mono (body_ok ih (hgl f) hm n hf hb hG (enterE_ok hkr hv1 ⟨a,cap,rfl,hba⟩) hk' e1 e2) fun en w' he=> ?_
     obtain⟨v,h1,h2⟩:=he
     rw[hp.1]at h1
     exact⟨v,by rw[hp.2];exact h1,told h2⟩
    cases hn:a.isNone with
    |true=>exact go true H1 hn.symm l1 m1 q1
    |false=>exact go false H2' hn.symm l2 m2 q2
   rw[if_neg hnil]at e
   simp only[xB]at e
   obtain⟨⟨ex,s'⟩,e1,e2⟩:=e
   rw[←hA]at e2
   exact body_ok ih (hgl f) hm n hf hb hG (enter_ok hkr hargs) hk' e1 e2
  ·split at e
   ·simp only[xB]at e
    obtain⟨es,he,_⟩:=e
    unfold rowOf at he
    split at he
    ·obtain⟨_,_,q⟩:=hkr.map 0 _ rfl rfl
     exact q.elim
    ·cases he
   ·cases e
end
end Go.Am
namespace Go.Am
open Go
def CallLe(c c':CallF):Prop:=∀f ds H r,c f ds H=some r→c' f ds H=some r
section
variable{P:Program}{c c':CallF}{h:Hint}
theorem callE0_mono(hc:CallLe c c'){dst:Nat}{f:FuncId}{ds:List D}{b:Lend}{k:Wk}{r:SV×Wk}(e:callE0 c h dst f ds b k=some r):callE0 c' h dst f ds b k=some r:=by
 unfold callE0 at e ⊢
 split at e
 ·rename_i hk
  rw[if_pos hk]
  simp only[xB]at e ⊢
  obtain⟨x,e1,e2⟩:=e
  exact⟨x,hc _ _ _ _ e1,e2⟩
 rename_i hk0
 rw[if_neg hk0]
 split at e
 ·cases e
 ·rename_i hk
  rw[if_neg hk]
  simp only[xB]at e ⊢
  obtain⟨x,e1,e2⟩:=e
  exact⟨x,hc _ _ _ _ e1,e2⟩
theorem callE_mono(hc:CallLe c c'){dst:Nat}{f:FuncId}{ds:List D}{b:Lend}{k:Wk}{r:SV×Wk}(e:callE c h dst f ds b k=some r):callE c' h dst f ds b k=some r:=by
 unfold callE at e ⊢
 split at e
 ·rename_i hro
  simp only[xB]at e
  obtain⟨ds',e1,e⟩:=e
  rw[if_pos hro,e1]
  exact callE0_mono hc e
 ·rename_i hro
  rw[if_neg hro]
  split at e
  ·rename_i hl
   rw[if_pos hl]
   exact callE0_mono hc e
  ·rename_i hl
   rw[if_neg hl]
   exact callE0_mono hc e
theorem stepE_mono(hc:CallLe c c'){dst:Nat}{ty:TypeId}{op:Op}{σ:Operand→SV}{k:Wk}{r:SV×Wk}(e:stepE P c h dst ty op σ k=some r):stepE P c' h dst ty op σ k=some r:=by
 unfold stepE at e ⊢
 split at e
 ·simp only
  split at e
  ·split at e
   ·cases e
   ·rename_i hy
    rw[if_neg hy]
    split at e
    ·exact e
    simp only[xB]at e ⊢
    obtain⟨x,e1,y,e2,e3⟩:=e
    exact⟨x,e1,y,callE_mono hc e2,e3⟩
  ·simp only[xB]at e ⊢
   obtain⟨x,e1,y,e2,e3⟩:=e
   exact⟨x,e1,y,callE_mono hc e2,e3⟩
  ·cases e
 ·exact e
theorem mvE_mono(hc:CallLe c c'){dst:Nat}{g:FuncId}{xs:List SV}{k:Wk}{r:SV×Wk}(e:mvE P c h dst g xs k=some r):mvE P c' h dst g xs k=some r:=by
 unfold mvE at e ⊢
 cases xs with
 |nil=>cases e
 |cons x l=>
  simp only[xB]at e ⊢
  obtain⟨y,e1,e⟩:=e
  refine⟨y,e1,?_⟩
  split at e
  ·rename_i hh
   rw[if_pos hh]
   simp only[xB]at e ⊢
   obtain⟨⟨t,k2⟩,e2,e⟩:=e
   refine⟨(t,k2),e2,?_⟩
   simp only at e ⊢
   split at e
   ·split at e
    ·rename_i hl
     rw[if_pos hl]
     simp only[xB]at e ⊢
     obtain⟨z,e3,e4⟩:=e
     exact⟨z,hc _ _ _ _ e3,e4⟩
    ·cases e
   ·simp only[xB]at e ⊢
    obtain⟨z,e3,e4⟩:=e
    exact⟨z,hc _ _ _ _ e3,e4⟩
   ·cases e
  ·cases e
theorem stepP_mono(hc:CallLe c c'){dst:Nat}{ty:TypeId}{op:Op}{σ:Operand→SV}{k:Wk}{r:Option D×SV×Wk}(e:stepP P c h dst ty op σ k=some r):stepP P c' h dst ty op σ k=some r:=by
 unfold stepP at e ⊢
 split at e
 ·exact e
 ·simp only
  split at e
  ·split at e
   ·cases e
   ·rename_i hy
    rw[if_neg hy]
    split at e
    ·rename_i hm
     rw[if_pos hm]
     split at e
     ·rename_i hf
      rw[if_pos hf]
      simp only[xM,xB]at e ⊢
      obtain⟨x,⟨y,e1,e2⟩,e3⟩:=e
      exact⟨x,⟨y,mvE_mono hc e1,e2⟩,e3⟩
     ·cases e
    rename_i hm
    rw[if_neg hm]
    simp only[xB]at e ⊢
    obtain⟨x,e1,y,e2,e3⟩:=e
    exact⟨x,e1,y,callE_mono hc e2,e3⟩
  ·cases e
 ·exact e
theorem evalO_mono(hc:CallLe c c'){ops:List Oper}{o:Oper}{s:St}{r:Bool×SV×Wk}(e:evalO P c h ops o s=some r):evalO P c' h ops o s=some r:=by
 simp only[evalO,xB]at e ⊢
 obtain⟨w,e1,e2⟩:=e
 refine⟨w,e1,?_⟩
 split at e2
 ·rename_i hw
  rw[if_pos hw]
  simp only[xM]at e2 ⊢
  obtain⟨x,e3,e4⟩:=e2
  exact⟨x,stepE_mono hc e3,e4⟩
 ·rename_i hw
  rw[if_neg hw];exact e2
theorem runOp_mono(hc:CallLe c c'){ops:List Oper}{o:Oper}{s s':St}(e:runOp P c h ops o s=some s'):runOp P c' h ops o s=some s':=by
 rw[runOp_evalO]at e ⊢
 simp only[xM]at e ⊢
 obtain⟨x,e1,e2⟩:=e
 exact⟨x,evalO_mono hc e1,e2⟩
theorem runOps_mono(hc:CallLe c c'){ops:List Oper}:∀(l:List Oper) {s s':St},runOps P c h ops l s=some s'→runOps P c' h ops l s=some s'
 | [],s,s',e=>e
 |o::l,s,s',e=>by
  simp only[runOps,xB]at e ⊢
  obtain⟨x,e1,e2⟩:=e
  exact⟨x,runOp_mono hc e1,runOps_mono hc l e2⟩
theorem runOpF_mono(hc:CallLe c c'){ops:List Oper}{o:Oper}{s:Cf}{r:Cf×Fp}(e:runOpF P c h ops o s=some r):runOpF P c' h ops o s=some r:=by
 simp only[runOpF,xM]at e ⊢
 obtain⟨x,e1,e2⟩:=e
 exact⟨x,evalO_mono hc e1,e2⟩
theorem runOpsF_mono(hc:CallLe c c'){ops:List Oper}:∀(l:List Oper) {s:Cf} {r:Cf×List Fp},runOpsF P c h ops l s=some r→runOpsF P c' h ops l s=some r
 | [],s,r,e=>e
 |o::l,s,r,e=>by
  simp only[runOpsF,xB,xM]at e ⊢
  obtain⟨x,e1,y,e2,e3⟩:=e
  exact⟨x,runOpF_mono hc e1,y,runOpsF_mono hc l e2,e3⟩
theorem runOpsP_mono(hc:CallLe c c'){ops:List Oper}:∀(l:List Oper) {s:St} {r:Option D×St},runOpsP P c h ops l s=some r→runOpsP P c' h ops l s=some r
 | [],s,r,e=>e
 |o::l,s,r,e=>by
  simp only[runOpsP,xB]at e ⊢
  obtain⟨w,e1,e2⟩:=e
  refine⟨w,e1,?_⟩
  split at e2
  ·rename_i hw
   rw[if_pos hw]
   simp only[xB]at e2 ⊢
   obtain⟨⟨t,v,k⟩,e3,e4⟩:=e2
   refine⟨(t,v,k),stepP_mono hc e3,?_⟩
   simp only at e4 ⊢
   split at e4
   ·exact e4
   ·exact runOpsP_mono hc l e4
  ·rename_i hw
   rw[if_neg hw];exact runOpsP_mono hc l e2
theorem treeN_mono(hc:CallLe c c'){live:List Nat}{ops:List Oper}{bs:List Nat}{s:St}:∀(t:OT) (E:List (Nat×Nat)) {r:St},treeN P c h live ops bs s t E=some r→treeN P c' h live ops bs s t E=some r:=fun _ _ _ e=>by simp[treeN]at e
theorem rangeN_mono(hc:CallLe c c'){f:Operand}{ps:List Nat}{x y:Code}{s:St}{r:Ex×St}(e:rangeN c h f ps x y s=some r):rangeN c' h f ps x y s=some r:=by simp[rangeN]at e
theorem loopN_mono{f f':St→Option (Ex×St)}(hf:∀s r,f s=some r→f' s=some r):∀(n m:Nat),n≤m→∀s r,loopN f n s=some r→loopN f' m s=some r
 |0,_,_,_,_,e=>by cases e
 |n+1,0,h,_,_,_=>by omega
 |n+1,m+1,h,s,r,e=>by
  simp only[loopN,xB]at e ⊢
  obtain⟨⟨ex,s1⟩,e1,e2⟩:=e
  refine⟨⟨ex,s1⟩,hf _ _ e1,?_⟩
  simp only at e2 ⊢
  split at e2
  ·exact loopN_mono hf n m (by omega) _ _ e2
  ·exact e2
theorem codeN_mono(hc:CallLe c c'){n m:Nat}(hn:n≤m):∀(cd:Code) (s:St) (r:Ex×St),codeN P c h n cd s=some r→codeN P c' h m cd s=some r
 | .skip,s,r,e=>e
 | .label _,s,r,e=>e
 | .ret,s,r,e=>e
 | .exit _,s,r,e=>e
 | .goto _,s,r,e=>by cases e
 | .refuse _,s,r,e=>by cases e
 | .rangeFunc _ _ _ _,s,r,e=>by
  simp only[codeN]at e ⊢
  exact rangeN_mono hc e
 | .region id ops dr,s,r,e=>by
  simp only[codeN]at e ⊢
  cases dr with
  |true=>
   simp only[if_true]at e ⊢
   split at e
   ·simp only[xB,xM]at e ⊢
    obtain⟨bs,e1,s1,e2,e3⟩:=e
    exact⟨bs,e1,s1,treeN_mono hc _ _ e2,e3⟩
   ·simp only[xB]at e ⊢
    obtain⟨x,e1,e2⟩:=e
    exact⟨x,runOpsF_mono hc _ e1,e2⟩
  |false=>
   simp only[xH,if_false]at e ⊢
   split at e
   ·rename_i hp
    rw[if_pos hp]
    simp only[xM]at e ⊢
    obtain⟨x,e1,e2⟩:=e
    exact⟨x,runOpsP_mono hc _ e1,e2⟩
   ·rename_i hp
    rw[if_neg hp]
    simp only[xM]at e ⊢
    obtain⟨x,e1,e2⟩:=e
    exact⟨x,runOps_mono hc _ e1,e2⟩
 | .seq a b,s,r,e=>by
  simp only[codeN,xB]at e ⊢
  obtain⟨⟨ex,s1⟩,e1,e2⟩:=e
  refine⟨⟨ex,s1⟩,codeN_mono hc hn a _ _ e1,?_⟩
  simp only at e2 ⊢
  split at e2
  ·exact codeN_mono hc hn b _ _ e2
  ·exact e2
 | .cond o a b,s,r,e=>by
  simp only[codeN]at e ⊢
  split at e
  ·split at e
   ·rename_i ht;rw[if_pos ht];exact codeN_mono hc hn a _ _ e
   ·rename_i ht;rw[if_neg ht];exact codeN_mono hc hn b _ _ e
  ·cases e
 | .block id a,s,r,e=>by
  simp only[codeN,xM]at e ⊢
  obtain⟨x,e1,e2⟩:=e
  exact⟨x,codeN_mono hc hn a _ _ e1,e2⟩
 | .loop a,s,r,e=>by
  simp only[codeN]at e ⊢
  exact loopN_mono (fun s r=>codeN_mono hc hn a s r) n m hn s r e
 | .scope a,s,r,e=>by
  simp only[codeN]at e ⊢
  exact codeN_mono hc hn a _ _ e
theorem roundN_mono(hc:CallLe c c'){hints:FuncId→Hint}{n m:Nat}(hn:n≤m){o:Nat}{ds:List D}{H:List Ob}{r:List T×List Ob}(e:roundN P c hints n o ds H=some r):roundN P c' hints m o ds H=some r:=by simp[roundN]at e
theorem recN_mono(hc:CallLe c c'){hints:FuncId→Hint}{n m:Nat}(hn:n≤m){f:FuncId}{cd:Code}{nt:Nat}{s:St}{r:Ex×St}(e:recN P c hints n f cd nt s=some r):recN P c' hints m f cd nt s=some r:=by simp[recN]at e
theorem callN_le{hints:FuncId→Hint}:∀n,CallLe (callN P hints n) (callN P hints (n+1))
 |0=>fun f ds H r e=>by cases e
 |n+1=>fun f ds H r e=>by
  have ih:=callN_le (hints:=hints) n
  rw[callN]at e ⊢
  by_cases hy:YB≤f
  ·rw[if_pos hy]at e ⊢
   exact roundN_mono ih (Nat.le_succ n) e
  rw[if_neg hy]at e ⊢
  split at e
  ·exact e
  simp only[xB]at e ⊢
  obtain⟨fn,h1,cd,h2,e⟩:=e
  refine⟨fn,h1,cd,h2,?_⟩
  split at e
  ·rename_i hh
   rw[if_pos hh]
   by_cases hr:(hints f).rcv=true
   ·rw[if_pos hr]at e ⊢
    simp only[xB]at e ⊢
    obtain⟨x,e1,e2⟩:=e
    exact⟨x,recN_mono ih (Nat.le_succ n) e1,e2⟩
   rw[if_neg hr]at e ⊢
   by_cases hnil:(decide ((hints f).nilt≠0)&&emptyArg ds)=true
   ·rw[if_pos hnil]at e ⊢
    obtain⟨t1,t2,H1,H2,ht,q1,q2,l1,l2,m1,m2,rfl⟩:=bothE_some e
    simp only[xB]at q1 q2
    obtain⟨x,e1,e2⟩:=q1
    obtain⟨y,e3,e4⟩:=q2
    show bothE H.length (flagE (hints f) ds) ((codeN P (callN P hints (n+1)) (hints f) (n+1) cd (enterE true H)).bind (leave P (hints f).own fn H.length)) ((codeN P (callN P hints (n+1)) (hints f) (n+1) cd (enterE false H)).bind (leave P (hints f).own fn H.length))=_
    rw[codeN_mono ih (Nat.le_succ n) cd _ _ e1,codeN_mono ih (Nat.le_succ n) cd _ _ e3,xS,xS,e2,e4]
    exact bothE_of ht l1 l2 m1 m2
   rw[if_neg hnil]at e ⊢
   simp only[xB]at e ⊢
   obtain⟨x,e1,e2⟩:=e
   exact⟨x,codeN_mono ih (Nat.le_succ n) cd _ _ e1,e2⟩
  ·rename_i hh
   rw[if_neg hh]
   split at e
   ·rename_i h3
    rw[if_pos h3]
    simp only[xB]at e ⊢
    obtain⟨es,e0,x,e1,e2⟩:=e
    exact⟨es,e0,x,codeN_mono ih (Nat.le_succ n) cd _ _ e1,e2⟩
   ·cases e
theorem callN_mono{hints:FuncId→Hint}{n m:Nat}(h:n≤m):CallLe (callN P hints n) (callN P hints m):=by
 induction h with
 |refl=>exact fun _ _ _ _ e=>e
 |step _ ih=>exact fun f ds H r e=>callN_le _ f ds H r (ih f ds H r e)
end
open Classical in
noncomputable def lim{α:Type}(g:Nat→Option α):Option α:=if h:∃r,∃n,g n=some r then some (Classical.choose h)else none
theorem lim_iff{α:Type}{g:Nat→Option α}(hg:∀n m r,n≤m→g n=some r→g m=some r){r:α}:lim g=some r↔∃n,g n=some r:=by
 unfold lim
 constructor
 ·intro h
  split at h
  ·rename_i hx
   simp only[xJ]at h
   rw[←h]
   exact Classical.choose_spec hx
  ·cases h
 ·rintro⟨n,hn⟩
  have hx:∃r,∃n,g n=some r:=⟨r,n,hn⟩
  rw[dif_pos hx]
  obtain⟨m,hm⟩:=Classical.choose_spec hx
  have h1:=hg n (max n m) r (Nat.le_max_left _ _) hn
  have h2:=hg m (max n m) _ (Nat.le_max_right _ _) hm
  rw[h1]at h2
  simp only[xJ]at h2
  rw[←h2]
section
variable(P:Program)(hints:FuncId→Hint)
noncomputable def callX:CallF:=fun f ds H=>lim fun n=>callN P hints n f ds H
noncomputable def codeX(h:Hint)(c:Code)(s:St):Option (Ex×St):=lim fun n=>codeN P (callN P hints n) h n c s
variable{P hints}
theorem callX_iff{f:FuncId}{ds:List D}{H:List Ob}{r:List T×List Ob}:callX P hints f ds H=some r↔∃n,callN P hints n f ds H=some r:=
 lim_iff fun n m r h e=>callN_mono h f ds H r e
theorem codeX_iff{h:Hint}{c:Code}{s:St}{r:Ex×St}:codeX P hints h c s=some r↔∃n,codeN P (callN P hints n) h n c s=some r:=
 lim_iff fun n m r hn e=>codeN_mono (callN_mono hn) hn c s r e
theorem callN_X(n:Nat):CallLe (callN P hints n) (callX P hints):=fun f ds H r e=>callX_iff.2 ⟨n,e⟩
section
variable{h:Hint}
theorem callE0_cont{dst:Nat}{f:FuncId}{ds:List D}{b:Lend}{k:Wk}{r:SV×Wk}(e:callE0 (callX P hints) h dst f ds b k=some r):∃n,callE0 (callN P hints n) h dst f ds b k=some r:=by
 unfold callE0 at e
 split at e
 ·rename_i hk
  simp only[xB]at e
  obtain⟨x,e1,e2⟩:=e
  obtain⟨n,hn⟩:=callX_iff.1 e1
  exact⟨n,by unfold callE0;rw[if_pos hk,hn];exact e2⟩
 rename_i hk0
 split at e
 ·cases e
 ·rename_i hk
  simp only[xB]at e
  obtain⟨x,e1,e2⟩:=e
  obtain⟨n,hn⟩:=callX_iff.1 e1
  exact⟨n,by unfold callE0;rw[if_neg hk0,if_neg hk,hn];exact e2⟩
theorem callE_cont{dst:Nat}{f:FuncId}{ds:List D}{b:Lend}{k:Wk}{r:SV×Wk}(e:callE (callX P hints) h dst f ds b k=some r):∃n,callE (callN P hints n) h dst f ds b k=some r:=by
 unfold callE at e
 split at e
 ·rename_i hro
  simp only[xB]at e
  obtain⟨ds',e1,e⟩:=e
  obtain⟨n,hn⟩:=callE0_cont e
  exact⟨n,by unfold callE;rw[if_pos hro,e1];exact hn⟩
 ·rename_i hro
  split at e
  ·rename_i hl
   obtain⟨n,hn⟩:=callE0_cont e
   exact⟨n,by unfold callE;rw[if_neg hro,if_pos hl];exact hn⟩
  ·rename_i hl
   obtain⟨n,hn⟩:=callE0_cont e
   exact⟨n,by unfold callE;rw[if_neg hro,if_neg hl];exact hn⟩
theorem stepE_cont{dst:Nat}{ty:TypeId}{op:Op}{σ:Operand→SV}{k:Wk}{r:SV×Wk}(e:stepE P (callX P hints) h dst ty op σ k=some r):∃n,stepE P (callN P hints n) h dst ty op σ k=some r:=by
 by_cases hc:∃f args ats,op=.call {callee:=.value f,args:=args,argTypes:=ats}
 ·obtain⟨f,args,ats,rfl⟩:=hc
  unfold stepE at e ⊢
  simp only at e ⊢
  split at e
  ·split at e
   ·cases e
   rename_i hy
   simp only[if_neg hy]
   split at e
   ·exact⟨0,e⟩
   simp only[xB]at e
   obtain⟨x,e1,y,e2,e3⟩:=e
   obtain⟨n,hn⟩:=callE_cont e2
   exact⟨n,by rw[e1,xS,hn];exact e3⟩
  ·simp only[xB]at e
   obtain⟨x,e1,y,e2,e3⟩:=e
   obtain⟨n,hn⟩:=callE_cont e2
   exact⟨n,by rw[e1,xS,hn];exact e3⟩
  ·cases e
 ·have:∀call:CallF,stepE P call h dst ty op σ k=opE P h dst ty op σ k:=fun call=>by
   unfold stepE
   split
   ·exact absurd ⟨_,_,_,rfl⟩ hc
   ·rfl
  rw[this]at e
  exact⟨0,by rw[this];exact e⟩
theorem evalO_cont{ops:List Oper}{o:Oper}{s:St}{r:Bool×SV×Wk}(e:evalO P (callX P hints) h ops o s=some r):∃n,evalO P (callN P hints n) h ops o s=some r:=by
 simp only[evalO,xB]at e
 obtain⟨w,e1,e2⟩:=e
 split at e2
 ·rename_i hw
  simp only[xM]at e2
  obtain⟨x,e3,e4⟩:=e2
  obtain⟨n,hn⟩:=stepE_cont e3
  exact⟨n,by simp only[evalO,e1,xS,hw,if_true,hn,xQ];rw[←e4]⟩
 ·rename_i hw
  exact⟨0,by simp only[evalO,e1,xS];rw[if_neg hw];exact e2⟩
theorem runOps_cont{ops:List Oper}:∀(l:List Oper) {s s':St},runOps P (callX P hints) h ops l s=some s'→∃n,runOps P (callN P hints n) h ops l s=some s'
 | [],s,s',e=>⟨0,e⟩
 |o::l,s,s',e=>by
  simp only[runOps,xB]at e
  obtain⟨x,e1,e2⟩:=e
  rw[runOp_evalO]at e1
  simp only[xM]at e1
  obtain⟨y,e3,e4⟩:=e1
  obtain⟨n,hn⟩:=evalO_cont e3
  obtain⟨m,hm⟩:=runOps_cont l e2
  refine⟨max n m,?_⟩
  simp only[runOps,xB]
  refine⟨x,?_,runOps_mono (callN_mono (Nat.le_max_right n m)) l hm⟩
  rw[runOp_evalO,evalO_mono (callN_mono (Nat.le_max_left n m)) hn]
  simp only[xQ,e4]
theorem runOpsF_cont{ops:List Oper}:∀(l:List Oper) {s:Cf} {r:Cf×List Fp},runOpsF P (callX P hints) h ops l s=some r→∃n,runOpsF P (callN P hints n) h ops l s=some r
 | [],s,r,e=>⟨0,e⟩
 |o::l,s,r,e=>by
  simp only[runOpsF,xB,xM]at e
  obtain⟨x,e1,y,e2,e3⟩:=e
  simp only[runOpF,xM]at e1
  obtain⟨z,e4,e5⟩:=e1
  obtain⟨n,hn⟩:=evalO_cont e4
  obtain⟨m,hm⟩:=runOpsF_cont l e2
  refine⟨max n m,?_⟩
  simp only[runOpsF,xB,xM]
  refine⟨x,?_,y,runOpsF_mono (callN_mono (Nat.le_max_right n m)) l hm,e3⟩
  simp only[runOpF,evalO_mono (callN_mono (Nat.le_max_left n m)) hn,xQ,e5]
theorem mvE_cont{dst:Nat}{g:FuncId}{xs:List SV}{k:Wk}{r:SV×Wk}(e:mvE P (callX P hints) h dst g xs k=some r):∃n,mvE P (callN P hints n) h dst g xs k=some r:=by
 unfold mvE at e
 cases xs with
 |nil=>cases e
 |cons x l=>
  simp only[xB]at e
  obtain⟨y,e1,e⟩:=e
  split at e
  ·rename_i hh
   simp only[xB]at e
   obtain⟨⟨t,k2⟩,e2,e⟩:=e
   simp only at e
   split at e
   ·split at e
    ·rename_i hl
     simp only[xB]at e
     obtain⟨z,e3,e4⟩:=e
     obtain⟨n,hn⟩:=callX_iff.1 e3
     refine⟨n,?_⟩
     simp only[mvE,e1,xS,if_pos hh,e2,hl,if_true,hn]
     exact e4
    ·cases e
   ·simp only[xB]at e
    obtain⟨z,e3,e4⟩:=e
    obtain⟨n,hn⟩:=callX_iff.1 e3
    refine⟨n,?_⟩
    simp only[mvE,e1,xS,if_pos hh,e2,hn]
    exact e4
   ·cases e
  ·cases e
theorem stepP_cont{dst:Nat}{ty:TypeId}{op:Op}{σ:Operand→SV}{k:Wk}{r:Option D×SV×Wk}(e:stepP P (callX P hints) h dst ty op σ k=some r):∃n,stepP P (callN P hints n) h dst ty op σ k=some r:=by
 by_cases hc:∃f args ats,op=.call {callee:=.value f,args:=args,argTypes:=ats}
 ·obtain⟨f,args,ats,rfl⟩:=hc
  unfold stepP at e ⊢
  simp only at e ⊢
  split at e
  ·split at e
   ·cases e
   rename_i hy
   simp only[if_neg hy]
   split at e
   ·rename_i hm
    simp only[if_pos hm]
    split at e
    ·rename_i hf
     simp only[xM,xB]at e
     obtain⟨x,⟨y,e1,e2⟩,e3⟩:=e
     obtain⟨n,hn⟩:=mvE_cont e1
     exact⟨n,by rw[if_pos hf,hn,xS,e2,xQ,e3]⟩
    ·cases e
   rename_i hm
   simp only[if_neg hm]
   simp only[xB]at e
   obtain⟨x,e1,y,e2,e3⟩:=e
   obtain⟨n,hn⟩:=callE_cont e2
   exact⟨n,by rw[e1,xS,hn];exact e3⟩
  ·cases e
 ·have:∀call call':CallF,stepP P call h dst ty op σ k=stepP P call' h dst ty op σ k:=fun call call'=>by
   unfold stepP
   split
   ·rfl
   ·exact absurd ⟨_,_,_,rfl⟩ hc
   ·rfl
  exact⟨0,by rw[this _ (callX P hints)];exact e⟩
theorem runOpsP_cont{ops:List Oper}:∀(l:List Oper) {s:St} {r:Option D×St},runOpsP P (callX P hints) h ops l s=some r→∃n,runOpsP P (callN P hints n) h ops l s=some r
 | [],s,r,e=>⟨0,e⟩
 |o::l,s,r,e=>by
  simp only[runOpsP,xB]at e
  obtain⟨w,e1,e2⟩:=e
  split at e2
  ·rename_i hw
   simp only[xB]at e2
   obtain⟨⟨t,v,k⟩,e3,e4⟩:=e2
   obtain⟨n,hn⟩:=stepP_cont e3
   simp only at e4
   split at e4
   ·refine⟨n,?_⟩
    simp only[runOpsP,e1,xS,hw,if_true,hn]
    exact e4
   ·obtain⟨m,hm⟩:=runOpsP_cont l e4
    refine⟨max n m,?_⟩
    simp only[runOpsP,e1,xS,hw,if_true,stepP_mono (callN_mono (Nat.le_max_left n m)) hn]
    exact runOpsP_mono (callN_mono (Nat.le_max_right n m)) l hm
  ·rename_i hw
   obtain⟨n,hn⟩:=runOpsP_cont l e2
   exact⟨n,by simp only[runOpsP,e1,xS];rw[if_neg hw];exact hn⟩
theorem ext_some{α:Type}{x y:Option α}(h:∀r,x=some r↔y=some r):x=y:=Option.ext h
theorem codeX_plain{c:Code}{s:St}{x:Option (Ex×St)}(hx:∀n,codeN P (callN P hints n) h n c s=x):codeX P hints h c s=x:=
 ext_some fun r=>by rw[codeX_iff];simp[hx]
theorem codeX_skip{s:St}:codeX P hints h .skip s=some (.normal,s):=codeX_plain fun _=>rfl
theorem codeX_label{l:Nat}{s:St}:codeX P hints h (.label l) s=some (.normal,s):=codeX_plain fun _=>rfl
theorem codeX_ret{s:St}:codeX P hints h .ret s=some (.ret,s):=codeX_plain fun _=>rfl
theorem codeX_exit{id:Nat}{s:St}:codeX P hints h (.exit id) s=some (.exit id,s):=codeX_plain fun _=>rfl
theorem codeX_region{id:Nat}{ops:Array Oper}{s:St}(hp:h.pan.contains id=false):codeX P hints h (.region id ops false) s=(runOps P (callX P hints) h ops.toList ops.toList s).map fun s'=>(.normal,prune (h.live id) s'):=
 ext_some fun r=>by
  rw[codeX_iff]
  simp only[codeN,hp,xH,if_false,xM]
  constructor
  ·rintro⟨n,x,e1,e2⟩;exact⟨x,runOps_mono (callN_X n) _ e1,e2⟩
  ·rintro⟨x,e1,e2⟩;obtain⟨n,hn⟩:=runOps_cont _ e1;exact⟨n,x,hn,e2⟩
theorem codeX_regionP{id:Nat}{ops:Array Oper}{s:St}(hp:h.pan.contains id=true):codeX P hints h (.region id ops false) s=(runOpsP P (callX P hints) h ops.toList ops.toList s).map fun p=>match p.1 with |some d=>(.pan d,p.2) |none=>(.normal,prune (h.live id) p.2):=
 ext_some fun r=>by
  rw[codeX_iff]
  simp only[codeN,hp,xH,if_false,if_true,xM]
  constructor
  ·rintro⟨n,x,e1,e2⟩;exact⟨x,runOpsP_mono (callN_X n) _ e1,e2⟩
  ·rintro⟨x,e1,e2⟩;obtain⟨n,hn⟩:=runOpsP_cont _ e1;exact⟨n,x,hn,e2⟩
theorem codeX_draw{id:Nat}{ops:Array Oper}{s:St}(hp:h.swp id=none):codeX P hints h (.region id ops true) s=(runOpsF P (callX P hints) h ops.toList ops.toList (s,hist0 s)).bind fun(c,fs)=>if checkR ops.toList fs then some (.normal,prune (h.live id) c.1)else none:=
 ext_some fun r=>by
  rw[codeX_iff]
  simp only[codeN,hp,if_true,xB]
  constructor
  ·rintro⟨n,x,e1,e2⟩;exact⟨x,runOpsF_mono (callN_X n) _ e1,e2⟩
  ·rintro⟨x,e1,e2⟩;obtain⟨n,hn⟩:=runOpsF_cont _ e1;exact⟨n,x,hn,e2⟩
noncomputable def thenX(P:Program)(hints:FuncId→Hint)(h:Hint)(b:Code)(r:Ex×St):Option (Ex×St):=match r.1 with | .normal=>codeX P hints h b r.2 |e=>some (e,r.2)
theorem codeX_seq{a b:Code}{s:St}:codeX P hints h (.seq a b) s=(codeX P hints h a s).bind (thenX P hints h b):=
 ext_some fun r=>by
  rw[codeX_iff]
  simp only[codeN,xB,thenX]
  constructor
  ·rintro⟨n,⟨ex,s1⟩,e1,e2⟩
   refine⟨⟨ex,s1⟩,codeX_iff.2 ⟨n,e1⟩,?_⟩
   simp only at e2 ⊢
   cases ex with
   |normal=>exact codeX_iff.2 ⟨n,e2⟩
   |_=>exact e2
  ·rintro⟨⟨ex,s1⟩,e1,e2⟩
   obtain⟨n,hn⟩:=codeX_iff.1 e1
   simp only at e2
   split at e2
   ·obtain⟨m,hm⟩:=codeX_iff.1 e2
    exact⟨max n m,⟨.normal,s1⟩,codeN_mono (callN_mono (Nat.le_max_left n m)) (Nat.le_max_left n m) a _ _ hn,codeN_mono (callN_mono (Nat.le_max_right n m)) (Nat.le_max_right n m) b _ _ hm⟩
   ·rename_i hne
    refine⟨n,⟨ex,s1⟩,hn,?_⟩
    cases ex with
    |normal=>exact absurd rfl hne
    |_=>exact e2
theorem codeX_cond{o:Operand}{a b:Code}{s:St}:codeX P hints h (.cond o a b) s=match s.val o with | .d (.bool t)=>if t then codeX P hints h a s else codeX P hints h b s |_=>none:=
 ext_some fun r=>by
  rw[codeX_iff]
  simp only[codeN]
  generalize s.val o=v
  cases v with
  |d x=>
   cases x with
   |bool t=>cases t <;>simp[codeX_iff]
   |_=>simp
  |_=>simp
theorem codeX_block{id:Nat}{a:Code}{s:St}:codeX P hints h (.block id a) s=(codeX P hints h a s).map fun r=>(r.1.block id,r.2):=
 ext_some fun r=>by
  rw[codeX_iff]
  simp only[codeN,xM]
  constructor
  ·rintro⟨n,x,e1,e2⟩;exact⟨x,codeX_iff.2 ⟨n,e1⟩,e2⟩
  ·rintro⟨x,e1,e2⟩;obtain⟨n,hn⟩:=codeX_iff.1 e1;exact⟨n,x,hn,e2⟩
theorem codeX_scope{a:Code}{s:St}:codeX P hints h (.scope a) s=codeX P hints h a s:=
 ext_some fun r=>by rw[codeX_iff,codeX_iff];simp only[codeN]
theorem codeX_loop{a:Code}{s:St}:codeX P hints h (.loop a) s=(codeX P hints h a s).bind (thenX P hints h (.loop a)):=
 ext_some fun r=>by
  rw[codeX_iff]
  simp only[xB,thenX]
  constructor
  ·rintro⟨n,e⟩
   simp only[codeN]at e
   cases n with
   |zero=>cases e
   |succ n=>
    have e0:=e
    simp only[loopN,xB]at e
    obtain⟨⟨ex,s1⟩,e1,e2⟩:=e
    refine⟨⟨ex,s1⟩,codeX_iff.2 ⟨n+1,e1⟩,?_⟩
    simp only at e2 ⊢
    cases ex with
    |normal=>
     refine codeX_iff.2 ⟨n+1,?_⟩
     simp only[codeN]
     exact loopN_mono (fun _ _ e=>e) n (n+1) (Nat.le_succ n) _ _ e2
    |_=>exact e2
  ·rintro⟨⟨ex,s1⟩,e1,e2⟩
   obtain⟨n,hn⟩:=codeX_iff.1 e1
   simp only at e2
   split at e2
   ·obtain⟨m,hm⟩:=codeX_iff.1 e2
    simp only[codeN]at hm
    refine⟨max n m+1,?_⟩
    simp only[codeN,loopN,xB]
    exact⟨⟨.normal,s1⟩,codeN_mono (callN_mono (by omega)) (by omega) a _ _ hn,loopN_mono (fun s r e=>codeN_mono (callN_mono (by omega)) (by omega) a s r e) m (max n m) (Nat.le_max_right n m) _ _ hm⟩
   ·rename_i hne
    refine⟨n+1,?_⟩
    simp only[codeN,loopN,xB]
    refine⟨⟨ex,s1⟩,codeN_mono (callN_mono (Nat.le_succ n)) (Nat.le_succ n) a _ _ hn,?_⟩
    cases ex with
    |normal=>exact absurd rfl hne
    |_=>exact e2
end
theorem callX_eq{f:FuncId}{ds:List D}{H:List Ob}{fn:Func}{c:Code}(hy:¬YB≤f)(hr:(hints f).rcv=false)(hxt:(hints f).ext=none)(hf:P.funcs[f]? =some fn)(hb:fn.body=some c)(hl:ds.length=fn.params.size+fn.nfree)(hk:codeOk fn.ntmps c=true)(hn:(fn.name== "runtime.NumGoroutine")=false)(hx:(decide ((hints f).nilt≠0)&&emptyArg ds)=false):
  callX P hints f ds H=(codeX P hints (hints f) c (enter ds H)).bind (leave P (hints f).own fn H.length):=
 ext_some fun r=>by
  rw[callX_iff]
  simp only[xB]
  constructor
  ·rintro⟨n,e⟩
   cases n with
   |zero=>cases e
   |succ n=>
    rw[callN,if_neg hy]at e
    simp only[hxt,hf,hb,xS]at e
    rw[if_pos ⟨hl,hk,hn⟩,if_neg (by rw[hr];simp),if_neg (by rw[hx];simp)]at e
    simp only[xB]at e
    obtain⟨x,e1,e2⟩:=e
    exact⟨x,codeX_iff.2 ⟨n,e1⟩,e2⟩
  ·rintro⟨x,e1,e2⟩
   obtain⟨n,hn'⟩:=codeX_iff.1 e1
   refine⟨n+1,?_⟩
   rw[callN,if_neg hy]
   simp only[hxt,hf,hb,xS]
   rw[if_pos ⟨hl,hk,hn⟩,if_neg (by rw[hr];simp),if_neg (by rw[hx];simp)]
   simp only[xB]
   exact⟨x,hn',e2⟩
theorem callX_row{f:FuncId}{ds:List D}{es:List T}{fn:Func}{c:Code}(hy:¬YB≤f)(hxt:(hints f).ext=none)(hf:P.funcs[f]? =some fn)(hb:fn.body=some c)(hl:ds.length+1=fn.params.size+fn.nfree)(hk:codeOk fn.ntmps c=true)(hn:(fn.name== "runtime.NumGoroutine")=false):
  callX P hints f ds [.row es]=(codeX P hints (hints f) c (enterR es ds)).bind (leave P (hints f).own fn 0):=
 ext_some fun r=>by
  rw[callX_iff]
  simp only[xB]
  constructor
  ·rintro⟨n,e⟩
   cases n with
   |zero=>cases e
   |succ n=>
    rw[callN,if_neg hy]at e
    simp only[hxt,hf,hb,xS]at e
    rw[if_neg (fun q=>by omega),if_pos ⟨hl,hk,hn⟩]at e
    simp only[rowOf,xS,xB]at e
    obtain⟨x,e1,e2⟩:=e
    exact⟨x,codeX_iff.2 ⟨n,e1⟩,e2⟩
  ·rintro⟨x,e1,e2⟩
   obtain⟨n,hn'⟩:=codeX_iff.1 e1
   refine⟨n+1,?_⟩
   rw[callN,if_neg hy]
   simp only[hxt,hf,hb,xS]
   rw[if_neg (fun q=>by omega),if_pos ⟨hl,hk,hn⟩]
   simp only[rowOf,xS,xB]
   exact⟨x,hn',e2⟩
theorem callX_ext{f:FuncId}{ds:List D}{H:List Ob}{F:List D→Option (List T)}(hy:¬YB≤f)(hx:(hints f).ext=some F):callX P hints f ds H=(F ds).bind fun rs=>if isPanT rs=true then none else some (rs,H):=
 ext_some fun r=>by
  rw[callX_iff]
  constructor
  ·rintro⟨n,e⟩
   cases n with
   |zero=>cases e
   |succ n=>
    rw[callN,if_neg hy]at e
    simp only[hx]at e
    exact e
  ·intro e
   refine⟨1,?_⟩
   rw[callN,if_neg hy]
   simp only[hx]
   exact e
end
end Go.Am
namespace Go.Am
open Go
section
variable{P:Program}{hints:FuncId→Hint}{call:CallF}{h:Hint}
def exOut(id:Nat)(e:Ex):Ex:=e.block id
theorem codeX_block'{id:Nat}{a:Code}{s:St}:codeX P hints h (.block id a) s=(codeX P hints h a s).bind fun r=>some (exOut id r.1,r.2):=by
 rw[codeX_block,xF];rfl
noncomputable def condX(P:Program)(hints:FuncId→Hint)(h:Hint)(v:SV)(a b:Code)(s:St):Option (Ex×St):=match v with | .d (.bool t)=>if t then codeX P hints h a s else codeX P hints h b s |_=>none
def stepS(P:Program)(call:CallF)(h:Hint)(d:Option Nat)(ty:TypeId)(op:Op)(s:St):Option St:=(stepE P call h (d.getD 0) ty op s.val s.wk).bind fun p=>some (s.fin d p.1 p.2)
theorem runOp_plain{ops:List Oper}{d:Option Nat}{op:Op}{ty:TypeId}{pos:String}{after:Array Edge}{s:St}:runOp P call h ops {dst:=d,op:=op,type:=ty,pos:=pos,after:=after,guard:=none} s=stepS P call h d ty op s:=by
 show(stepE P call h (d.getD 0) ty op s.val s.wk).map _=_
 rw[xF];rfl
def stepG(P:Program)(call:CallF)(h:Hint)(d:Option Nat)(ty:TypeId)(op:Op)(want:Bool)(g:SV)(s:St):Option St:=
 match g with
 | .d (.bool b)=>if b=want then stepS P call h d ty op s else some (s.fin d (.tup []) s.wk)
 | .tup []=>some (s.fin d (.tup []) s.wk)
 |_=>none
theorem stepG_bool{d:Option Nat}{ty:TypeId}{op:Op}{want b:Bool}{s:St}:stepG P call h d ty op want (.d (.bool b)) s=if b=want then stepS P call h d ty op s else some (s.fin d (.tup []) s.wk):=rfl
def gslot(ops:List Oper)(j:Nat):Nat:=((ops[j]?).bind (·.dst)).getD 0
theorem runOp_guard{ops:List Oper}{d:Option Nat}{op:Op}{ty:TypeId}{pos:String}{after:Array Edge}{j:Nat}{want:Bool}{s:St}(hj:((ops[j]?).bind (·.dst)).isSome=true):
  runOp P call h ops {dst:=d,op:=op,type:=ty,pos:=pos,after:=after,guard:=some (j,want)} s=stepG P call h d ty op want (s.get (gslot ops j)) s:=by
 obtain⟨t,ht⟩:=Option.isSome_iff_exists.1 hj
 have hg:gslot ops j=t:=by simp[gslot,ht]
 rw[hg]
 simp only[runOp,wantE,ht]
 generalize s.get t=g
 have hp:∀b:Bool,((some b).bind fun w=>if w=true then(stepE P call h (d.getD 0) ty op s.val s.wk).map fun p=>s.fin d p.1 p.2 else some (s.fin d (.tup []) s.wk))=if b=true then stepS P call h d ty op s else some (s.fin d (.tup []) s.wk):=fun b=>by
  cases b
  ·rfl
  ·simp only[xS,if_true,stepS];rw[xF];rfl
 cases g with
 |d x=>
  cases x with
  |bool b=>
   refine(hp (b==want)).trans ?_
   cases b <;>cases want <;>rfl
  |_=>rfl
 |tup l=>
  cases l with
  |nil=>exact hp false
  |cons _ _=>rfl
 |_=>rfl
theorem val_tmp{s:St}{t:Nat}:s.val (.tmp t)=s.get t:=rfl
theorem val_int{s:St}{k:IntKind}{n:Int}:s.val (.const (.int k n))=.d (.int k n):=rfl
theorem val_bool{s:St}{b:Bool}:s.val (.const (.bool b))=.d (.bool b):=rfl
theorem val_nils{s:St}:s.val (.const (.slice none 0 0))=.d .nils:=rfl
theorem val_nilm{s:St}:s.val (.const (.map none))=.d .nilm:=rfl
theorem val_nilf{s:St}:s.val (.const .nilFunc)=.d .nilf:=rfl
theorem val_func{s:St}{f:FuncId}:s.val (.func f)=.d (.fn (.func f) [] []):=rfl
theorem get_mk{env:List (Nat×SV)}{ct:List ((Nat×Nat)×T)}{H:List Ob}{t:Nat}:St.get ⟨env,ct,H⟩ t=(look env t).getD .dead:=rfl
theorem look_nil{t:Nat}:look ([]:List (Nat×SV)) t=none:=rfl
theorem look_cons{k t:Nat}{v:SV}{r:List (Nat×SV)}:look ((k,v)::r) t=if k=t then some v else look r t:=rfl
theorem lookR_cons{a b c d:Nat}{v:T}{r:List ((Nat×Nat)×T)}:lookR (((a,b),v)::r) (c,d)=if a=c∧b=d then some v else lookR r (c,d):=by
 simp only[lookR,pJ]
theorem wk_mk{env:List (Nat×SV)}{ct:List ((Nat×Nat)×T)}{H:List Ob}:St.wk ⟨env,ct,H⟩=⟨ct,H,[]⟩:=rfl
theorem fin_some{env:List (Nat×SV)}{ct ct':List ((Nat×Nat)×T)}{H H':List Ob}{d:Nat}{v:SV}{tr:List Tr}:St.fin ⟨env,ct,H⟩ (some d) v ⟨ct',H',tr⟩=⟨(d,v)::trs tr env,ct',H'⟩:=rfl
theorem fin_none{env:List (Nat×SV)}{ct ct':List ((Nat×Nat)×T)}{H H':List Ob}{v:SV}{tr:List Tr}:St.fin ⟨env,ct,H⟩ none v ⟨ct',H',tr⟩=⟨trs tr env,ct',H'⟩:=rfl
theorem trs_nil{env:List (Nat×SV)}:trs [] env=env:=rfl
theorem trs_cons{x:Tr}{r:List Tr}{env:List (Nat×SV)}:trs (x::r) env=trs r (x.env env):=rfl
theorem trenv_nil{x:Tr}:x.env []=[]:=rfl
theorem trenv_cons{x:Tr}{t:Nat}{v:SV}{r:List (Nat×SV)}:x.env ((t,v)::r)=(t,x.sv v)::x.env r:=rfl
theorem sv_d{x:Tr}{y:D}:x.sv (.d y)=.d y:=by cases x <;>rfl
theorem sv_rp{x:Tr}{b:Bool}{y:List D}:x.sv (.rp b y)=.rp b y:=by cases x <;>rfl
theorem sv_dead{x:Tr}:x.sv .dead=.dead:=by cases x <;>rfl
theorem sv_agg{x:Tr}{l:List SV}:x.sv (.agg l)=.agg (l.map x.sv):=by
 have:∀l,Tr.svs x l=l.map x.sv:=fun l=>by induction l with |nil=>rfl |cons a r ih=>simp[Tr.svs,ih]
 rw[←this];cases x <;>rfl
theorem sv_tup{x:Tr}{l:List SV}:x.sv (.tup l)=.tup (l.map x.sv):=by
 have:∀l,Tr.svs x l=l.map x.sv:=fun l=>by induction l with |nil=>rfl |cons a r ih=>simp[Tr.svs,ih]
 rw[←this];cases x <;>rfl
theorem trv_nil{v:SV}:trv [] v=v:=rfl
theorem trv_cons{x:Tr}{r:List Tr}{v:SV}:trv (x::r) v=trv r (x.sv v):=rfl
def envOf(s:St):List Nat→List (Nat×SV)
 | []=>[]
 |t::r=>(t,s.get t)::envOf s r
theorem prune_eq{live:List Nat}{s:St}:prune live s=⟨envOf s live,pick s.ct (dedup (SV.rootss ((envOf s live).map (·.2)))),s.H⟩:=by
 have:∀l:List Nat,(l.map fun t=>(t,s.get t))=envOf s l:=fun l=>by induction l with |nil=>rfl |cons a r ih=>simp[envOf,ih]
 simp only[prune,this]
theorem prune_mk{live:List Nat}{env:List (Nat×SV)}{ct:List ((Nat×Nat)×T)}{H:List Ob}:prune live ⟨env,ct,H⟩=⟨envOf ⟨env,ct,H⟩ live,pick ct (dedup (SV.rootss ((envOf ⟨env,ct,H⟩ live).map (·.2)))),H⟩:=prune_eq
theorem envOf_nil{s:St}:envOf s []=[]:=rfl
theorem envOf_cons{s:St}{t:Nat}{r:List Nat}:envOf s (t::r)=(t,s.get t)::envOf s r:=rfl
theorem enter_eq{ds:List D}{H:List Ob}:enter ds H=⟨(ds.zipIdx).map fun p=>(p.2,.d p.1),[],H⟩:=rfl
section
variable{dst:Nat}{ty:TypeId}{ρ:Operand→SV}{k:Wk}
theorem st_move{x:Operand}:stepE P call h dst ty (.move x) ρ k=some (ρ x,k):=rfl
theorem st_assign{x:Operand}:stepE P call h dst ty (.assign x) ρ k=assignE dst (elemOf P ty).isSome (ρ x) k:=rfl
theorem st_pick{c a b:Operand}:stepE P call h dst ty (.pick c a b) ρ k=match ρ c with | .d (.bool t)=>some (if t=true then ρ a else ρ b,k) |_=>none:=rfl
theorem st_alloc{e:TypeId}:stepE P call h dst ty (.alloc e) ρ k=(zeroOf P e).bind fun z=>boxE h dst (T.ofZero z) k:=rfl
theorem st_box{e:TypeId}{x:Operand}:stepE P call h dst ty (.box e x) ρ k=(absorbF h.nv (ρ x) k).bind fun p=>if p.1.nc=P.cellsOf e then boxE h dst p.1 p.2 else none:=rfl
theorem st_build{t:TypeId}{ps:Array (Nat×Operand)}:stepE P call h dst ty (.build t ps) ρ k=(buildE P t (ps.toList.map fun p=>(p.1,ρ p.2))).bind fun v=>some (v,k):=by
 show Option.map _ _=_;rw[xF];rfl
theorem st_buildSlice{t:TypeId}{n:Nat}{ps:Array (Nat×Operand)}:stepE P call h dst ty (.buildSlice t n ps) ρ k=buildSliceE P h.nv dst (h.lits.contains dst) t n (ps.toList.map fun p=>(p.1,ρ p.2)) k:=rfl
theorem st_load{t:TypeId}{x:Nat}:stepE P call h dst ty (.load t (.tmp x)) ρ k=if h.lits.contains dst=true then(loadE P t (ρ (.tmp x)) k).bind fun v=>takeL dst v k else(loadE P t (ρ (.tmp x)) k).bind fun v=>some (v,k):=by
 show(if _ then _ else Option.map _ _)=_;rw[xF];rfl
theorem glOK_agg{l:List D}:glOK (.agg l)=true:=rfl
theorem st_loadG{t:TypeId}{g:Nat}:stepE P call h dst ty (.load t (.global g)) ρ k=(h.gl g).bind fun x=>if glOK x=true then(loadE P t (.rp true x.cells) k).bind fun v=>some (v,k)else none:=by
 show(h.gl g).bind (fun x=>if glOK x=true then Option.map _ _ else none)=_;simp only[xF];rfl
theorem st_store{t:TypeId}{a x:Operand}:stepE P call h dst ty (.store t a x) ρ k=(storeE P h.nv t (ρ a) (ρ x) k).bind fun k=>some (.dead,k):=by
 show Option.map _ _=_;rw[xF];rfl
theorem st_binOp{op:BinOp}{t t':TypeId}{x y:Operand}:stepE P call h dst ty (.binOp op t x y t') ρ k=(binE P (isConst x || isConst y) op t (ρ x) (ρ y)).bind fun y=>some (.d y,k):=by
 show Option.map _ _=_;rw[xF];rfl
theorem st_unOp{op:UnOp}{t:TypeId}{x:Operand}:stepE P call h dst ty (.unOp op t x) ρ k=(unE op (ρ x)).bind fun y=>some (.d y,k):=by
 show Option.map _ _=_;rw[xF];rfl
theorem st_convert{s t:TypeId}{x:Operand}:stepE P call h dst ty (.convert s t x) ρ k=(convE P s t (ρ x)).bind fun y=>some (.d y,k):=by
 show Option.map _ _=_;rw[xF];rfl
theorem st_makeFunc{f:Fn}{a c:Array Operand}:stepE P call h dst ty (.makeFunc f a c) ρ k=(SV.pures (a.toList.map ρ)).bind fun a=>(SV.pures (c.toList.map ρ)).bind fun c=>some (.d (.fn f a c),k):=by
 show Option.bind _ _=_;simp only[xF];rfl
theorem st_makeMap{t:TypeId}:stepE P call h dst ty (.makeMap t none) ρ k=some (.d (.map k.H.length),{k with H:=k.H++[.map []]}):=rfl
theorem st_slice{t:TypeId}{x:Operand}{lo hi mx:Option Operand}:stepE P call h dst ty (.slice t x lo hi mx) ρ k=(sliceE P t (ρ x) (lo.map ρ) (hi.map ρ) (mx.map ρ) k).bind fun v=>some (v,k):=by
 show Option.map _ _=_;rw[xF];rfl
theorem st_fieldAddr{t:TypeId}{x:Operand}{f:Nat}:stepE P call h dst ty (.fieldAddr t x f) ρ k=(fieldAddrE P t (ρ x) f k).bind fun v=>some (v,k):=by
 show Option.map _ _=_;rw[xF];rfl
theorem st_field{t:TypeId}{x:Operand}{f:Nat}:stepE P call h dst ty (.field t x f) ρ k=(fieldE P t (ρ x) f).bind fun v=>some (v,k):=by
 show Option.map _ _=_;rw[xF];rfl
theorem st_indexAddr{t:TypeId}{x i:Operand}:stepE P call h dst ty (.indexAddr t x i) ρ k=(indexAddrE P t (ρ x) (ρ i) k).bind fun v=>some (v,k):=by
 show Option.map _ _=_;rw[xF];rfl
theorem st_index{t:TypeId}{x i:Operand}:stepE P call h dst ty (.index t x i) ρ k=(indexE P t (ρ x) (ρ i)).bind fun v=>some (v,k):=by
 show Option.map _ _=_;rw[xF];rfl
theorem st_lookup{t:TypeId}{m key:Operand}{ok:Bool}:stepE P call h dst ty (.lookup t m key ok) ρ k=if h.lits.contains dst=true then(if ok=true then none else takeE P dst t (ρ m) (ρ key) k)else if h.objs.contains dst=true then(if ok=true then none else frzLookE P t (ρ m) (ρ key) k)else(lookupE P t (ρ m) (ρ key) ok k.H).bind fun v=>some (v,k):=by
 show(if _ then _ else if _ then _ else Option.map _ _)=_;rw[xF];rfl
theorem st_insert{t:TypeId}{m key x:Operand}:stepE P call h dst ty (.insert t m key x) ρ k=(mapPutE P h.nv t (ρ m) (ρ key) (ρ x) k).bind fun k=>some (.dead,k):=by
 show Option.map _ _=_;rw[xF];rfl
theorem st_nilCheck{x:Operand}:stepE P call h dst ty (.nilCheck x) ρ k=match ρ x with | .loc r p i o=>some (.loc r p i o,k) | .rp b cs=>some (.rp b cs,k) | .d (.ptr o)=>some (.d (.ptr o),k) | .d (.rptr cs)=>some (.d (.rptr cs),k) | .d (.fn (.func f) a c)=>some (.d (.fn (.func f) a c),k) |_=>none:=rfl
theorem st_extract{x:Operand}{n:Nat}:stepE P call h dst ty (.extract x n) ρ k=match ρ x with | .tup l=>(l[n]?).bind fun v=>some (v,k) |_=>none:=by
 show(match ρ x with | .tup l=>(l[n]?).map (·,k) |_=>none)=_
 cases ρ x <;>simp only[xF] <;>rfl
def callV(P:Program)(call:CallF)(h:Hint)(dst:Nat)(f:SV)(xs:List SV)(k:Wk):Option (SV×Wk):=
 match f with
 | .d (.fn (.func g) first cap)=>if YB≤g then none else match extOf P g with
  |some nm=>(SV.pures xs).bind fun ds=>(extE nm (first++ds++cap)).map fun y=>(.d y,k)
  |none=>(snapA (h.nvAt dst) xs k {}).bind fun(ds,k,b)=>(callE call h dst g (canon b.sn (first++ds++cap)) b k).bind noPan
 | .d (.yld o)=>(snapA (h.nvAt dst) xs k {}).bind fun(ds,k,b)=>(callE call h dst (YB+o) (canon b.sn ds) b k).bind noPan
 |_=>none
theorem st_call{f:Operand}{args:Array Operand}{ats:Array TypeId}:stepE P call h dst ty (.call {callee:=.value f,args:=args,argTypes:=ats}) ρ k=callV P call h dst (ρ f) (args.toList.map ρ) k:=by
 unfold callV
 show(match ρ f with | .d (.fn (.func g) first cap)=>_ | .d (.yld o)=>_ |_=>none)=_
 rfl
theorem callV_fn{g:FuncId}{first cap:List D}{xs:List SV}(hg:g<1099511627776)(hx:extOf P g=none):callV P call h dst (.d (.fn (.func g) first cap)) xs k=(snapA (h.nvAt dst) xs k {}).bind fun p=>(callE call h dst g (canon p.2.2.sn (first++p.1++cap)) p.2.2 p.2.1).bind noPan:=by
 unfold callV
 simp only[if_neg (show¬YB≤g from Nat.not_le.2 hg),hx]
theorem nvAt_nil(he:h.emp=[]):h.nvAt dst=h.nv:=by simp[Hint.nvAt,he]
theorem noPan_mk{v:SV}:noPan (v,k)=if v.isPan=true then none else some (v,k):=rfl
theorem isPan_d{x:D}:(SV.d x).isPan=false:=rfl
theorem isPan_bor{r:Root}{p:Path}{o l:Nat}:(SV.bor r p o l).isPan=false:=rfl
theorem isPan_t0:(SV.tup []).isPan=false:=rfl
theorem isPan_td{a:SV}{x:D}:(SV.tup [a,.d x]).isPan=false:=by cases a <;>rfl
theorem isPan_t3{a b c:SV}{l:List SV}:(SV.tup (a::b::c::l)).isPan=false:=by
 unfold SV.isPan
 split
 ·rename_i e;simp at e
 ·rfl
theorem isPanT_0:isPanT []=false:=rfl
theorem isPanT_1{a:T}:isPanT [a]=false:=by cases a <;>rfl
theorem isPanT_2d{a:T}{x:D}:isPanT [a,.d x]=false:=by cases a <;>rfl
theorem isPanT_3{a b c:T}{l:List T}:isPanT (a::b::c::l)=false:=by
 unfold isPanT
 split
 ·rename_i e;simp at e
 ·rfl
theorem st_len{args:Array Operand}{ats:Array TypeId}:stepE P call h dst ty (.call {callee:=.builtin .len,args:=args,argTypes:=ats}) ρ k=match args.toList,ats.toList with | [x],[t]=>(lenE P t k.H (ρ x)).bind fun n=>some (.d (.int .i64 n),k) |_,_=>none:=by
 show(match args.toList,ats.toList with | [x],[t]=>(lenE P t k.H (ρ x)).map fun n=>(SV.d (.int .i64 n),k) |_,_=>none)=_
 simp only[xF];rfl
theorem st_append{args:Array Operand}{ats:Array TypeId}:stepE P call h dst ty (.call {callee:=.builtin .append,args:=args,argTypes:=ats}) ρ k=match args.toList,ats.toList with | [x,y],[t,u]=>if t=u then appendE P h.nv dst t (ρ x) (ρ y) k else none |_,_=>none:=rfl
end
end
def leaveR(P:Program)(own:Bool)(rs:List ResultVar)(n0:Nat)(r:Ex×St):Option (List T×List Ob):=
 match r.1 with
 | .exit _=>none
 | .pan d=>some ([.d d,.agg []],trunc n0 [.d d] r.2.H)
 |_=>(retVals P r.2 rs).bind fun vs=>(absorbQ vs r.2.wk).bind fun p=>(settle own p.1).bind fun ts=>if isPanT ts=true then none else some (ts,trunc n0 ts p.2.H)
theorem leaveR_eq{P:Program}{own:Bool}{fn:Func}{n0:Nat}:leave P own fn n0=leaveR P own fn.results.toList n0:=by
 funext ⟨ex,s⟩
 unfold leave leaveR
 cases ex <;>rfl
theorem leaveR_ret{P:Program}{own:Bool}{rs:List ResultVar}{n0:Nat}{s:St}:leaveR P own rs n0 (.ret,s)=(retVals P s rs).bind fun vs=>(absorbQ vs s.wk).bind fun p=>(settle own p.1).bind fun ts=>if isPanT ts=true then none else some (ts,trunc n0 ts p.2.H):=rfl
theorem retVals_nil{P:Program}{s:St}:retVals P s []=some []:=rfl
theorem retVals_cons{P:Program}{s:St}{r:ResultVar}{rs:List ResultVar}:retVals P s (r::rs)=(retVal P s r).bind fun v=>(retVals P s rs).bind fun vs=>some (v::vs):=by
 simp only[retVals,xF];rfl
theorem retVal_tmp{P:Program}{s:St}{t:Nat}:retVal P s (.tmp t)=some (s.get t):=rfl
theorem retVal_cell{P:Program}{s:St}{t ty:Nat}:retVal P s (.cell t ty)=loadE P ty (s.get t) s.wk:=rfl
theorem absorbQ_0{k:Wk}:absorbQ [] k=some ([],k):=rfl
theorem absorbQ_1{v:SV}{k:Wk}:absorbQ [v] k=absorbA [v] k:=rfl
theorem absorbQ_2{u v:SV}{r:List SV}{k:Wk}:absorbQ (u::v::r) k=if crossing (u::v::r)=true then absorbR (u::v::r) k else absorbA (u::v::r) k:=rfl
theorem crossing_nil:crossing []=false:=rfl
theorem crossing_cons{u:SV}{r:List SV}:crossing (u::r)=(r.any (deepens u) || crossing r):=rfl
theorem deepens_to{u v:SV}(h:v.bp=none):deepens u v=false:=by unfold deepens;rw[h];cases u.bp <;>rfl
theorem deepens_2d{u:SV}{x:D}:deepens u (.d x)=false:=deepens_to rfl
theorem absorbA_nil{k:Wk}:absorbA [] k=some ([],k):=rfl
theorem absorbA_cons{v:SV}{r:List SV}{k:Wk}:absorbA (v::r) k=(absorb 0 v k).bind fun p=>(absorbA r p.2).bind fun q=>some (p.1::q.1,q.2):=by
 simp only[absorbA,xF];rfl
theorem settle_own{ts:List T}:settle true ts=some (ts.map T.fresh):=rfl
theorem settle_frz{ts:List T}:settle false ts=(T.frzs false ts).bind fun xs=>some ((canon false xs).map T.d):=by
 simp only[settle,xF];rfl
theorem frzs_nil{b:Bool}:T.frzs b []=some []:=rfl
theorem frzs_cons{b:Bool}{t:T}{r:List T}:T.frzs b (t::r)=(T.frz b t).bind fun x=>(T.frzs b r).bind fun xs=>some (x::xs):=by
 simp only[T.frzs,xF];rfl
theorem frz_d{b:Bool}{x:D}:T.frz b (.d x)=some x.norm:=by simp only[T.frz]
theorem frz_own{b:Bool}{es:List T}:T.frz b (.own es)=(T.frzs b es).bind fun xs=>some (.sl b xs):=by simp only[T.frz,xF];rfl
theorem frz_agg{b:Bool}{es:List T}:T.frz b (.agg es)=(T.frzs b es).bind fun xs=>some (.agg xs):=by simp only[T.frz,xF];rfl
theorem callX_leave{P:Program}{hints:FuncId→Hint}{f:FuncId}{ds:List D}{H:List Ob}{fn:Func}{c:Code}{rs:List ResultVar}(hy:f<1099511627776)(hrc:(hints f).rcv=false)(hxt:(hints f).ext=none)(hf:P.funcs[f]? =some fn)(hb:fn.body=some c)(hl:ds.length=fn.params.size+fn.nfree)(hk:codeOk fn.ntmps c=true)(hn:(fn.name== "runtime.NumGoroutine")=false)(hr:fn.results.toList=rs)(hx:(decide ((hints f).nilt≠0)&&emptyArg ds)=false):
  callX P hints f ds H=(codeX P hints (hints f) c (enter ds H)).bind (leaveR P (hints f).own rs H.length):=by
 rw[callX_eq (Nat.not_le.2 hy) hrc hxt hf hb hl hk hn hx,leaveR_eq,hr]
theorem callX_leaveR{P:Program}{hints:FuncId→Hint}{f:FuncId}{ds:List D}{es:List T}{fn:Func}{c:Code}{rs:List ResultVar}(hy:f<1099511627776)(hxt:(hints f).ext=none)(hf:P.funcs[f]? =some fn)(hb:fn.body=some c)(hl:ds.length+1=fn.params.size+fn.nfree)(hk:codeOk fn.ntmps c=true)(hn:(fn.name== "runtime.NumGoroutine")=false)(hr:fn.results.toList=rs):
  callX P hints f ds [.row es]=(codeX P hints (hints f) c (enterR es ds)).bind (leaveR P (hints f).own rs 0):=by
 rw[callX_row (Nat.not_le.2 hy) hxt hf hb hl hk hn,leaveR_eq,hr]
theorem enterR_eq{es:List T}{ds:List D}:enterR es ds=⟨(0,.bor (.l 0 0) [] 0 es.length)::ds.zipIdx.map fun p=>(p.2+1,.d p.1),[((0,0),.own es)],[]⟩:=rfl
attribute [go_sem] enterR_eq
attribute [go_sem] codeX_seq codeX_block' codeX_skip codeX_ret codeX_exit codeX_label codeX_scope runOp_plain val_tmp val_int val_bool val_nils val_nilm val_nilf val_func get_mk look_nil look_cons lookR_cons wk_mk fin_some fin_none trs_nil trs_cons trenv_nil trenv_cons sv_d sv_rp sv_dead sv_agg sv_tup trv_nil trv_cons prune_mk envOf_nil envOf_cons st_move st_assign st_pick st_alloc st_box st_build st_buildSlice st_load st_loadG glOK_agg st_store st_binOp st_unOp st_convert st_makeFunc st_makeMap st_slice st_fieldAddr st_field st_indexAddr st_index st_lookup st_insert st_nilCheck st_extract st_call st_len st_append callV_fn nvAt_nil noPan_mk isPan_d isPan_bor isPan_t0 isPan_td isPan_t3 isPanT_0 isPanT_1 isPanT_2d isPanT_3
attribute [go_sem] leaveR_ret retVals_nil retVals_cons retVal_tmp retVal_cell absorbQ_0 absorbQ_1 absorbQ_2 crossing_nil crossing_cons deepens_2d absorbA_nil absorbA_cons settle_own settle_frz frzs_nil frzs_cons frz_d frz_own frz_agg stepS
attribute [go_sem] xS Option.bind_none Option.getD_some Option.getD_none List.map_cons List.map_nil xQ Option.map_none List.cons_append List.nil_append List.append_nil pJ List.zipIdx_cons List.zipIdx_nil enter_eq
end Go.Am
namespace Go.Am
open Go
theorem wrap_i64{x:Int}(h1:-9223372036854775808≤x)(h2:x≤9223372036854775807):IntKind.i64.wrap x=x:=by
 simp only[IntKind.wrap,IntKind.signed,IntKind.bits];simp;omega
section
variable{P:Program}{dst nv:Nat}{sl:Bool}{k:Wk}
@[go_sem] theorem as_int{q:IntKind}{n:Int}:assignE dst sl (.d (.int q n)) k=some (.d (.int q n),k):=rfl
@[go_sem] theorem as_bool{b:Bool}:assignE dst sl (.d (.bool b)) k=some (.d (.bool b),k):=rfl
@[go_sem] theorem as_str{s:List UInt8}:assignE dst sl (.d (.str s)) k=some (.d (.str s),k):=rfl
@[go_sem] theorem as_sl{b:Bool}{l:List D}:assignE dst sl (.d (.sl b l)) k=some (.d (.sl b l),k):=rfl
@[go_sem] theorem as_ptr{o:Nat}:assignE dst sl (.d (.ptr o)) k=some (.d (.ptr o),k):=rfl
@[go_sem] theorem as_nilm:assignE dst sl (.d .nilm) k=some (.d .nilm,k):=rfl
@[go_sem] theorem as_map{o:Nat}:assignE dst sl (.d (.map o)) k=some (.d (.map o),k):=rfl
@[go_sem] theorem as_nilf:assignE dst sl (.d .nilf) k=some (.d .nilf,k):=rfl
@[go_sem] theorem as_fn{f:Fn}{a c:List D}:assignE dst sl (.d (.fn f a c)) k=some (.d (.fn f a c),k):=rfl
@[go_sem] theorem as_nils:assignE dst sl (.d .nils) k=if sl=true then some (.bor (.l dst 0) [] 0 0,k.new dst 0 (.own []))else some (.d .nils,k):=rfl
@[go_sem] theorem as_borP{r:Root}{a:Nat×Nat}{p:Path}{o len:Nat}:assignE dst sl (.bor r (a::p) o len) k=some (.bor r (a::p) o len,k):=by cases r <;>cases o <;>rfl
@[go_sem] theorem as_bor{n j len:Nat}:assignE dst sl (.bor (.l n j) [] 0 len) k=if(n,j)=(dst,0)then some (.bor (.l n j) [] 0 len,k)else(k.get (.l n j)).bind fun c=>match c with
  | .own es=>if len=es.length then some (.bor (.l dst 0) [] 0 len,({k with ct:=((n,j),.dead)::k.ct}.new dst 0 c).tell (.ren (n,j) (dst,0)))else some (.bor (.l n j) [] 0 len,k)
  |_=>none:=rfl
section
variable{c:Bool}{t:TypeId}{q:IntKind}{a b:Int}
@[go_sem] theorem bin_add:binE P c .add t (.d (.int q a)) (.d (.int q b))=some (.int q (q.wrap (a+b))):=by simp[binE,intOp]
@[go_sem] theorem bin_sub:binE P c .sub t (.d (.int q a)) (.d (.int q b))=some (.int q (q.wrap (a - b))):=by simp[binE,intOp]
@[go_sem] theorem bin_mul:binE P c .mul t (.d (.int q a)) (.d (.int q b))=some (.int q (q.wrap (a * b))):=by simp[binE,intOp]
@[go_sem] theorem bin_quo:binE P c .quo t (.d (.int q a)) (.d (.int q b))=if b=0 then none else some (.int q (q.wrap (a.tdiv b))):=by simp[binE,intOp]
@[go_sem] theorem bin_rem:binE P c .rem t (.d (.int q a)) (.d (.int q b))=if b=0 then none else some (.int q (a.tmod b)):=by simp[binE,intOp]
@[go_sem] theorem bin_eql:binE P c .eql t (.d (.int q a)) (.d (.int q b))=some (.bool (decide (a=b))):=by simp[binE,intOp];rfl
@[go_sem] theorem bin_neq:binE P c .neq t (.d (.int q a)) (.d (.int q b))=some (.bool (decide (a≠b))):=by simp[binE,intOp,bne];rfl
@[go_sem] theorem bin_lss:binE P c .lss t (.d (.int q a)) (.d (.int q b))=some (.bool (decide (a<b))):=by simp[binE,intOp]
@[go_sem] theorem bin_leq:binE P c .leq t (.d (.int q a)) (.d (.int q b))=some (.bool (decide (a≤b))):=by simp[binE,intOp]
@[go_sem] theorem bin_gtr:binE P c .gtr t (.d (.int q a)) (.d (.int q b))=some (.bool (decide (b<a))):=by simp[binE,intOp]
@[go_sem] theorem bin_geq:binE P c .geq t (.d (.int q a)) (.d (.int q b))=some (.bool (decide (b≤a))):=by simp[binE,intOp]
@[go_sem] theorem bin_eqlB{x y:Bool}:binE P c .eql t (.d (.bool x)) (.d (.bool y))=match P.underlying t with |some .bool=>some (.bool (decide (x=y))) |_=>none:=by
 simp only[binE,eqV]
 cases P.underlying t with
 |none=>rfl
 |some d=>cases d <;>first |rfl |(cases x <;>cases y <;>rfl)
@[go_sem] theorem bin_neqA{x y:List D}:binE P c .neq t (.d (.agg x)) (.d (.agg y))=(plainS P t).bind fun ks=>(eqKs ks x y).bind fun b=>some (.bool !b):=by
 simp only[binE,eqV]
 cases plainS P t with
 |none=>rfl
 |some ks=>simp only[xS];cases eqKs ks x y <;>rfl
@[go_sem] theorem bin_eqlS{x y:List UInt8}:binE P c .eql t (.d (.str x)) (.d (.str y))=some (.bool (decide (x=y))):=by
 have:(x==y)=decide (x=y):=by rw[Bool.eq_iff_iff];simp
 simp only[binE,strOp,this]
@[go_sem] theorem bin_addS{x y:List UInt8}:binE P c .add t (.d (.str x)) (.d (.str y))=if x.length+y.length≤9223372036854775807 then some (.str (x++y))else none:=by
 simp only[binE,strOp]
@[go_sem] theorem bin_neqS{x y:List UInt8}:binE P c .neq t (.d (.str x)) (.d (.str y))=some (.bool (decide (x≠y))):=by
 have:(!(x==y))=decide (x≠y):=by rw[Bool.eq_iff_iff];simp
 simp only[binE,strOp,this]
end
@[go_sem] theorem eqKs_nil:eqKs [] [] []=some true:=rfl
@[go_sem] theorem eqKs_int{ns:List Nat}{q:IntKind}{a b:Int}{r s:List D}:eqKs (0::ns) (.int q a::r) (.int q b::s)=(eqKs ns r s).bind fun x=>some (decide (a=b)&&x):=by
 simp only[eqKs,eqK,if_true,xS,xF];rfl
@[go_sem] theorem un_not{b:Bool}:unE .not (.d (.bool b))=some (.bool !b):=rfl
@[go_sem] theorem un_neg{q:IntKind}{n:Int}:unE .neg (.d (.int q n))=some (.int q (q.wrap (0 - n))):=rfl
@[go_sem] theorem conv_sl{s t:TypeId}{b:Bool}{l:List D}:convE P s t (.d (.sl b l))=match P.underlying s,P.underlying t with |some (.slice e),some .string=>if isU8 P e=true then(bytesO l).map .str else none |_,_=>none:=rfl
attribute [go_sem] isU8
@[go_sem] theorem conv_int{s t:TypeId}{q:IntKind}{n:Int}:convE P s t (.d (.int q n))=match P.underlying s,P.underlying t with |some _,some (.int q)=>some (.int q (q.wrap n)) |some _,some .string=>some (.str (Utf8.encode n).data.toList) |_,_=>none:=rfl
@[go_sem] theorem len_sl{t:TypeId}{H:List Ob}{b:Bool}{l:List D}:lenE P t H (.d (.sl b l))=match P.underlying t with |some (.slice _)=>some (l.length:Int) |_=>none:=rfl
@[go_sem] theorem len_str{t:TypeId}{H:List Ob}{s:List UInt8}:lenE P t H (.d (.str s))=match P.underlying t with |some .string=>some (s.length:Int) |_=>none:=rfl
@[go_sem] theorem len_bor{t:TypeId}{H:List Ob}{r:Root}{p:Path}{o n:Nat}:lenE P t H (.bor r p o n)=match P.underlying t with |some (.slice _)=>some (n:Int) |_=>none:=rfl
@[go_sem] theorem ia_sl{t:TypeId}{b:Bool}{l:List D}{q:IntKind}{n:Int}:indexAddrE P t (.d (.sl b l)) (.d (.int q n)) k=match P.underlying t with |some (.slice e)=>if 0≤n then(l[n.toNat]?).bind fun y=>if y.nc=P.cellsOf e then some (.rp b y.cells)else none else none |_=>none:=by
 simp only[indexAddrE]
 cases P.underlying t with
 |none=>rfl
 |some d=>cases d <;>rfl
@[go_sem] theorem ia_bor{t:TypeId}{r:Root}{p:Path}{o len:Nat}{q:IntKind}{n:Int}:indexAddrE P t (.bor r p o len) (.d (.int q n)) k=match P.underlying t with
  |some (.slice e)=>if 0≤n∧n<len then(k.get r).bind fun c=>(c.at p).bind fun nd=>match nd with
   | .own es=>(es[o+n.toNat]?).bind fun y=>if y.nc=P.cellsOf e then some (.loc r p (o+n.toNat) 0)else none
   |_=>none
   else none
  |_=>none:=by
 simp only[indexAddrE]
 cases P.underlying t with
 |none=>rfl
 |some d=>cases d <;>rfl
@[go_sem] theorem ld_rp{t:TypeId}{b:Bool}{cs:List D}:loadE P t (.rp b cs) k=(aggO P t).bind fun ag=>if ag=true then(if P.cellsOf t≤cs.length then some (.d (.agg (cs.take (P.cellsOf t))))else none)else(cs[0]?).bind D.sv1:=rfl
def loadC(P:Program)(t:TypeId)(r:Root)(p:Path)(i off:Nat)(e:T):Option SV:=
 (aggO P t).bind fun ag=>if ag=true then
   match e with
   | .d (.agg l)=>if off+P.cellsOf t≤l.length then some (.d (.agg (win l off (P.cellsOf t))))else none
   | .agg cs=>if off+P.cellsOf t≤cs.length then(cellsSV r p i off (win cs off (P.cellsOf t))).map SV.mkAgg else none
   |_=>none
  else(e.cell off).bind (cellSV r p i off)
@[go_sem] theorem ld_loc{t:TypeId}{r:Root}{p:Path}{i off:Nat}:loadE P t (.loc r p i off) k=(k.get r).bind fun c=>(c.at p).bind fun nd=>match nd with | .own es=>(es[i]?).bind (loadC P t r p i off) |_=>none:=by
 simp only[loadE,asLoc]
 cases k.get r with
 |none=>rfl
 |some c=>
  simp only[xS]
  cases c.at p with
  |none=>rfl
  |some nd=>cases nd <;>rfl
@[go_sem] theorem ld_ptr{t:TypeId}{n:Nat}:loadE P t (.d (.ptr n)) k=loadE P t (.loc (.o n) [] 0 0) k:=rfl
@[go_sem] theorem loadC_d{t:TypeId}{r:Root}{p:Path}{i off:Nat}{x:D}:loadC P t r p i off (.d x)=(aggO P t).bind fun ag=>if ag=true then(match x with | .agg l=>if off+P.cellsOf t≤l.length then some (.d (.agg (win l off (P.cellsOf t))))else none |_=>none)else(T.cell (.d x) off).bind (cellSV r p i off):=by
 simp only[loadC];cases x <;>rfl
@[go_sem] theorem loadC_agg{t:TypeId}{r:Root}{p:Path}{i off:Nat}{cs:List T}:loadC P t r p i off (.agg cs)=(aggO P t).bind fun ag=>if ag=true then(if off+P.cellsOf t≤cs.length then(cellsSV r p i off (win cs off (P.cellsOf t))).map SV.mkAgg else none)else(T.cell (.agg cs) off).bind (cellSV r p i off):=rfl
@[go_sem] theorem cell_agg{l:List T}{o:Nat}:T.cell (.agg l) o=l[o]? :=rfl
@[go_sem] theorem cell_dagg{l:List D}{o:Nat}:T.cell (.d (.agg l)) o=(l[o]?).bind fun x=>some (.d x):=by
 show(l[o]?).map _=_;rw[xF];rfl
@[go_sem] theorem cell_int{q:IntKind}{n:Int}:T.cell (.d (.int q n)) 0=some (.d (.int q n)):=rfl
@[go_sem] theorem cell_str{s:List UInt8}:T.cell (.d (.str s)) 0=some (.d (.str s)):=rfl
@[go_sem] theorem cell_ptr{o:Nat}:T.cell (.d (.ptr o)) 0=some (.d (.ptr o)):=rfl
@[go_sem] theorem csv_d{r:Root}{p:Path}{i o:Nat}{x:D}:cellSV r p i o (.d x)=x.sv1:=rfl
@[go_sem] theorem csv_own{r:Root}{p:Path}{i o:Nat}{es:List T}:cellSV r p i o (.own es)=some (.bor r (p++[(i,o)]) 0 es.length):=rfl
@[go_sem] theorem sv1_int{q:IntKind}{n:Int}:D.sv1 (.int q n)=some (.d (.int q n)):=rfl
@[go_sem] theorem sv1_str{s:List UInt8}:D.sv1 (.str s)=some (.d (.str s)):=rfl
@[go_sem] theorem sv1_sl{b:Bool}{l:List D}:D.sv1 (.sl b l)=some (.d (.sl b l)):=rfl
@[go_sem] theorem sv1_ptr{o:Nat}:D.sv1 (.ptr o)=some (.d (.ptr o)):=rfl
@[go_sem] theorem sv1_map{o:Nat}:D.sv1 (.map o)=some (.d (.map o)):=rfl
@[go_sem] theorem sv1_fn{f:Fn}{a c:List D}:D.sv1 (.fn f a c)=some (.d (.fn f a c)):=rfl
@[go_sem] theorem cells_int{q:IntKind}{n:Int}:D.cells (.int q n)=[.int q n]:=rfl
@[go_sem] theorem cells_str{s:List UInt8}:D.cells (.str s)=[.str s]:=rfl
@[go_sem] theorem cells_agg{l:List D}:D.cells (.agg l)=l:=rfl
@[go_sem] theorem nc_int{q:IntKind}{n:Int}:D.nc (.int q n)=1:=rfl
@[go_sem] theorem nc_str{s:List UInt8}:D.nc (.str s)=1:=rfl
@[go_sem] theorem nc_sl{b:Bool}{l:List D}:D.nc (.sl b l)=1:=rfl
@[go_sem] theorem nc_agg{l:List D}:D.nc (.agg l)=l.length:=rfl
@[go_sem] theorem nc_ptr{o:Nat}:D.nc (.ptr o)=1:=rfl
@[go_sem] theorem nc_map{o:Nat}:D.nc (.map o)=1:=rfl
@[go_sem] theorem nc_fn{f:Fn}{a c:List D}:D.nc (.fn f a c)=1:=rfl
@[go_sem] theorem tnc_d{x:D}:T.nc (.d x)=x.nc:=rfl
@[go_sem] theorem tnc_own{l:List T}:T.nc (.own l)=1:=rfl
@[go_sem] theorem tnc_agg{l:List T}:T.nc (.agg l)=l.length:=rfl
@[go_sem] theorem fa_rp{t:TypeId}{b:Bool}{cs:List D}{f:Nat}:fieldAddrE P t (.rp b cs) f k=(fieldOf P t f).bind fun p=>if 0<p.2.1 then some (.rp b (cs.drop p.1))else none:=rfl
@[go_sem] theorem fa_loc{t:TypeId}{r:Root}{p:Path}{i o f:Nat}:fieldAddrE P t (.loc r p i o) f k=(fieldOf P t f).bind fun q=>if 0<q.2.1 then(if locOk k r p i (o+q.1)=true then some (.loc r p i (o+q.1))else none)else none:=rfl
@[go_sem] theorem fa_rptr{t:TypeId}{cs:List D}{f:Nat}:fieldAddrE P t (.d (.rptr cs)) f k=fieldAddrE P t (.rp true cs) f k:=rfl
@[go_sem] theorem fa_ptr{t:TypeId}{n f:Nat}:fieldAddrE P t (.d (.ptr n)) f k=fieldAddrE P t (.loc (.o n) [] 0 0) f k:=rfl
@[go_sem] theorem fe_agg{t:TypeId}{l:List D}{f:Nat}:fieldE P t (.d (.agg l)) f=(fieldOf P t f).bind fun q=>if q.2.2=true then(if q.1+q.2.1≤l.length then some (.d (.agg (win l q.1 q.2.1)))else none)else(l[q.1]?).bind D.sv1:=rfl
@[go_sem] theorem at_nil{t:T}:t.at []=some t:=by unfold T.at;rfl
@[go_sem] theorem at_cons{es:List T}{i o:Nat}{p:Path}:T.at (.own es) ((i,o)::p)=(es[i]?).bind fun e=>(e.cell o).bind fun c=>c.at p:=by simp only[T.at]
@[go_sem] theorem put_nil{t x:T}:t.put [] x=some x:=by unfold T.put;rfl
@[go_sem] theorem put_cons{es:List T}{i o:Nat}{p:Path}{x:T}:T.put (.own es) ((i,o)::p) x=(es[i]?).bind fun e=>(e.cell o).bind fun c=>(c.put p x).bind fun c'=>some (.own (es.set i (e.putCell o c'))):=by simp only[T.put,xF];rfl
@[go_sem] theorem get_l{ct:List ((Nat×Nat)×T)}{H:List Ob}{tr:List Tr}{n j:Nat}:Wk.get ⟨ct,H,tr⟩ (.l n j)=lookR ct (n,j):=rfl
@[go_sem] theorem get_o{ct:List ((Nat×Nat)×T)}{H:List Ob}{tr:List Tr}{n:Nat}:Wk.get ⟨ct,H,tr⟩ (.o n)=match H[n]? with |some (.box c)=>some (.own [c]) |_=>none:=rfl
@[go_sem] theorem set_l{ct:List ((Nat×Nat)×T)}{H:List Ob}{tr:List Tr}{n j:Nat}{t:T}:Wk.set ⟨ct,H,tr⟩ (.l n j) t=some ⟨((n,j),t)::ct,H,tr⟩:=rfl
@[go_sem] theorem set_o{ct:List ((Nat×Nat)×T)}{H:List Ob}{tr:List Tr}{n:Nat}{c:T}:Wk.set ⟨ct,H,tr⟩ (.o n) (.own [c])=some ⟨ct,H.set n (.box c),tr⟩:=rfl
@[go_sem] theorem tell_mk{ct:List ((Nat×Nat)×T)}{H:List Ob}{tr:List Tr}{x:Tr}:Wk.tell ⟨ct,H,tr⟩ x=⟨ct,H,tr++[x]⟩:=rfl
@[go_sem] theorem new_mk{ct:List ((Nat×Nat)×T)}{H:List Ob}{tr:List Tr}{n j:Nat}{t:T}:Wk.new ⟨ct,H,tr⟩ n j t=⟨((n,j),t)::ct,H,tr++[.kill (.l n j) []]⟩:=rfl
@[go_sem] theorem box_eq{h:Hint}{x:T}:boxE h dst x k=if x.nc=0 then none else if h.objs.contains dst=true then some (.d (.ptr k.H.length),{k with H:=k.H++[.box x]})else some (.loc (.l dst 0) [] 0 0,k.new dst 0 (.own [x])):=rfl
attribute [go_sem] absorb_d
@[go_sem] theorem locOk_eq{r:Root}{p:Path}{i off:Nat}:locOk k r p i off=((k.get r).bind fun c=>c.at p).any fun nd=>match nd with | .own es=>(es[i]?).any fun e=>decide (off<e.nc) |_=>false:=by
 unfold locOk
 cases(k.get r).bind fun c=>c.at p with
 |none=>rfl
 |some x=>cases x with
  |own es=>simp only[Option.any_some];cases es[i]? <;>rfl
  |_=>rfl
@[go_sem] theorem any_map{α β:Type}{o:Option α}{f:α→β}{g:β→Bool}:(o.map f).any g=o.any fun x=>g (f x):=by cases o <;>rfl
@[go_sem] theorem bind_dup{α β:Type}{o:Option α}{f:α→α→Option β}:(o.bind fun x=>o.bind fun y=>f x y)=o.bind fun x=>f x x:=by cases o <;>rfl
@[go_sem] theorem ab_bor{r:Root}{p:Path}{o len:Nat}:absorb nv (.bor r p o len) k=absorb1 nv (trv k.tr (.bor r p o len)) k:=rfl
@[go_sem] theorem ab_agg{l:List SV}:absorb nv (.agg l) k=(absorbs nv l k).bind fun p=>some (T.mkAgg p.1,p.2):=by show(absorbs nv l k).map _=_;rw[xF];rfl
@[go_sem] theorem ab1_d{x:D}:absorb1 nv (.d x) k=some (.d x,k):=rfl
@[go_sem] theorem ab1_l{n j o len:Nat}:absorb1 nv (.bor (.l n j) [] o len) k=(k.get (.l n j)).bind fun c=>match c with
  | .own es=>if nv≤n∧o=0∧len=es.length then(k.set (.l n j) .dead).bind fun(k:Wk)=>some (.own es,k.tell (.kill (.l n j) []))
   else(T.frzs false es).bind fun l=>(k.set (.l n j) .dead).bind fun(k:Wk)=>some (.d (.sl false (win l o len)),k.tell (.frz (.l n j) [] l))
  |_=>none:=by
 simp only[absorb1]
 cases k.get (.l n j)with
 |none=>rfl
 |some c=>
  simp only[xS,at_nil]
  cases c with
  |own es=>simp only[xF];rfl
  |_=>rfl
@[go_sem] theorem abs_nil:absorbs nv [] k=some ([],k):=rfl
@[go_sem] theorem abs_cons{v:SV}{r:List SV}:absorbs nv (v::r) k=(absorb1 nv (trv k.tr v) k).bind fun p=>(absorbs nv r p.2).bind fun q=>some (p.1::q.1,q.2):=by simp only[absorbs,xF];rfl
@[go_sem] theorem sna_nil{b:Lend}:snapA nv [] k b=some ([],k,b):=rfl
@[go_sem] theorem sna_cons{v:SV}{r:List SV}{b:Lend}:snapA nv (v::r) k b=(snap nv v k b).bind fun p=>(snapA nv r p.2.1 p.2.2).bind fun q=>some (p.1::q.1,q.2.1,q.2.2):=by simp only[snapA,xF];rfl
@[go_sem] theorem sn_d{x:D}{b:Lend}:snap nv (.d x) k b=some (if EM≤nv then x else x.norm,k,b):=by simp only[snap,trv_d,snap1]
@[go_sem] theorem sn_bor{r:Root}{p:Path}{o len:Nat}{b:Lend}:snap nv (.bor r p o len) k b=snap1 nv (trv k.tr (.bor r p o len)) k b:=rfl
@[go_sem] theorem norm_int{q:IntKind}{n:Int}:D.norm (.int q n)=.int q n:=rfl
@[go_sem] theorem norm_bool{b:Bool}:D.norm (.bool b)=.bool b:=rfl
@[go_sem] theorem norm_str{s:List UInt8}:D.norm (.str s)=.str s:=rfl
@[go_sem] theorem norm_sl{b:Bool}{l:List D}:D.norm (.sl b l)=.sl b l:=rfl
@[go_sem] theorem norm_nils:D.norm .nils=.sl false []:=rfl
@[go_sem] theorem norm_ptr{o:Nat}:D.norm (.ptr o)=.ptr o:=rfl
@[go_sem] theorem norm_map{o:Nat}:D.norm (.map o)=.map o:=rfl
@[go_sem] theorem norm_fn{f:Fn}{a c:List D}:D.norm (.fn f a c)=.fn f a c:=rfl
@[go_sem] theorem norm_agg'{l:List D}:D.norm (.agg l)=.agg (l.map D.norm1):=rfl
@[go_sem] theorem norm1_int{q:IntKind}{n:Int}:D.norm1 (.int q n)=.int q n:=rfl
@[go_sem] theorem norm1_bool{b:Bool}:D.norm1 (.bool b)=.bool b:=rfl
@[go_sem] theorem norm1_str{s:List UInt8}:D.norm1 (.str s)=.str s:=rfl
@[go_sem] theorem norm1_sl{b:Bool}{l:List D}:D.norm1 (.sl b l)=.sl b l:=rfl
@[go_sem] theorem norm1_fn{f:Fn}{a c:List D}:D.norm1 (.fn f a c)=.fn f a c:=rfl
@[go_sem] theorem pick_cons{ct:List ((Nat×Nat)×T)}{x:Nat×Nat}{r:List (Nat×Nat)}:pick ct (x::r)=match lookR ct x with |some t=>(x,t)::pick ct r |none=>pick ct r:=rfl
@[go_sem] theorem pick_nil'{ct:List ((Nat×Nat)×T)}:pick ct []=[]:=rfl
attribute [go_sem] SV.rootss SV.roots dedup
end
end Go.Am
namespace Go.Am
open Go
structure Lite where
 d:Option Nat
 ty:TypeId
 op:Op
 g:Option (Nat×Bool)
def liteOf(ops:List Oper)(o:Oper):Lite:=⟨o.dst,o.type,o.op,o.guard.map fun p=>(gslot ops p.1,p.2)⟩
def stepL(P:Program)(call:CallF)(h:Hint)(o:Lite)(s:St):Option St:=
 match o.g with
 |none=>stepS P call h o.d o.ty o.op s
 |some (t,want)=>stepG P call h o.d o.ty o.op want (s.get t) s
def runL(P:Program)(call:CallF)(h:Hint):List Lite→St→Option St
 | [],s=>some s
 |o::r,s=>(stepL P call h o s).bind (runL P call h r)
def guardOk(ops:List Oper)(o:Oper):Bool:=match o.guard with |none=>true |some (j,_)=>((ops[j]?).bind (·.dst)).isSome
section
variable{P:Program}{hints:FuncId→Hint}{call:CallF}{h:Hint}
theorem runOp_lite{ops:List Oper}{o:Oper}{s:St}(hg:guardOk ops o=true):runOp P call h ops o s=stepL P call h (liteOf ops o) s:=by
 obtain⟨d,op,ty,pos,after,guard⟩:=o
 cases guard with
 |none=>exact runOp_plain
 |some p=>obtain⟨j,want⟩:=p;exact runOp_guard hg
theorem runOps_lite{ops:List Oper}:∀(l:List Oper) (s:St),l.all (guardOk ops)=true→runOps P call h ops l s=runL P call h (l.map (liteOf ops)) s
 | [],s,_=>rfl
 |o::l,s,hg=>by
  simp only[List.all_cons,xA]at hg
  simp only[runOps,List.map_cons,runL,runOp_lite hg.1]
  congr 1
  funext s'
  exact runOps_lite l s' hg.2
def slotsApart(ops:List Oper)(x y:Oper):Bool:=
 (match x.dst with |some d=> !(looks ops y).contains d&&y.dst !=some d |none=>true)&&
 (match y.dst with |some d=> !(looks ops x).contains d |none=>true)
def stRow(ops:List Oper)(b:Nat)(y:Oper):Nat→List Oper→Bool
 |_,[]=>true
 |j,x::r=>(b.testBit j || slotsApart ops x y)&&stRow ops b y (j+1) r
def stAll(ops:List Oper):Nat→List Nat→List Oper→Bool
 |i,b::bs,y::r=>stRow ops b y 0 (ops.take i)&&stAll ops (i+1) bs r
 |_,_,_=>true
def pureR(h:Hint)(ops:List Oper):Bool:=ops.all (fun o=> !effOf h (o.dst.getD 0) o.op)&&(match befs ops []with |some bs=>stAll ops 0 bs ops |none=>false)
def PureFp(ops:List Oper)(o:Oper)(f:Fp):Prop:=f.sl=looks ops o∧f.dst=o.dst∧f.wr=[]∧f.hw=false∧f.ren=false
theorem runOpF_pure{ops:List Oper}{o:Oper}{c:Cf}(he:effOf h (o.dst.getD 0) o.op=false){s':St}(e:runOp P call h ops o c.1=some s'):∃c' f,runOpF P call h ops o c=some (c',f)∧c'.1=s'∧PureFp ops o f:=by
 rw[runOp_evalO]at e
 simp only[xM]at e
 obtain⟨⟨w,v,k⟩,e1,rfl⟩:=e
 refine⟨_,_,runOpF_mk e1,rfl,rfl,rfl,?_,?_,?_⟩
 ·have:=(evalO_grown e1).2 (by simp[he])
  subst this
  simp[fpOf,newKeys,St.wk]
 ·simp[fpOf,he]
 ·have:=(evalO_grown e1).2 (by simp[he])
  subst this
  rfl
theorem runOpsF_pure{ops:List Oper}:∀(l:List Oper) {c:Cf} {s':St},(∀o∈l,effOf h (o.dst.getD 0) o.op=false)→runOps P call h ops l c.1=some s'→∃c' fs,runOpsF P call h ops l c=some (c',fs)∧c'.1=s'∧All2 (PureFp ops) l fs
 | [],c,s',_,e=>by simp only[runOps,xJ]at e;exact⟨c,[],rfl,e,rfl⟩
 |o::l,c,s',he,e=>by
  simp only[runOps,xB]at e
  obtain⟨s1,e1,e2⟩:=e
  obtain⟨c1,f,g1,rfl,g3⟩:=runOpF_pure (he o (by simp)) e1
  obtain⟨c2,fs,q1,q2,q3⟩:=runOpsF_pure l (fun o ho=>he o (by simp[ho])) e2
  exact⟨c2,f::fs,by simp only[runOpsF,g1,xS,q1,xQ],q2,f,fs,rfl,g3,q3⟩
theorem apart_pure{ops:List Oper}{x y:Oper}{f g:Fp}(hf:PureFp ops x f)(hg:PureFp ops y g)(h:slotsApart ops x y=true):apartFp f g=true:=by
 obtain⟨f1,f2,f3,f4,f5⟩:=hf
 obtain⟨g1,g2,g3,g4,g5⟩:=hg
 suffices apartB f g=true by simp[apartFp,this]
 simp only[apartB,f1,f2,f3,f4,f5,g1,g2,g3,g4,g5]
 simp only[slotsApart,xA]at h
 cases hx:x.dst <;>cases hy:y.dst <;>simp only[hx,hy]at h ⊢ <;>simp[meet] <;>simpa using h
theorem checkRow_pure{ops:List Oper}{y:Oper}{b:Nat}{g:Fp}(hg:PureFp ops y g):∀(l:List Oper) (fs:List Fp) (j:Nat),All2 (PureFp ops) l fs→stRow ops b y j l=true→checkRow b g j fs=true
 | [],fs,j,ha,_=>by rw[show fs=[]from ha];rfl
 |x::l,fs,j,ha,hs=>by
  obtain⟨f,r,rfl,h1,h2⟩:=ha
  simp only[stRow,xA,Bool.or_eq_true]at hs
  simp only[checkRow,xA,Bool.or_eq_true]
  exact⟨hs.1.imp id (apart_pure h1 hg),checkRow_pure hg l r (j+1) h2 hs.2⟩
theorem checkF_pure{ops:List Oper}{all:List Fp}(hall:All2 (PureFp ops) ops all):∀(l:List Oper) (fs:List Fp) (i:Nat) (bs:List Nat),All2 (PureFp ops) l fs→stAll ops i bs l=true→checkF all i bs fs=true
 | [],fs,i,bs,ha,_=>by rw[show fs=[]from ha];cases bs <;>rfl
 |y::l,fs,i,[],ha,_=>by obtain⟨f,r,rfl,_,_⟩:=ha;rfl
 |y::l,fs,i,b::bs,ha,hs=>by
  obtain⟨f,r,rfl,h1,h2⟩:=ha
  simp only[stAll,xA]at hs
  simp only[checkF,xA]
  exact⟨checkRow_pure h1 _ _ 0 (All2.take i hall) hs.1,checkF_pure hall l r (i+1) bs h2 hs.2⟩
def regOk(h:Hint)(id:Nat)(ls:List Nat)(c:Code):Bool:=
 match c with
 | .region i ops dr=>decide (i=id)&&ops.toList.all (guardOk ops.toList)&&(!dr || pureR h ops.toList)&&decide (h.live id=ls)&& !h.pan.contains id&&(!dr || (h.swp id).isNone)
 |_=>false
def opsL(c:Code):List Lite:=match c with | .region _ ops _=>ops.toList.map (liteOf ops.toList) |_=>[]
theorem rg_eq{c:Code}{id:Nat}{ls:List Nat}{L:List Lite}(hk:regOk h id ls c=true)(hL:opsL c=L)(s:St):codeX P hints h c s=(runL P (callX P hints) h L s).bind fun s'=>some (.normal,prune ls s'):=by
 unfold regOk at hk
 split at hk
 ·rename_i i ops dr
  simp only[xA,yD,Bool.or_eq_true,Bool.not_eq_true']at hk
  obtain⟨⟨⟨⟨⟨rfl,hg⟩,hd⟩,hl⟩,hpan⟩,hsw⟩:=hk
  subst hL
  have text:(codeX P hints h (.region i ops false) s)=(runL P (callX P hints) h (ops.toList.map (liteOf ops.toList)) s).bind fun s'=>some (.normal,prune ls s'):=by
   rw[codeX_region hpan,runOps_lite _ _ hg,hl,xF];rfl
  cases dr with
  |false=>exact text
  |true=>
   rcases hd with hd |hd
   ·cases hd
   ·refine Eq.trans ?_ text
    have hsw':h.swp i=none:=by
     rcases hsw with q |q
     ·cases q
     ·simpa using q
    rw[codeX_draw hsw',codeX_region hpan,hl]
    simp only[pureR,xA,List.all_eq_true,Bool.not_eq_true']at hd
    obtain⟨he,hb⟩:=hd
    split at hb
    ·rename_i bs hbs
     refine ext_some fun r=> ?_
     simp only[xB,xM]
     constructor
     ·rintro⟨⟨c',fs⟩,e1,e2⟩
      simp only at e2
      split at e2
      ·refine⟨c'.1,?_,by simpa using e2⟩
       have:∀(l:List Oper) (c c':Cf) (fs:List Fp),runOpsF P (callX P hints) h ops.toList l c=some (c',fs)→runOps P (callX P hints) h ops.toList l c.1=some c'.1:=by
        intro l
        induction l with
        |nil=>intro c c' fs e;simp only[runOpsF,xJ,pJ]at e;rw[←e.1];rfl
        |cons o l ih=>
         intro c c' fs e
         simp only[runOpsF,xB,xM,pJ]at e
         obtain⟨⟨c1,f⟩,e1,⟨c2,fs'⟩,e2,rfl,_⟩:=e
         simp only[runOps,runOpF_op e1,xS]
         exact ih _ _ _ e2
       exact this _ _ _ _ e1
      ·cases e2
     ·rintro⟨s',e1,rfl⟩
      obtain⟨c',fs,q1,q2,q3⟩:=runOpsF_pure ops.toList (c:=(s,hist0 s)) he e1
      refine⟨(c',fs),q1,?_⟩
      have hck:checkR ops.toList fs=true:=by
       unfold checkR
       rw[hbs]
       exact checkF_pure q3 _ _ 0 bs q3 hb
      simp only[hck,if_true,q2]
    ·cases hb
 ·cases hk
def nextL(P:Program)(call:CallF)(h:Hint)(d:Option Nat)(r:List Lite)(s:St)(v:SV)(k:Wk):Option St:=runL P call h r (s.fin d v k)
section
variable{d:Option Nat}{ty:TypeId}{op:Op}{r:List Lite}{env:List (Nat×SV)}{ct ct':List ((Nat×Nat)×T)}{H H':List Ob}{tr:List Tr}{v:SV}{s:St}{t:Nat}{want b:Bool}
@[go_sem] theorem runL_plain:runL P call h (⟨d,ty,op,none⟩::r) ⟨env,ct,H⟩=(stepE P call h (d.getD 0) ty op (St.val ⟨env,ct,H⟩) ⟨ct,H,[]⟩).bind fun p=>nextL P call h d r ⟨env,ct,H⟩ p.1 p.2:=by
 simp only[runL,stepL,stepS,xX,xS];rfl
def guardL(P:Program)(call:CallF)(h:Hint)(d:Option Nat)(ty:TypeId)(op:Op)(want:Bool)(r:List Lite)(s:St)(g:SV):Option St:=(stepG P call h d ty op want g s).bind fun s'=>runL P call h r s'
@[go_sem] theorem runL_guard:runL P call h (⟨d,ty,op,some (t,want)⟩::r) ⟨env,ct,H⟩=guardL P call h d ty op want r ⟨env,ct,H⟩ (St.get ⟨env,ct,H⟩ t):=rfl
@[go_sem] theorem guardL_bool:guardL P call h d ty op want r ⟨env,ct,H⟩ (.d (.bool b))=if b=want then(stepE P call h (d.getD 0) ty op (St.val ⟨env,ct,H⟩) ⟨ct,H,[]⟩).bind fun p=>nextL P call h d r ⟨env,ct,H⟩ p.1 p.2 else runL P call h r (St.fin ⟨env,ct,H⟩ d (.tup []) ⟨ct,H,[]⟩):=by
 by_cases e:b=want
 ·simp only[guardL,stepG_bool,e,if_true,stepS,xX,xS];rfl
 ·simp only[guardL,stepG_bool,e,if_false,xS];rfl
@[go_sem] theorem guardL_skip:guardL P call h d ty op want r ⟨env,ct,H⟩ (.tup [])=runL P call h r (St.fin ⟨env,ct,H⟩ d (.tup []) ⟨ct,H,[]⟩):=rfl
end
end
end Go.Am
namespace Go.Am
open Go
structure LF where
 d:Option Nat
 g:Option (Nat×Bool)
 ty:TypeId
 op:Op
 lk:List Nat
 u:List Nat
 nd:Bool
 eff:Bool
 rds:Bool
 hr:Bool
 ho:Bool
def lfOf(h:Hint)(ops:List Oper)(nd:Bool)(u:List Nat)(o:Oper):LF:=
 ⟨o.dst,o.guard.map fun p=>(gslot ops p.1,p.2),o.type,o.op,looks ops o,u,nd,effOf h (o.dst.getD 0) o.op,reads o.op,hrOf h (o.dst.getD 0) o.op,hOf h (o.dst.getD 0) o.op⟩
def fpW(o:LF)(hi:Hist)(s:St)(w:Bool)(v:SV)(k:Wk):Fp:=
 {sl:=o.lk,dst:=o.d,rd:=if isMove o.op=true then []else o.lk.flatMap (histOf hi)++v.srts++(if o.rds=true then o.lk.flatMap fun t=>(s.get t).rts else []),wr:=newKeys s.wk k++k.tr.flatMap Tr.rts,
  hr:=(w&&o.hr) || (if isMove o.op=true then []else o.lk.flatMap (histOf hi)++v.srts++(if o.rds=true then o.lk.flatMap fun t=>(s.get t).rts else [])).any Root.isO || (newKeys s.wk k++k.tr.flatMap Tr.rts).any Root.isO || k.tr.any Tr.isKillO,
  hw:=(w&&o.eff)&&(o.ho || (leansO o.op&&(o.lk.flatMap fun t=>(s.get t).rts).any Root.isO) || k.tr.any Tr.isKillO),ren:=k.tr.any Tr.isRen,rx:=if w=true then rxOf o.eff o.op s.val v else none,sx:=sxOf (if w=true then rxOf o.eff o.op s.val v else none) (v::o.lk.map fun t=>s.get t),wx:=if w=true then wxOf o.op s.val else none,ox:=oxOf (if w=true then wxOf o.op s.val else none) k.tr}
def wantF(o:LF)(s:St):Option Bool:=
 match o.g with
 |none=>some true
 |some (t,want)=>match s.get t with
  | .d (.bool b)=>some (b==want)
  | .tup []=>some false
  |_=>none
def evalF(P:Program)(call:CallF)(h:Hint)(o:LF)(s:St):Option (Bool×SV×Wk):=
 (wantF o s).bind fun w=>if w=true then(stepE P call h (o.d.getD 0) o.ty o.op s.val s.wk).bind fun p=>some (true,p.1,p.2)else some (false,.tup [],s.wk)
def apartAt(acc:List Fp)(f:Fp)(j:Nat):Bool:=match acc[j]? with |some g=>apartFp g f |none=>false
def fp0:Fp:=⟨[],none,[],[],false,false,false,none,[],none,[]⟩
def runC(P:Program)(call:CallF)(h:Hint):List LF→Cf→List Fp→Option St
 | [],c,_=>some c.1
 |o::r,c,acc=>(evalF P call h o c.1).bind fun q=>
  if o.u.all (apartAt acc (fpW o c.2 c.1 q.1 q.2.1 q.2.2))=true then runC P call h r (c.1.fin o.d q.2.1 q.2.2,histAdd c.2 q.2.2.tr o.d (histV o.op c.2 q.2.1)) (acc++[if o.nd=true then fpW o c.2 c.1 q.1 q.2.1 q.2.2 else fp0])else none
section
variable{P:Program}{hints:FuncId→Hint}{call:CallF}{h:Hint}
theorem evalF_lf{ops:List Oper}{nd:Bool}{u:List Nat}{o:Oper}{s:St}(hg:guardOk ops o=true):evalO P call h ops o s=evalF P call h (lfOf h ops nd u o) s:=by
 have:wantE ops s o=wantF (lfOf h ops nd u o) s:=by
  obtain⟨d,op,ty,pos,after,guard⟩:=o
  cases guard with
  |none=>rfl
  |some p=>
   obtain⟨j,want⟩:=p
   simp only[guardOk,Option.isSome_iff_exists]at hg
   obtain⟨t,ht⟩:=hg
   simp only[wantE,wantF,lfOf,xQ,gslot,ht,Option.getD_some]
   rfl
 simp only[evalO,evalF,this,xF]
 rfl
theorem fpW_lf{ops:List Oper}{nd:Bool}{u:List Nat}{o:Oper}{hi:Hist}{s:St}{w:Bool}{v:SV}{k:Wk}:fpOf h ops o hi s w v k=fpW (lfOf h ops nd u o) hi s w v k:=rfl
def checkUs:List Fp→List (List Nat)→List Fp→Bool
 |acc,u::us,f::fs=>u.all (apartAt acc f)&&checkUs (acc++[f]) us fs
 |_,_,_=>true
def lfs(h:Hint)(ops:List Oper):List Bool→List (List Nat)→List Oper→List LF
 |n::ns,u::us,o::r=>lfOf h ops n u o::lfs h ops ns us r
 |_,_,_=>[]
def AccOk(all:List Bool)(a b:List Fp):Prop:=a.length=b.length∧∀j:Nat,all[j]? =some true→a[j]? =b[j]?
theorem apart_acc{all:List Bool}{a b:List Fp}{f:Fp}{u:List Nat}(ha:AccOk all a b)(hu:u.all (fun j=>decide (all[j]? =some true))=true):u.all (apartAt a f)=u.all (apartAt b f):=by
 rw[Bool.eq_iff_iff,List.all_eq_true,List.all_eq_true]
 simp only[List.all_eq_true,yD]at hu
 have e:∀j∈u,apartAt a f j=apartAt b f j:=fun j hj=>by unfold apartAt;rw[ha.2 j (hu j hj)]
 exact⟨fun h j hj=>(e j hj)▸h j hj,fun h j hj=>(e j hj).symm▸h j hj⟩
theorem accOk_snoc{all pre r:List Bool}{n:Bool}{a b:List Fp}{f:Fp}(ha:AccOk all a b)(hall:all=pre++n::r)(hl:a.length=pre.length):AccOk all (a++[if n=true then f else fp0]) (b++[f]):=by
 refine⟨by simp[ha.1],fun j hj=> ?_⟩
 by_cases e:j<a.length
 ·rw[xO e,xO (ha.1▸e)];exact ha.2 j hj
 ·by_cases e2:j=a.length
  ·subst e2
   have:all[a.length]? =some n:=by rw[hall,hl];simp
   rw[this]at hj
   cases hj
   rw[xN (Nat.le_refl _),ha.1,xN (Nat.le_refl _)]
   simp
  ·rw[List.getElem?_eq_none (by simp;omega),List.getElem?_eq_none (by simp[←ha.1];omega)]
theorem runC_eq{ops:List Oper}{all:List Bool}:∀(l:List Oper) (pre ns:List Bool) (us:List (List Nat)) (c:Cf) (acc acc':List Fp),l.all (guardOk ops)=true→us.length=l.length→ns.length=l.length→all=pre++ns→us.all (fun u=>u.all fun j=>decide (all[j]? =some true))=true→AccOk all acc' acc→acc'.length=pre.length→
  runC P call h (lfs h ops ns us l) c acc'=(runOpsF P call h ops l c).bind fun p=>if checkUs acc us p.2=true then some p.1.1 else none
 | [],pre,[],[],c,acc,acc',_,_,_,_,_,_,_=>rfl
 |o::l,pre,n::ns,u::us,c,acc,acc',hg,hl,hn,hall,hu,ha,hp=>by
  simp only[List.all_cons,xA]at hg hu
  simp only[lfs,runC,runOpsF,runOpF,←evalF_lf (u:=u) (nd:=n) hg.1]
  cases evalO P call h ops o c.1 with
  |none=>rfl
  |some q=>
   obtain⟨w,v,k⟩:=q
   simp only[xS,xQ,←fpW_lf,show(lfOf h ops n u o).u=u from rfl,show(lfOf h ops n u o).d=o.dst from rfl,show(lfOf h ops n u o).nd=n from rfl,show(lfOf h ops n u o).op=o.op from rfl,apart_acc ha hu.1]
   rw[runC_eq l (pre++[n]) ns us _ (acc++[fpOf h ops o c.2 c.1 w v k]) _ hg.2 (by simpa using hl) (by simpa using hn) (by simp[hall]) hu.2 (accOk_snoc ha hall hp) (by simp[hp])]
   cases runOpsF P call h ops l (c.1.fin o.dst v k,histAdd c.2 k.tr o.dst (histV o.op c.2 v))with
   |none=>simp
   |some p=>
    simp only[xS,xQ,checkUs,xA]
    by_cases e:u.all (apartAt acc (fpOf h ops o c.2 c.1 w v k))=true
    ·simp only[e,if_true,true_and]
    ·simp only[e,if_false,false_and,xH,↓reduceIte]
theorem checkRow_iff{b:Nat}{f:Fp}:∀(l:List Fp) (j:Nat),checkRow b f j l=true↔∀i g,l[i]? =some g→b.testBit (j+i)=true∨apartFp g f=true
 | [],j=>by simp[checkRow]
 |x::l,j=>by
  simp only[checkRow,xA,Bool.or_eq_true,checkRow_iff l (j+1)]
  constructor
  ·rintro⟨h1,h2⟩ i g hi
   cases i with
   |zero=>simp only[yE,xJ]at hi;subst hi;exact h1
   |succ i=>rw[show j+(i+1)=j+1+i by omega];exact h2 i g (by simpa using hi)
  ·intro hh
   exact⟨hh 0 x rfl,fun i g hi=>by rw[show j+1+i=j+(i+1)by omega];exact hh (i+1) g (by simpa using hi)⟩
def FpOk(h:Hint)(ops:List Oper)(o:Oper)(f:Fp):Prop:=effOf h (o.dst.getD 0) o.op=false→PureFp ops o f
def rowU(h:Hint)(ops:List Oper)(b:Nat)(u:List Nat)(y:Oper):Nat→List Oper→Bool
 |_,[]=>true
 |j,x::r=>((b.testBit j&& !u.contains j) || (!b.testBit j&&(u.contains j || (slotsApart ops x y&& !effOf h (x.dst.getD 0) x.op&& !effOf h (y.dst.getD 0) y.op))))&&rowU h ops b u y (j+1) r
def allU(h:Hint)(ops:List Oper):Nat→List Nat→List (List Nat)→List Oper→Bool
 |i,b::bs,u::us,y::r=>u.all (fun j=>decide (j<i))&&rowU h ops b u y 0 (ops.take i)&&allU h ops (i+1) bs us r
 |_,[],[],[]=>true
 |_,_,_,_=>false
theorem All2.at'{α β:Type}{R:α→β→Prop}:∀{as:List α} {l:List β},All2 R as l→∀(i:Nat) b,l[i]? =some b→∃a,as[i]? =some a∧R a b
 | [],l,ha,i,b,hb=>by rw[show l=[]from ha]at hb;simp at hb
 |a::as,l,ha,i,b,hb=>by
  obtain⟨b',r,rfl,h1,h2⟩:=ha
  cases i with
  |zero=>simp only[yE,xJ]at hb;subst hb;exact⟨a,rfl,h1⟩
  |succ i=>obtain⟨a',q1,q2⟩:=All2.at' h2 i b (by simpa using hb);exact⟨a',by simpa using q1,q2⟩
theorem rowU_at{ops:List Oper}{b:Nat}{u:List Nat}{y:Oper}:∀(l:List Oper) (j:Nat),rowU h ops b u y j l=true→∀i x,l[i]? =some x→(b.testBit (j+i)=true∧(j+i)∉u)∨(b.testBit (j+i)=false∧((j+i)∈u∨(slotsApart ops x y=true∧effOf h (x.dst.getD 0) x.op=false∧effOf h (y.dst.getD 0) y.op=false)))
 | [],j,_,i,x,hx=>by simp at hx
 |z::l,j,hr,i,x,hx=>by
  simp only[rowU,xA,Bool.or_eq_true,Bool.not_eq_true',List.contains_eq_mem,decide_eq_false_iff_not,yD]at hr
  cases i with
  |zero=>simp only[yE,xJ]at hx;subst hx;simpa [and_assoc]using hr.1
  |succ i=>rw[show j+(i+1)=j+1+i by omega];exact rowU_at l (j+1) hr.2 i x (by simpa using hx)
theorem row_iff{ops l:List Oper}{b:Nat}{u:List Nat}{y:Oper}{f:Fp}{acc:List Fp}(hu:u.all (fun j=>decide (j<acc.length))=true)(hr:rowU h ops b u y 0 l=true)(ha:All2 (FpOk h ops) l acc)(hy:FpOk h ops y f):checkRow b f 0 acc=u.all (apartAt acc f):=by
 rw[Bool.eq_iff_iff,checkRow_iff,List.all_eq_true]
 simp only[List.all_eq_true,yD]at hu
 constructor
 ·intro hh j hj
  have hlt:=hu j hj
  obtain⟨x,hx,_⟩:=All2.at' ha j acc[j] (by simp[hlt])
  have:=rowU_at l 0 hr j x hx
  simp only[Nat.zero_add]at this
  rcases this with⟨_,h2⟩ |⟨h1,_⟩
  ·exact absurd hj h2
  ·simp only[apartAt,xG hlt]
   rcases hh j acc[j] (by simp[hlt])with h3 |h3
   ·rw[Nat.zero_add,h1]at h3;cases h3
   ·exact h3
 ·intro hh i g hi
  obtain⟨x,hx,hx2⟩:=All2.at' ha i g hi
  have:=rowU_at l 0 hr i x hx
  simp only[Nat.zero_add]at this ⊢
  rcases this with⟨h1,_⟩ |⟨_,h2 |⟨h2,h3,h4⟩⟩
  ·exact .inl h1
  ·right;have:=hh i h2;simpa [apartAt,hi]using this
  ·exact .inr (apart_pure (hx2 h3) (hy h4) h2)
theorem All2.snoc{α β:Type}{R:α→β→Prop}{a:α}{b:β}:∀{as:List α} {l:List β},All2 R as l→R a b→All2 R (as++[a]) (l++[b])
 | [],l,ha,hr=>by rw[show l=[]from ha];exact⟨b,[],rfl,hr,rfl⟩
 |x::as,l,ha,hr=>by
  obtain⟨b',r,rfl,h1,h2⟩:=ha
  exact⟨b',r++[b],rfl,h1,All2.snoc h2 hr⟩
theorem All2.leng{α β:Type}{R:α→β→Prop}:∀{as:List α} {l:List β},All2 R as l→l.length=as.length
 | [],l,ha=>by rw[show l=[]from ha];rfl
 |x::as,l,ha=>by obtain⟨b',r,rfl,h1,h2⟩:=ha;simp[All2.leng h2]
theorem checkF_us{ops:List Oper}{all:List Fp}:∀(l:List Oper) (pre:List Oper) (fs acc:List Fp) (bs:List Nat) (us:List (List Nat)),ops=pre++l→all=acc++fs→All2 (FpOk h ops) pre acc→All2 (FpOk h ops) l fs→allU h ops pre.length bs us l=true→checkF all pre.length bs fs=checkUs acc us fs
 | [],pre,fs,acc,bs,us,_,_,_,ha,hu=>by
  rw[show fs=[]from ha]
  cases bs <;>cases us <;>simp[checkF,checkUs]
 |y::l,pre,fs,acc,bs,us,ho,hall,hp,ha,hu=>by
  obtain⟨f,r,rfl,h1,h2⟩:=ha
  cases bs with
  |nil=>cases us <;>simp[allU]at hu
  |cons b bs=>
   cases us with
   |nil=>simp[allU]at hu
   |cons u us=>
    simp only[allU,xA]at hu
    simp only[checkF,checkUs]
    have hlen:=All2.leng hp
    have t1:ops.take pre.length=pre:=by rw[ho];simp
    have t2:all.take pre.length=acc:=by rw[hall,←hlen];simp
    rw[t1]at hu
    rw[t2,row_iff (hlen▸hu.1.1) hu.1.2 hp h1]
    have:=checkF_us (ops:=ops) (all:=all) l (pre++[y]) r (acc++[f]) bs us (by simp[ho]) (by simp[hall]) (All2.snoc hp h1) h2 (by simpa using hu.2)
    rw[←this];simp
theorem runOpsF_ok{ops:List Oper}:∀(l:List Oper) {c c':Cf} {fs:List Fp},runOpsF P call h ops l c=some (c',fs)→All2 (FpOk h ops) l fs
 | [],c,c',fs,e=>by simp only[runOpsF,xJ,pJ]at e;exact e.2▸rfl
 |o::l,c,c',fs,e=>by
  simp only[runOpsF,xB,xM,pJ]at e
  obtain⟨⟨c1,f⟩,e1,⟨c2,fs'⟩,e2,rfl,rfl⟩:=e
  refine⟨f,fs',rfl,fun he=> ?_,runOpsF_ok l e2⟩
  obtain⟨c1',f',q1,_,q3⟩:=runOpF_pure (ops:=ops) he (runOpF_op e1)
  rw[e1]at q1
  simp only[xJ,pJ]at q1
  rw[q1.2];exact q3
def regOkD(h:Hint)(id:Nat)(ls:List Nat)(ns:List Bool)(us:List (List Nat))(c:Code):Bool:=
 match c with
 | .region i ops dr=>decide (i=id)&&ops.toList.all (guardOk ops.toList)&&dr&&(match befs ops.toList []with |some bs=>allU h ops.toList 0 bs us ops.toList |none=>false)&&decide (us.length=ops.toList.length)&&decide (ns.length=ops.toList.length)&&us.all (fun u=>u.all fun j=>decide (ns[j]? =some true))&&decide (h.live id=ls)&&(h.swp id).isNone
 |_=>false
def lfsOf(h:Hint)(ns:List Bool)(us:List (List Nat))(c:Code):List LF:=match c with | .region _ ops _=>lfs h ops.toList ns us ops.toList |_=>[]
theorem rgD_eq{c:Code}{id:Nat}{ls:List Nat}{ns:List Bool}{us:List (List Nat)}{L:List LF}(hk:regOkD h id ls ns us c=true)(hL:lfsOf h ns us c=L)(s:St):codeX P hints h c s=(runC P (callX P hints) h L (s,hist0 s) []).bind fun s'=>some (.normal,prune ls s'):=by
 unfold regOkD at hk
 split at hk
 ·rename_i i ops dr
  simp only[xA,yD]at hk
  obtain⟨⟨⟨⟨⟨⟨⟨⟨rfl,hg⟩,rfl⟩,hb⟩,hn⟩,hns⟩,hu⟩,hl⟩,hsw⟩:=hk
  subst hL
  simp only[lfsOf]
  rw[codeX_draw (by simpa using hsw),runC_eq (all:=ns) ops.toList [] ns us _ [] [] hg hn hns rfl hu ⟨rfl,fun _ _=>rfl⟩ rfl,hl]
  split at hb
  ·rename_i bs hbs
   cases e:runOpsF P (callX P hints) h ops.toList ops.toList (s,hist0 s)with
   |none=>rfl
   |some p=>
    obtain⟨c',fs⟩:=p
    have ha:=runOpsF_ok _ e
    have:checkR ops.toList fs=checkUs [] us fs:=by
     unfold checkR
     rw[hbs]
     exact checkF_us ops.toList [] fs [] bs us rfl rfl rfl ha hb
    simp only[xS,this]
    by_cases hc:checkUs [] us fs=true <;>simp[hc]
  ·cases hb
 ·cases hk
variable{r:List LF}{d:Option Nat}{ty:TypeId}{op:Op}{lk u:List Nat}{nd eff rds hr ho:Bool}{env:List (Nat×SV)}{ct:List ((Nat×Nat)×T)}{H:List Ob}{hi:Hist}{acc:List Fp}
def nextC(P:Program)(call:CallF)(h:Hint)(o:LF)(r:List LF)(c:Cf)(acc:List Fp)(w:Bool)(v:SV)(k:Wk):Option St:=
 if o.u.all (apartAt acc (fpW o c.2 c.1 w v k))=true then runC P call h r (c.1.fin o.d v k,histAdd c.2 k.tr o.d (histV o.op c.2 v)) (acc++[if o.nd=true then fpW o c.2 c.1 w v k else fp0])else none
@[go_sem] theorem runC_plain:runC P call h (⟨d,none,ty,op,lk,u,nd,eff,rds,hr,ho⟩::r) (⟨env,ct,H⟩,hi) acc=(stepE P call h (d.getD 0) ty op (St.val ⟨env,ct,H⟩) ⟨ct,H,[]⟩).bind fun p=>nextC P call h ⟨d,none,ty,op,lk,u,nd,eff,rds,hr,ho⟩ r (⟨env,ct,H⟩,hi) acc true p.1 p.2:=by
 simp only[runC,evalF,wantF,xS,if_true,xX]
 rfl
def guardC(P:Program)(call:CallF)(h:Hint)(o:LF)(want:Bool)(r:List LF)(c:Cf)(acc:List Fp)(v:SV):Option St:=
 match v with
 | .d (.bool b)=>if b=want then(stepE P call h (o.d.getD 0) o.ty o.op c.1.val c.1.wk).bind fun p=>nextC P call h o r c acc true p.1 p.2 else nextC P call h o r c acc false (.tup []) c.1.wk
 | .tup []=>nextC P call h o r c acc false (.tup []) c.1.wk
 |_=>none
@[go_sem] theorem runC_guard{t:Nat}{want:Bool}{c:Cf}:runC P call h (⟨d,some (t,want),ty,op,lk,u,nd,eff,rds,hr,ho⟩::r) c acc=guardC P call h ⟨d,some (t,want),ty,op,lk,u,nd,eff,rds,hr,ho⟩ want r c acc (c.1.get t):=by
 simp only[runC,evalF,wantF,guardC]
 have hb:∀b:Bool,(((some (b==want)).bind fun w=>if w=true then(stepE P call h (d.getD 0) ty op c.1.val c.1.wk).bind fun p=>some (true,p.1,p.2)else some (false,.tup [],c.1.wk)).bind fun q=>nextC P call h ⟨d,some (t,want),ty,op,lk,u,nd,eff,rds,hr,ho⟩ r c acc q.1 q.2.1 q.2.2)=if b=want then(stepE P call h (d.getD 0) ty op c.1.val c.1.wk).bind fun p=>nextC P call h ⟨d,some (t,want),ty,op,lk,u,nd,eff,rds,hr,ho⟩ r c acc true p.1 p.2 else nextC P call h ⟨d,some (t,want),ty,op,lk,u,nd,eff,rds,hr,ho⟩ r c acc false (.tup []) c.1.wk:=by
  intro b
  by_cases e:b=want
  ·subst e;simp only[xS,beq_self_eq_true,if_true,xX]
  ·have:(b==want)=false:=by simpa using e
   simp only[this,xS,e,if_false,xH]
 generalize c.1.get t=v
 cases v with
 |d x=>
  cases x with
  |bool b=>exact hb b
  |_=>rfl
 |tup l=>
  cases l with
  |nil=>rfl
  |cons _ _=>rfl
 |_=>rfl
@[go_sem] theorem guardC_bool{o:LF}{want b:Bool}{c:Cf}:guardC P call h o want r c acc (.d (.bool b))=if b=want then(stepE P call h (o.d.getD 0) o.ty o.op c.1.val c.1.wk).bind fun p=>nextC P call h o r c acc true p.1 p.2 else nextC P call h o r c acc false (.tup []) c.1.wk:=rfl
variable{g:Option (Nat×Bool)}{c:Cf}{w:Bool}{v:SV}{ct':List ((Nat×Nat)×T)}{H':List Ob}{tr:List Tr}
@[go_sem] theorem nextC_quiet:nextC P call h ⟨d,g,ty,op,lk,[],false,eff,rds,hr,ho⟩ r c acc w v ⟨ct',H',tr⟩=runC P call h r (c.1.fin d v ⟨ct',H',tr⟩,histAdd c.2 tr d (histV op c.2 v)) (acc++[fp0]):=by
 simp[nextC]
@[go_sem] theorem nextC_last{u:List Nat}{n:Nat}:nextC P call h ⟨d,g,ty,op,lk,n::u,false,eff,rds,hr,ho⟩ r c acc w v ⟨ct',H',tr⟩=
  if(n::u).all (apartAt acc (fpW ⟨d,g,ty,op,lk,n::u,false,eff,rds,hr,ho⟩ c.2 c.1 w v ⟨ct',H',tr⟩))=true then runC P call h r (c.1.fin d v ⟨ct',H',tr⟩,histAdd c.2 tr d (histV op c.2 v)) (acc++[fp0])else none:=by
 simp[nextC]
@[go_sem] theorem nextC_mk:nextC P call h ⟨d,g,ty,op,lk,u,true,eff,rds,hr,ho⟩ r c acc w v ⟨ct',H',tr⟩=
  if u.all (apartAt acc (fpW ⟨d,g,ty,op,lk,u,true,eff,rds,hr,ho⟩ c.2 c.1 w v ⟨ct',H',tr⟩))=true then runC P call h r (c.1.fin d v ⟨ct',H',tr⟩,histAdd c.2 tr d (histV op c.2 v)) (acc++[fpW ⟨d,g,ty,op,lk,u,true,eff,rds,hr,ho⟩ c.2 c.1 w v ⟨ct',H',tr⟩])else none:=by
 simp[nextC]
@[go_sem] theorem histAdd_nil{n:Nat}{L:List Root}:histAdd hi [] (some n) L=(n,L)::hi:=by
 have:∀l:Hist,(l.map fun p=>(p.1,histTr [] p.2))=l:=fun l=>by induction l with |nil=>rfl |cons a r ih=>simp only[List.map_cons,ih];rfl
 simp only[histAdd,this]
@[go_sem] theorem histAdd_none{L:List Root}:histAdd hi [] none L=hi:=by
 have:∀l:Hist,(l.map fun p=>(p.1,histTr [] p.2))=l:=fun l=>by induction l with |nil=>rfl |cons a r ih=>simp only[List.map_cons,ih];rfl
 simp only[histAdd,this]
def histMap(tr:List Tr):Hist→Hist
 | []=>[]
 |p::r=>(p.1,histTr tr p.2)::histMap tr r
theorem histMap_eq(tr:List Tr):∀l:Hist,(l.map fun p=>(p.1,histTr tr p.2))=histMap tr l
 | []=>rfl
 |p::r=>by simp only[List.map_cons,histMap,histMap_eq tr r]
@[go_sem] theorem histMap_nil:histMap tr []=[]:=rfl
@[go_sem] theorem histMap_cons{n:Nat}{l:List Root}{r:Hist}:histMap tr ((n,l)::r)=(n,histTr tr l)::histMap tr r:=rfl
@[go_sem] theorem histAdd_cons{x:Tr}{n:Nat}{L:List Root}:histAdd hi (x::tr) (some n) L=(n,L)::histMap (x::tr) hi:=by simp only[histAdd,histMap_eq]
@[go_sem] theorem histAdd_consN{x:Tr}{L:List Root}:histAdd hi (x::tr) none L=histMap (x::tr) hi:=by simp only[histAdd,histMap_eq]
@[go_sem] theorem hist_kill{r:Root}{p:Path}{l:List Root}:Tr.hist (.kill r p) l=l:=rfl
@[go_sem] theorem hist_killN{r:Root}{n:Nat}{l:List Root}:Tr.hist (.killN r n) l=l:=rfl
@[go_sem] theorem hist_killO{l:List Root}:Tr.hist .killO l=l:=rfl
@[go_sem] theorem hist_ren{a b:Nat×Nat}{l:List Root}:Tr.hist (.ren a b) l=if l.any (fun r=>decide (r=.l a.1 a.2))=true then .l b.1 b.2::l else l:=rfl
@[go_sem] theorem looks_consR{k t:Nat}{v:List Root}{r:List (Nat×List Root)}:look ((k,v)::r) t=if k=t then some v else look r t:=rfl
attribute [go_sem] leansO isMove histV fpW histTr histOf newKeys hist0 SV.srts SV.srtss SV.rts SV.rtss Root.isO Tr.isKillO Tr.isRen Tr.rts apartAt apartFp apartB sepL SV.unhurt SV.unhurts rxOf wxOf sxOf oxOf Tr.killAt meet
end
end Go.Am
