/- A part of the proof. -/
import Derived.Test.YtlcnolfmpbdgpaaGreatDoorTl3
import Derived.Tactics
import Derived.RangeFuncIn
import Derived.RangeFuncLeaves
import Derived.Maps.RangeRun
import Derived.LoopNIn
import Derived.Scope
import Derived.RecoverIn
set_option linter.unusedSimpArgs false
set_option linter.unusedVariables false
namespace Go.Am
open Go
structure Eqv(c d:Cf):Prop where
 get:∀t,d.1.get t=c.1.get t
 ct:∀x,aZ d.1.ct x=aZ c.1.ct x
 H:d.1.H=c.1.H
 hi:∀t,aW d.2 t=aW c.2 t
theorem Eqv.refl(c:Cf):Eqv c c:=⟨fun _=>rfl,fun _=>rfl,rfl,fun _=>rfl⟩
theorem Eqv.trans{a b c:Cf}(x:Eqv a b)(y:Eqv b c):Eqv a c:=⟨fun t=>(y.get t).trans (x.get t),fun t=>(y.ct t).trans (x.ct t),y.H.trans x.H,fun t=>(y.hi t).trans (x.hi t)⟩
def Inv(c:Cf):Prop:=∀t,∀r∈(c.1.get t).srts,r∈aW c.2 t
theorem w6{a b:List Root}(h:DT a b=false):∀r∈b,r∉a:=fun r hb ha=>by
 simp only[DT,yG]at h
 have:=h r ha
 simp only[List.any_eq_true,yD,not_exists,not_and]at this
 exact this r hb rfl
theorem gp{k k':Wk}{pre:List ((Nat×Nat)×T)}(hp:k'.ct=pre++k.ct):cm k k'=pre.map fun p=>Root.l p.1.1 p.1.2:=by
 unfold cm;rw[hp];simp
theorem pZ{pre:List ((Nat×Nat)×T)}{n j:Nat}(h:Root.l n j∉pre.map fun p=>Root.l p.1.1 p.1.2):aZ pre (n,j)=none:=by
 induction pre with
 |nil=>rfl
 |cons p pre ih=>
  obtain⟨⟨a,b⟩,t⟩:=p;simp only[List.map_cons,xY,not_or]at h
  show(if(a,b)=(n,j)then some t else aZ pre (n,j))=_
  rw[if_neg (fun e=>h.1 (by cases e;rfl))]
  exact ih h.2
theorem t8{k k':Wk}(hg:∃pre,k'.ct=pre++k.ct)(n j:Nat)(h:Root.l n j∉cm k k'):aZ k'.ct (n,j)=aZ k.ct (n,j):=by
 obtain⟨pre,hp⟩:=hg;rw[gp hp]at h
 rw[hp,dQ,pZ h];rfl
section
variable{P:Program}{call:ak}{h:Hint}{ops:List Oper}
theorem cO{o:Oper}{c d:Cf}{f:Fp}(e:aH P call h ops o c=some (d,f)):
  ∃w v k,bP P call h ops o c.1=some (w,v,k)∧d=(c.1.fin o.dst v k,aF c.2 k.tr o.dst (cG o.op c.2 v))∧f=gh h ops o c.2 c.1 w v k:=by
 simp only[aH,xM,pJ]at e
 obtain⟨⟨w,v,k⟩,e1,e2,e3⟩:=e
 exact⟨w,v,k,e1,e2.symm,e3.symm⟩
theorem eL{o:Oper}{c:Cf}{w:Bool}{v:SV}{k:Wk}(e:bP P call h ops o c.1=some (w,v,k)):
  aH P call h ops o c=some ((c.1.fin o.dst v k,aF c.2 k.tr o.dst (cG o.op c.2 v)),gh h ops o c.2 c.1 w v k):=by
 simp only[aH,e,xQ]
theorem Ed{tk:Bool}{op:Op}{σ τ:Operand→SV}(v:SV)(hx:∀x∈op.operands,σ x=τ x):AC tk op σ v=AC tk op τ v:=by
 unfold AC;split
 ·rfl
 ·rename_i t a _
  rw[hx a (by simp[Op.operands])]
 ·rfl
 ·rfl
theorem Ee{op:Op}{σ τ:Operand→SV}(hx:∀x∈op.operands,σ x=τ x):AD op σ=AD op τ:=by
 unfold AD;split
 ·rename_i args ats
  split
  ·rename_i x y hl
   have:x∈args.toList:=by rw[hl];simp
   rw[hx x (by simp at this;simp[Op.operands,Call.operands,this])]
  ·rfl
 ·rfl
theorem io{o:Oper}{c d:Cf}{w:Bool}{v:SV}{k k':Wk}(hg:∀t∈looks ops o,d.1.get t=c.1.get t)(hh:∀t∈looks ops o,aW d.2 t=aW c.2 t)(h1:cm d.1.wk k'=cm c.1.wk k)(h2:k'.tr=k.tr):gh h ops o d.2 d.1 w v k'=gh h ops o c.2 c.1 w v k:=by
 unfold gh
 have:(looks ops o).flatMap (aW d.2)=(looks ops o).flatMap (aW c.2):=by
  simp only[List.flatMap_def];rw[List.map_congr_left hh]
 have hcur:((looks ops o).flatMap fun t=>(d.1.get t).rts)=(looks ops o).flatMap fun t=>(c.1.get t).rts:=by
  simp only[List.flatMap_def];rw[List.map_congr_left fun t ht=>by rw[hg t ht]]
 have hv:=sH (s:=c.1) (s2:=d.1) (op:=o.op) fun t ht=>hg t (dS ht)
 have hm:((looks ops o).map fun t=>d.1.get t)=(looks ops o).map fun t=>c.1.get t:=List.map_congr_left hg
 rw[this,hcur,h1,h2,Ed v hv,Ee hv,hm]
theorem Eqv.sm{c d:Cf}(q:Eqv c d):Sm (fun _=>False) true c.1.wk d.1.wk:=by
 refine⟨fun r _=> ?_,fun _=>q.H,rfl,rfl,by simp⟩
 cases r with
 |l n j=>simp only[Wk.get,Go.Am.cont,St.wk,q.ct]
 |o n=>simp only[Wk.get,Go.Am.cont,St.wk,q.H]
theorem Par.keys{b:Bool}{k k' k1 k1':Wk}(p:Par b k k' k1 k1'):cm k' k1'=cm k k1:=by
 obtain⟨pre,h1,h2⟩:=p.ct;rw[gp h1,gp h2]
theorem CS{op:Op}{a b:jl}{v:SV}(h:∀t,aW a t=aW b t):cG op a v=cG op b v:=by
 unfold cG;split
 ·exact h _
 ·rfl
theorem AN{o:Oper}{c d c1:Cf}{f:Fp}(q:Eqv c d)(e:aH P call h ops o c=some (c1,f)):∃d1,aH P call h ops o d=some (d1,f)∧Eqv c1 d1:=by
 obtain⟨w,v,k,e1,rfl,rfl⟩:=cO e;obtain⟨k2,e2,p⟩:=sI q.sm (fun t _=>q.get t) (fun h=>by cases h) (fun _ _ t _ r _ h=>h) e1
 refine⟨(d.1.fin o.dst v k2,aF d.2 k2.tr o.dst (cG o.op d.2 v)),by rw[eL e2,io (c:=c) (fun t _=>q.get t) (fun t _=>q.hi t) p.keys p.tr],fun t=> ?_,fun x=> ?_,p.H rfl,fun t=> ?_⟩
 ·simp only[dR,q.get,p.tr]
 ·obtain⟨pre,h1,h2⟩:=p.ct
  show aZ k2.ct x=aZ k.ct x;rw[h1,h2,dQ,dQ];show _=(aZ pre x).or (aZ c.1.ct x);rw[←q.ct];rfl
 ·simp only[cM,q.hi,p.tr]
  rw[CS q.hi]
theorem oK:∀(l:List Oper) {c d c1:Cf} {fs:List Fp},Eqv c d→aC P call h ops l c=some (c1,fs)→∃d1,aC P call h ops l d=some (d1,fs)∧Eqv c1 d1
 | [],c,d,c1,fs,q,e=>by
  simp only[aC,xJ,pJ]at e
  obtain⟨rfl,rfl⟩:=e
  exact⟨d,rfl,q⟩
 |o::l,c,d,c1,fs,q,e=>by
  simp only[aC,xB,xM,pJ]at e
  obtain⟨⟨c2,f⟩,e1,⟨c3,fs'⟩,e2,rfl,rfl⟩:=e;obtain⟨d2,g1,q2⟩:=AN q e1;obtain⟨d3,g2,q3⟩:=oK l q2 e2
  exact⟨d3,by simp only[aC,g1,xS,g2,xQ],q3⟩
theorem ip{s:St}{o:Oper}{t:Nat}{w:Bool}{v:SV}{k:Wk}(ho:o.op=.move (.tmp t)):bP P call h ops o s=some (w,v,k)↔dK ops s o=some w∧v=(if w=true then s.get t else .tup [])∧k=s.wk:=by
 have e:am P call h (o.dst.getD 0) o.type (.move (.tmp t)) s.val s.wk=some (s.get t,s.wk):=rfl;simp only[bP,ho,e]
 cases dK ops s o with
 |none=>simp
 |some x=>
  cases x
  ·simp only[xS,xH,if_false,xJ,pJ]
   constructor
   ·rintro⟨rfl,rfl,rfl⟩;simp
   ·rintro⟨rfl,h2,rfl⟩;exact⟨rfl,by simpa using h2.symm,rfl⟩
  ·simp only[xS,if_true,xQ,xJ,pJ]
   constructor
   ·rintro⟨rfl,rfl,rfl⟩;simp
   ·rintro⟨rfl,h2,rfl⟩;exact⟨rfl,by simpa using h2.symm,rfl⟩
theorem fH{op:Op}(h:dz op=true):∃t,op=.move (.tmp t):=by
 unfold dz at h
 split at h
 ·exact⟨_,rfl⟩
 ·cases h
theorem cP{op:Op}{hi:jl}{v:SV}(h:dz op=false):cG op hi v=v.srts:=by
 unfold cG;split
 ·cases h
 ·rfl
theorem GR{o:Oper}{c:Cf}{w:Bool}{v:SV}{k:Wk}(hi:Inv c)(e:bP P call h ops o c.1=some (w,v,k)):∀r∈v.srts,r∈cG o.op c.2 v:=fun r hr=>by
 cases hm:dz o.op with
 |false=>rw[cP hm];exact hr
 |true=>
  obtain⟨t,ht⟩:=fH hm;obtain⟨_,h2,_⟩:=(ip ht).1 e;rw[ht];show r∈aW c.2 t
  cases w with
  |true=>rw[if_pos rfl]at h2;exact hi t r (h2▸hr)
  |false=>rw[if_neg (by simp)]at h2;subst h2;simp[SV.srts,SV.srtss]at hr
theorem Inv.step{o:Oper}{c d:Cf}{f:Fp}(hi:Inv c)(e:aH P call h ops o c=some (d,f)):Inv d:=by
 obtain⟨w,v,k,e1,rfl,rfl⟩:=cO e;intro t r hr;simp only[dR,cM]at hr ⊢
 split at hr
 ·rw[if_pos ‹_›];exact GR hi e1 r hr
 ·rw[if_neg ‹_›];exact tY _ _ _ (hi t) r hr
theorem Ql{w:Bool}{v:SV}{k:Wk}{o:Oper}{c:Cf}(e:bP P call h ops o c.1=some (w,v,k)){L:List Root}
  (hm:∀r∈L,r∉(gh h ops o c.2 c.1 w v k).wr) (hh:(gh h ops o c.2 c.1 w v k).hw=true→L.any Root.isO=false):
  (∀u:SV,(∀r∈u.srts,r∈L)→trv k.tr u=u)∧(∀M:List Root,(∀r∈M,r∈L)→bQ k.tr M=M)∧((gh h ops o c.2 c.1 w v k).hw=false→k.H=c.1.H∧k.tr.any Tr.isKillO=false):=by
 have hwr:(gh h ops o c.2 c.1 w v k).wr=cm c.1.wk k++k.tr.flatMap Tr.rts:=rfl;have hhv:(gh h ops o c.2 c.1 w v k).hw=((w&&cW h (o.dst.getD 0) o.op)&&(hOf h (o.dst.getD 0) o.op || (pK o.op&&((looks ops o).flatMap fun t=>(c.1.get t).rts).any Root.isO) || k.tr.any Tr.isKillO)):=rfl
 rw[hwr]at hm
 have hm2:∀r∈L,r∉k.tr.flatMap Tr.rts:=fun r hr hx=>hm r hr (xR _ hx)
 obtain⟨g,g2⟩:=gm e
 have hw0:(gh h ops o c.2 c.1 w v k).hw=false→k.H=c.1.H∧k.tr.any Tr.isKillO=false:=fun hf=>by
  cases he:(w&&cW h (o.dst.getD 0) o.op)with
  |false=>rw[g2 he];exact⟨rfl,rfl⟩
  |true=>
   rw[hhv,he]at hf
   simp only[Bool.true_and,Bool.or_eq_false_iff]at hf
   refine⟨g.H ⟨hf.1.1,fun hlo t ht=> ?_⟩,hf.2⟩
   have h2:=hf.1.2;rw[hlo,Bool.true_and]at h2
   have h3:=List.any_eq_false.1 h2;exact List.any_eq_false.2 fun r hr=>h3 r (List.mem_flatMap.2 ⟨t,ht,hr⟩)
 refine⟨fun u hu=>Jb _ _ (fun r hr=>hm2 r (hu r hr)) (fun hk=> ?_),fun M hM=>zQ _ _ (fun r hr=>hm2 r (hM r hr)),hw0⟩
 have:(gh h ops o c.2 c.1 w v k).hw=true:=by
  cases hf:(gh h ops o c.2 c.1 w v k).hw with
  |true=>rfl
  |false=>rw[(hw0 hf).2]at hk;cases hk
 exact List.any_eq_false.2 fun r hr=>List.any_eq_false.1 (hh this) r (hu r hr)
theorem qa{x y:Fp}(hp:kx x y=true):(∀d,x.dst=some d→d∉y.sl)∧(∀d,x.dst=some d→y.dst≠some d)∧(∀d,y.dst=some d→d∉x.sl)∧(∀r∈y.rd,r∉x.wr)∧(∀r∈y.wr,r∉x.wr)∧(∀r∈x.rd,r∉y.wr)∧(x.hw=true→y.hr=false∧y.hw=false)∧(y.hw=true→x.hr=false)∧(x.ren=false∨y.ren=false):=by
 simp only[kx,xA,Bool.not_eq_true',Bool.and_eq_false_iff]at hp
 obtain⟨⟨⟨⟨⟨⟨⟨h1,h2⟩,h3⟩,h4⟩,h5⟩,h6⟩,h7⟩,h8⟩:=hp
 refine⟨fun d hd=> ?_,fun d hd=> ?_,fun d hd=> ?_,w6 h3,w6 h4,w6 h5,fun q=> ?_,fun q=> ?_,h8⟩
 ·rw[hd]at h1;simp at h1;exact h1.1
 ·rw[hd]at h1;simp at h1;exact fun e=>h1.2 e
 ·rw[hd]at h2;simp at h2;exact h2
 ·rcases h6 with x |x
  ·rw[q]at x;cases x
  ·simpa using x
 ·rcases h7 with x |x
  ·rw[q]at x;cases x
  ·exact x
theorem Wr{a i:Oper}{c c1 c2:Cf}{fa fi:Fp}(hmA:dz a.op=false)(hmI:dz i.op=false)(hi:Inv c)(ea:aH P call h ops a c=some (c1,fa))(ei:aH P call h ops i c1=some (c2,fi))(hp:kx fa fi=true):
  ∃d1 d2,aH P call h ops i c=some (d1,fi)∧aH P call h ops a d1=some (d2,fa)∧Eqv c2 d2:=by
 obtain⟨wa,va,ka,ea1,rfl,hfa⟩:=cO ea;obtain⟨wi,vi,ki,ei1,rfl,hfi⟩:=cO ei;rw[cP hmA]at hfi ⊢
 rw[cP hmI];obtain⟨s1,s2,s3,m1,m2,m3,w1,w2,rn⟩:=qa hp;have da:fa.dst=a.dst:=by rw[hfa];rfl
 have di:fi.dst=i.dst:=by rw[hfi];rfl
 have la:fa.sl=looks ops a:=by rw[hfa];rfl
 have li:fi.sl=looks ops i:=by rw[hfi];rfl
 have ne1:∀t∈looks ops i,a.dst≠some t:=fun t ht e=>s1 t (da.trans e) (by rw[li];exact ht)
 have ne2:∀t∈looks ops a,i.dst≠some t:=fun t ht e=>s3 t (di.trans e) (by rw[la];exact ht)
 have ne3:∀t,a.dst=some t→i.dst≠some t:=fun t e q=>s2 t (da.trans e) (di.trans q)
 simp only at ei1
 have rdI:fi.rd=(looks ops i).flatMap (aW (aF c.2 ka.tr a.dst va.srts))++vi.srts++(if reads i.op then(looks ops i).flatMap fun t=>((c.1.fin a.dst va ka).get t).rts else []):=by rw[hfi];simp only[gh,hmI,xH,if_false]
 have rdA:fa.rd=(looks ops a).flatMap (aW c.2)++va.srts++(if reads a.op then(looks ops a).flatMap fun t=>(c.1.get t).rts else []):=by rw[hfa];simp only[gh,hmA,xH,if_false]
 have inI:∀t∈looks ops i,∀r∈aW c.2 t,r∈fi.rd:=fun t ht r hr=>by
  rw[rdI];exact xL _ (xL _ (List.mem_flatMap.2 ⟨t,ht,by rw[cM,if_neg (ne1 t ht)];exact wZ _ _ r hr⟩))
 have inIv:∀r∈vi.srts,r∈fi.rd:=fun r hr=>by rw[rdI];exact xL _ (xR _ hr)
 have inIc:reads i.op=true→∀t∈looks ops i,∀r∈((c.1.fin a.dst va ka).get t).rts,r∈fi.rd:=fun hrd t ht r hr=>by rw[rdI,if_pos hrd];exact xR _ (List.mem_flatMap.2 ⟨t,ht,hr⟩)
 have inA:∀t∈looks ops a,∀r∈aW c.2 t,r∈fa.rd:=fun t ht r hr=>by rw[rdA];exact xL _ (xL _ (List.mem_flatMap.2 ⟨t,ht,hr⟩))
 have inAv:∀r∈va.srts,r∈fa.rd:=fun r hr=>by rw[rdA];exact xL _ (xR _ hr)
 have inAc:reads a.op=true→∀t∈looks ops a,∀r∈(c.1.get t).rts,r∈fa.rd:=fun hrd t ht r hr=>by rw[rdA,if_pos hrd];exact xR _ (List.mem_flatMap.2 ⟨t,ht,hr⟩)
 have noA:fi.hw=true→(wa=true→oo h (a.dst.getD 0) a.op=false)∧fa.rd.any Root.isO=false∧fa.wr.any Root.isO=false∧ka.tr.any Tr.isKillO=false:=fun q=>by
  have e:fa.hr=((wa&&oo h (a.dst.getD 0) a.op) || fa.rd.any Root.isO || fa.wr.any Root.isO || ka.tr.any Tr.isKillO):=by rw[hfa];rfl
  have:=w2 q
  rw[e]at this
  simp only[Bool.or_eq_false_iff]at this
  exact⟨fun hw=>by simpa [hw]using this.1.1.1,this.1.1.2,this.1.2,this.2⟩
 have noI:fa.hw=true→(wi=true→oo h (i.dst.getD 0) i.op=false)∧fi.rd.any Root.isO=false∧fi.wr.any Root.isO=false∧ki.tr.any Tr.isKillO=false:=fun q=>by
  have e:fi.hr=((wi&&oo h (i.dst.getD 0) i.op) || fi.rd.any Root.isO || fi.wr.any Root.isO || ki.tr.any Tr.isKillO):=by rw[hfi];rfl
  have:=(w1 q).1
  rw[e]at this
  simp only[Bool.or_eq_false_iff]at this
  exact⟨fun hw=>by simpa [hw]using this.1.1.1,this.1.1.2,this.1.2,this.2⟩
 have wrA:fa.wr=cm c.1.wk ka++ka.tr.flatMap Tr.rts:=by rw[hfa];rfl
 have wrI:fi.wr=cm (c.1.fin a.dst va ka).wk ki++ki.tr.flatMap Tr.rts:=by rw[hfi];rfl
 have st1:=Ql (L:=fi.rd) ea1 (fun r hr=>by rw[←hfa];exact m1 r hr) (fun q=>by rw[←hfa]at q;exact(noI q).2.1)
 rw[←hfa]at st1
 obtain⟨t1,t2,t3⟩:=st1
 have getI:∀t∈looks ops i,(c.1.fin a.dst va ka).get t=c.1.get t:=fun t ht=>by
  rw[dR,if_neg (ne1 t ht)];exact t1 _ (fun r hr=>inI t ht r (hi t r hr))
 have gA:=(gm ea1).1.ct
 have sm1:Sm (fun r=>r∈fa.wr∨(fa.hw=true∧r.isO=true)) (!fa.hw) (c.1.fin a.dst va ka).wk c.1.wk:=by
  refine⟨fun r hr=> ?_,fun q=> ?_,rfl,rfl,fun q n=>.inr ⟨by simpa using q,rfl⟩⟩
  ·cases r with
   |l n j=>
    have:Root.l n j∉cm c.1.wk ka:=fun hx=>hr (.inl (by rw[wrA];exact xL _ hx))
    simp only[Wk.get,Go.Am.cont]
    exact(t8 gA n j this).symm
   |o n=>
    have:fa.hw=false:=by cases hw:fa.hw with |false=>rfl |true=>exact absurd (.inr ⟨hw,rfl⟩) hr
    simp only[Wk.get,Go.Am.cont,St.wk,St.fin,(t3 this).1]
  ·exact(t3 (by simpa using q)).1.symm
 obtain⟨ki',ei2,p1⟩:=sI sm1 (fun t ht=>(getI t ht).symm) (fun q=>(noI (by simpa using q)).1) (fun hrd _ t ht r hr hz=>by
  have hrI:=inIc hrd t ht r hr
  rcases hz with hz |⟨q,hz⟩
  ·exact m1 r hrI hz
  ·have:=List.any_eq_false.1 (noI q).2.1 r hrI;rw[hz]at this;simp at this) ei1
 have fpi:gh h ops i c.2 c.1 wi vi ki'=fi:=by
  rw[hfi];exact io (c:=(c.1.fin a.dst va ka,aF c.2 ka.tr a.dst va.srts)) (d:=c) (fun t ht=>(getI t ht).symm) (fun t ht=>by simp only;rw[cM,if_neg (ne1 t ht),t2 _ (inI t ht)]) p1.keys p1.tr
 have st2:=Ql (L:=fa.rd) ei2 (fun r hr=>by rw[fpi];exact m3 r hr) (fun q=>by rw[fpi]at q;exact(noA q).2.1)
 rw[fpi]at st2
 obtain⟨u1,u2,u3⟩:=st2
 have getA:∀t∈looks ops a,(c.1.fin i.dst vi ki').get t=c.1.get t:=fun t ht=>by
  rw[dR,if_neg (ne2 t ht)];exact u1 _ (fun r hr=>inA t ht r (hi t r hr))
 have gI:=(gm ei2).1.ct;have wrI':fi.wr=cm c.1.wk ki'++ki'.tr.flatMap Tr.rts:=by rw[←fpi];rfl
 have sm2:Sm (fun r=>r∈fi.wr∨(fi.hw=true∧r.isO=true)) (!fi.hw) c.1.wk (c.1.fin i.dst vi ki').wk:=by
  refine⟨fun r hr=> ?_,fun q=> ?_,rfl,rfl,fun q n=>.inr ⟨by simpa using q,rfl⟩⟩
  ·cases r with
   |l n j=>
    have:Root.l n j∉cm c.1.wk ki':=fun hx=>hr (.inl (by rw[wrI'];exact xL _ hx))
    simp only[Wk.get,Go.Am.cont];exact t8 gI n j this
   |o n=>
    have:fi.hw=false:=by cases hw:fi.hw with |false=>rfl |true=>exact absurd (.inr ⟨hw,rfl⟩) hr
    simp only[Wk.get,Go.Am.cont,St.wk,St.fin,(u3 this).1]
  ·exact(u3 (by simpa using q)).1
 obtain⟨ka',ea2,p2⟩:=sI sm2 getA (fun q=>(noA (by simpa using q)).1) (fun hrd _ t ht r hr hz=>by
  have hrA:=inAc hrd t ht r hr
  rcases hz with hz |⟨q,hz⟩
  ·exact m3 r hrA hz
  ·have:=List.any_eq_false.1 (noA q).2.1 r hrA;rw[hz]at this;simp at this) ea1
 have fpa:gh h ops a (aF c.2 ki'.tr i.dst vi.srts) (c.1.fin i.dst vi ki') wa va ka'=fa:=by
  rw[hfa];exact io (c:=c) (d:=(c.1.fin i.dst vi ki',aF c.2 ki'.tr i.dst vi.srts)) getA (fun t ht=>by simp only;rw[cM,if_neg (ne2 t ht),u2 _ (inA t ht)]) p2.keys p2.tr
 have vi1:trv ka.tr vi=vi:=t1 _ inIv;have va1:trv ki'.tr va=va:=u1 _ inAv
 have told:∀x∈ki.tr,∀y∈ka.tr,(∀r∈x.rts,r∉y.rts)∧(x.isKillO=true→y.rts.any Root.isO=false)∧(y.isKillO=true→x.rts.any Root.isO=false):=fun x hx y hy=>by
  have hxw:∀r∈x.rts,r∈fi.wr:=fun r hr=>by rw[wrI];exact xR _ (List.mem_flatMap.2 ⟨x,hx,hr⟩)
  have hyw:∀r∈y.rts,r∈fa.wr:=fun r hr=>by rw[wrA];exact xR _ (List.mem_flatMap.2 ⟨y,hy,hr⟩)
  refine⟨fun r h1 h2=>m2 r (hxw r h1) (hyw r h2),fun q=> ?_,fun q=> ?_⟩
  ·have hw:fi.hw=true:=by
    cases hw:fi.hw with
    |true=>rfl
    |false=>
     have:=(u3 hw).2
     rw[p1.tr]at this
     have:=List.any_eq_false.1 this x hx
     rw[q]at this;simp at this
   exact List.any_eq_false.2 fun r hr=>List.any_eq_false.1 (noA hw).2.2.1 r (hyw r hr)
  ·have hw:fa.hw=true:=by
    cases hw:fa.hw with
    |true=>rfl
    |false=>
     have:=List.any_eq_false.1 (t3 hw).2 y hy
     rw[q]at this;simp at this
   exact List.any_eq_false.2 fun r hr=>List.any_eq_false.1 (noI hw).2.2.1 r (hxw r hr)
 have rens:ka.tr.any Tr.isRen=false∨ki.tr.any Tr.isRen=false:=by
  have e1:fa.ren=ka.tr.any Tr.isRen:=by rw[hfa];rfl
  have e2:fi.ren=ki.tr.any Tr.isRen:=by rw[hfi];rfl
  rw[←e1,←e2];exact rn
 refine⟨_,_,(eL ei2).trans (congrArg some (Prod.ext (by rw[cP hmI]) fpi)),(eL (c:=(c.1.fin i.dst vi ki',aF c.2 ki'.tr i.dst vi.srts)) ea2).trans (congrArg some (Prod.ext (by rw[cP hmA]) fpa)),fun t=> ?_,fun x=> ?_,?_,fun t=> ?_⟩
 ·simp only[dR,p1.tr,p2.tr]
  by_cases h1:a.dst=some t
  ·rw[if_pos h1,if_neg (ne3 t h1),if_pos h1,←p1.tr,va1]
  ·rw[if_neg h1,if_neg h1]
   by_cases h2:i.dst=some t
   ·rw[if_pos h2,if_pos h2,vi1]
   ·rw[if_neg h2,if_neg h2]
    exact(CQ _ _ _ told).symm
 ·obtain⟨pi,q1,q2⟩:=p1.ct
  obtain⟨pa,q3,q4⟩:=p2.ct;show aZ ka'.ct x=aZ ki.ct x;rw[q1,q4];show aZ (pa++ki'.ct) x=aZ (pi++ka.ct) x;rw[q2,q3,dQ,dQ,dQ,dQ];obtain⟨n,j⟩:=x
  by_cases hk:Root.l n j∈pa.map fun p=>Root.l p.1.1 p.1.2
  ·have h1:Root.l n j∈fa.wr:=by rw[wrA,gp q3];exact xL _ hk
   have h2:Root.l n j∉pi.map fun p=>Root.l p.1.1 p.1.2:=fun hx=>m2 _ (by rw[wrI,gp q1];exact xL _ hx) h1
   rw[pZ h2];simp
  ·rw[pZ hk];simp
 ·show ka'.H=ki.H
  cases hwa:fa.hw with
  |true=>
   have hb:(!fa.hw)=false:=by rw[hwa];rfl
   have hb2:(!fi.hw)=true:=by rw[(w1 hwa).2];rfl
   rw[p2.H hb2]
   exact(p1.Hs hb).1.symm
  |false=>
   have hb:(!fa.hw)=true:=by rw[hwa];rfl
   have h1:=p1.H hb
   cases hwi:fi.hw with
   |true=>
    have hb2:(!fi.hw)=false:=by rw[hwi];rfl
    rw[(p2.Hs hb2).2];exact h1
   |false=>
    have hb2:(!fi.hw)=true:=by rw[hwi];rfl
    rw[p2.H hb2,←h1,(t3 hwa).1,(u3 hwi).1]
 ·simp only[cM,p1.tr,p2.tr]
  by_cases h1:a.dst=some t
  ·rw[if_pos h1,if_neg (ne3 t h1),if_pos h1,←p1.tr,u2 _ inAv]
  ·rw[if_neg h1,if_neg h1]
   by_cases h2:i.dst=some t
   ·rw[if_pos h2,if_pos h2,t2 _ inIv]
   ·rw[if_neg h2,if_neg h2]
    exact CR _ _ _ rens
theorem Fz(x:Tr){y:D}:x.sv (.d y)=.d y:=by cases x <;>rfl
theorem AO(x:Tr):x.sv (.tup [])=.tup []:=by cases x <;>rfl
theorem AP(x:Tr){u:SV}{b:Bool}(h:x.sv u=.d (.bool b)):u=.d (.bool b):=by
 cases u with
 |d y=>rw[Fz]at h;exact h
 |bor r p o l=>
  cases x <;>simp only[Tr.sv]at h <;>(repeat' split at h) <;>cases h
 |loc r p i o=>
  cases x <;>simp only[Tr.sv]at h <;>(repeat' split at h) <;>cases h
 |_=>cases x <;>simp only[Tr.sv]at h <;>cases h
theorem CT(x:Tr){u:SV}(h:x.sv u=.tup []):u=.tup []:=by
 cases u with
 |d y=>rw[Fz]at h;exact h
 |bor r p o l=>
  cases x <;>simp only[Tr.sv]at h <;>(repeat' split at h) <;>cases h
 |loc r p i o=>
  cases x <;>simp only[Tr.sv]at h <;>(repeat' split at h) <;>cases h
 |tup l=>
  have:x.sv (.tup l)=.tup (Tr.svs x l):=by cases x <;>rfl
  rw[this]at h
  cases l with
  |nil=>rfl
  |cons a r=>simp[Tr.svs]at h
 |_=>cases x <;>simp only[Tr.sv]at h <;>cases h
theorem oL:∀(l:List Tr) {u:SV} {b:Bool},trv l u=.d (.bool b)→u=.d (.bool b)
 | [],_,_,h=>h
 |x::l,_,_,h=>AP x (oL l h)
theorem qZ:∀(l:List Tr) {u:SV},trv l u=.tup []→u=.tup []
 | [],_,h=>h
 |x::l,_,h=>CT x (qZ l h)
theorem Ef{s:St}{o:Oper}{w:Bool}{d:Option Nat}{v:SV}{k:Wk}(e:dK ops (s.fin d v k) o=some w)(hd:∀t∈looks ops o,d≠some t):dK ops s o=some w:=by
 unfold dK looks at *
 cases hg:o.guard with
 |none=>try rw[hg]at e
        try rw[hg]
        exact e
 |some p=>
  obtain⟨j,want⟩:=p
  try rw[hg]at e
  try rw[hg]at hd
  try rw[hg]
  simp only at e hd ⊢
  cases hj:(ops[j]?).bind (·.dst)with
  |none=>(try rw[hj]at e);cases e
  |some t=>
   try rw[hj]at e
   try rw[hj]at hd
   simp only at e ⊢
   have ht:(s.fin d v k).get t=trv k.tr (s.get t):=by rw[dR,if_neg (hd t (by simp))]
   rw[ht]at e
   split at e
   ·rename_i b hb;rw[oL _ hb];exact e
   ·rename_i hb;rw[qZ _ hb];exact e
   ·cases e
theorem GS{s:St}{o:Oper}{w:Bool}{d:Option Nat}{v:SV}{k:Wk}(e:dK ops s o=some w)(hd:∀t∈looks ops o,d≠some t):dK ops (s.fin d v k) o=some w:=by
 unfold dK looks at *
 cases hg:o.guard with
 |none=>try rw[hg]at e
        try rw[hg]
        exact e
 |some p=>
  obtain⟨j,want⟩:=p
  try rw[hg]at e
  try rw[hg]at hd
  try rw[hg]
  simp only at e hd ⊢
  cases hj:(ops[j]?).bind (·.dst)with
  |none=>(try rw[hj]at e);cases e
  |some t=>
   try rw[hj]at e
   try rw[hj]at hd
   simp only at e ⊢
   have ht:(s.fin d v k).get t=trv k.tr (s.get t):=by rw[dR,if_neg (hd t (by simp))]
   have hb:∀(l:List Tr) (b:Bool),trv l (.d (.bool b))=.d (.bool b):=fun l b=>by induction l with |nil=>rfl |cons x l ih=>simp only[trv,Fz x];exact ih
   have hu:∀(l:List Tr),trv l (.tup [])=.tup []:=fun l=>by induction l with |nil=>rfl |cons x l ih=>simp only[trv];rw[AO x];exact ih
   rw[ht]
   split at e
   ·rename_i b hb';rw[hb',hb];exact e
   ·rename_i hb';rw[hb',hu];exact e
   ·cases e
theorem uR{o:Oper}{hi:jl}{s:St}{w:Bool}{v:SV}(hm:dz o.op=true):gh h ops o hi s w v s.wk=⟨looks ops o,o.dst,[],[],false,false,false,none,[],none,[]⟩:=by
 obtain⟨t,ht⟩:=fH hm;have hm':=hm;rw[ht]at hm'
 simp[gh,ht,dz,cm,St.wk,oo,cW,AC,AD,MD,ME]
theorem Ws{a i:Oper}{c c1 c2:Cf}{fa fi:Fp}(hmA:dz a.op=true)(ea:aH P call h ops a c=some (c1,fa))(ei:aH P call h ops i c1=some (c2,fi))(hp:kx fa fi=true):
  ∃d1 d2,aH P call h ops i c=some (d1,fi)∧aH P call h ops a d1=some (d2,fa)∧Eqv c2 d2:=by
 obtain⟨wa,va,ka,ea1,rfl,hfa⟩:=cO ea;obtain⟨wi,vi,ki,ei1,rfl,hfi⟩:=cO ei;obtain⟨s1,s2,s3,_⟩:=qa hp;have da:fa.dst=a.dst:=by rw[hfa];rfl
 have di:fi.dst=i.dst:=by rw[hfi];rfl
 have la:fa.sl=looks ops a:=by rw[hfa];rfl
 have li:fi.sl=looks ops i:=by rw[hfi];rfl
 have ne1:∀t∈looks ops i,a.dst≠some t:=fun t ht e=>s1 t (da.trans e) (by rw[li];exact ht)
 have ne2:∀t∈looks ops a,i.dst≠some t:=fun t ht e=>s3 t (di.trans e) (by rw[la];exact ht)
 have ne3:∀t,a.dst=some t→i.dst≠some t:=fun t e q=>s2 t (da.trans e) (di.trans q)
 obtain⟨t0,ht0⟩:=fH hmA;obtain⟨hw,hv,rfl⟩:=(ip ht0).1 ea1;have hlook:t0∈looks ops a:=dS (by rw[ht0];simp[kw,Op.operands,qO])
 have h0:∀t,trv ([]:List Tr) t=t:=fun _=>rfl
 simp only at ei1 hfi;have gI:∀t∈looks ops i,c.1.get t=(c.1.fin a.dst va c.1.wk).get t:=fun t ht=>by rw[dR,if_neg (ne1 t ht)];rfl
 have ei2:bP P call h ops i c.1=some (wi,vi,ki):=by
  rw[←ei1];exact t6 gI rfl rfl
 have fpi:gh h ops i c.2 c.1 wi vi ki=fi:=by
  rw[hfi];exact io (c:=(c.1.fin a.dst va c.1.wk,aF c.2 c.1.wk.tr a.dst (cG a.op c.2 va))) (d:=c) gI (fun t ht=>by simp only;rw[cM,if_neg (ne1 t ht)];rfl) rfl rfl
 have hvi:cG i.op (aF c.2 c.1.wk.tr a.dst (cG a.op c.2 va)) vi=cG i.op c.2 vi:=by
  cases hm:dz i.op with
  |false=>rw[cP hm,cP hm]
  |true=>
   obtain⟨u,hu⟩:=fH hm;rw[hu];show aW _ u=aW _ u;rw[cM,if_neg (ne1 u (dS (by rw[hu];simp[kw,Op.operands,qO])))];rfl
 have hsv:(if wa=true then(c.1.fin i.dst vi ki).get t0 else .tup [])=trv ki.tr va:=by
  rw[hv]
  cases wa with
  |true=>rw[if_pos rfl,if_pos rfl,dR,if_neg (ne2 t0 hlook)]
  |false=>
   have hu:∀(l:List Tr),trv l (.tup [])=.tup []:=fun l=>by induction l with |nil=>rfl |cons x l ih=>simp only[trv];rw[AO x];exact ih
   rw[if_neg (by simp),if_neg (by simp),hu]
 have ea2:bP P call h ops a (c.1.fin i.dst vi ki)=some (wa,trv ki.tr va,(c.1.fin i.dst vi ki).wk):=(ip ht0).2 ⟨GS hw ne2,hsv.symm,rfl⟩
 refine⟨_,_,(eL ei2).trans (congrArg some (Prod.ext rfl fpi)),(eL (c:=(c.1.fin i.dst vi ki,aF c.2 ki.tr i.dst (cG i.op c.2 vi))) ea2).trans (congrArg some (Prod.ext rfl ?_)),fun t=> ?_,fun x=>rfl,rfl,fun t=> ?_⟩
 ·rw[hfa];simp only;rw[uR hmA,uR hmA]
 ·simp only[dR]
  by_cases h1:a.dst=some t
  ·rw[if_pos h1,if_neg (ne3 t h1),if_pos h1]
  ·rw[if_neg h1,if_neg h1];rfl
 ·simp only[cM,hvi]
  by_cases h1:a.dst=some t
  ·rw[if_pos h1,if_neg (ne3 t h1),if_pos h1,ht0]
   show aW _ t0=bQ ki.tr (aW c.2 t0);rw[cM,if_neg (ne2 t0 hlook)]
  ·rw[if_neg h1,if_neg h1];rfl
theorem Wt{a i:Oper}{c c1 c2:Cf}{fa fi:Fp}(hmI:dz i.op=true)(ea:aH P call h ops a c=some (c1,fa))(ei:aH P call h ops i c1=some (c2,fi))(hp:kx fa fi=true):
  ∃d1 d2,aH P call h ops i c=some (d1,fi)∧aH P call h ops a d1=some (d2,fa)∧Eqv c2 d2:=by
 obtain⟨wa,va,ka,ea1,rfl,hfa⟩:=cO ea;obtain⟨wi,vi,ki,ei1,rfl,hfi⟩:=cO ei;obtain⟨s1,s2,s3,_⟩:=qa hp;have da:fa.dst=a.dst:=by rw[hfa];rfl
 have di:fi.dst=i.dst:=by rw[hfi];rfl
 have la:fa.sl=looks ops a:=by rw[hfa];rfl
 have li:fi.sl=looks ops i:=by rw[hfi];rfl
 have ne1:∀t∈looks ops i,a.dst≠some t:=fun t ht e=>s1 t (da.trans e) (by rw[li];exact ht)
 have ne2:∀t∈looks ops a,i.dst≠some t:=fun t ht e=>s3 t (di.trans e) (by rw[la];exact ht)
 have ne3:∀t,a.dst=some t→i.dst≠some t:=fun t e q=>s2 t (da.trans e) (di.trans q)
 obtain⟨t0,ht0⟩:=fH hmI;simp only at ei1 hfi;obtain⟨hw,hv,rfl⟩:=(ip ht0).1 ei1;have hlook:t0∈looks ops i:=dS (by rw[ht0];simp[kw,Op.operands,qO])
 have hb:∀(l:List Tr) (b:Bool),trv l (.d (.bool b))=.d (.bool b):=fun l b=>by induction l with |nil=>rfl |cons x l ih=>simp only[trv,Fz x];exact ih
 have hu:∀(l:List Tr),trv l (.tup [])=.tup []:=fun l=>by induction l with |nil=>rfl |cons x l ih=>simp only[trv];rw[AO x];exact ih
 have hw0:dK ops c.1 i=some wi:=Ef hw ne1;have ei2:bP P call h ops i c.1=some (wi,(if wi=true then c.1.get t0 else .tup []),c.1.wk):=(ip ht0).2 ⟨hw0,rfl,rfl⟩
 have hvi:vi=trv ka.tr (if wi=true then c.1.get t0 else .tup []):=by
  rw[hv]
  cases wi with
  |true=>rw[if_pos rfl,if_pos rfl,dR,if_neg (ne1 t0 hlook)]
  |false=>rw[if_neg (by simp),if_neg (by simp),hu]
 generalize (if wi=true then c.1.get t0 else .tup [])=v0 at ei2 hvi
 subst hvi;have gA:∀t∈looks ops a,(c.1.fin i.dst v0 c.1.wk).get t=c.1.get t:=fun t ht=>by rw[dR,if_neg (ne2 t ht)];rfl
 have ea2:bP P call h ops a (c.1.fin i.dst v0 c.1.wk)=some (wa,va,ka):=by
  rw[←ea1];exact t6 gA rfl rfl
 have hva:cG a.op (aF c.2 c.1.wk.tr i.dst (cG i.op c.2 v0)) va=cG a.op c.2 va:=by
  cases hm:dz a.op with
  |false=>rw[cP hm,cP hm]
  |true=>
   obtain⟨u,hu⟩:=fH hm;rw[hu];show aW _ u=aW _ u;rw[cM,if_neg (ne2 u (dS (by rw[hu];simp[kw,Op.operands,qO])))];rfl
 refine⟨_,_,(eL ei2).trans (congrArg some (Prod.ext rfl ?_)),(eL (c:=(c.1.fin i.dst v0 c.1.wk,aF c.2 c.1.wk.tr i.dst (cG i.op c.2 v0))) ea2).trans (congrArg some (Prod.ext rfl ?_)),fun t=> ?_,fun x=>rfl,rfl,fun t=> ?_⟩
 ·rw[hfi];simp only;rw[uR hmI,uR hmI]
 ·rw[hfa]
  exact io (c:=c) (d:=(c.1.fin i.dst v0 c.1.wk,aF c.2 c.1.wk.tr i.dst (cG i.op c.2 v0))) gA (fun t ht=>by simp only;rw[cM,if_neg (ne2 t ht)];rfl) rfl rfl
 ·simp only[dR]
  by_cases h1:a.dst=some t
  ·rw[if_pos h1,if_neg (ne3 t h1),if_pos h1];rfl
  ·rw[if_neg h1,if_neg h1]
   by_cases h2:i.dst=some t
   ·rw[if_pos h2,if_pos h2]
   ·rw[if_neg h2,if_neg h2];rfl
 ·simp only[cM,hva]
  by_cases h1:a.dst=some t
  ·rw[if_pos h1,if_neg (ne3 t h1),if_pos h1];rfl
  ·rw[if_neg h1,if_neg h1]
   by_cases h2:i.dst=some t
   ·rw[if_pos h2,if_pos h2,ht0]
    show bQ ka.tr (aW c.2 t0)=aW _ t0;rw[cM,if_neg (ne1 t0 hlook)]
   ·rw[if_neg h2,if_neg h2];rfl
theorem Wu{a i:Oper}{c c1 c2:Cf}{fa fi:Fp}(ea:aH P call h ops a c=some (c1,fa))(ei:aH P call h ops i c1=some (c2,fi))(hp:apartX fa fi=true):
  ∃d1 d2,aH P call h ops i c=some (d1,fi)∧aH P call h ops a d1=some (d2,fa)∧Eqv c2 d2:=by simp[apartX]at hp
theorem Wv{a i:Oper}{c c1 c2:Cf}{fa fi:Fp}(ea:aH P call h ops a c=some (c1,fa))(ei:aH P call h ops i c1=some (c2,fi))(hp:apartX fi fa=true):
  ∃d1 d2,aH P call h ops i c=some (d1,fi)∧aH P call h ops a d1=some (d2,fa)∧Eqv c2 d2:=by simp[apartX]at hp
theorem adS{a i:Oper}{c c1 c2:Cf}{fa fi:Fp}(hi:Inv c)(ea:aH P call h ops a c=some (c1,fa))(ei:aH P call h ops i c1=some (c2,fi))(hp:apartFp fa fi=true):
  ∃d1 d2,aH P call h ops i c=some (d1,fi)∧aH P call h ops a d1=some (d2,fa)∧Eqv c2 d2:=by
 simp only[apartFp,Bool.or_eq_true]at hp
 rcases hp with(hp |hp) |hp
 ·cases hA:dz a.op with
  |true=>exact Ws hA ea ei hp
  |false=>
   cases hI:dz i.op with
   |true=>exact Wt hI ea ei hp
   |false=>exact Wr hA hI hi ea ei hp
 ·exact Wu ea ei hp
 ·exact Wv ea ei hp
theorem Qm:∀(A:List Oper) (i:Oper) (B:List Oper) {c c':Cf} {fs:List Fp},Inv c→aC P call h ops (A++i::B) c=some (c',fs)→(∀fi,fs[A.length]? =some fi→∀f∈fs.take A.length,apartFp f fi=true)→
  ∃c1 d fi,fs[A.length]? =some fi∧aH P call h ops i c=some (c1,fi)∧aC P call h ops (A++B) c1=some (d,fs.take A.length++fs.drop (A.length+1))∧Eqv c' d
 | [],i,B,c,c',fs,hi,e,hp=>by
  simp only[List.nil_append,aC,xB,xM,pJ]at e
  obtain⟨⟨c1,f⟩,e1,⟨c2,fs'⟩,e2,rfl,rfl⟩:=e
  exact⟨c1,c2,f,rfl,e1,by simpa using e2,.refl _⟩
 |a::A,i,B,c,c',fs,hi,e,hp=>by
  simp only[List.cons_append,aC,xB,xM,pJ]at e
  obtain⟨⟨ca,fa⟩,e1,⟨c2,fs'⟩,e2,rfl,rfl⟩:=e;simp only at e2;obtain⟨c1,d,fi,g1,g2,g3,g4⟩:=Qm A i B (hi.step e1) e2 (fun fi q f hf=>hp fi (by simpa using q) f (by simp[hf]))
  have hap:=hp fi (by simpa using g1) fa (by simp)
  obtain⟨d1,d2,p1,p2,p3⟩:=adS hi e1 g2 hap;obtain⟨d3,r1,r2⟩:=oK _ p3 g3
  refine⟨d1,d3,fi,by simpa using g1,p1,?_,g4.trans r2⟩
  simp only[List.cons_append,aC,p2,xS,r1,xQ,xZ,List.take_succ_cons,List.drop_succ_cons]
end
end Go.Am
namespace Go.Am
open Go Go.RowKit
theorem qb(acc:List Nat)(x:Nat):∀(l:List Edge) (m:Nat),(l.foldl (fun m e=>if Region.binds .any e then m ||| 2 ^ e.on ||| (acc[e.on]?).getD 0 else m) m).testBit x=true→
  m.testBit x=true∨∃e∈l,Region.binds .any e=true∧(x=e.on∨((acc[e.on]?).getD 0).testBit x=true)
 | [],m,h=>.inl h
 |e::l,m,h=>by
  simp only[List.foldl_cons]at h
  rcases qb acc x l _ h with q |⟨e',h1,h2⟩
  ·split at q
   ·rename_i hb
    simp only[Nat.testBit_or,Bool.or_eq_true,Nat.testBit_two_pow,yD]at q
    rcases q with(q |q) |q
    ·exact .inl q
    ·exact .inr ⟨e,by simp,hb,.inl q.symm⟩
    ·exact .inr ⟨e,by simp,hb,.inr q⟩
   ·exact .inl q
  ·exact .inr ⟨e',by simp[h1],h2⟩
theorem sJ:∀(l:List Oper) (acc bs:List Nat),we l acc=some bs→(∃r,bs=acc++r)∧bs.length=acc.length+l.length∧
  ∀i o,l[i]? =some o→(∀e∈o.after.toList,Region.binds .any e=true→e.on<acc.length+i)∧∃b,bs[acc.length+i]? =some b∧b=B6 (bs.take (acc.length+i)) o
 | [],acc,bs,h=>by simp only[we,xJ]at h;subst h;exact⟨⟨[],by simp⟩,by simp,by simp⟩
 |o::l,acc,bs,h=>by
  simp only[we]at h
  split at h
  ·rename_i hall
   obtain⟨⟨r,hr⟩,h2,h3⟩:=sJ l _ bs h;simp only[xP,xZ,yN]at h2 h3
   refine⟨⟨B6 acc o::r,by rw[hr];simp⟩,by simp only[xZ];omega,fun i o' ho=> ?_⟩
   cases i with
   |zero=>
    simp only[yE,xJ]at ho
    subst ho
    refine⟨fun e he hb=> ?_,B6 acc o,by rw[hr];simp,?_⟩
    ·have:=List.all_eq_true.1 hall e he
     simpa [hb]using this
    ·rw[hr];simp
   |succ i=>
    simp only[List.getElem?_cons_succ]at ho
    obtain⟨q1,q2⟩:=h3 i o' ho;have e1:acc.length+(0+1)+i=acc.length+(i+1):=by omega
    rw[e1]at q1 q2
    exact⟨q1,q2⟩
  ·cases h
theorem oM(b:Nat)(f:Fp):∀(l:List Fp) (j:Nat),dL b f j l=true→∀i g,l[i]? =some g→b.testBit (j+i)=false→apartFp g f=true
 | [],j,_,i,g,hg,_=>by simp at hg
 |a::l,j,h,i,g,hg,hb=>by
  simp only[dL,xA,Bool.or_eq_true]at h
  cases i with
  |zero=>
   simp only[yE,xJ]at hg
   subst hg
   rcases h.1 with q |q
   ·rw[Nat.add_zero]at hb;rw[hb]at q;cases q
   ·exact q
  |succ i=>
   simp only[List.getElem?_cons_succ]at hg
   exact oM b f l (j+1) h.2 i g hg (by rw[show j+1+i=j+(i+1)by omega];exact hb)
theorem ua(all:List Fp):∀(bs:List Nat) (fs:List Fp) (i:Nat),ky all i bs fs=true→∀j b f,bs[j]? =some b→fs[j]? =some f→dL b f 0 (all.take (i+j))=true
 | [],fs,i,_,j,b,f,hb,_=>by simp at hb
 |b0::bs,[],i,_,j,b,f,_,hf=>by simp at hf
 |b0::bs,f0::fs,i,h,j,b,f,hb,hf=>by
  simp only[ky,xA]at h
  cases j with
  |zero=>
   simp only[yE,xJ]at hb hf
   subst hb;subst hf;exact h.1
  |succ j=>
   simp only[List.getElem?_cons_succ]at hb hf
   have:=ua all bs fs (i+1) h.2 j b f hb hf
   rwa [show i+1+j=i+(j+1)by omega]at this
section
variable{P:Program}{A:Av}{call:ak}{hint:Hint}
theorem SR.drawn{s:St}{a:Act}{w:World}{n:Nat}(hs:SR A s a w):SR A s a {w with drawn:=n}:=by
 obtain⟨ρ,S,hd,h,hv⟩:=hs;have ext:Ext (aa A s.H.length ρ S [] w) (aa A s.H.length ρ S [] {w with drawn:=n}):=⟨fun t b hp=>⟨hp,rfl⟩,Nat.le_refl _,fun _ _=>rfl⟩
 refine⟨ρ,S,hd,⟨fun r t ht=>TC.ext ext _ _ _ (fun _ _=>rfl) (h.cont r t ht),h.gone,h.obj,fun n ob he hpl=> ?_,h.dis,h.blk,by simp,⟨h.fr.os,h.fr.tape,h.fr.output,h.fr.size,h.fr.kept,h.fr.recs⟩,h.Fold,h.rho⟩,fun t=> ?_⟩
 ·exact(h.map n ob he hpl).ext ext (fun _ _=>rfl) rfl rfl
 ·exact SO.keep ext (fun r q=>h.hold (k':=s.wk) (hd':=hd) _ rfl rfl (fun _ _=>rfl) q) (hv t)
theorem gq{ops:List Oper}{o:Oper}{s:St}:ij P call hint ops o s=(bP P call hint ops o s).map fun(w,v,k)=>s.fin o.dst v k:=by
 unfold ij bP
 cases dK ops s o with
 |none=>rfl
 |some w=>
  cases w with
  |true=>simp only[xS,if_true,Option.map_map];rfl
  |false=>rfl
theorem sK{ops:List Oper}{o:Oper}{c d:Cf}{f:Fp}(e:aH P call hint ops o c=some (d,f)):ij P call hint ops o c.1=some d.1:=by
 obtain⟨w,v,k,e1,rfl,rfl⟩:=cO e;rw[gq,e1];rfl
theorem mA{ops:List Oper}:∀(l:List Oper) {c d:Cf} {fs:List Fp},aC P call hint ops l c=some (d,fs)→fs.length=l.length
 | [],c,d,fs,e=>by simp only[aC,xJ,pJ]at e;rw[←e.2];rfl
 |o::l,c,d,fs,e=>by
  simp only[aC,xB,xM,pJ]at e
  obtain⟨⟨c1,f⟩,_,⟨c2,fs'⟩,e2,_,rfl⟩:=e;simp[mA l e2]
theorem zS{G:Nat→Option D}(hc:cH P G call)(hG:GA G A)(hgl:∀g d,hint.gl g=some d→G g=some d){ops:Array Oper}{ro:Option Nat}{Q:Exit→Act→World→Prop}{a0:Act}{ds:List Nat}:∀(l:List Oper) {s s':St} {a:Act} {w:World},SR A s a w→Kp a0 ds a→(∀o∈l,∀d,o.dst=some d→d∈ds∧d<a0.tmps.size)→ba P call hint ops.toList l s=some s'→
  (∀a' w',SR A s' a' w'→Kp a0 ds a'→Q .normal a' w')→wpListIn (FW ro) 0 P ops Q l a w
 | [],s,s',a,w,hs,hkp,hd,e,hQ=>by
  simp only[ba,xJ]at e
  subst e;exact hQ a w hs hkp
 |o::l,s,s',a,w,hs,hkp,hd,e,hQ=>by
  simp only[ba,xB]at e
  obtain⟨s1,e1,e2⟩:=e;refine wpListIn_step fun K hK=>wT hc hG hgl hs hkp (hd o (by simp)) e1 fun a' w' g1 g2=>hK _ _ ?_
  exact zS hc hG hgl l g1 g2 (fun o' ho=>hd o' (by simp[ho])) e2 hQ
theorem oN{α:Type}(l:List α):∀(L:List Nat),(∀i∈L,i<l.length)→(L.filterMap fun i=>l[i]?).length=L.length
 | [],_=>rfl
 |i::L,h=>by
  have hi:=h i (by simp)
  rw[List.filterMap_cons,xG hi];simp[oN l L (fun j hj=>h j (by simp[hj]))]
theorem AQ(listed:Array Bool)(i j:Nat)(hi:i<listed.size):(listed.setIfInBounds i true).getD j true=if j=i then true else listed.getD j true:=by
 by_cases h:j=i
 ·subst h;simp[hi]
 ·rw[if_neg h];simp[yB,Array.getElem?_setIfInBounds_ne (Ne.symm h)]
theorem kM{listed:Array Bool}{i:Nat}(hi:i<listed.size):listed.getD i false=listed.getD i true:=by simp[yB,hi]
def gr(ops:Array Oper)(listed:Array Bool):List Nat:=(List.range ops.size).filter fun i=> !listed.getD i true
def Un(ops:Array Oper)(listed:Array Bool)(x:Nat):Prop:=x<ops.size∧listed.getD x true=false
theorem j7{ops:Array Oper}{listed:Array Bool}{x:Nat}:x∈gr ops listed↔Un ops listed x:=by
 simp[gr,Un,List.mem_filter]
def Jd(bs:List Nat)(listed:Array Bool):Prop:=∀i b,listed.getD i false=true→bs[i]? =some b→∀x,b.testBit x=true→listed.getD x false=true
inductive RT where
 |leaf (L:List Nat) (fs:List Fp) (c:Cf)
 |node (i j:Nat) (a b:RT)
def RE(bs:List Nat)(E:List (Nat×Nat))(p q:Nat×Fp):Prop:=(∀b,bs[q.1]? =some b→b.testBit p.1=false→apartFp p.2 q.2=true)∨∃e∈E,leB bs p.1 e.1=true∧leB bs e.2 q.1=true
def RT.Ok(P:Program)(call:ak)(hint:Hint)(ops:Array Oper)(bs:List Nat)(listed:Array Bool)(c:Cf):List (Nat×Nat)→RT→Prop
 |E,.leaf L fs c'=>L.Perm (gr ops listed)∧aC P call hint ops.toList (jZ ops.toList L) c=some (c',fs)∧(L.zip fs).Pairwise (RE bs E)
 |E,.node i j a b=>i≠j∧Un ops listed i∧Un ops listed j∧RT.Ok P call hint ops bs listed c ((i,j)::E) a∧RT.Ok P call hint ops bs listed c ((j,i)::E) b
def RT.Ends(K:Cf→Prop):RT→Prop
 | .leaf _ _ c=>K c
 | .node _ _ a b=>RT.Ends K a∧RT.Ends K b
theorem zT{ops:Array Oper}(L:List Nat)(h:∀x∈L,x<ops.size):(jZ ops.toList L).length=L.length:=oN ops.toList L (fun x hx=>by rw[yF];exact h x hx)
theorem CU{ops:Array Oper}{listed:Array Bool}{i:Nat}(hsz:listed.size=ops.size)(hi:i<ops.size):gr ops (listed.setIfInBounds i true)=(gr ops listed).filter fun x=>decide (x≠i):=by
 unfold gr;rw[List.filter_filter];refine List.filter_congr fun x _=> ?_
 rw[AQ listed i x (by omega)]
 by_cases hx:x=i
 ·simp[hx]
 ·simp[hx]
theorem Je{ops:Array Oper}{listed:Array Bool}{i x:Nat}(hsz:listed.size=ops.size)(hi:i<ops.size)(hx:Un ops listed x)(hne:x≠i):Un ops (listed.setIfInBounds i true) x:=
 ⟨hx.1,by rw[AQ listed i x (by omega),if_neg hne];exact hx.2⟩
theorem GT{ops:Array Oper}{bs:List Nat}{listed:Array Bool}{c c':Cf}{E:List (Nat×Nat)}{L:List Nat}{fs:List Fp}{i:Nat}{o:Oper}{b:Nat}(hsz:listed.size=ops.size)(hinv:Inv c)(ho:ops[i]? =some o)(hun:Un ops listed i)(hbi:bs[i]? =some b)(hfree:∀x,Un ops listed x→b.testBit x=false)
  (hE:∀e∈E,Un ops listed e.1∧Un ops listed e.2∧e.2≠i) (h:RT.Ok P call hint ops bs listed c E (.leaf L fs c')):
  ∃c1 fi L' fs' d,aH P call hint ops.toList o c=some (c1,fi)∧RT.Ok P call hint ops bs (listed.setIfInBounds i true) c1 (E.filter fun e=>decide (e.1≠i)) (.leaf L' fs' d)∧Eqv c' d:=by
 obtain⟨hperm,e,hpw⟩:=h;have hmem:i∈L:=hperm.mem_iff.2 (j7.2 hun);obtain⟨LA,LB,rfl⟩:=List.append_of_mem hmem;have hall:∀x∈LA++i::LB,Un ops listed x:=fun x hx=>j7.1 (hperm.mem_iff.1 hx)
 have hnd:(LA++i::LB).Nodup:=hperm.nodup_iff.2 (List.Pairwise.filter _ List.nodup_range);have n1:=List.nodup_append.1 hnd;have hoi:ops.toList[i]? =some o:=by rw[yM];exact ho
 have hlenA:=zT (ops:=ops) LA (fun x hx=>(hall x (by simp[hx])).1)
 have hlenB:=zT (ops:=ops) LB (fun x hx=>(hall x (by simp[hx])).1)
 have hat:jZ ops.toList (LA++i::LB)=jZ ops.toList LA++o::jZ ops.toList LB:=by
  simp only[jZ,List.filterMap_append,List.filterMap_cons,hoi]
 rw[hat]at e
 have hlen:=mA _ e;simp only[xP,xZ,hlenA,hlenB]at hlen
 obtain⟨fA,fi0,fB,hfs,hfA⟩:∃fA fi fB,fs=fA++fi::fB∧fA.length=LA.length:=by
  have hlt':LA.length<fs.length:=by omega
  refine⟨fs.take LA.length,fs[LA.length],fs.drop (LA.length+1),?_,by simp;omega⟩
  rw[List.getElem_cons_drop]
  exact(yP _ _).symm
 subst hfs;rw[List.zip_append (by omega),List.zip_cons_cons]at hpw
 have neU:∀x,Un ops listed x→x≠i→leB bs x i=false:=fun x hx hne=>by
  simp[leB,hne,hbi,hfree x hx]
 obtain⟨c1,d,fi,g1,g2,g3,g4⟩:=Qm _ o _ hinv e (fun fi hfi f hf=>by
  rw[hlenA,←hfA]at hfi hf
  simp only[xN (Nat.le_refl _),Nat.sub_self,yE,xJ]at hfi
  subst hfi;rw[List.take_left']at hf
  ·obtain⟨p,hp,rfl⟩:=List.getElem_of_mem hf
   have hz:(LA[p]'(by omega),fA[p])∈LA.zip fA:=List.mem_iff_getElem.2 ⟨p,by simp;omega,by simp⟩
   have hux:=hall (LA[p]'(by omega)) (by simp)
   rcases(List.pairwise_append.1 hpw).2.2 _ hz (i,fi0) (by simp)with q |⟨ed,he,q1,q2⟩
   ·exact q b hbi (hfree _ hux)
   ·obtain⟨_,u2,u3⟩:=hE ed he
    rw[neU _ u2 u3]at q2;cases q2
  ·rfl)
 rw[hlenA,←hfA]at g1 g3
 simp only[xN (Nat.le_refl _),Nat.sub_self,yE,xJ]at g1
 subst g1;have e3:(fA++fi0::fB).take fA.length++(fA++fi0::fB).drop (fA.length+1)=fA++fB:=by simp
 rw[e3]at g3
 refine⟨c1,fi0,LA++LB,fA++fB,d,g2,⟨?_,?_,?_⟩,g4⟩
 ·rw[CU hsz hun.1]
  have q:=hperm.filter fun x=>decide (x≠i)
  rw[List.filter_append,List.filter_cons]at q
  rw[List.filter_eq_self.2 (fun x hx=>by
   simp only[yD]
   exact fun h=>n1.2.2 x hx i (by simp) h),List.filter_eq_self.2 (fun x hx=>by
   simp only[yD];intro h;subst h
   exact(List.nodup_cons.1 n1.2.1).1 hx)]at q
  simpa using q
 ·have:jZ ops.toList (LA++LB)=jZ ops.toList LA++jZ ops.toList LB:=by simp only[jZ,List.filterMap_append]
  rw[this];exact g3
 ·rw[List.zip_append (by omega)]
  have hpw2:(LA.zip fA++LB.zip fB).Pairwise (RE bs E):=hpw.sublist (List.Sublist.append (List.Sublist.refl _) (List.sublist_cons_self _ _))
  have hin:∀p∈LA.zip fA++LB.zip fB,Un ops listed p.1∧p.1≠i:=fun p hp=>by
   rcases List.mem_append.1 hp with q |q
   ·have:=(List.of_mem_zip q).1
    exact⟨hall _ (by simp[this]),fun h=>n1.2.2 _ this i (by simp) h⟩
   ·have:=(List.of_mem_zip q).1
    exact⟨hall _ (by simp[this]),fun h=>(List.nodup_cons.1 n1.2.1).1 (h▸this)⟩
  refine hpw2.imp_of_mem fun{p q} hp hq r=>r.imp id fun⟨ed,he,q1,q2⟩=>⟨ed,?_,q1,q2⟩
  refine List.mem_filter.2 ⟨he,?_⟩;simp only[yD];intro hei;rw[hei,neU _ (hin p hp).1 (hin p hp).2]at q1
  cases q1
theorem rc{ops:Array Oper}{bs:List Nat}{listed:Array Bool}{c:Cf}{i:Nat}{o:Oper}{b:Nat}(hsz:listed.size=ops.size)(hinv:Inv c)(ho:ops[i]? =some o)(hun:Un ops listed i)(hbi:bs[i]? =some b)(hfree:∀x,Un ops listed x→b.testBit x=false){K:Cf→Prop}(hK:∀c' d,Eqv c' d→K c'→K d):
  ∀(t:RT) (E:List (Nat×Nat)),(∀e∈E,Un ops listed e.1∧Un ops listed e.2∧e.2≠i)→RT.Ok P call hint ops bs listed c E t→RT.Ends K t→
   ∃c1 fi t',aH P call hint ops.toList o c=some (c1,fi)∧RT.Ok P call hint ops bs (listed.setIfInBounds i true) c1 (E.filter fun e=>decide (e.1≠i)) t'∧RT.Ends K t'
 | .leaf L fs c',E,hE,h,hk=>by
  obtain⟨c1,fi,L',fs',d,g1,g2,g3⟩:=GT hsz hinv ho hun hbi hfree hE h
  exact⟨c1,fi,.leaf L' fs' d,g1,g2,hK _ _ g3 hk⟩
 | .node u v a t,E,hE,h,hk=>by
  obtain⟨hne,hu,hv,ha,ht⟩:=h
  by_cases hui:u=i
  ·subst hui
   obtain⟨c1,fi,a',g1,g2,g3⟩:=rc hsz hinv ho hun hbi hfree hK a ((u,v)::E) (fun e he=>by
    rcases List.mem_cons.1 he with rfl |he
    ·exact⟨hu,hv,Ne.symm hne⟩
    ·exact hE e he) ha hk.1
   refine⟨c1,fi,a',g1,?_,g3⟩
   rw[List.filter_cons,if_neg (by simp)]at g2
   exact g2
  ·by_cases hvi:v=i
   ·subst hvi
    obtain⟨c1,fi,t',g1,g2,g3⟩:=rc hsz hinv ho hun hbi hfree hK t ((v,u)::E) (fun e he=>by
     rcases List.mem_cons.1 he with rfl |he
     ·exact⟨hv,hu,hne⟩
     ·exact hE e he) ht hk.2
    refine⟨c1,fi,t',g1,?_,g3⟩
    rw[List.filter_cons,if_neg (by simp)]at g2
    exact g2
   ·obtain⟨c1,fi,a',g1,g2,g3⟩:=rc hsz hinv ho hun hbi hfree hK a ((u,v)::E) (fun e he=>by
     rcases List.mem_cons.1 he with rfl |he
     ·exact⟨hu,hv,hvi⟩
     ·exact hE e he) ha hk.1
    obtain⟨c2,fi2,t',p1,p2,p3⟩:=rc hsz hinv ho hun hbi hfree hK t ((v,u)::E) (fun e he=>by
     rcases List.mem_cons.1 he with rfl |he
     ·exact⟨hv,hu,hui⟩
     ·exact hE e he) ht hk.2
    rw[g1]at p1
    simp only[xJ,pJ]at p1
    obtain⟨rfl,rfl⟩:=p1;rw[List.filter_cons,if_pos (by simpa using hui)]at g2
    rw[List.filter_cons,if_pos (by simpa using hvi)]at p2
    exact⟨c1,fi,.node u v a' t',g1,⟨hne,Je hsz hun.1 hu hui,Je hsz hun.1 hv hvi,g2,p2⟩,g3,p3⟩
theorem Jf{G:Nat→Option D}(hc:cH P G call)(hG:GA G A)(hgl:∀g d,hint.gl g=some d→G g=some d){ops:Array Oper}{ro:Option Nat}{bs:List Nat}(hb:we ops.toList []=some bs){Q:Exit→Act→World→Prop}{a0:Act}{ds:List Nat}(hd:∀o∈ops.toList,∀d,o.dst=some d→d∈ds∧d<a0.tmps.size):
  ∀(m:Nat) (listed:Array Bool) (t:RT) (c:Cf) (a:Act) (w:World),listed.size=ops.size→(gr ops listed).length=m→Jd bs listed→Inv c→SR A c.1 a w→Kp a0 ds a→RT.Ok P call hint ops bs listed c [] t→
   RT.Ends (fun c'=>∀c2 a' w',Eqv c' c2→SR A c2.1 a' w'→Kp a0 ds a'→Q .normal a' w') t→wpAnyIn (FW ro) 0 P .any ops Q m listed a w:=by
 obtain⟨_,hbl,hbs⟩:=sJ _ _ _ hb;simp only[yN,Nat.zero_add,yF]at hbl hbs
 have hbs':∀i o,ops[i]? =some o→(∀e∈o.after.toList,Region.binds .any e=true→e.on<i)∧∃b,bs[i]? =some b∧b=B6 (bs.take i) o:=fun i o ho=>hbs i o (by rw[yM];exact ho)
 intro m
 induction m with
 |zero=>
  intro listed t c a w hsz hm hcl hinv hs hkp hok hends;have hnil:=yL hm
  cases t with
  |node i j a b=>
   have:=j7.2 hok.2.1
   rw[hnil]at this
   cases this
  |leaf L fs c'=>
   obtain⟨hperm,e,_⟩:=hok;rw[hnil,List.perm_nil]at hperm
   subst hperm;simp only[jZ,List.filterMap_nil,aC,xJ,pJ]at e
   obtain⟨rfl,_⟩:=e
   refine⟨?_,hends c a w (.refl _) hs hkp⟩
   refine List.eq_nil_iff_forall_not_mem.2 fun i hi=> ?_
   simp only[Region.ready,List.mem_filter,xA]at hi
   have:i∈gr ops listed:=List.mem_filter.2 ⟨hi.1,hi.2.1⟩
   rw[hnil]at this
   cases this
 |succ m ih=>
  intro listed t c a w hsz hm hcl hinv hs hkp hok hends
  refine⟨fun hr=> ?_,fun i hi=> ?_⟩
  ·-- the first that is left is ready
   exfalso;generalize hL:gr ops listed=L at hm
   cases L with
   |nil=>cases hm
   |cons l0 L=>
    have hl0:l0∈(List.range ops.size).filter fun i=> !listed.getD i true:=by
     show l0∈gr ops listed;rw[hL];simp
    obtain⟨q1,q2⟩:=List.mem_filter.1 hl0;have hlt:l0<ops.size:=by simpa using q1
    obtain⟨o,ho⟩:∃o,ops[l0]? =some o:=⟨_,Array.getElem?_eq_getElem hlt⟩
    have:l0∈Region.ready .any ops listed:=by
     simp only[Region.ready,List.mem_filter,xA]
     refine⟨q1,q2,?_⟩
     rw[ho];simp only[xQ,Option.getD_some];rw[Array.all_eq_true'];intro e he
     cases hbe:Region.binds .any e with
     |false=>rfl
     |true=>
      have hon:=(hbs' l0 o ho).1 e (by simpa using he) hbe
      simp only[Bool.not_true,Bool.false_or];rw[kM (by omega)]
      cases hx:listed.getD e.on true with
      |true=>rfl
      |false=>
       have hmem:e.on∈gr ops listed:=j7.2 ⟨by omega,hx⟩
       have hsorted:(gr ops listed).Pairwise (·< ·):=List.Pairwise.filter _ List.pairwise_lt_range;rw[hL]at hmem hsorted
       rw[List.pairwise_cons]at hsorted
       rcases List.mem_cons.1 hmem with h |h
       ·omega
       ·have:=hsorted.1 _ h;omega
    rw[hr]at this
    cases this
  ·simp only[Region.ready,List.mem_filter,xA]at hi
   obtain⟨q1,q2,q3⟩:=hi;have hlt:i<ops.size:=by simpa using q1
   obtain⟨o,ho⟩:∃o,ops[i]? =some o:=⟨_,Array.getElem?_eq_getElem hlt⟩
   rw[ho]at q3
   simp only[xQ,Option.getD_some]at q3
   rw[Array.all_eq_true']at q3
   have hun:Un ops listed i:=⟨hlt,by simpa using q2⟩
   have hoi:ops.toList[i]? =some o:=by rw[yM];exact ho
   obtain⟨hedge,b,hbi,hbo⟩:=hbs' i o ho
   have hfree:∀x,Un ops listed x→b.testBit x=false:=fun x hux=>by
    cases hbx:b.testBit x with
    |false=>rfl
    |true=>
     exfalso;rw[hbo]at hbx
     rcases qb _ x _ 0 hbx with q |⟨ed,he,hbe,q⟩
     ·simp at q
     ·have hon:=hedge ed he hbe
      have hlis:listed.getD ed.on false=true:=by
       have:=q3 ed (by simpa using he)
       simpa [hbe]using this
      rcases q with rfl |q
      ·rw[kM (by omega),hux.2]at hlis;cases hlis
      ·rw[xU,if_pos hon]at q
       cases hbe2:bs[ed.on]? with
       |none=>rw[hbe2]at q;simp at q
       |some b2=>
        rw[hbe2]at q
        have:=hcl ed.on b2 hlis hbe2 x q
        rw[kM (by have:=hux.1;omega),hux.2]at this
        cases this
   obtain⟨c1,fi,t',g2,g3,g4⟩:=rc hsz hinv ho hun hbi hfree (K:=fun c'=>∀c2 a' w',Eqv c' c2→SR A c2.1 a' w'→Kp a0 ds a'→Q .normal a' w') (fun c' d hq hk c2 a' w' p=>hk c2 a' w' (hq.trans p)) t [] (by simp) hok hends
   have hset:∀x,(listed.setIfInBounds i true).getD x true=if x=i then true else listed.getD x true:=fun x=>AQ listed i x (by omega)
   unfold wpOpIn;rw[ho]
   simp only
   have main:=wT (ro:=ro) (Q:=Q) hc hG hgl hs hkp (hd o (yS hoi)) (sK g2) (K:=wpAnyIn (FW ro) 0 P .any ops Q m (listed.setIfInBounds i true)) (fun a' w' k1 k2=>by
    refine ih (listed.setIfInBounds i true) t' c1 a' w' (by simpa using hsz) ?_ (fun j bj hj hbj x hx=> ?_) (hinv.step g2) k1 k2 g3 g4
    ·have hmem:i∈gr ops listed:=j7.2 hun
     have hnd:(gr ops listed).Nodup:=List.Pairwise.filter _ List.nodup_range;rw[CU hsz hlt]
     have:((gr ops listed).filter fun x=>decide (x≠i))=(gr ops listed).erase i:=by
      rw[hnd.erase_eq_filter];refine List.filter_congr fun x _=> ?_
      by_cases hx:x=i <;>simp[hx]
     rw[this,List.length_erase_of_mem hmem,hm];rfl
    ·have hjs:j<(listed.setIfInBounds i true).size:=by
      rcases Nat.lt_or_ge j (listed.setIfInBounds i true).size with q |q
      ·exact q
      ·simp[yB,Array.getElem?_eq_none q]at hj
     have old:∀y,listed.getD y false=true→(listed.setIfInBounds i true).getD y false=true:=fun y hy=>by
      have hys:y<listed.size:=by
       rcases Nat.lt_or_ge y listed.size with q |q
       ·exact q
       ·simp[yB,Array.getElem?_eq_none q]at hy
      rw[kM (by simpa using hys),hset]
      by_cases hyi:y=i
      ·rw[if_pos hyi]
      ·rw[if_neg hyi];exact(kM hys).symm.trans hy
     by_cases hji:j=i
     ·subst hji
      rw[hbi]at hbj
      simp only[xJ]at hbj
      subst hbj;rw[hbo]at hx
      rcases qb _ x _ 0 hx with q |⟨ed,he,hbe,q⟩
      ·simp at q
      ·have hlis:listed.getD ed.on false=true:=by
        have:=q3 ed (by simpa using he)
        simpa [hbe]using this
       rcases q with rfl |q
       ·exact old _ hlis
       ·rw[xU,if_pos (hedge ed he hbe)]at q
        cases hbe2:bs[ed.on]? with
        |none=>rw[hbe2]at q;simp at q
        |some b2=>
         rw[hbe2]at q
         exact old _ (hcl ed.on b2 hlis hbe2 x q)
     ·rw[kM hjs,hset,if_neg hji]at hj
      have hjs':j<listed.size:=by simpa using hjs
      rw[←kM hjs']at hj
      exact old _ (hcl j bj hj hbj x hx))
   exact main
theorem Inv.start(s:St):Inv (s,gM s):=fun t r hr=>by
 have:aW (gM s) t=(s.get t).srts:=by
  simp only[aW,gM,St.get,CN]
  cases look s.env t with
  |none=>rfl
  |some u=>rfl
 rw[this];exact hr
theorem qc(ops:Array Oper):gr ops (Array.replicate ops.size false)=List.range ops.size:=by
 refine List.filter_eq_self.2 fun x hx=> ?_
 have:x<ops.size:=by simpa using hx
 simp[yB,this]
theorem AR(bs:List Nat)(n:Nat):Jd bs (Array.replicate n false):=fun i b hi=>by
 exfalso
 by_cases hlt:i<n
 ·simp[yB,hlt]at hi
 ·simp[yB,hlt]at hi
theorem CV(ops:Array Oper):jZ ops.toList (List.range ops.size)=ops.toList:=by
 have:∀(l pre:List Oper),(List.range' pre.length l.length).filterMap (fun i=>(pre++l)[i]?)=l:=fun l=>by
  induction l with
  |nil=>intro pre;rfl
  |cons x l ih=>
   intro pre;rw[xZ,List.range'_succ,List.filterMap_cons];have e1:(pre++x::l)[pre.length]? =some x:=by simp
   rw[e1]
   have:=ih (pre++[x])
   simp only[xP,List.length_singleton,xK,List.singleton_append]at this
   simp only[this]
 have:=this ops.toList []
 rw[yN,←List.range_eq_range',yF]at this
 exact this
theorem ub{G:Nat→Option D}(hc:cH P G call)(hG:GA G A)(hgl:∀g d,hint.gl g=some d→G g=some d)(hm:P.follows .mixedOrders=true){id:Nat}{ops:Array Oper}{ro:Option Nat}{Q:Exit→Act→World→Prop}{s:St}{bs:List Nat}{a:Act}{ds:List Nat}{w:World}(hs:SR A s a w)(hd:∀o∈ops.toList,∀d,o.dst=some d→d∈ds∧d<a.tmps.size)(hb:we ops.toList []=some bs){t:RT}
  (hok:RT.Ok P call hint ops bs (Array.replicate ops.size false) (s,gM s) [] t) (hends:RT.Ends (fun c'=>∀c2 a' w',Eqv c' c2→SR A c2.1 a' w'→Kp a ds a'→Q .normal a' w') t):(Code.region id ops true).wpIn (FW ro) 0 P Q a w:=
 wpIn_region_any hm (Jf (hint:=hint) (a0:=a) (ds:=ds) hc hG hgl hb hd ops.size _ t (s,gM s) a _ (by simp) (by rw[qc];simp) (AR _ _) (Inv.start s) hs.drawn (.refl _ _) hok hends)
theorem Eg{G:Nat→Option D}(hc:cH P G call)(hG:GA G A)(hgl:∀g d,hint.gl g=some d→G g=some d)(hm:P.follows .mixedOrders=true){id:Nat}{ops:Array Oper}{ro:Option Nat}{Q:Exit→Act→World→Prop}{s:St}{c':Cf}{fs:List Fp}{a:Act}{ds:List Nat}{w:World}(hs:SR A s a w)(hd:∀o∈ops.toList,∀d,o.dst=some d→d∈ds∧d<a.tmps.size)
  (e:aC P call hint ops.toList ops.toList (s,gM s)=some (c',fs)) (hk:mg ops.toList fs=true)
  (hQ:∀c2 a' w',Eqv c' c2→SR A c2.1 a' w'→Kp a ds a'→Q .normal a' w'):(Code.region id ops true).wpIn (FW ro) 0 P Q a w:=by
 unfold mg at hk
 split at hk
 ·rename_i bs hb
  have hbl:=(sJ _ _ _ hb).2.1;simp only[yN,Nat.zero_add,yF]at hbl
  have hlen:=mA _ e;rw[yF]at hlen
  refine ub hc hG hgl hm hs hd hb (t:=.leaf (List.range ops.size) fs c') ⟨by rw[qc],by rw[CV];exact e,?_⟩ hQ
  rw[List.pairwise_iff_getElem];intro i j hi hj hij;left;intro b hbj hbf;simp only[List.getElem_zip,List.getElem_range]at hbj hbf ⊢
  simp only[List.length_zip,List.length_range,hlen,Nat.min_self]at hi hj
  have:=ua fs bs fs 0 hk j b (fs[j]'(by omega)) hbj (xG _)
  exact oM b _ _ 0 this i _ (by rw[Nat.zero_add,xU,if_pos hij];exact xG _) (by simpa using hbf)
 ·cases hk
theorem w7(bs:List Nat):∀(E:List (Nat×Nat)) (L:List Nat),(zm bs E L).Perm L
 | [],L=>.refl _
 |e::E,L=>by
  simp only[zm]
  refine(List.perm_append_comm).trans ?_
  exact(List.filter_append_perm _ _).trans (w7 bs E L)
theorem uc(bs:List Nat)(E:List (Nat×Nat)):∀(l:List (Nat×Fp)),AE bs E l=true→l.Pairwise (RE bs E)
 | [],_=>.nil
 |p::r,h=>by
  simp only[AE,xA]at h
  refine List.pairwise_cons.2 ⟨fun q hq=> ?_,uc bs E r h.2⟩
  have:=List.all_eq_true.1 h.1 q hq
  simp only[Bool.or_eq_true,List.any_eq_true,xA]at this
  rcases this with(t |t) |⟨e,he,t1,t2⟩
  ·left
   intro b hb hbf;rw[hb]at t
   simp only[Option.getD_some]at t
   rw[hbf]at t;cases t
  ·exact .inl fun _ _ _=>t
  ·exact .inr ⟨e,he,t1,t2⟩
theorem w8{live:List Nat}{ops:Array Oper}{bs:List Nat}{s:St}:∀(t:OT) (E:List (Nat×Nat)) (s':St),oA P call hint live ops.toList bs s t E=some s'→∃rt,RT.Ok P call hint ops bs (Array.replicate ops.size false) (s,gM s) E rt∧RT.Ends (fun c=>prune live c.1=s') rt
 | .leaf,E,s',e=>by
  simp only[oA,xB]at e
  obtain⟨⟨c,fs⟩,e1,e2⟩:=e;simp only at e2
  split at e2
  ·rename_i hk
   simp only[xJ]at e2
   rw[yF]at e1 hk
   exact⟨.leaf _ fs c,⟨by rw[qc];exact w7 bs E _,e1,uc bs E _ hk⟩,e2⟩
  ·cases e2
 | .node i j a b,E,s',e=>by
  simp only[oA]at e
  split at e
  ·rename_i hij
   simp only[yF]at hij
   simp only[xB]at e
   obtain⟨s1,e1,s2,e2,e3⟩:=e
   split at e3
   ·rename_i hq
    simp only[xJ]at e3
    have:=St.beq_eq _ _ hq
    subst this;subst e3;obtain⟨ra,a1,a2⟩:=w8 a _ _ e1;obtain⟨rb,b1,b2⟩:=w8 b _ _ e2;have un:∀x,x<ops.size→Un ops (Array.replicate ops.size false) x:=fun x hx=>⟨hx,by simp[yB,hx]⟩
    exact⟨.node i j ra rb,⟨hij.1,un _ hij.2.1,un _ hij.2.2,a1,b1⟩,a2,b2⟩
   ·cases e3
  ·cases e
theorem RT.Ends.imp{K K':Cf→Prop}(h:∀c,K c→K' c):∀(t:RT),RT.Ends K t→RT.Ends K' t
 | .leaf _ _ c,hk=>h c hk
 | .node _ _ a b,hk=>⟨RT.Ends.imp h a hk.1,RT.Ends.imp h b hk.2⟩
end
def Ww(ex:Ex)(x:Exit):Prop:=
 match ex with
 | .normal=>x=.normal
 | .exit id=>x=.exit id
 | .ret=>x=.ret
 | .pan d=>∃v,x=.panic [{v:=v,recovered:=false}]∧∀c,VV c d v
structure Av.le(A' A:Av):Prop where
 F:∀t b,A.F t b→A'.F t b
 n0:A.n0≤A'.n0
 rho:∀o,o<A.n0→A'.ρ0 o=A.ρ0 o
 O0:∀b,b<A.w0.heap.size→A'.O0 b→A.O0 b
 fr:Fr A A'.w0
 fold:∀t b,A.F t b→b<A.w0.heap.size
theorem Fr.le{A A':Av}(hl:A'.le A){w:World}(h:Fr A' w):Fr A w:=
 ⟨h.os.trans hl.fr.os,h.tape.trans hl.fr.tape,h.output.trans hl.fr.output,Nat.le_trans hl.fr.size h.size,fun b hb hO=>
  (h.kept b (yA hb hl.fr.size) (fun q=>hO (hl.O0 b hb q))).trans (hl.fr.kept b hb hO),hl.fr.recs.trans h.recs⟩
theorem Av.le.trans{A A' B:Av}(x:B.le A')(y:A'.le A):B.le A:=
 ⟨fun t b h=>x.F t b (y.F t b h),Nat.le_trans y.n0 x.n0,fun o ho=>(x.rho o (yA ho y.n0)).trans (y.rho o ho),fun b hb h=>y.O0 b hb (x.O0 b (yA hb y.fr.size) h),Fr.le y x.fr,y.fold⟩
section
variable{P:Program}{A A':Av}{ρ:Nat→Nat}{S:Root→List Nat}{hd:Root→Value}{fl:List Nat}{k k':Wk}{vals:List (SV×Value)}{w:World}{G:Nat→Option D}
theorem Av.le.refl(h:KR A ρ S hd fl k vals w):A.le A:=⟨fun _ _ h=>h,Nat.le_refl _,fun _ _=>rfl,fun _ _ h=>h,⟨rfl,rfl,rfl,Nat.le_refl _,fun _ _ _=>rfl,.refl _⟩,h.Fold⟩
theorem KR.up(hl:A'.le A)(h:KR A' ρ S hd fl k vals w):KR A ρ S hd fl k vals w∧Ext (aa A' k.H.length ρ S fl w) (aa A k.H.length ρ S fl w):=by
 have ext:Ext (aa A' k.H.length ρ S fl w) (aa A k.H.length ρ S fl w):=⟨fun t b hp=>⟨⟨hp.1,fun q=>hp.2.1 (hl.F t b q),hp.2.2⟩,rfl⟩,Nat.le_refl _,fun _ _=>rfl⟩
 refine⟨⟨fun r t ht=>TC.ext ext _ _ _ (fun _ _=>rfl) (h.cont r t ht),h.gone,h.obj,fun n ob he hp=>(h.map n ob he hp).ext ext (fun _ _=>rfl) rfl rfl,h.dis,fun b hb=> ?_,fun p hp=> ?_,Fr.le hl h.fr,hl.fold,⟨Nat.le_trans hl.n0 h.rho.1,fun o ho=>(h.rho.2 o (yA ho hl.n0)).trans (hl.rho o ho)⟩⟩,ext⟩
 ·have:=h.blk b hb
  exact⟨this.1,fun t q=>this.2.1 t (hl.F t b q),fun hlt=>hl.O0 b hlt (this.2.2 (yA hlt hl.fr.size))⟩
 ·exact SO.keep ext (fun r q=>h.hold (k':=k) (hd':=hd) _ rfl rfl (fun _ _=>rfl) q) (h.vals p hp)
theorem KR.upW(hl:A'.le A)(h:KR A' ρ S hd fl k vals w){w':World}(ho:w'.os=w.os)(ht:w'.tape=w.tape)(hu:w'.output=w.output)(hsz:w'.heap.size=w.heap.size)(hsame:∀b,w'.heap[b]? =w.heap[b]? ∨(A.w0.heap.size≤b∧∀t,A'.F t b))(hrec:Recs w w'):
  KR A ρ S hd fl k vals w'∧Ext (aa A' k.H.length ρ S fl w) (aa A k.H.length ρ S fl w'):=by
 have ext:Ext (aa A' k.H.length ρ S fl w) (aa A k.H.length ρ S fl w'):=⟨fun t b hp=>⟨⟨hp.1,fun q=>hp.2.1 (hl.F t b q),by rw[hsz];exact hp.2.2⟩,(hsame b).resolve_right fun q=>hp.2.1 (q.2 t)⟩,Nat.le_refl _,fun _ _=>rfl⟩
 have kept:∀r,∀b∈S r,w'.heap[b]? =w.heap[b]? :=fun r b hb=>(hsame b).resolve_right fun q=>(h.blk b (.inl ⟨r,hb⟩)).2.1 true (q.2 true)
 have f0:=Fr.le hl h.fr
 refine⟨⟨fun r t ht=>TC.ext ext _ _ _ (kept r) (h.cont r t ht),h.gone,h.obj,fun n ob he hp=>(h.map n ob he hp).ext ext (kept _) rfl rfl,h.dis,fun b hb=> ?_,fun p hp=> ?_,⟨ho.trans f0.os,ht.trans f0.tape,hu.trans f0.output,by rw[hsz];exact f0.size,fun b hb hO=> ?_,f0.recs.trans hrec⟩,hl.fold,⟨Nat.le_trans hl.n0 h.rho.1,fun o ho=>(h.rho.2 o (yA ho hl.n0)).trans (hl.rho o ho)⟩⟩,ext⟩
 ·have:=h.blk b hb
  exact⟨by rw[hsz];exact this.1,fun t q=>this.2.1 t (hl.F t b q),fun hlt=>hl.O0 b hlt (this.2.2 (yA hlt hl.fr.size))⟩
 ·exact SO.keep ext (fun r q=>h.hold (k':=k) (hd':=hd) _ rfl rfl (kept r) q) (h.vals p hp)
 ·rw[(hsame b).resolve_right fun q=>by omega]
  exact f0.kept b hb hO
theorem SR.upW{s:St}{a:Act}(hl:A'.le A)(hs:SR A' s a w){w':World}(ho:w'.os=w.os)(ht:w'.tape=w.tape)(hu:w'.output=w.output)(hsz:w'.heap.size=w.heap.size)(hsame:∀b,w'.heap[b]? =w.heap[b]? ∨(A.w0.heap.size≤b∧∀t,A'.F t b))(hrec:Recs w w'):SR A s a w':=by
 obtain⟨ρ,S,hd,h,hv⟩:=hs;obtain⟨h1,ext⟩:=h.upW hl ho ht hu hsz hsame hrec;have kept:∀r,∀b∈S r,w'.heap[b]? =w.heap[b]? :=fun r b hb=>(hsame b).resolve_right fun q=>(h.blk b (.inl ⟨r,hb⟩)).2.1 true (q.2 true)
 exact⟨ρ,S,hd,h1,fun t=>SO.keep ext (fun r q=>h.hold (k':=s.wk) (hd':=hd) _ rfl rfl (kept r) q) (hv t)⟩
theorem SR.up{s:St}{a:Act}(hl:A'.le A)(hs:SR A' s a w):SR A s a w:=by
 obtain⟨ρ,S,hd,h,hv⟩:=hs;obtain⟨h1,ext⟩:=h.up hl
 exact⟨ρ,S,hd,h1,fun t=>SO.keep ext (fun r q=>h.hold (k':=s.wk) (hd':=hd) _ rfl rfl (fun _ _=>rfl) q) (hv t)⟩
def Mk(A:Av)(b:Nat):Prop:=(∀t,A.F t b)∧¬A.O0 b∧b<A.w0.heap.size∧A.w0.heap[b]? =some (.deferred (some []))
theorem Mk.le{b:Nat}(hl:A'.le A)(h:Mk A b):Mk A' b:=
 ⟨fun t=>hl.F t b (h.1 t),fun q=>h.2.1 (hl.O0 b h.2.2.1 q),yA h.2.2.1 hl.fr.size,(hl.fr.kept b h.2.2.1 h.2.1).trans h.2.2.2⟩
theorem Mk.now{b:Nat}(h:Mk A b)(hf:Fr A w):w.heap[b]? =some (.deferred (some [])):=(hf.kept b h.2.2.1 h.2.1).trans h.2.2.2
def mkD(b:Nat):Deferred:={target:=.collected b,args:= #[]}
structure Kc(b:Bool)(A0 A:Av)(a0:Act)(ds:List Nat)(a:Act):Prop where
 size:a.tmps.size=a0.tmps.size
 tmps:∀t,t∉ds→a.tmps[t]? =a0.tmps[t]?
 mks:∃l:List Nat,a.defers=l.map mkD++a0.defers∧l.Nodup∧∀b∈l,A0.w0.heap.size≤b∧Mk A b
 nst:b=true→a.defers=a0.defers
theorem Kc.of{q:Bool}{A0:Av}{a0 a:Act}{ds:List Nat}(h:Kp a0 ds a):Kc q A0 A a0 ds a:=⟨h.2.1,h.2.2,⟨[],by simp[h.1],List.nodup_nil,by simp⟩,fun _=>h.1⟩
theorem Kc.refl{q:Bool}{A0:Av}(a:Act)(ds:List Nat):Kc q A0 A a ds a:=.of (.refl _ _)
theorem Kc.trans{q:Bool}{A0:Av}{a b c:Act}{ds es:List Nat}(h0:A.le A0)(hl:A'.le A)(x:Kc q A0 A a ds b)(y:Kc q A A' b es c):Kc q A0 A' a (ds++es) c:=by
 obtain⟨l,h1,hn,h2⟩:=x.mks;obtain⟨l',h3,hn',h4⟩:=y.mks
 refine⟨y.size.trans x.size,fun t ht=> ?_,⟨l'++l,by rw[h3,h1,List.map_append,xK],?_,fun b hb=> ?_⟩,fun hq=>(y.nst hq).trans (x.nst hq)⟩
 ·simp only[xD,not_or]at ht
  exact(y.tmps t ht.2).trans (x.tmps t ht.1)
 ·rw[xT]
  refine⟨hn',hn,fun b hb d hd e=> ?_⟩
  subst e;have q1:=(h4 b hb).1;have q2:=(h2 b hd).2.2.2.1;omega
 ·rcases List.mem_append.1 hb with q |q
  ·exact⟨Nat.le_trans h0.fr.size (h4 b q).1,(h4 b q).2⟩
  ·exact⟨(h2 b q).1,(h2 b q).2.le hl⟩
theorem Kc.more{q:Bool}{A0:Av}{a b:Act}{ds es:List Nat}(x:Kc q A0 A a ds b)(h:∀t∈ds,t∈es):Kc q A0 A a es b:=⟨x.size,fun t ht=>x.tmps t (fun q=>ht (h t q)),x.mks,x.nst⟩
def Av.reb(A:Av)(S:Root→List Nat)(fl X:List Nat)(w:World)(n:Nat)(ρ:Nat→Nat):Av:=
 {w0:=w,F:=fun t b=>A.F t b∨b∈X,O0:=fun b=>Own S fl b,n0:=n,ρ0:=ρ,mono:=fun b h=>h.imp (A.mono b) id}
theorem RW{X:List Nat}{n:Nat}(nO:Nat)(ρ':Nat→Nat)(w':World)(S':Root→List Nat)(fl':List Nat)(h:∀b,Own S' fl' b∨b∈X↔Own S (X++fl) b):aa (A.reb S fl X w n ρ) nO ρ' S' fl' w'=aa A nO ρ' S (X++fl) w':=by
 simp only[aa,Av.reb,Cx.mk.injEq,true_and,and_true];funext t b;refine propext ⟨fun q=>⟨fun ho=> ?_,fun hF=>q.2.1 (.inl hF),q.2.2⟩,fun q=>⟨fun ho=>q.1 ((h b).1 (.inl ho)),fun hF=> ?_,q.2.2⟩⟩
 ·rcases(h b).2 ho with r |r
  ·exact q.1 r
  ·exact q.2.1 (.inr r)
 ·rcases hF with r |r
  ·exact q.2.1 r
  ·exact q.1 ((h b).1 (.inr r))
theorem KR.reb{X:List Nat}(h:KR A ρ S hd (X++fl) k vals w):KR (A.reb S fl X w k.H.length ρ) ρ S hd fl k vals w∧(A.reb S fl X w k.H.length ρ).le A∧aa (A.reb S fl X w k.H.length ρ) k.H.length ρ S fl w=aa A k.H.length ρ S (X++fl) w:=by
 have hown:∀b,Own S fl b∨b∈X↔Own S (X++fl) b:=fun b=>by
  constructor
  ·rintro((q |q) |q)
   ·exact .inl q
   ·exact .inr (xR _ q)
   ·exact .inr (xL _ q)
  ·rintro(q |q)
   ·exact .inl (.inl q)
   ·rcases List.mem_append.1 q with q |q
    ·exact .inr q
    ·exact .inl (.inr q)
 have ecx:aa (A.reb S fl X w k.H.length ρ) k.H.length ρ S fl w=aa A k.H.length ρ S (X++fl) w:=RW _ _ _ _ _ hown;have hdF:=h.dis.ndF;rw[xT]at hdF
 refine⟨⟨fun r t ht=>by rw[ecx];exact h.cont r t ht,h.gone,h.obj,fun n ob he hp=>by rw[ecx];exact h.map n ob he hp,⟨h.dis.nd,hdF.2.1,h.dis.one,fun r b hb hf=>h.dis.oneF r b hb (xR _ hf)⟩,fun b hb=> ?_,fun p hp=>by rw[ecx];exact h.vals p hp,⟨rfl,rfl,rfl,Nat.le_refl _,fun _ _ _=>rfl,.refl _⟩,fun t b hF=> ?_,Nat.le_refl _,fun _ _=>rfl⟩,⟨fun t b hF=>.inl hF,h.rho.1,h.rho.2,fun b hb ho=> ?_,h.fr,h.Fold⟩,ecx⟩
 ·have:=h.blk b ((hown b).1 (.inl hb))
  refine⟨this.1,fun t hF=> ?_,fun _=>hb⟩
  rcases hF with hF |hF
  ·exact this.2.1 t hF
  ·rcases hb with⟨r,hr⟩ |hb
   ·exact h.dis.oneF r b hr (xL _ hF)
   ·exact hdF.2.2 b hF b hb rfl
 ·rcases hF with hF |hF
  ·exact yA (h.Fold t b hF) h.fr.size
  ·exact(h.blk b (.inr (xL _ hF))).1
 ·exact(h.blk b ((hown b).1 (.inl ho))).2.2 hb
theorem GA.reb{X:List Nat}(hG:GA G A)(h:KR A ρ S hd (X++fl) k vals w):GA G (A.reb S fl X w k.H.length ρ):=fun g d e=>by
 obtain⟨q1,q2,q3⟩:=hG.now h e;obtain⟨_,_,h3,vs,h4,h5⟩:=hG g d e
 refine⟨q2,fun ho=>q1 ?_,fun t ht=> ?_,vs,h4.same q3,h5⟩
 ·rcases ho with ho |ho
  ·exact .inl ho
  ·exact .inr (xR _ ho)
 ·rcases ht with ht |ht
  ·exact h3 t ht
  ·exact q1 (.inr (xL _ ht))
theorem KR.rebW(h:KR A ρ S hd fl k vals w){w':World}(hsz:w'.heap.size=w.heap.size)(hsame:∀b,w'.heap[b]? =w.heap[b]? ∨∀t,A.F t b):
  KR (A.reb S fl [] w' k.H.length ρ) ρ S hd fl k vals w'∧Ext (aa A k.H.length ρ S fl w) (aa (A.reb S fl [] w' k.H.length ρ) k.H.length ρ S fl w'):=by
 have ext:Ext (aa A k.H.length ρ S fl w) (aa (A.reb S fl [] w' k.H.length ρ) k.H.length ρ S fl w'):=⟨fun t b hp=>⟨⟨hp.1,fun q=>q.elim hp.2.1 (by simp),by rw[hsz];exact hp.2.2⟩,(hsame b).resolve_right fun q=>hp.2.1 (q t)⟩,Nat.le_refl _,fun _ _=>rfl⟩
 have kept:∀r,∀b∈S r,w'.heap[b]? =w.heap[b]? :=fun r b hb=>(hsame b).resolve_right fun q=>(h.blk b (.inl ⟨r,hb⟩)).2.1 true (q true)
 refine⟨⟨fun r t ht=>TC.ext ext _ _ _ (kept r) (h.cont r t ht),h.gone,h.obj,fun n ob he hp=>(h.map n ob he hp).ext ext (kept _) rfl rfl,h.dis,fun b hb=> ?_,fun p hp=> ?_,⟨rfl,rfl,rfl,Nat.le_refl _,fun _ _ _=>rfl,.refl _⟩,fun t b hF=> ?_,Nat.le_refl _,fun _ _=>rfl⟩,ext⟩
 ·have:=h.blk b hb
  exact⟨by rw[hsz];exact this.1,fun t q=>q.elim (this.2.1 t) (by simp),fun _=>hb⟩
 ·exact SO.keep ext (fun r q=>h.hold (k':=k) (hd':=hd) _ rfl rfl (kept r) q) (h.vals p hp)
 ·rcases hF with hF |hF
  ·show b<w'.heap.size
   rw[hsz];exact yA (h.Fold t b hF) h.fr.size
  ·cases hF
def ownL(S:Root→List Nat)(ct:List ((Nat×Nat)×T)):List Nat:=(wj ct).flatMap fun x=>S (.l x.1 x.2)
def soO(S:Root→List Nat):Root→List Nat
 | .l _ _=>[]
 | .o n=>S (.o n)
theorem Ext.of{c c':Cx}(e:c=c'):Ext c c':=e▸⟨fun _ _ hp=>⟨hp,rfl⟩,Nat.le_refl _,fun _ _=>rfl⟩
theorem GU{α:Type}{ct:List ((Nat×Nat)×α)}{x:Nat×Nat}(h:x∉ct.map (·.1)):aZ ct x=none:=by
 induction ct with
 |nil=>rfl
 |cons p r ih=>
  obtain⟨y,u⟩:=p;simp only[List.map_cons,xY,not_or]at h
  simp only[aZ];rw[if_neg (Ne.symm h.1)];exact ih h.2
theorem KR.gather(h:KR A ρ S hd fl k vals w):KR A ρ (soO S) hd (ownL S k.ct++fl) {ct:=[],H:=k.H} [] w∧aa A k.H.length ρ (soO S) (ownL S k.ct++fl) w=aa A k.H.length ρ S fl w:=by
 have mem:∀b n j,b∈S (.l n j)→b∈ownL S k.ct:=fun b n j hb=>by
  by_cases hk:(n,j)∈k.ct.map (·.1)
  ·exact List.mem_flatMap.2 ⟨(n,j),fC.2 hk,hb⟩
  ·have:=h.gone (.l n j) (GU hk) (fun _ _ e=>by cases e)
   rw[this]at hb;cases hb
 have hown:∀b,Own (soO S) (ownL S k.ct++fl) b↔Own S fl b:=fun b=>by
  constructor
  ·rintro(⟨r,hr⟩ |hb)
   ·cases r with
    |l n j=>cases hr
    |o n=>exact .inl ⟨.o n,hr⟩
   ·rcases List.mem_append.1 hb with hb |hb
    ·obtain⟨x,_,hx⟩:=List.mem_flatMap.1 hb
     exact .inl ⟨_,hx⟩
    ·exact .inr hb
  ·rintro(⟨r,hr⟩ |hb)
   ·cases r with
    |l n j=>exact .inr (xL _ (mem b n j hr))
    |o n=>exact .inl ⟨.o n,hr⟩
   ·exact .inr (xR _ hb)
 have ecx:aa A k.H.length ρ (soO S) (ownL S k.ct++fl) w=aa A k.H.length ρ S fl w:=by
  simp only[aa,Cx.mk.injEq,true_and,and_true];funext t b;exact propext ⟨fun q=>⟨fun ho=>q.1 ((hown b).2 ho),q.2⟩,fun q=>⟨fun ho=>q.1 ((hown b).1 ho),q.2⟩⟩
 refine⟨⟨fun r t ht=> ?_,fun r hr hm=> ?_,h.obj,fun n ob he hp=> ?_,⟨fun r=> ?_,?_,fun r r' b hb hb'=> ?_,fun r b hb hf=> ?_⟩,fun b hb=>h.blk b ((hown b).1 hb),by simp,h.fr,h.Fold,h.rho⟩,ecx⟩
 ·cases r with
  |l n j=>cases ht
  |o n=>rw[ecx];exact h.cont (.o n) t ht
 ·cases r with
  |l n j=>rfl
  |o n=>exact h.gone (.o n) hr hm
 ·rw[ecx]
  obtain⟨M,m1,m2⟩:=h.map n ob he hp
  exact⟨M,m1,m2⟩
 ·cases r with
  |l n j=>exact List.nodup_nil
  |o n=>exact h.dis.nd _
 ·rw[xT]
  refine⟨List.pairwise_flatMap.2 ⟨fun x _=>h.dis.nd _,?_⟩,h.dis.ndF,fun a ha b hb e=> ?_⟩
  ·refine(B9 _).imp fun{x y} hne b hb c hc e=> ?_
   subst e
   have:=h.dis.one _ _ b hb hc
   simp only[Root.l.injEq]at this
   exact hne (Prod.ext this.1 this.2)
  ·subst e
   obtain⟨x,_,hx⟩:=List.mem_flatMap.1 ha;exact h.dis.oneF _ a hx hb
 ·cases r with
  |l n j=>cases hb
  |o n=>
   cases r' with
   |l n j=>cases hb'
   |o m=>exact h.dis.one _ _ b hb hb'
 ·cases r with
  |l n j=>cases hb
  |o n=>
   rcases List.mem_append.1 hf with hf |hf
   ·obtain⟨x,_,hx⟩:=List.mem_flatMap.1 hf
    have:=h.dis.one _ _ b hb hx
    cases this
   ·exact h.dis.oneF _ b hb hf
theorem Jg{α:Type}{ct:List ((Nat×Nat)×α)}{x:Nat×Nat}(h:x∈ct.map (·.1)):∃t,aZ ct x=some t:=by
 induction ct with
 |nil=>cases h
 |cons p r ih=>
  obtain⟨y,u⟩:=p;simp only[aZ]
  by_cases e:y=x
  ·exact⟨u,if_pos e⟩
  ·rw[if_neg e]
   simp only[List.map_cons,xY]at h
   exact ih (h.resolve_left (Ne.symm e))
theorem KR.ungather{M:List Nat}{H:List Ob}{env:List (Nat×SV)}{ct:List ((Nat×Nat)×T)}{tmps:Array Value}(h:KR A ρ S hd (M++fl) {ct:=[],H} [] w)(hf:FrOK (aa A H.length ρ S (M++fl) w) M env ct tmps):
  ∃S' hd',KR A ρ S' hd' fl {ct,H} [] w∧aa A H.length ρ S' fl w=aa A H.length ρ S (M++fl) w∧∀t,SO (aa A H.length ρ S' fl w) ({ct,H}:Wk).get hd' ((look env t).getD .dead) (tmps.getD t undef):=by
 obtain⟨Si,hdi,hM,hT,hlo,hE⟩:=hf;have hSl:∀n j,S (.l n j)=[]:=fun n j=>h.gone _ rfl (fun _ _ e=>by cases e)
 let S':Root→List Nat:=fun r=>match r with | .l n j=>if(n,j)∈ct.map (·.1)then Si (n,j)else [] | .o n=>S (.o n)
 let hd':Root→Value:=fun r=>match r with | .l n j=>hdi (n,j) | .o n=>hd (.o n)
 have inM:∀b n j,b∈S' (.l n j)→(n,j)∈wj ct∧b∈Si (n,j):=fun b n j hb=>by
  simp only[S']at hb
  split at hb
  ·rename_i hk;exact⟨fC.2 hk,hb⟩
  ·cases hb
 have memM:∀b n j,b∈S' (.l n j)→b∈M:=fun b n j hb=>by
  obtain⟨q1,q2⟩:=inM b n j hb;rw[hM];exact List.mem_flatMap.2 ⟨_,q1,q2⟩
 have hown:∀b,Own S' fl b↔Own S (M++fl) b:=fun b=>by
  constructor
  ·rintro(⟨r,hr⟩ |hb)
   ·cases r with
    |l n j=>exact .inr (xL _ (memM b n j hr))
    |o n=>exact .inl ⟨.o n,hr⟩
   ·exact .inr (xR _ hb)
  ·rintro(⟨r,hr⟩ |hb)
   ·cases r with
    |l n j=>rw[hSl]at hr;cases hr
    |o n=>exact .inl ⟨.o n,hr⟩
   ·rcases List.mem_append.1 hb with hb |hb
    ·rw[hM]at hb
     obtain⟨⟨n,j⟩,q1,q2⟩:=List.mem_flatMap.1 hb;refine .inl ⟨.l n j,?_⟩;simp only[S'];rw[if_pos (fC.1 q1)];exact q2
    ·exact .inr hb
 have ecx:aa A H.length ρ S' fl w=aa A H.length ρ S (M++fl) w:=by
  simp only[aa,Cx.mk.injEq,true_and,and_true];funext t b;exact propext ⟨fun q=>⟨fun ho=>q.1 ((hown b).2 ho),q.2⟩,fun q=>⟨fun ho=>q.1 ((hown b).1 ho),q.2⟩⟩
 have hdF:=h.dis.ndF;rw[xT]at hdF
 have hMn:=hdF.1;rw[hM]at hMn
 obtain⟨hMn1,hMn2⟩:=List.pairwise_flatMap.1 hMn
 have one:∀x y b,x∈wj ct→y∈wj ct→b∈Si x→b∈Si y→x=y:=by
  have:∀(l:List (Nat×Nat)),l.Pairwise (fun a₁ a₂=>∀x,x∈Si a₁→∀y,y∈Si a₂→x≠y)→∀x y b,x∈l→y∈l→b∈Si x→b∈Si y→x=y:=by
   intro l
   induction l with
   |nil=>intro _ x y b hx;cases hx
   |cons a l ih=>
    intro hp x y b hx hy hbx hby;rw[List.pairwise_cons]at hp
    rcases List.mem_cons.1 hx with e1 |h1
    ·rcases List.mem_cons.1 hy with e2 |h2
     ·exact e1.trans e2.symm
     ·exact absurd rfl (hp.1 y h2 b (e1▸hbx) b hby)
    ·rcases List.mem_cons.1 hy with e2 |h2
     ·exact absurd rfl (hp.1 x h1 b (e2▸hby) b hbx)
     ·exact ih hp.2 x y b h1 h2 hbx hby
  exact this _ hMn2
 refine⟨S',hd',⟨fun r t ht=> ?_,fun r hr hm=> ?_,h.obj,fun n ob he hp=> ?_,⟨fun r=> ?_,hdF.2.1,fun r r' b hb hb'=> ?_,fun r b hb hf=> ?_⟩,fun b hb=>h.blk b ((hown b).1 hb),by simp,h.fr,h.Fold,h.rho⟩,ecx,fun t=> ?_⟩
 ·rw[ecx]
  cases r with
  |l n j=>
   have e:S' (.l n j)=Si (n,j):=by
    simp only[S'];exact if_pos (List.mem_map.2 ⟨_,sr ht,rfl⟩)
   rw[e];exact hT (n,j) t ht
  |o n=>exact h.cont (.o n) t ht
 ·cases r with
  |l n j=>
   simp only[S'];split
   ·rename_i hk
    obtain⟨t,ht⟩:=Jg hk
    have:aZ ct (n,j)=none:=hr
    rw[this]at ht;cases ht
   ·rfl
  |o n=>exact h.gone (.o n) hr hm
 ·rw[ecx]
  obtain⟨N,m1,m2⟩:=h.map n ob he hp
  exact⟨N,m1,m2⟩
 ·cases r with
  |l n j=>
   simp only[S'];split
   ·rename_i hk;exact hMn1 (n,j) (fC.2 hk)
   ·exact List.nodup_nil
  |o n=>exact h.dis.nd _
 ·cases r with
  |l n j=>
   cases r' with
   |l n' j'=>
    obtain⟨q1,q2⟩:=inM b n j hb;obtain⟨p1,p2⟩:=inM b n' j' hb'
    have:=one _ _ b q1 p1 q2 p2
    simp only[pJ]at this
    rw[this.1,this.2]
   |o m=>exact absurd (xL _ (memM b n j hb)) (h.dis.oneF (.o m) b hb')
  |o n=>
   cases r' with
   |l n' j'=>exact absurd (xL _ (memM b n' j' hb')) (h.dis.oneF (.o n) b hb)
   |o m=>exact h.dis.one _ _ b hb hb'
 ·cases r with
  |l n j=>exact hdF.2.2 b (memM b n j hb) b hf rfl
  |o n=>exact h.dis.oneF (.o n) b hb (xR _ hf)
 ·rw[ecx]
  have hold:∀r q,ot (aa A H.length ρ S (M++fl) w) (aa A H.length ρ S (M++fl) w) (Go.Am.cont ct []) ({ct,H}:Wk).get (IF hdi) hd' r q:=fun r q t0 es e1 e2=>by
   cases r with
   |l n j=>exact⟨t0,es,e1,e2,.refl _,fun h' hn=>hn⟩
   |o n=>simp[Go.Am.cont]at e1
  have hv:=hE t;have hu:∀u,look env t=some u→u.loose=u:=fun u hl=>hlo _ (zq hl)
  cases hl:look env t with
  |none=>trivial
  |some u=>
   have hu:=hu u hl;rw[hl]at hv
   simp only[Option.getD_some]at hv ⊢
   cases u with
   |d x=>exact hv
   |bor r p off len=>exact SB.keep_bor (hold r p) hv
   |loc r p i off=>exact SB.keep_loc (hold r p) hv
   |dead=>trivial
   |_=>simp[SV.loose]at hu
theorem Eh(env:List (Nat×SV))(t:Nat):look (env.map fun p=>(p.1,p.2.loose)) t=(look env t).map SV.loose:=by
 induction env with
 |nil=>rfl
 |cons p r ih=>
  obtain⟨q,v⟩:=p;simp only[List.map_cons,look];split
  ·rfl
  ·exact ih
theorem ud(v:SV):v.loose.loose=v.loose:=by
 cases v with
 |bor r p o l=>cases r <;>rfl
 |loc r p i o=>cases r <;>rfl
 |_=>rfl
theorem CW(h:KR A ρ S hd fl k vals w){env:List (Nat×SV)}{tmps:Array Value}(hv:∀t,SO (aa A k.H.length ρ S fl w) k.get hd ((look env t).getD .dead) (tmps.getD t undef)){c:Cx}(hx:Ext (aa A k.H.length ρ S fl w) c)(hk:∀r,∀b∈S r,c.w.heap[b]? =w.heap[b]?):FrOK c (ownL S k.ct) (env.map fun p=>(p.1,p.2.loose)) k.ct tmps:=by
 refine⟨fun x=>S (.l x.1 x.2),fun x=>hd (.l x.1 x.2),rfl,fun x t ht=>TC.ext hx _ _ _ (fun b hb=>hk _ b hb) (h.cont (.l x.1 x.2) t ht),fun p hp=> ?_,fun t=> ?_⟩
 ·obtain⟨q,_,rfl⟩:=List.mem_map.1 hp
  exact ud _
 ·rw[Eh]
  have:=hv t
  have hold:∀n j q,ot (aa A k.H.length ρ S fl w) c k.get (Go.Am.cont k.ct []) hd (IF fun x=>hd (.l x.1 x.2)) (.l n j) q:=fun n j q t0 es e1 e2=>by
   refine⟨t0,es,e1,e2,.refl _,fun h' hn=> ?_⟩
   exact NodeH.ext q t0 _ h' _ (h.cont (.l n j) t0 e1) (fun b hb=>hk _ b hb) hn
  cases hl:look env t with
  |none=>trivial
  |some u=>
   rw[hl]at this
   simp only[Option.getD_some,xQ]at this ⊢
   cases u with
   |d x=>exact VV.ext hx this
   |bor r p off len=>
    cases r with
    |l n j=>exact SB.keep_bor (hold n j p) this
    |o n=>trivial
   |loc r p i off=>
    cases r with
    |l n j=>exact SB.keep_loc (hold n j p) this
    |o n=>trivial
   |_=>trivial
theorem GX{call:ak}(hc:cH P G call)(hG:GA G A){hint:Hint}{f:Operand}{ps:Array Nat}{x y:Code}{s s':St}{ex:Ex}{act:Act}{Q:Exit→Act→World→Prop}(hs:SR A s act w)(hk:aD act.tmps.size (.rangeFunc f ps x y)=true)(e:pL call hint f ps.toList x y s=some (ex,s'))
  (hQ:∀A' a' w',A'.le A→GA G A'→SR A' s' a' w'→Kc hint.nest A A' act [] a'→ex=.normal→Q .normal a' w'):(Code.rangeFunc f ps x y).wpIn (FW none) 0 P Q act w:=by
 obtain⟨ρ,S,hd,h,hv⟩:=hs;unfold pL at e
 split at e
 ·cases e
 rename_i hnest
 split at e
 ·rename_i g first cap hf
  split at e
  ·cases e
  rename_i hy;simp only[xB]at e
  obtain⟨⟨rs,H2⟩,e1,e⟩:=e;simp only at e
  split at e
  ·rename_i g' ps' x' y' env ct hH2
   split at e
   ·rename_i hlen
    simp only[xJ,pJ]at e
    obtain⟨rfl,rfl⟩:=e;have hfv:=SR.val hv f;rw[hf]at hfv
    have hfv':=VV.inv (c:=aa A s.H.length ρ S [] w) hfv (by simp)
    simp only[VC,xC,and_true]at hfv'
    obtain⟨av,bv,hev,ha,hb⟩:=hfv';refine wpIn_rangeFunc fun fn _=> ?_
    let W0:=w.alloc (.deferred (some []))
    let R:Loop:={state:=.ready,pending:=none,fn,tmps:=act.tmps,params:=ps,assign:=x,body:=y,defers:=w.heap.size}
    let W1:=W0.alloc (.loop R)
    have hsz0:W0.heap.size=w.heap.size+1:=by simp[W0]
    obtain⟨k1,x1⟩:=KR.alloc (M:=[]) (fl:=[]) (by simpa using h) (.deferred (some []))
    have k1':KR A ρ S hd ([w.heap.size]++[]) s.wk [] W0:=by simpa using k1
    obtain⟨k2,le2,cx2⟩:=KR.reb k1';have G1:=GA.reb hG k1';obtain⟨k3,x3⟩:=KR.alloc (M:=[]) (fl:=[]) (by simpa using k2) (.loop R)
    have k3':KR (A.reb S [] [w.heap.size] W0 s.wk.H.length ρ) ρ S hd [W0.heap.size] s.wk [] W1:=by simpa using k3
    obtain⟨k4,cx4⟩:=k3'.gather;obtain⟨k5,cx5⟩:=k4.perm (fl':=(W0.heap.size::ownL S s.wk.ct)++[]) (by simp)
    have xx:Ext (aa A s.H.length ρ S [] w) (aa (A.reb S [] [w.heap.size] W0 s.wk.H.length ρ) s.H.length ρ (soO S) ((W0.heap.size::ownL S s.wk.ct)++[]) W1):=by
     have q1:Ext (aa A s.H.length ρ S [] w) (aa A s.H.length ρ S ([w.heap.size]++[]) W0):=x1;have q2:Ext (aa (A.reb S [] [w.heap.size] W0 s.wk.H.length ρ) s.H.length ρ S [] W0) (aa (A.reb S [] [w.heap.size] W0 s.wk.H.length ρ) s.H.length ρ S [W0.heap.size] W1):=x3
     exact((q1.trans (.of cx2.symm)).trans q2).trans ((Ext.of cx4.symm).trans (.of cx5))
    have kept:∀r,∀b∈S r,W1.heap[b]? =w.heap[b]? :=fun r b hb=>by
     have hlt:=(h.blk b (.inl ⟨r,hb⟩)).1;have q1:W0.heap[b]? =w.heap[b]? :=Below.heap_alloc w _ b hlt;have q2:W1.heap[b]? =W0.heap[b]? :=Below.heap_alloc W0 _ b (by omega)
     rw[q2,q1]
    have fr0:=CW h (env:=s.env) (tmps:=act.tmps) hv xx kept
    let ob:Ob:=.frame hint.self ps.toList x y (s.env.map fun p=>(p.1,p.2.loose)) s.ct
    have hob:ObOK (aa (A.reb S [] [w.heap.size] W0 s.wk.H.length ρ) s.H.length ρ (soO S) ((W0.heap.size::ownL S s.wk.ct)++[]) W1) W0.heap.size (ownL S s.wk.ct) ob:=⟨R,heap_alloc_new W0 _,rfl,rfl,rfl,rfl,rfl,fr0,by
     simp only[aD,xA,List.all_eq_true,yD]at hk
     exact⟨hk.1.1,hk.1.2,hk.2⟩⟩
    obtain⟨k6,x6⟩:=k5.newOb (N:=W0.heap.size::ownL S s.wk.ct) (fl:=[]) ob W0.heap.size (fun z hz=>by simp[ob]at hz) (fun _=>⟨_,rfl,hob⟩) (by simp[ob])
    obtain⟨k7,le7,cx7⟩:=KR.reb (X:=[]) (fl:=[]) (by simpa using k6)
    have G2:=GA.reb (X:=[]) (fl:=[]) G1 (by simpa using k6)
    let H1:List Ob:=s.H++[ob]
    let ρ1:Nat→Nat:=fun o=>if o=s.H.length then W0.heap.size else ρ o
    let S1:Root→List Nat:=upd (soO S) (.o s.H.length) (W0.heap.size::ownL S s.wk.ct)
    let A2:Av:=(A.reb S [] [w.heap.size] W0 s.wk.H.length ρ).reb S1 [] [] W1 H1.length ρ1
    have le2':A2.le A:=Av.le.trans le7 le2;have hL:H1.length=s.H.length+1:=by simp[H1]
    have x6':Ext (aa (A.reb S [] [w.heap.size] W0 s.wk.H.length ρ) s.H.length ρ (soO S) ((W0.heap.size::ownL S s.wk.ct)++[]) W1) (aa (A.reb S [] [w.heap.size] W0 s.wk.H.length ρ) H1.length ρ1 S1 [] W1):=by rw[hL];exact x6
    have hx1:Ext (aa A s.H.length ρ S [] w) (aa A2 H1.length ρ1 S1 [] W1):=(xx.trans x6').trans (.of cx7.symm)
    let yv:Value:=.func (.yield (w.heap.size+1)) #[] #[]
    have hargs:VVs (aa A2 H1.length ρ1 S1 [] W1) (first++[.yld s.H.length]++cap) ((av++ #[yv])++bv).toList:=by
     simp only[Array.toList_append];refine VVs.append _ _ _ _ (VVs.append _ _ _ _ (VVs.ext hx1 _ _ ha) ?_) (VVs.ext hx1 _ _ hb)
     refine⟨_,[],rfl,?_,rfl,rfl⟩
     simp only[VC]
     refine⟨by show s.H.length<H1.length;omega,?_⟩
     show yv.cells.toList=[Value.func (.yield (ρ1 s.H.length)) #[] #[]];simp[yv,ρ1,hsz0,Value.cells]
    have hcalls:=hc.2.1 g _ H1 [] H2 e1 A2 S1 _ _ rfl G2 k7 hargs;have hent:=hc.1 _ _ _ _ e1;obtain⟨fn',f1,f2,f3⟩:=hent.resolve_left hy;unfold CallsY at hcalls;rw[if_neg hy]at hcalls
    refine⟨w.heap.size+1,[mkD w.heap.size],W1,{target:=.fn (.func g) bv,args:=av++ #[yv]},W1,g,(av++ #[yv])++bv,W1,run_enterLoop_outer _ _ _ _ _,?_,fun _ _=>trivial,?_,fun hh=>by simp[FW,Fence.wide]at hh,fG.2 (Calls.mono hcalls fun en w2 he=> ?_)⟩
    ·have hev':act.eval f=.func (.func g) av bv:=hev
     have hcv:∀v,act.eval (.const v)=v:=fun _=>rfl
     simp[resolve,rangeCall,hev',Deferred.ofValue,Sem.run_bind,Sem.run_pure,hcv,yv]
    ·simp only[invoke]
     exact dC f1 f2 f3
    ·obtain⟨v,hen,ρ2,S2,hd2,M2,vs,q1,q2,rfl⟩:=he
     unfold Ends at hen;rw[if_neg (show¬aQ []=true by simp[aQ])]at hen
     subst hen;obtain⟨rfl,rfl⟩:=q2;obtain⟨N2,n1,r,r1,r2,r3,r4,r5,r6,r7⟩:=q1.map _ _ hH2 rfl
     have hρ:ρ2 s.H.length=W0.heap.size:=by
      have:=q1.rho.2 s.H.length (by show s.H.length<H1.length;omega)
      rw[this];show ρ1 s.H.length=_;simp[ρ1]
     have hl:w2.heap[W0.heap.size]? =some (.loop r):=by rw[←hρ];exact r1
     have htm:r.tmps=act.tmps:=by
      obtain⟨st,pe,hr⟩:=q1.fr.recs W0.heap.size R (heap_alloc_new W0 _);rw[hl]at hr
      simp only[xJ,Obj.loop.injEq]at hr
      rw[hr]
     have hlt2:W0.heap.size<w2.heap.size:=(Array.getElem?_eq_some_iff.1 hl).1
     let w4:World:=w2.putObj W0.heap.size (.loop {r with state:=.exhausted})
     refine⟨none,w4,?_,?_⟩
     ·have:=run_endLoop (P:=P) hl (by rw[r2];simp)
      rw[←hsz0];exact this.trans (congrArg (fun p=>Result.ok p w4) r3)
     ·have n1':S2 (.o s.H.length)=ρ2 s.H.length::N2:=n1
      obtain⟨l1,l2⟩:=q1.lockMap hH2 rfl n1';have hnd:=q1.dis.nd (.o s.H.length);rw[n1',List.nodup_cons]at hnd
      obtain⟨m1,m2⟩:=KR.world (w:=w2) (w':=w4) (M:=ρ2 s.H.length::N2) (M':=N2) (fl:=[]) rfl rfl rfl (by simp[w4]) (fun b r0 hb0=>by
       by_cases hbl:b=W0.heap.size
       ·subst hbl
        rw[hl]at hb0
        simp only[xJ,Obj.loop.injEq]at hb0
        subst hb0
        exact⟨.exhausted,r.pending,World.putObj_heap_same hlt2⟩
       ·exact⟨r0.state,r0.pending,(World.putObj_heap_other hbl).trans hb0⟩) l1 (fun b hb hbm=>World.putObj_heap_other (fun e=>hbm (by rw[e,←hρ];simp))) (fun b hb=>.inl (by simp[hb])) hnd.2
      have hfr:FrOK (aa A2 (H2.set s.H.length .lock).length ρ2 (upd S2 (.o s.H.length) []) (N2++[]) w4) N2 env ct r.tmps:=by
       have ext:Ext (aa A2 H2.length ρ2 S2 [] w2) (aa A2 (H2.set s.H.length .lock).length ρ2 (upd S2 (.o s.H.length) []) (N2++[]) w4):=by
        rw[List.length_set];refine l2.trans ?_;have m2':=m2;simp only[List.length_set]at m2'
        exact m2'
       have kp:∀b∈N2,w4.heap[b]? =w2.heap[b]? :=fun b hb=>World.putObj_heap_other (fun e=>hnd.1 (by rw[hρ,←e];exact hb))
       exact r7.1.imp kp (fun p hp x v e q=>VV.ext ext q) (fun p hp cs M' hM q=>TC.ext ext _ _ _ (fun b hb=>kp b (hM b hb)) q)
      obtain⟨S4,hd4,u1,_,u2⟩:=KR.ungather (fl:=[]) (by simpa using m1) hfr
      refine hQ A2 _ w4 le2' G2 ⟨ρ2,S4,hd4,u1,fun t=> ?_⟩ ⟨rfl,fun _ _=>rfl,⟨[w.heap.size],rfl,by simp,fun b hb=> ?_⟩,fun hq=>absurd hq hnest⟩ rfl
      ·have:=u2 t
       rw[htm]at this
       exact this
      ·rw[yQ]at hb
       subst hb
       refine⟨h.fr.size,fun t=>.inl (.inr (by simp)),fun ho=> ?_,?_,?_⟩
       ·have:=k6.blk w.heap.size ho
        exact this.2.1 true (.inr (by simp))
       ·show w.heap.size<W1.heap.size
        simp[W1,W0];omega
       ·show W1.heap[w.heap.size]? =_
        have e1:W1.heap[w.heap.size]? =W0.heap[w.heap.size]? :=Below.heap_alloc W0 _ _ (by omega)
        rw[e1];exact heap_alloc_new w _
   ·cases e
  ·cases e
 ·cases e
structure Shut(l:List Nat)(w w':World):Prop where
 os:w'.os=w.os
 tape:w'.tape=w.tape
 output:w'.output=w.output
 size:w'.heap.size=w.heap.size
 same:∀b,w'.heap[b]? =w.heap[b]? ∨b∈l
 recs:Recs w w'
theorem re{fn:Func}{tmps:Array Value}{R:Ending→World→Prop}{u:FrameMode}(hu:u≠ .run){ds:List Deferred}:∀(l:List Nat) (w:World),l.Nodup→(∀b∈l,w.heap[b]? =some (.deferred (some [])))→(∀w',Shut l w w'→LeavesInM (FW none) 0 P fn tmps R ds u w')→LeavesInM (FW none) 0 P fn tmps R (l.map mkD++ds) u w
 | [],w,_,_,h=>h w ⟨rfl,rfl,rfl,rfl,fun _=>.inl rfl,.refl _⟩
 |b::l,w,hn,hl,h=>by
  rw[List.nodup_cons]at hn
  have hb:=hl b (by simp)
  have hlt:b<w.heap.size:=(Array.getElem?_eq_some_iff.1 hb).1
  refine⟨hu,.inl ⟨b,w.putObj b (.deferred none),rfl,run_takeDeferred hb,re hu l _ hn.2 (fun d hd=> ?_) (fun w' hw=>h w' ?_)⟩⟩
  ·have hne:d≠b:=fun e=>hn.1 (e▸hd)
   exact(World.putObj_heap_other hne).trans (hl d (by simp[hd]))
  ·refine⟨hw.os,hw.tape,hw.output,hw.size.trans World.putObj_size,fun d=> ?_,Recs.trans (Recs.other (g:=b) (fun d hd=>World.putObj_heap_other hd) (fun r=>by rw[hb];simp)) hw.recs⟩
   rcases hw.same d with q |q
   ·by_cases e:d=b
    ·exact .inr (by simp[e])
    ·exact .inl (q.trans (World.putObj_heap_other e))
   ·exact .inr (by simp[q])
end
end Go.Am
namespace Go.Am
open Go Go.RowKit Go.ChangeMaps
theorem MU{l:List Oper}{src s1 it:Nat}{mt:TypeId}(h:RN l=some (src,s1,mt,it)):∃a b,l=[a,b]∧a.op=.move (.tmp src)∧a.dst=some s1∧a.guard=none∧b.op=.range mt (.tmp s1)∧b.dst=some it∧b.guard=none:=by
 unfold RN at h
 split at h
 ·split at h
  ·split at h
   ·rename_i hs
    subst hs;simp only[xJ,pJ]at h
    obtain⟨rfl,rfl,rfl,rfl⟩:=h
    exact⟨_,_,rfl,by assumption,by assumption,by assumption,by assumption,by assumption,by assumption⟩
   ·cases h
  ·cases h
 ·cases h
theorem MV{l:List Oper}{it t c:Nat}(h:RO l=some (it,t,c)):∃a b,l=[a,b]∧a.op=.next (.tmp it) false∧a.dst=some t∧a.guard=none∧b.op=.extract (.tmp t) 0∧b.dst=some c∧b.guard=none:=by
 unfold RO at h
 split at h
 ·split at h
  ·split at h
   ·rename_i hs
    subst hs;simp only[xJ,pJ]at h
    obtain⟨rfl,rfl,rfl⟩:=h
    exact⟨_,_,rfl,by assumption,by assumption,by assumption,by assumption,by assumption,by assumption⟩
   ·cases h
  ·cases h
 ·cases h
theorem MW{l:List Oper}{it e x kv:Nat}(h:RP l=some (it,e,x,kv)):∃a b d,l=[a,b,d]∧a.op=.entry (.tmp it)∧a.dst=some e∧a.guard=none∧b.op=.extract (.tmp e) 0∧b.dst=some x∧b.guard=none∧d.op=.assign (.tmp x)∧d.dst=some kv∧d.guard=none:=by
 unfold RP at h
 split at h
 ·split at h
  ·split at h
   ·rename_i hs
    obtain⟨rfl,rfl⟩:=hs;simp only[xJ,pJ]at h
    obtain⟨rfl,rfl,rfl,rfl⟩:=h
    exact⟨_,_,_,rfl,by assumption,by assumption,by assumption,by assumption,by assumption,by assumption,by assumption,by assumption,by assumption⟩
   ·cases h
  ·cases h
 ·cases h
theorem MX{l:List Oper}{all m kv k:Nat}{mt:TypeId}(h:RR l=some (all,m,kv,k,mt)):∃a b d,l=[a,b,d]∧a.op=.move (.tmp all)∧a.dst=some m∧a.guard=none∧b.op=.move (.tmp kv)∧b.dst=some k∧b.guard=none∧d.op=.mapUpdate mt (.tmp m) (.tmp k) (.const (.bool true))∧d.dst=none∧d.guard=none:=by
 unfold RR at h
 split at h
 ·split at h
  ·split at h
   ·rename_i hs
    obtain⟨rfl,rfl⟩:=hs;simp only[xJ,pJ]at h
    obtain⟨rfl,rfl,rfl,rfl,rfl⟩:=h
    exact⟨_,_,_,rfl,by assumption,by assumption,by assumption,by assumption,by assumption,by assumption,by assumption,by assumption,by assumption⟩
   ·cases h
  ·cases h
 ·cases h
section
variable{P:Program}{ev:Operand→Value}{o:Oper}{w w':World}{v:Value}
theorem AS{x:Operand}(h:o.op=.move x):(execOp ev o).run P w=.ok (.value (ev x)) w:=by
 obtain⟨d,op,t,p,af,g⟩:=o;simp only at h;subst h;simp[execOp]
theorem GY{x:Operand}(h:o.op=.assign x):(execOp ev o).run P w=.ok (.value (ev x)) w:=by
 obtain⟨d,op,t,p,af,g⟩:=o;simp only at h;subst h;simp[execOp]
theorem Jh{mt:TypeId}{x:Operand}(h:o.op=.range mt x)(hr:(Instr.range mt (ev x)).run P w=.ok v w'):(execOp ev o).run P w=.ok (.value v) w':=by
 obtain⟨d,op,t,p,af,g⟩:=o;simp only at h;subst h;simp[execOp,hr]
theorem FA{b:Bool}{x:Operand}(h:o.op=.next x b)(hr:∀ty,(Instr.next (ev x) b ty).run P w=.ok v w'):(execOp ev o).run P w=.ok (.value v) w':=by
 obtain⟨d,op,t,p,af,g⟩:=o;simp only at h;subst h;simp[execOp,hr]
theorem Ji{x:Operand}(h:o.op=.entry x)(hr:(Instr.entry (ev x)).run P w=.ok v w'):(execOp ev o).run P w=.ok (.value v) w':=by
 obtain⟨d,op,t,p,af,g⟩:=o;simp only at h;subst h;simp[execOp,hr]
theorem qd{x:Operand}{n:Nat}{vs:Array Value}(h:o.op=.extract x n)(hx:ev x=.tuple vs)(hv:vs[n]? =some v):(execOp ev o).run P w=.ok (.value v) w:=by
 obtain⟨d,op,t,p,af,g⟩:=o;simp only at h;subst h;simp[execOp,Instr.extract,hx,hv]
theorem AT{mt:TypeId}{m k x:Operand}(h:o.op=.mapUpdate mt m k x)(hr:(Instr.mapUpdate mt (ev m) (ev k) (ev x)).run P w=.ok () w'):(execOp ev o).run P w=.ok .skip w':=by
 obtain⟨d,op,t,p,af,g⟩:=o;simp only at h;subst h;simp[execOp,hr]
theorem lR{ops:Array Oper}{Q:Exit→Act→World→Prop}{ro:Option Nat}{l:List Oper}{a:Act}{n:Next}(hg:o.guard=none)(hd:∀c,o.op≠ .defer c)(h:(execOp a.eval o).run P w=.ok n w')(hn:zG n v)(rest:wpListIn (FW ro) 0 P ops Q l (a.put o.dst v) w'):wpListIn (FW ro) 0 P ops Q (o::l) a w:=by
 refine wpListIn_step fun K hK=> ?_
 have:Region.wanted o (yielded ops a.tmps)=true:=by unfold Region.wanted;rw[hg]
 rw[this];simp only[if_true]
 refine⟨fun _ _=>trivial,?_⟩
 rw[Oper.semAt_eq _ _ _ hd,h]
 rcases hn with rfl |⟨rfl,rfl⟩
 ·exact hK _ _ rest
 ·exact hK _ _ rest
theorem rf{id:Nat}{ops:Array Oper}{l:List Oper}{Q:Exit→Act→World→Prop}{ro:Option Nat}{a:Act}(hl:ops.toList=l)(h:wpListIn (FW ro) 0 P ops Q l a w):(Code.region id ops false).wpIn (FW ro) 0 P Q a w:=
 wpIn_region (by rw[List.range_eq_range',←yF,wpOpsIn_eq_wpListIn ops.toList 0 (by simp),hl];exact h)
end
theorem eY{a:Act}{d:Nat}{v:Value}(h:d<a.tmps.size):(a.put (some d) v).eval (.tmp d)=v:=by
 show(a.tmps.setIfInBounds d v).getD d undef=v
 simp[h]
theorem rg{a:Act}{d t:Nat}{v:Value}(h:d≠t):(a.put (some d) v).eval (.tmp t)=a.eval (.tmp t):=by
 show(a.tmps.setIfInBounds d v).getD t undef=a.tmps.getD t undef
 simp[yB,Array.getElem?_setIfInBounds_ne h]
theorem Kp.ev{a0 a:Act}{ds:List Nat}(h:Kp a0 ds a){t:Nat}(ht:t∉ds):a.eval (.tmp t)=a0.eval (.tmp t):=by
 show a.tmps.getD t undef=a0.tmps.getD t undef;rw[yB,yB,h.2.2 t ht]
theorem ue{α:Type}(f:Nat→Bool)(t:Nat):∀l:List (Nat×α),look (l.filter fun e=>f e.1) t=if f t=true then look l t else none
 | []=>by simp[look]
 |(k,v)::r=>by
  have ih:=ue f t r;simp only[List.filter]
  by_cases hk:f k=true
  ·simp only[hk,look]
   split
   ·rename_i h;subst h;rw[if_pos hk]
   ·exact ih
  ·simp only[hk,look,ih]
   by_cases h:k=t
   ·subst h;simp[hk]
   ·rw[if_neg h]
def AU(k:List UInt8):Value:=.string ⟨k.toArray⟩
theorem CX{c:Cx}:∀(es:List (D×T)) (l:List (List UInt8)) (en:List MapEntry),qP es=some l→All2 (AG c) es en→(∀z∈en,∃k∈l,z.key=AU k)∧∀k∈l,∃z∈en,z.key=AU k
 | [],l,en,e,h=>by
  simp only[qP,xJ]at e
  subst e;rw[show en=[]from h]
  simp
 |(d,t)::es,l,en,e,h=>by
  obtain⟨z,r,rfl,h2,h3⟩:=h
  cases d with
  |str k=>
   simp only[qP,xM]at e
   obtain⟨l',e1,rfl⟩:=e;obtain⟨i1,i2⟩:=CX es l' r e1 h3;have hv:=VV.inv h2 (by simp)
   simp only[VC,xC,and_true]at hv
   obtain⟨b,hb,hbk⟩:=hv;have hz:z.key=AU k:=by rw[hb,(Cm hbk).1];rfl
   refine⟨fun y hy=> ?_,fun q hq=> ?_⟩
   ·rcases List.mem_cons.1 hy with rfl |hy
    ·exact⟨k,by simp,hz⟩
    ·obtain⟨q,h4,h5⟩:=i1 y hy
     exact⟨q,by simp[h4],h5⟩
   ·rcases List.mem_cons.1 hq with rfl |hq
    ·exact⟨z,by simp,hz⟩
    ·obtain⟨y,h4,h5⟩:=i2 q hq
     exact⟨y,by simp[h4],h5⟩
  |_=>simp[qP]at e
theorem SetOf.mem{es:List (D×T)}{ks ks':List (List UInt8)}(h:SetOf es ks)(e:∀k,k∈ks↔k∈ks'):SetOf es ks':=
 ⟨fun p hp=>by obtain⟨s,h1,h2⟩:=h.1 p hp;exact⟨s,(e s).1 h1,h2⟩,fun s hs=>h.2 s ((e s).2 hs)⟩
structure CI(A:Av)(ρ:Nat→Nat)(hd:Root→Value)(s:St)(V:List (SV×Value))(o r b cl:Nat)(en:Array MapEntry)(lo hi:List (List UInt8))(W:List Nat)(a0:Act)(it:Nat)(seen:Array Nat)(a:Act)(w:World):Prop where
 kr:∃S ks,KR A ρ S hd ([r]++[]) {ct:=s.ct,H:=s.H.set o (.sset ks)} V w∧(∀k∈lo,k∈ks)∧(∀k∈ks,k∈hi)∧∀z∈en.toList,seen.contains z.born=true→∃k∈ks,z.key=AU k
 itr:w.heap[r]? =some (.mapIter (some b) cl seen cl)
 mp:w.heap[b]? =some (.map en cl)
 kp:Kp a0 W a
 hit:a.eval (.tmp it)=.pointer (some ⟨r,0,none⟩)
theorem MY{P:Program}{x y:Code}{p:Cpy}{A:Av}{s s':St}{ex:Ex}{a:Act}{w:World}{ro:Option Nat}{Q:Exit→Act→World→Prop}(hp:tG x y=some p)(e:B7 P p s=some (ex,s'))(hs:SR A s a w)(hk:aD a.tmps.size (.seq x y)=true)
  (hQ:∀a' w' z,SR A s' a' w'→Kp a (jY (.seq x y)) a'→Ww ex z→Q z a' w'):(Code.seq x y).wpIn (FW ro) 0 P Q a w:=by
 unfold tG at hp
 split at hp
 rotate_left
 ·cases hp
 rename_i i0 o0 bx i1 o1 c' bx' b2 i2 o2 i3 o3;simp only[xB]at hp
 obtain⟨⟨src,s1,mt,it⟩,h0,⟨it1,t,c⟩,h1,⟨it2,e',xx,kv⟩,h2,⟨all,m,kv2,k,mt2⟩,h3,hp⟩:=hp;simp only at hp
 split at hp
 rotate_left
 ·cases hp
 rename_i hc;obtain⟨rfl,rfl,rfl,rfl,rfl,hnd,hall,hsrc⟩:=hc;simp only[xJ]at hp
 subst hp;obtain⟨z1,z2,l0,z3,z4,z5,z6,z7,z8⟩:=MU h0;obtain⟨a1,a2,l1,a3,a4,a5,a6,a7,a8⟩:=MV h1;obtain⟨b1,b2',b3,l2,b4,b5,b6,b7,b8,b9,b10,b11,b12⟩:=MW h2;obtain⟨d1,d2,d3,l3,d4,d5,d6,d7,d8,d9,d10,d11,d12⟩:=MX h3
 have hW:∀q∈[s1,it2,t,c',e',xx,kv2,m,k],q∈jY (.seq (.region i0 o0 false) (.block bx (.loop (.seq (.region i1 o1 false) (.seq (.cond (.tmp c') .skip (.exit bx)) (.block b2 (.seq (.region i2 o2 false) (.region i3 o3 false)))))))):=by
  intro q hq;simp only[jY,l0,l1,l2,l3,List.filterMap_cons,List.filterMap_nil,z4,z7,a4,a7,b5,b8,b11,d5,d8,d11,xD,xY,List.not_mem_nil,or_false]at hq ⊢
  grind
 have hsz:∀q∈[s1,it2,t,c',e',xx,kv2,m,k],q<a.tmps.size:=by
  simp only[aD,zl,l0,l1,l2,l3,List.all_cons,List.all_nil,z4,z7,a4,a7,b5,b8,b11,d5,d8,d11,xA,yD,Bool.and_true]at hk
  intro q hq;simp only[xY,List.not_mem_nil,or_false]at hq
  grind
 simp only[B7]at e
 split at e
 rotate_left
 ·cases e
 rename_i q o hq ho
 split at e
 rotate_left
 ·cases e
 rename_i es ks0 hes hks
 split at e
 rotate_left
 ·cases e
 rename_i hcond;simp only[xM,pJ]at e
 obtain⟨l,hl,rfl,rfl⟩:=e;obtain⟨hm1,hm2⟩:=hcond;obtain⟨⟨kt1,el1⟩,hmt⟩:=Option.isSome_iff_exists.1 hm1;simp only[xB]at hm2
 obtain⟨⟨kt,el⟩,hmt2,hkt⟩:=hm2;have hu1:=mq hmt;have hu2:=mq hmt2
 have hkey:∀s:List UInt8,(aI P kt (.str s) (.str s)).isSome=true:=fun s=>by
  simp only[aI];rw[hkt];rfl
 obtain⟨ρ,S0,hd,h,hv⟩:=hs
 have evq:a.eval (.tmp src)=.map (some (ρ q)):=by
  have:=hv src
  rw[hq]at this
  have:=VV.inv this (by simp)
  simp only[VC,xC,and_true]at this
  exact this.2
 have evo:a.eval (.tmp all)=.map (some (ρ o)):=by
  have:=hv all
  rw[ho]at this
  have:=VV.inv this (by simp)
  simp only[VC,xC,and_true]at this
  exact this.2
 have hV:KR A ρ S0 hd ([]++[]) s.wk (s.env.map fun p=>(s.get p.1,a.tmps.getD p.1 undef)) w:=h.withVals (fun p hp=>by
  obtain⟨u,_,rfl⟩:=List.mem_map.1 hp
  exact hv u.1)
 obtain⟨N,m1,en,cl,m2,m3,m4⟩:=hV.map q _ hes rfl;obtain⟨hb,st⟩:=m2;obtain⟨hk1,hk2⟩:=CX es l en.toList hl m3;obtain⟨N',n1,_⟩:=hV.map o _ hks rfl
 have hqo:ρ q≠ρ o:=fun q'=>by
  have:=hV.dis.one (.o q) (.o o) (ρ q) (by rw[m1];simp) (by rw[n1,q'];simp)
  simp only[Root.o.injEq]at this
  subst this;rw[hes]at hks
  cases hks
 have hltq:ρ q<w.heap.size:=(Array.getElem?_eq_some_iff.1 hb).1;have hlto:ρ o<w.heap.size:=(hV.blk (ρ o) (.inl ⟨.o o,by rw[n1];simp⟩)).1
 have hlo:o<s.H.length:=(List.getElem?_eq_some_iff.1 hks).1
 refine wpIn_seq (rf l0 ?_);refine lR z5 (by rw[z3];simp) (AS z3) (.inl rfl) ?_
 rw[z4];have e1:(a.put (some s1) (a.eval (.tmp src))).eval (.tmp s1)=.map (some (ρ q)):=by rw[eY (hsz s1 (by simp)),evq]
 refine lR z8 (by rw[z6];simp) (Jh z6 (by rw[e1];exact run_range_map w mt kt1 el1 (ρ q) en cl hu1 hb)) (.inl rfl) ?_
 rw[z7];obtain⟨g1,_⟩:=KR.alloc hV (.mapIter (some (ρ q)) cl #[] cl);generalize hr:w.heap.size=r at g1 ⊢
 have hset0:s.H.set o (.sset ks0)=s.H:=qU hks
 have start:CI A ρ hd s (s.env.map fun p=>(s.get p.1,a.tmps.getD p.1 undef)) o r (ρ q) cl en ks0 (l++ks0) [s1,it2,t,c',e',xx,kv2,m,k] a it2 #[] ((a.put (some s1) (a.eval (.tmp src))).put (some it2) (.pointer (some ⟨r,0,none⟩))) (w.alloc (.mapIter (some (ρ q)) cl #[] cl)):=by
  refine⟨⟨S0,ks0,by rw[hset0];exact g1,fun _ h=>h,fun k hk=>xR _ hk,by simp⟩,?_,?_,?_,?_⟩
  ·rw[←hr];exact heap_alloc_new w _
  ·exact(Below.heap_alloc w _ _ hltq).trans hb
  ·exact((Kp.refl a _).put (by simp) _).put (by simp) _
  ·exact eY (by rw[gk];exact hsz it2 (by simp))
 have hro:r≠ρ o:=by omega
 have hrq:r≠ρ q:=by omega
 refine wpIn_block (wpIn_loop_rounds ((leftOf en #[]).size+1) ?_)
 revert start
 generalize ((a.put (some s1) (a.eval (.tmp src))).put (some it2) (.pointer (some ⟨r,0,none⟩)))=ac;generalize w.alloc (.mapIter (some (ρ q)) cl #[] cl)=wc;intro start
 have turns:∀(n:Nat) (seen:Array Nat) (ac:Act) (wc:World),CI A ρ hd s (s.env.map fun p=>(s.get p.1,a.tmps.getD p.1 undef)) o r (ρ q) cl en ks0 (l++ks0) [s1,it2,t,c',e',xx,kv2,m,k] a it2 seen ac wc→(leftOf en seen).size<n→
   Code.roundsIn (FW ro) 0 P (.seq (.region i1 o1 false) (.seq (.cond (.tmp c') .skip (.exit bx)) (.block b2 (.seq (.region i2 o2 false) (.region i3 o3 false))))) (Exit.inBlock bx Q) n ac wc:=by
  intro n
  induction n with
  |zero=>intro _ _ _ _ hlt;omega
  |succ n ih=>
   intro seen ac wc ci hlt;obtain⟨⟨S,ks,g,c1,c2,c3⟩,c4,c5,c6,c7⟩:=ci;have sz:ac.tmps.size=a.tmps.size:=c6.2.1;rw[roundsIn_succ];refine wpIn_seq (rf l1 ?_)
   rcases run_next_at (P:=P) wc 0 r (ρ q) cl cl seen en cl c4 c5 st.lt (Nat.le_refl _)with⟨hz,_⟩ |⟨z,hz,w1,hw1,_⟩
   ·-- it ends
    have hn:∀ty,(Instr.next (ac.eval (.tmp it2)) false ty).run P wc=.ok (.tuple #[.bool false]) wc:=fun ty=>by
     rw[c7]
     rcases run_next_at (P:=P) wc ty r (ρ q) cl cl seen en cl c4 c5 st.lt (Nat.le_refl _)with⟨_,hrun⟩ |⟨z,hz',_⟩
     ·exact hrun
     ·have:(leftOf en seen).toList=[]:=yL (by simpa using hz)
      rw[this]at hz'
      cases hz'
    refine lR a5 (by rw[a3];simp) (FA a3 hn) (.inl rfl) ?_
    rw[a4];refine lR a8 (by rw[a6];simp) (qd (v:=.bool false) a6 (eY (by rw[sz];exact hsz t (by simp))) rfl) (.inl rfl) ?_
    rw[a7];refine wpIn_seq (wpIn_cond_false (eY (by rw[gk,sz];exact hsz c' (by simp))) (wpIn_exit ?_))
    have kp:Kp a [s1,it2,t,c',e',xx,kv2,m,k] ((ac.put (some t) (.tuple #[.bool false])).put (some c') (.bool false)):=(c6.put (by simp) _).put (by simp) _
    generalize ((ac.put (some t) (.tuple #[.bool false])).put (some c') (.bool false))=af at kp ⊢
    simp only[Exit.then,Exit.inBlock,if_true]
    refine hQ _ _ _ ?_ (kp.more hW) rfl;obtain⟨g2,_⟩:=g.letGo (fl':=[]) List.nodup_nil (by simp)
    have hm:({ct:=s.ct,H:=s.H.set o (.sset ks)}:Wk).H[o]? =some (.sset ks):=yK hlo;obtain⟨M,p1,es1,en1,cl1,p2,p3,p4,p5⟩:=g2.map o _ hm rfl
    have p6:SetOf es1 (l++ks0):=p5.mem fun kk=>⟨c2 kk,fun hkk=>by
     rcases List.mem_append.1 hkk with hkk |hkk
     ·obtain⟨y,y1,y2⟩:=hk2 kk hkk
      obtain⟨k',y3,y4⟩:=c3 y y1 (all_seen en seen hz y y1);rw[y2]at y4
      have:kk=k':=by
       simp only[AU,Value.string.injEq,ByteArray.mk.injEq]at y4
       simpa using congrArg Array.toList y4
      subst this;exact y3
     ·exact c1 kk hkk⟩
    have g3:=g2.reob (ob':=.sset (l++ks0)) hm rfl rfl ⟨M,p1,es1,en1,cl1,p2,p3,p4,p6⟩;simp only[List.set_set]at g3
    refine⟨ρ,S,hd,g3.hush,fun u=> ?_⟩
    show SO _ _ _ ((look (s.env.filter fun e=> ![s1,it2,t,c',e',xx,kv2,m,k].contains e.1) u).getD .dead) _
    rw[ue (fun n=> ![s1,it2,t,c',e',xx,kv2,m,k].contains n)]
    split
    ·rename_i hu
     cases hlk:look s.env u with
     |none=>trivial
     |some sv=>
      have hmem:=Cy hlk;obtain⟨pr,hpr,rfl⟩:=List.mem_map.1 hmem
      have:=g3.vals _ (List.mem_map.2 ⟨pr,hpr,rfl⟩)
      have hget:s.get pr.1=sv:=by show(look s.env pr.1).getD .dead=sv;rw[hlk];rfl
      simp only[hget]at this
      have hkp:af.tmps.getD pr.1 undef=a.tmps.getD pr.1 undef:=kp.ev (t:=pr.1) (by simpa using hu)
      rw[hkp];exact this
    ·trivial
   ·-- one key more
    obtain⟨hz1,hz2⟩:=mem_left hz;obtain⟨kk,hkk,hzk⟩:=hk1 z hz1;clear hw1
    have hn0:∃z∈(leftOf en seen).toList,∃w1:World,(w1=wc∨w1=wc.drew)∧∀ty,(Instr.next (ac.eval (.tmp it2)) false ty).run P wc=.ok (.tuple #[.bool true,z.key,z.val]) (setBlock w1 r (.mapIter (some (ρ q)) cl (seen.push z.born) cl)):=by
     rcases run_next_at (P:=P) wc 0 r (ρ q) cl cl seen en cl c4 c5 st.lt (Nat.le_refl _)with⟨q1,_⟩ |⟨z',q1,w1',q2,q3⟩
     ·have:(leftOf en seen).toList=[]:=yL (by simpa using q1)
      rw[this]at hz
      cases hz
     ·exact⟨z',q1,w1',q2,fun ty=>by rw[c7];exact q3⟩
    clear hz1 hz2 hkk hzk;obtain⟨z,hz,w1,hw1,hn⟩:=hn0;obtain⟨hz1,hz2⟩:=mem_left hz;obtain⟨kk,hkk,hzk⟩:=hk1 z hz1;refine lR a5 (by rw[a3];simp) (FA a3 hn) (.inl rfl) ?_
    rw[a4];refine lR a8 (by rw[a6];simp) (qd (v:=.bool true) a6 (eY (by rw[sz];exact hsz t (by simp))) rfl) (.inl rfl) ?_
    rw[a7];have hrlt:r<wc.heap.size:=(Array.getElem?_eq_some_iff.1 c4).1
    have hwh:w1.os=wc.os∧w1.tape=wc.tape∧w1.output=wc.output∧w1.heap=wc.heap:=by
     rcases hw1 with rfl |rfl <;>exact⟨rfl,rfl,rfl,rfl⟩
    clear hw1
    have hw2:∀b,b≠r→(setBlock w1 r (.mapIter (some (ρ q)) cl (seen.push z.born) cl)).heap[b]? =wc.heap[b]? :=fun b hb=>by
     rw[←hwh.2.2.2];simp[setBlock,Ne.symm hb]
    have hw3:(setBlock w1 r (.mapIter (some (ρ q)) cl (seen.push z.born) cl)).heap[r]? =some (.mapIter (some (ρ q)) cl (seen.push z.born) cl):=by
     rw[←hwh.2.2.2]at hrlt
     simp[setBlock,hrlt]
    have hwo:(setBlock w1 r (.mapIter (some (ρ q)) cl (seen.push z.born) cl)).os=wc.os∧(setBlock w1 r (.mapIter (some (ρ q)) cl (seen.push z.born) cl)).tape=wc.tape∧(setBlock w1 r (.mapIter (some (ρ q)) cl (seen.push z.born) cl)).output=wc.output∧wc.heap.size≤(setBlock w1 r (.mapIter (some (ρ q)) cl (seen.push z.born) cl)).heap.size:=by
     refine⟨hwh.1,hwh.2.1,hwh.2.2.1,?_⟩
     rw[←hwh.2.2.2];simp[setBlock]
    generalize setBlock w1 r (.mapIter (some (ρ q)) cl (seen.push z.born) cl)=w2 at hw2 hw3 hwo ⊢
    obtain⟨g2,_⟩:=KR.world (w:=wc) (w':=w2) (M:=[r]) (M':=[r]) hwo.1 hwo.2.1 hwo.2.2.1 hwo.2.2.2 (Recs.other (g:=r) (fun b hb=>hw2 b hb) (fun r'=>by rw[c4];simp)) g (fun b _ hb=>hw2 b (by simpa using hb)) (fun b hb=>.inl hb) (by simp)
    have hm2:w2.heap[ρ q]? =some (.map en cl):=(hw2 _ hrq.symm).trans c5;have hm:({ct:=s.ct,H:=s.H.set o (.sset ks)}:Wk).H[o]? =some (.sset ks):=yK hlo;obtain⟨es1,q1,g3⟩:=g2.unset hm;obtain⟨es2,q2,q3⟩:=q1.put (ks':=kk::ks) (y:=.bool true) (hkey kk) rfl;obtain⟨w4,S4,r1,r2,r3⟩:=sD (P:=P) (o:=o) (fl:=[r]++[]) (vv:=.bool true) (xv:=AU kk) g3 hu2 (hkey kk) (VV.mk_bool true) (VV.one (by simp only[VC,AU];exact⟨_,rfl,by simp⟩) (by simp)) (by simp[hlo]) q2
    have r4:=r2.reset (o:=o) (es:=es2) (ks:=kk::ks) (by simp[hlo]) q3
    simp only[List.set_set]at r4
    have n1:∀{u v:Nat},u∈[s1,it2,t,c',e',xx,kv2,m,k]→v∉[s1,it2,t,c',e',xx,kv2,m,k]→u≠v:=fun hu hv e=>hv (e▸hu)
    simp only[List.nodup_cons,xY,List.not_mem_nil,or_false,not_or,not_false_eq_true,List.nodup_nil,and_true]at hnd
    have kp1:Kp a [s1,it2,t,c',e',xx,kv2,m,k] ((ac.put (some t) (.tuple #[.bool true,z.key,z.val])).put (some c') (.bool true)):=(c6.put (by simp) _).put (by simp) _
    have it1:((ac.put (some t) (.tuple #[.bool true,z.key,z.val])).put (some c') (.bool true)).eval (.tmp it2)=.pointer (some ⟨r,0,none⟩):=by
     rw[rg (by grind),rg (by grind)];exact c7
    refine wpIn_seq (wpIn_cond_true (eY (by rw[gk,sz];exact hsz c' (by simp))) (wpIn_skip ?_))
    generalize ((ac.put (some t) (.tuple #[.bool true,z.key,z.val])).put (some c') (.bool true))=ac1 at kp1 it1 ⊢
    have sz1:ac1.tmps.size=a.tmps.size:=kp1.2.1;refine wpIn_block (wpIn_seq (rf l2 ?_));refine lR b6 (by rw[b4];simp) (Ji b4 (by rw[it1];exact run_entry_at w2 r (ρ q) cl seen en cl z hw3 hm2 hz1 st.nd)) (.inl rfl) ?_
    rw[b5];refine lR b9 (by rw[b7];simp) (qd (v:=z.key) b7 (eY (by rw[sz1];exact hsz e' (by simp))) rfl) (.inl rfl) ?_
    rw[b8];refine lR b12 (by rw[b10];simp) (GY b10) (.inl rfl) ?_
    rw[b11,eY (by rw[gk,sz1];exact hsz xx (by simp))]
    have kp2:Kp a [s1,it2,t,c',e',xx,kv2,m,k] (((ac1.put (some e') (.tuple #[z.key,z.val])).put (some xx) z.key).put (some kv2) z.key):=((kp1.put (by simp) _).put (by simp) _).put (by simp) _
    have it2':(((ac1.put (some e') (.tuple #[z.key,z.val])).put (some xx) z.key).put (some kv2) z.key).eval (.tmp it2)=.pointer (some ⟨r,0,none⟩):=by
     rw[rg (by grind),rg (by grind),rg (by grind)];exact it1
    have kv2':(((ac1.put (some e') (.tuple #[z.key,z.val])).put (some xx) z.key).put (some kv2) z.key).eval (.tmp kv2)=z.key:=eY (by rw[gk,gk,sz1];exact hsz kv2 (by simp))
    have all2:(((ac1.put (some e') (.tuple #[z.key,z.val])).put (some xx) z.key).put (some kv2) z.key).eval (.tmp all)=.map (some (ρ o)):=by rw[kp2.ev hall];exact evo
    generalize (((ac1.put (some e') (.tuple #[z.key,z.val])).put (some xx) z.key).put (some kv2) z.key)=ac2 at kp2 it2' kv2' all2 ⊢
    have sz2:ac2.tmps.size=a.tmps.size:=kp2.2.1;refine rf l3 ?_;refine lR d6 (by rw[d4];simp) (AS d4) (.inl rfl) ?_
    rw[d5,all2];refine lR d9 (by rw[d7];simp) (AS d7) (.inl rfl) ?_
    rw[d8,rg (by grind),kv2',hzk]
    refine lR d12 (by rw[d10];simp) (AT (w':=w4) d10 (by
     rw[eY (by rw[gk,sz2];exact hsz k (by simp)),rg (by grind),eY (by rw[sz2];exact hsz m (by simp))]
     exact r1)) (.inr ⟨rfl,rfl⟩) ?_
    rw[d11];refine ih (seen.push z.born) _ w4 ⟨⟨S4,kk::ks,r4,fun x hx=>by simp[c1 x hx],fun x hx=> ?_,fun y hy hys=> ?_⟩,?_,?_,?_,?_⟩ (by have:=left_shrinks en seen z hz;omega)
    ·rcases List.mem_cons.1 hx with rfl |hx
     ·exact xL _ hkk
     ·exact c2 x hx
    ·rw[contains_push,Bool.or_eq_true,beq_iff_eq]at hys
     rcases hys with hys |hys
     ·obtain⟨k',y1,y2⟩:=c3 y hy hys
      exact⟨k',by simp[y1],y2⟩
     ·have:y=z:=born_inj st.nd hy hz1 hys
      subst this
      exact⟨kk,by simp,hzk⟩
    ·rw[r3 r hro];exact hw3
    ·rw[r3 _ hqo];exact hm2
    ·exact((kp2.put (by simp) _).put (by simp) _).put (by simp) _
    ·show(((ac2.put (some m) (.map (some (ρ o)))).put (some k) (AU kk)).put none undef).eval (.tmp it2)=_
     show((ac2.put (some m) (.map (some (ρ o)))).put (some k) (AU kk)).eval (.tmp it2)=_
     rw[rg (by grind),rg (by grind)];exact it2'
 exact turns _ _ _ _ start (Nat.lt_succ_self _)
end Go.Am
namespace Go.Am
open Go Go.RowKit
section
variable{P:Program}{A:Av}{call:ak}{hint:Hint}
theorem zU{c c':Cf}(q:Eqv c c')(live:List Nat):prune live c'.1=prune live c.1:=by
 have:(live.map fun t=>(t,c'.1.get t))=live.map fun t=>(t,c.1.get t):=List.map_congr_left fun t _=>by rw[q.get]
 have hp:∀l,pick c'.1.ct l=pick c.1.ct l:=fun l=>by
  induction l with
  |nil=>rfl
  |cons x l ih=>simp only[pick,q.ct,ih]
 simp only[Go.Am.prune,this,hp,q.H]
theorem w9{n:Nat}{ops:Array Oper}(h:zl n ops=true):∀o∈ops.toList,∀d,o.dst=some d→d<n:=fun o ho d hd=>by
 have:=List.all_eq_true.1 h o ho
 rw[hd]at this
 simpa using this
theorem uf{G:Nat→Option D}(hc:cH P G call)(hG:GA G A)(hgl:∀g d,hint.gl g=some d→G g=some d){id:Nat}{ops:Array Oper}{ro:Option Nat}{Q:Exit→Act→World→Prop}{s s':St}{a:Act}{ds:List Nat}{w:World}(hs:SR A s a w)(hd:∀o∈ops.toList,∀d,o.dst=some d→d∈ds∧d<a.tmps.size)
  (e:ba P call hint ops.toList ops.toList s=some s') (hQ:∀a' w',SR A s' a' w'→Kp a ds a'→Q .normal a' w'):(Code.region id ops false).wpIn (FW ro) 0 P Q a w:=
 wpIn_region (by rw[List.range_eq_range',←yF,wpOpsIn_eq_wpListIn ops.toList 0 (by simp)];exact zS (hint:=hint) hc hG hgl ops.toList hs (.refl _ _) hd e hQ)
theorem Ei{G:Nat→Option D}(hc:cH P G call)(hG:GA G A)(hgl:∀g d,hint.gl g=some d→G g=some d){id:Nat}{ops:Array Oper}{ro:Option Nat}{Q:Exit→Act→World→Prop}{s s':St}{t:Option D}{a:Act}{ds:List Nat}{w:World}(hs:SR A s a w)(hd:∀o∈ops.toList,∀d,o.dst=some d→d∈ds∧d<a.tmps.size)
  (e:ck P call hint ops.toList ops.toList s=some (t,s')) (hQ:t=none→∀a' w',SR A s' a' w'→Kp a ds a'→Q .normal a' w') (hP:∀d,t=some d→∀x a' w',SR A s' a' w'→Kp a ds a'→(∀c,VV c d x)→Q (.panic [{v:=x,recovered:=false}]) a' w'):(Code.region id ops false).wpIn (FW ro) 0 P Q a w:=
 wpIn_region (by rw[List.range_eq_range',←yF,wpOpsIn_eq_wpListIn ops.toList 0 (by simp)];exact pV (hint:=hint) hc hG hgl ops.toList hs (.refl _ _) hd e hQ hP)
theorem Ej{ro:Option Nat}{Q:Exit→Act→World→Prop}{a:Act}{w:World}{c:Code}(h:c.wpIn (FW ro) 0 P (Exit.noGoto Q) a w):(Code.scope c).wpIn (FW ro) 0 P Q a w:=by
 intro b k cs hro hb hr;obtain⟨e,a',w',hq,harr⟩:=h b (.inScope c::k) cs hro hb hr;have hstep:step P (lone (b.atR a (.code (.scope c)::k)) cs w)=.next (lone (b.atR a (.code c:: .inScope c::k)) cs w):=step_lone_go (by simp[stepG,stepG.exec,Frame.atR])
 have hback:step P (lone (b.atR a' (.inScope c::k)) cs w')=.next (lone (b.atR a' k) cs w'):=step_lone_go (by simp[stepG,stepG.exec,Frame.atR])
 have h0:StepsIn (Machine.fenced P (FW ro)) P (lone (b.atR a (.code (.scope c)::k)) cs w) (lone (b.atR a (.code c:: .inScope c::k)) cs w):=.one (fenced_calm hb hr rfl) hstep
 cases e with
 |normal=>exact⟨.normal,a',w',hq,StepsIn.trans h0 (StepsIn.trans harr (.one (fenced_calm (fr:=b.atR a' (.inScope c::k)) hb hr rfl) hback))⟩
 |goto l=>exact hq.elim
 |exit id=>exact⟨.exit id,a',w',hq,.of_steps h0 ⟨fun k' hk=>harr.1 k' (by simp[exitTo,hk]),fun hr hk=>harr.2 hr (by simp[exitTo,hk])⟩⟩
 |ret=>exact⟨_,a',w',hq,.of_steps h0 harr⟩
 |panic ch=>exact⟨_,a',w',hq,.of_steps h0 harr⟩
 |outgrown=>exact⟨_,a',w',hq,.of_steps h0 harr⟩
theorem SR.le{s:St}{a:Act}{w:World}(hs:SR A s a w):A.le A:=by
 obtain⟨ρ,S,hd,h,_⟩:=hs;exact .refl h
theorem iq{n:Nat}{ops:Array Oper}(h:zl n ops=true):∀o∈ops.toList,∀d,o.dst=some d→d∈ops.toList.filterMap (·.dst)∧d<n:=fun o ho d hd=>⟨List.mem_filterMap.2 ⟨o,ho,hd⟩,w9 h o ho d hd⟩
theorem dt{G:Nat→Option D}(hc:cH P G call)(hgl:∀g d,hint.gl g=some d→G g=some d)(hm:P.follows .mixedOrders=true)(fuel:Nat){ro:Option Nat}(hro:hint.nest=true∨ro=none):∀(c:Code) {A:Av} {s s':St} {ex:Ex} {a:Act} {w:World} {Q:Exit→Act→World→Prop},GA G A→aB P call hint fuel c s=some (ex,s')→SR A s a w→aD a.tmps.size c=true→
  (∀A' a' w' x,A'.le A→GA G A'→SR A' s' a' w'→Kc hint.nest A A' a (jY c) a'→Ww ex x→Q x a' w')→c.wpIn (FW ro) 0 P Q a w
 | .skip,A,s,s',ex,a,w,Q,hG,e,hs,hk,hQ=>by
  simp only[aB,xJ,pJ]at e
  obtain⟨rfl,rfl⟩:=e;exact wpIn_skip (hQ A a w _ hs.le hG hs (.refl _ _) rfl)
 | .label l,A,s,s',ex,a,w,Q,hG,e,hs,hk,hQ=>by
  simp only[aB,xJ,pJ]at e
  obtain⟨rfl,rfl⟩:=e;exact wpIn_label (hQ A a w _ hs.le hG hs (.refl _ _) rfl)
 | .ret,A,s,s',ex,a,w,Q,hG,e,hs,hk,hQ=>by
  simp only[aB,xJ,pJ]at e
  obtain⟨rfl,rfl⟩:=e;exact wpIn_ret (hQ A a w _ hs.le hG hs (.refl _ _) rfl)
 | .exit id,A,s,s',ex,a,w,Q,hG,e,hs,hk,hQ=>by
  simp only[aB,xJ,pJ]at e
  obtain⟨rfl,rfl⟩:=e;exact wpIn_exit (hQ A a w _ hs.le hG hs (.refl _ _) rfl)
 | .region id ops dr,A,s,s',ex,a,w,Q,hG,e,hs,hk,hQ=>by
  simp only[aD]at hk
  simp only[aB]at e
  cases dr with
  |true=>
   simp only[if_true]at e
   split at e
   ·rename_i t ht
    simp only[xB,xM,pJ]at e
    obtain⟨bs,hb,s1,e1,rfl,rfl⟩:=e;obtain⟨rt,r1,r2⟩:=w8 t [] s1 e1;refine ub hc hG hgl hm hs (iq hk) hb r1 (RT.Ends.imp (fun c0 hc0 c2 a' w' q1 q2 q3=>hQ A a' w' _ hs.le hG ?_ (.of q3) rfl) rt r2)
    rw[←hc0,←zU q1];exact q2.prune _
   simp only[xB]at e
   obtain⟨⟨c',fs⟩,e1,e⟩:=e;simp only at e
   split at e
   ·rename_i hck
    simp only[xJ,pJ]at e
    obtain⟨rfl,rfl⟩:=e;refine Eg hc hG hgl hm hs (iq hk) e1 hck fun c2 a' w' q1 q2 q3=>hQ A a' w' _ hs.le hG ?_ (.of q3) rfl
    rw[←zU q1];exact q2.prune _
   ·cases e
  |false=>
   simp only[xH,if_false]at e
   split at e
   ·simp only[xM]at e
    obtain⟨⟨t,s1⟩,e1,e2⟩:=e;refine Ei hc hG hgl hs (iq hk) e1 (fun ht a' w' q2 q3=> ?_) (fun d ht x a' w' q2 q3 q4=> ?_)
    ·subst ht
     simp only[pJ]at e2
     obtain⟨rfl,rfl⟩:=e2;exact hQ A a' w' _ hs.le hG (q2.prune _) (.of q3) rfl
    ·subst ht
     simp only[pJ]at e2
     obtain⟨rfl,rfl⟩:=e2;exact hQ A a' w' _ hs.le hG q2 (.of q3) ⟨x,rfl,q4⟩
   ·simp only[xM,pJ]at e
    obtain⟨s1,e1,rfl,rfl⟩:=e;exact uf hc hG hgl hs (iq hk) e1 fun a' w' q2 q3=>hQ A a' w' _ hs.le hG (q2.prune _) (.of q3) rfl
 | .seq x y,A,s,s',ex,a,w,Q,hG,e,hs,hk,hQ=>by
  simp only[aB]at e
  cases hp:tG x y with
  |some p=>
   rw[hp]at e
   exact MY hp e hs hk fun a' w' x g1 g2 g3=>hQ A a' w' x hs.le hG g1 (.of g2) g3
  |none=>
  rw[hp]at e
  simp only[aD,xA]at hk
  simp only[xB]at e
  obtain⟨⟨ex1,s1⟩,e1,e2⟩:=e;refine wpIn_seq (dt hc hgl hm fuel hro x hG e1 hs hk.1 fun A1 a' w' z l1 G1 g1 g2 g3=> ?_)
  simp only at e2
  split at e2
  ·have:z=.normal:=g3
   subst this;exact dt hc hgl hm fuel hro y G1 e2 g1 (by rw[g2.size];exact hk.2) fun A2 a2 w2 z2 l2 G2 p1 p2 p3=>hQ A2 a2 w2 z2 (l2.trans l1) G2 p1 (Kc.trans l1 l2 g2 p2) p3
  ·rename_i ex0 hne
   simp only[xJ,pJ]at e2
   obtain⟨rfl,rfl⟩:=e2;have k:=g2.more (es:=jY (.seq x y)) (fun t ht=>xL _ ht)
   cases ex1 with
   |normal=>exact absurd rfl hne
   |exit id=>have:z=.exit id:=g3;subst this;exact hQ A1 a' w' _ l1 G1 g1 k rfl
   |ret=>have:z=.ret:=g3;subst this;exact hQ A1 a' w' _ l1 G1 g1 k rfl
   |pan d=>obtain⟨v,rfl,hv⟩:=g3;exact hQ A1 a' w' _ l1 G1 g1 k ⟨v,rfl,hv⟩
 | .cond c x y,A,s,s',ex,a,w,Q,hG,e,hs,hk,hQ=>by
  simp only[aD,xA]at hk
  simp only[aB]at e
  have hs0:=hs;obtain⟨ρ,S,hd,h,hv⟩:=hs0;have hcv:=SR.val hv c
  split at e
  ·rename_i t ht
   rw[ht]at hcv
   refine wpIn_cond (VV.of_bool hcv) ?_
   cases t with
   |true=>exact dt hc hgl hm fuel hro x hG e hs hk.1 fun A' a' w' z l1 G1 g1 g2 g3=>hQ A' a' w' z l1 G1 g1 (g2.more fun t ht=>xL _ ht) g3
   |false=>exact dt hc hgl hm fuel hro y hG e hs hk.2 fun A' a' w' z l1 G1 g1 g2 g3=>hQ A' a' w' z l1 G1 g1 (g2.more fun t ht=>xR _ ht) g3
  ·cases e
 | .block id c,A,s,s',ex,a,w,Q,hG,e,hs,hk,hQ=>by
  simp only[aD]at hk
  simp only[aB,xM,pJ]at e
  obtain⟨⟨ex1,s1⟩,e1,e2,rfl⟩:=e;refine wpIn_block (dt hc hgl hm fuel hro c hG e1 hs hk fun A1 a' w' z l1 G1 g1 g2 g3=> ?_)
  have:=fun x=>hQ A1 a' w' x l1 G1 g1 g2
  simp only at e2
  cases ex1 with
  |normal=>have hz:z=.normal:=g3;subst hz;subst e2;exact this _ rfl
  |ret=>have hz:z=.ret:=g3;subst hz;subst e2;exact this _ rfl
  |pan d=>obtain⟨v,rfl,hv⟩:=g3;subst e2;exact this _ ⟨v,rfl,hv⟩
  |exit id'=>
   have hz:z=.exit id':=g3;subst hz;simp only[Exit.inBlock];simp only[Ex.block]at e2
   by_cases hid:id'=id
   ·subst hid;rw[if_pos rfl]at e2 ⊢;subst e2;exact this _ rfl
   ·rw[if_neg hid]at e2 ⊢;subst e2;exact this _ rfl
 | .loop c,A,s,s',ex,a,w,Q,hG,e,hs,hk,hQ=>by
  simp only[aD]at hk
  simp only[aB]at e
  refine wpIn_loop_rounds fuel ?_
  have key:∀(n:Nat) (A1:Av) (s:St) (a1:Act) (w1:World),A1.le A→GA G A1→gi (aB P call hint fuel c) n s=some (ex,s')→SR A1 s a1 w1→Kc hint.nest A A1 a (jY c) a1→Code.roundsIn (FW ro) 0 P c Q n a1 w1:=by
   intro n
   induction n with
   |zero=>intro A1 s a1 w1 l1 G1 e;cases e
   |succ n ih=>
    intro A1 s a1 w1 l1 G1 e hs h1;simp only[gi,xB]at e
    obtain⟨⟨ex1,s1⟩,e1,e2⟩:=e;rw[roundsIn_succ];refine dt hc hgl hm fuel hro c G1 e1 hs (by rw[h1.size];exact hk) fun A2 a' w' z l2 G2 g1 g2 g3=> ?_
    have k:=(Kc.trans l1 l2 h1 g2).more (es:=jY c) (fun t ht=>(List.mem_append.1 ht).elim id id)
    simp only at e2
    split at e2
    ·have hz:z=.normal:=g3
     subst hz;exact ih A2 s1 a' w' (l2.trans l1) G2 e2 g1 k
    ·rename_i ex0 hne
     simp only[xJ,pJ]at e2
     obtain⟨rfl,rfl⟩:=e2
     cases ex1 with
     |normal=>exact absurd rfl hne
     |exit id=>have hz:z=.exit id:=g3;subst hz;exact hQ A2 a' w' _ (l2.trans l1) G2 g1 k rfl
     |ret=>have hz:z=.ret:=g3;subst hz;exact hQ A2 a' w' _ (l2.trans l1) G2 g1 k rfl
     |pan d=>obtain⟨v,rfl,hv⟩:=g3;exact hQ A2 a' w' _ (l2.trans l1) G2 g1 k ⟨v,rfl,hv⟩
  exact key fuel A s a w hs.le hG e hs (.refl _ _)
 | .scope c,A,s,s',ex,a,w,Q,hG,e,hs,hk,hQ=>by
  simp only[aD]at hk
  simp only[aB]at e
  refine Ej (dt hc hgl hm fuel hro c hG e hs hk fun A1 a' w' z l1 G1 g1 g2 g3=> ?_)
  have:=hQ A1 a' w' z l1 G1 g1 g2 g3
  cases ex with
  |pan d=>obtain⟨v,rfl,_⟩:=g3;exact this
  |normal=>have hz:z=.normal:=g3;subst hz;exact this
  |ret=>have hz:z=.ret:=g3;subst hz;exact this
  |exit id=>have hz:z=.exit id:=g3;subst hz;exact this
 | .rangeFunc f ps x y,A,s,s',ex,a,w,Q,hG,e,hs,hk,hQ=>by
  simp only[aB]at e
  rcases hro with hro |rfl
  ·unfold pL at e
   rw[if_pos hro]at e
   cases e
  ·refine GX hc hG hs hk e fun A' a' w' l1 G1 g1 g2 g3=>hQ A' a' w' _ l1 G1 g1 g2 ?_
   subst g3;rfl
 | .goto _,A,s,s',ex,a,w,Q,hG,e,hs,hk,hQ=>by simp[aB]at e
 | .refuse _,A,s,s',ex,a,w,Q,hG,e,hs,hk,hQ=>by simp[aB]at e
def MZ(tmps:Array Value):ResultVar→Sem Value
 | .tmp t=>pure (tmps.getD t undef)
 | .cell p t=>do loadVar t (←asAddr (tmps.getD p undef))
theorem xb{ρ:Nat→Nat}{S:Root→List Nat}{hd:Root→Value}{s:St}{a:Act}{w:World}(h:KR A ρ S hd [] s.wk [] w)(hv:∀t,SO (aa A s.H.length ρ S [] w) s.wk.get hd (s.get t) (a.tmps.getD t undef)):
  ∀(l:List ResultVar) (svs:List SV),ep P s l=some svs→∃vs:List Value,(l.mapM (MZ a.tmps)).run P w=.ok vs w∧All2 (fun u v=>SO (aa A s.H.length ρ S [] w) s.wk.get hd u v) svs vs
 | [],svs,e=>by
  simp only[ep,xJ]at e
  subst e
  exact⟨[],by simp,rfl⟩
 |r::l,svs,e=>by
  simp only[ep,xB,xM]at e
  obtain⟨u,e1,us,e2,rfl⟩:=e;obtain⟨vs,h1,h2⟩:=xb h hv l us e2
  have one:∃v,(MZ a.tmps r).run P w=.ok v w∧SO (aa A s.H.length ρ S [] w) s.wk.get hd u v:=by
   cases r with
   |tmp t=>
    simp only[wg,xJ]at e1
    subst e1
    exact⟨_,rfl,hv t⟩
   |cell p t=>
    obtain⟨val,q1,q2⟩:=qR h (hv p) e1
    exact⟨val,I5 q1,q2⟩
  obtain⟨v,g1,g2⟩:=one
  refine⟨v::vs,?_,v,vs,rfl,g2,h2⟩
  rw[List.mapM_cons];simp only[Sem.run_bind,g1,Result.andThen_ok,h1,Sem.run_pure]
theorem Ek{fn:Func}{a:Act}{w:World}{vs:List Value}(h:(fn.results.toList.mapM (MZ a.tmps)).run P w=.ok vs w):(results fn a.tmps).run P w=.ok (Cq vs) w:=by
 have e:results fn a.tmps=(do let vs ←fn.results.mapM (MZ a.tmps);pure (if h:vs.size=1 then vs[0]else .tuple vs)):=rfl
 rw[e,Array.mapM_eq_mapM_toList,map_eq_pure_bind];simp only[Sem.run_bind,h,Result.andThen_ok,Sem.run_pure]
 match vs with
 | []=>rfl
 | [x]=>rfl
 |x::y::r=>simp[Cq]
theorem Jj{b:Bool}{t:T}{x:D}{v:Value}(h:T.frz b t=some x)(hf:j3 t v):oq x v:=by
 cases t with
 |d y=>simp only[T.frz,xJ]at h;subst h;exact zo hf
 |own es=>simp only[T.frz,xM]at h;obtain⟨l,_,rfl⟩:=h;exact hf
 |agg cs=>simp only[T.frz,xM]at h;obtain⟨l,_,rfl⟩:=h;exact hf
 |dead=>simp[T.frz]at h
theorem RetAll.frz{c c':Cx}(hx:Ext c c'):∀(ts:List T) (vs:List Value) (M:List Nat) (xs:List D),T.frzs false ts=some xs→Pure c c' false M→RetAll c ts vs M→RetAll c' (xs.map T.d) vs []
 | [],vs,M,xs,e,_,h=>by
  simp only[T.frzs,xJ]at e
  subst e;obtain⟨rfl,rfl⟩:=h
  exact⟨rfl,rfl⟩
 |t::ts,vs,M,xs,e,hp,h=>by
  simp only[T.frzs,xB,xM]at e
  obtain⟨x,e1,ys,e2,rfl⟩:=e;obtain⟨v,r,M1,M2,rfl,rfl,h3,h4,h5⟩:=h
  exact⟨v,_,[],[],rfl,rfl,by simp only[TC];exact⟨trivial,T.frz_ok hx false t x _ M1 e1 hp.left h3⟩,Jj e1 h4,RetAll.frz hx ts r M2 ys e2 hp.right h5⟩
theorem RetAll.lend{c:Cx}(hm:∀b,c.pm false b→c.pm true b):∀(xs:List D) (vs:List Value),RetAll c (xs.map T.d) vs []→RetAll c ((D.lends xs).map T.d) vs []
 | [],vs,h=>h
 |x::xs,vs,h=>by
  obtain⟨v,r,M1,M2,rfl,hM,h3,h4,h5⟩:=h;obtain⟨rfl,rfl⟩:M1=[]∧M2=[]:=by simpa using hM.symm
  simp only[TC]at h3
  exact⟨v,r,[],[],rfl,rfl,by simp only[TC];exact⟨trivial,VC.lend hm _ _ h3.2⟩,sq h4,RetAll.lend hm xs r h5⟩
theorem RetAll.canon{c:Cx}(hm:∀b,c.pm false b→c.pm true b){sn:Bool}{xs:List D}{vs:List Value}(h:RetAll c (xs.map T.d) vs []):RetAll c ((canon sn xs).map T.d) vs []:=by
 unfold Go.Am.canon;split
 ·exact h
 ·exact RetAll.lend hm xs vs h
theorem rh{fn:Func}{s:St}{a:Act}{w:World}{ex:Ex}{own:Bool}{rs:List T}{H2:List Ob}(hs:SR A s a w)(hex:ex=.normal∨ex=.ret)(e:cJ P own fn A.n0 (ex,s)=some (rs,H2)):
  aQ rs=false∧∃v,(results fn a.tmps).run P w=.ok v w∧Over A H2 rs v w:=by
 have e':((ep P s fn.results.toList).bind fun vs=>(gP vs s.wk).bind fun(ts,k)=>(settle own ts).bind fun ts=>if aQ ts=true then none else some (ts,ik A.n0 ts k.H))=some (rs,H2):=by
  rcases hex with rfl |rfl <;>exact e
 simp only[xB]at e'
 obtain⟨svs,e1,⟨ts1,k⟩,e2,ts,e3,e4⟩:=e';simp only at e3 e4
 split at e4
 ·cases e4
 rename_i hnp;simp only[xJ,pJ]at e4
 obtain⟨rfl,rfl⟩:=e4
 refine⟨by simpa using hnp,?_⟩
 obtain⟨ρ,S,hd,h,hv⟩:=hs;obtain⟨vs,h1,h2⟩:=xb h hv _ _ e1
 refine⟨_,Ek h1,?_⟩
 have hk:KR A ρ S hd [] s.wk (svs.zip vs) w:=h.withVals (fun p hp=>by
  have:∀(svs:List SV) (vs:List Value),All2 (fun u v=>SO (aa A s.H.length ρ S [] w) s.wk.get hd u v) svs vs→∀p∈svs.zip vs,SO (aa A s.H.length ρ S [] w) s.wk.get hd p.1 p.2:=by
   intro svs
   induction svs with
   |nil=>intro vs _ p hp;simp at hp
   |cons u us ih=>
    intro vs ha p hp;obtain⟨v,r,rfl,q1,q2⟩:=ha
    rcases List.mem_cons.1 hp with rfl |hp
    ·exact q1
    ·exact ih r q2 p hp
  exact this svs vs h2 p hp)
 have hall:All2 (fun u v=>(u,v)∈svs.zip vs) svs vs:=by
  have:∀(svs:List SV) (vs:List Value) (L:List (SV×Value)),All2 (fun u v=>SO (aa A s.H.length ρ S [] w) s.wk.get hd u v) svs vs→(∀p∈svs.zip vs,p∈L)→All2 (fun u v=>(u,v)∈L) svs vs:=by
   intro svs
   induction svs with
   |nil=>intro vs L ha _;exact ha
   |cons u us ih=>
    intro vs L ha hL;obtain⟨v,r,rfl,q1,q2⟩:=ha
    exact⟨v,r,rfl,hL _ (by simp),ih r L q2 (fun p hp=>hL p (by simp[hp]))⟩
  exact this svs vs _ h2 (fun p hp=>hp)
 obtain⟨S1,M1,g1,g2,g3,g4⟩:=D7 svs vs ts1 s.wk k S [] hk hall e2;rw[List.append_nil]at g1 g2 g3
 have settled:∃M,KR A ρ S1 hd M k (svs.zip vs) w∧RetAll (aa A k.H.length ρ S1 M w) ts vs M:=by
  unfold settle at e3
  split at e3
  ·simp only[xJ]at e3
   subst e3
   exact⟨M1,g1,RetAll.fresh _ _ _ g3⟩
  ·simp only[xM]at e3
   obtain⟨xs,e3,rfl⟩:=e3;obtain⟨q1,q2⟩:=g1.letGo (fl':=[]) (by simp) (by simp)
   refine⟨[],q1,RetAll.canon (zp _ _ _ _ _ _) (RetAll.frz q2 ts1 vs M1 xs e3 (fun g hg=> ?_) g3)⟩
   have hb:=g1.blk g (.inr hg)
   refine⟨⟨fun ho=> ?_,hb.2.1 _,hb.1⟩,rfl⟩
   rcases ho with⟨r,ho⟩ |ho
   ·exact g1.dis.oneF r g ho hg
   ·simp at ho
 clear g1 g2 g3;obtain⟨M,g1,g3⟩:=settled;have hn:=g1.rho.1
 have full:∃S',KR A ρ S' hd M {ct:=[],H:=k.H} [] w∧RetAll (aa A k.H.length ρ S' M w) ts vs M:=by
  obtain⟨S',q1,q2⟩:=g1.cut (n2:=k.H.length) (Nat.le_refl _) hn (.inl rfl);rw[List.take_length]at q1
  exact⟨S',q1,RetAll.ext q2 _ _ _ (fun _ _=>rfl) g3⟩
 unfold ik;split
 ·obtain⟨S',q1,q2⟩:=full
  exact⟨ρ,S',hd,M,vs,q1,q2,rfl⟩
 ·split
  ·rename_i hl
   obtain⟨hl1,hl2⟩:=hl;obtain⟨S',q1,q2⟩:=g1.cut (n2:=A.n0) hn (Nat.le_refl _) (.inr (fun ob hob=>List.all_eq_true.1 hl2 ob hob))
   have hlen:(k.H.take A.n0).length=A.n0:=by simp;omega
   exact⟨ρ,S',hd,M,vs,q1,by rw[hlen];exact RetAll.ext q2 _ _ _ (fun _ _=>rfl) (RetAll.lo _ _ _ hl1 g3),rfl⟩
  ·obtain⟨S',q1,q2⟩:=full
   exact⟨ρ,S',hd,M,vs,q1,q2,rfl⟩
theorem GZ{s:St}{a:Act}{w:World}{d:D}{x:Value}(hs:SR A s a w)(hx:∀c,VV c d x):Over A (ik A.n0 [.d d] s.H) [.d d,.agg []] (.tuple #[x,.agg #[]]) w:=by
 obtain⟨ρ,S,hd,h,_⟩:=hs;have ret:∀c,RetAll c [.d d,.agg []] [x,.agg #[]] []:=fun c=>⟨x,[.agg #[]],[],[],rfl,rfl,by simp only[TC];exact⟨trivial,(hx c).1⟩,(hx c).2,.agg #[],[],[],[],rfl,rfl,by simp[TC,TCs,Value.cells],⟨#[],rfl⟩,rfl,rfl⟩
 have hn:A.n0≤s.H.length:=h.rho.1
 have full:∃S',KR A ρ S' hd [] {ct:=[],H:=s.H} [] w:=by
  obtain⟨S',q1,q2⟩:=h.cut (n2:=s.H.length) (Nat.le_refl _) hn (.inl rfl);rw[show List.take s.H.length s.wk.H=s.H from List.take_length]at q1
  exact⟨S',q1⟩
 unfold ik;split
 ·obtain⟨S',q1⟩:=full
  exact⟨ρ,S',hd,[],_,q1,ret _,rfl⟩
 ·split
  ·rename_i hl
   obtain⟨hl1,hl2⟩:=hl;obtain⟨S',q1,q2⟩:=h.cut (n2:=A.n0) hn (Nat.le_refl _) (.inr (fun ob hob=>List.all_eq_true.1 hl2 ob hob))
   exact⟨ρ,S',hd,[],_,q1,ret _,rfl⟩
  ·obtain⟨S',q1⟩:=full
   exact⟨ρ,S',hd,[],_,q1,ret _,rfl⟩
theorem AV{G:Nat→Option D}(hc:cH P G call)(hgl:∀g d,hint.gl g=some d→G g=some d)(hm:P.follows .mixedOrders=true)(fuel:Nat){f:FuncId}{fn:Func}{c:Code}(hf:P.funcs[f]? =some fn)(hb:fn.body=some c){args:Array Value}(hG:GA G A){s s':St}{ex:Ex}{own:Bool}{rs:List T}{H2:List Ob}
  (hs:SR A s {tmps:=args++Array.replicate (fn.ntmps - args.size) undef,defers:=[]} A.w0) (hk:aD (args++Array.replicate (fn.ntmps - args.size) undef).size c=true) (e1:aB P call hint fuel c s=some (ex,s')) (e2:cJ P own fn A.n0 (ex,s')=some (rs,H2)):
  Calls P f args A.w0 fun e w'=>∃v,Ends (aQ rs) e v∧Over A H2 rs v w':=by
 refine fG.1 (callsIn_of_wp_marks (F:=FW none) (n:=0) hf hb trivial (dt hc hgl hm fuel (.inr rfl) c hG e1 hs hk fun A' a' w' x l1 G1 g1 g2 g3=> ?_))
 obtain⟨l,hdef,hnd,hmk⟩:=g2.mks;simp only[List.append_nil]at hdef
 have now:∀b∈l,w'.heap[b]? =some (.deferred (some [])):=fun b hb=>by
  obtain⟨ρ,S,hd,h,_⟩:=g1
  exact(hmk b hb).2.now h.fr
 have up:∀w'',Shut l w' w''→SR A s' a' w'':=fun w'' sh=>SR.upW l1 g1 sh.os sh.tape sh.output sh.size (fun b=>(sh.same b).imp id fun q=>⟨(hmk b q).1,(hmk b q).2.1⟩) sh.recs
 cases ex with
 |exit id=>simp[cJ]at e2
 |normal=>
  have hz:x=.normal:=g3;subst hz;show LeavesInM _ _ _ _ _ _ _ _ _;rw[hdef,←List.append_nil (l.map mkD)];refine re (by simp) l w' hnd now fun w'' sh=> ?_
  obtain⟨q1,v,q2,q3⟩:=rh (up w'' sh) (.inl rfl) e2
  exact⟨v,q2,v,by unfold Ends;rw[q1,if_neg (by simp)],q3⟩
 |ret=>
  have hz:x=.ret:=g3;subst hz;show LeavesInM _ _ _ _ _ _ _ _ _;rw[hdef,←List.append_nil (l.map mkD)];refine re (by simp) l w' hnd now fun w'' sh=> ?_
  obtain⟨q1,v,q2,q3⟩:=rh (up w'' sh) (.inr rfl) e2
  exact⟨v,q2,v,by unfold Ends;rw[q1,if_neg (by simp)],q3⟩
 |pan d=>
  obtain⟨v,rfl,hv⟩:=g3;simp only[cJ,xJ,pJ]at e2
  obtain⟨rfl,rfl⟩:=e2;show LeavesInM _ _ _ _ _ _ _ _ _;rw[hdef,←List.append_nil (l.map mkD)];refine re (by simp) l w' hnd now fun w'' sh=> ?_
  exact⟨.tuple #[v,.agg #[]],by unfold Ends;rw[if_pos (show aQ [.d d,.agg []]=true from rfl)];exact⟨v,rfl,rfl⟩,GZ (up w'' sh) hv⟩
theorem xd(ds:List D)(vs:List Value)(t:Nat){c:Cx}{K:Root→Option T}{hd:Root→Value}(h:VVs c ds vs):∀j,SO c K hd ((look ((ds.zipIdx j).map fun p=>(p.2,SV.d p.1)) t).getD .dead) ((if j≤t then vs[t - j]? else none).getD undef):=by
 induction ds generalizing vs with
 |nil=>intro j;trivial
 |cons d ds ih=>
  intro j;simp only[VVs]at h
  obtain⟨v,r,rfl,h1,h2,h3⟩:=h;simp only[List.zipIdx_cons,List.map_cons,look]
  by_cases hj:j=t
  ·subst hj
   rw[if_pos rfl,if_pos (Nat.le_refl _),Nat.sub_self]
   exact(⟨h1,h2⟩:VV c d v)
  ·rw[if_neg hj]
   have:=ih r h3 (j+1)
   by_cases hlt:j≤t
   ·rw[if_pos (by omega)]at this
    rw[if_pos hlt,show t - j=(t - (j+1))+1 by omega,List.getElem?_cons_succ]
    exact this
   ·rw[if_neg (by omega)]at this
    rw[if_neg hlt];exact this
theorem xe{ds:List D}{H:List Ob}{args:Array Value}{S:Root→List Nat}{hd:Root→Value}{n:Nat}(h:KR A A.ρ0 S hd [] {ct:=[],H} [] A.w0)(ha:VVs (aa A H.length A.ρ0 S [] A.w0) ds args.toList):
  SR A (enter ds H) {tmps:=args++Array.replicate (n - args.size) undef,defers:=[]} A.w0:=by
 refine⟨A.ρ0,S,hd,h,fun t=> ?_⟩
 have:=xd (K:=(enter ds H).wk.get) (hd:=hd) ds args.toList t ha 0
 simp only[Nat.zero_le,if_true,Nat.sub_zero]at this
 have e2:((args++Array.replicate (n - args.size) undef).getD t undef)=(args.toList[t]?).getD undef:=by
  rw[yM]
  by_cases hlt:t<args.size
  ·rw[yB,Array.getElem?_append_left hlt]
  ·rw[yB,Array.getElem?_append_right (by omega),Array.getElem?_eq_none (xs:=args) (by omega)]
   by_cases h2:t - args.size<n - args.size
   ·rw[Array.getElem?_replicate,if_pos h2];rfl
   ·rw[Array.getElem?_replicate,if_neg h2]
 show SO _ _ _ ((look (ds.zipIdx.map fun p=>(p.2,SV.d p.1)) t).getD .dead) _
 rw[e2];exact this
theorem G0{b:Bool}{H:List Ob}{args:Array Value}{S:Root→List Nat}{hd:Root→Value}{n:Nat}{v:Value}(h:KR A A.ρ0 S hd [] {ct:=[],H} [] A.w0)(ha:args.toList=[v])(hv:∃a cap,v=.slice a 0 cap∧b=a.isNone):
  SR A (jm b H) {tmps:=args++Array.replicate (n - args.size) undef,defers:=[]} A.w0:=by
 refine⟨A.ρ0,S,hd,h,fun t=> ?_⟩
 have hs:args.size=1:=by rw[←yF,ha];rfl
 show SO _ _ _ ((look [(0,SV.ns b)] t).getD .dead) _
 by_cases ht:t=0
 ·subst ht
  have:((args++Array.replicate (n - args.size) undef).getD 0 undef)=v:=by
   rw[yB,Array.getElem?_append_left (by omega),←yM,ha];rfl
  rw[this];exact hv
 ·have:(look [(0,SV.ns b)] t).getD .dead=.dead:=by
   simp only[look];rw[if_neg fun e=>ht e.symm];rfl
  rw[this];trivial
theorem G4{A:Av}{H2:List Ob}{c:Bool}{v:Value}{w':World}(h:Over A H2 [.d (.sl false [])] v w'):Over A H2 [.d (.sl c [])] v w':=by
 obtain⟨ρ',S',hd',M,vs,h1,h2,h3⟩:=h
 refine⟨ρ',S',hd',M,vs,h1,?_,h3⟩
 simp only[RetAll]at h2 ⊢
 obtain⟨u,r,M1,M2,e1,e2,h4,h5,h6⟩:=h2
 refine⟨u,r,M1,M2,e1,e2,?_,h5,h6⟩
 simp only[TC,VC]at h4 ⊢
 obtain⟨q,a,len,cap,q1,q2,q3,_⟩:=h4
 exact⟨q,a,len,cap,q1,q2,q3,fun h=>absurd rfl h⟩
theorem xf:∀{H:List Ob},eV H=true→H=List.replicate H.length .lock
 | [],_=>rfl
 |o::H,h=>by
  simp only[eV,List.all_cons,xA]at h
  have h1:=xf (H:=H) h.2
  cases o with
  |lock=>simp only[xZ,List.replicate_succ];rw[←h1]
  |_=>cases h.1
theorem VVs.len{c:Cx}:∀(l:List D) (vs:List Value),VVs c l vs→vs.length=l.length
 | [],vs,h=>by simp only[VVs]at h;simp[h]
 |d::ds,vs,h=>by
  simp only[VVs]at h
  obtain⟨v,r,rfl,_,_,h3⟩:=h;simp[VVs.len ds r h3]
theorem xg{n m:Nat}(h:n≤m){ops:Array Oper}(hk:zl n ops=true):zl m ops=true:=by
 refine List.all_eq_true.2 fun o ho=> ?_
 have:=List.all_eq_true.1 hk o ho
 cases hd:o.dst with
 |none=>rfl
 |some d=>
  simp only[hd,yD]at this ⊢
  exact yA this h
theorem br{n m:Nat}(h:n≤m):∀(c:Code),aD n c=true→aD m c=true
 | .region _ ops _,hk=>xg h hk
 | .seq a b,hk=>by simp only[aD,xA]at hk ⊢;exact⟨br h a hk.1,br h b hk.2⟩
 | .cond _ a b,hk=>by simp only[aD,xA]at hk ⊢;exact⟨br h a hk.1,br h b hk.2⟩
 | .block _ c,hk=>br h c hk
 | .loop c,hk=>br h c hk
 | .scope c,hk=>br h c hk
 | .skip,_=>rfl
 | .rangeFunc _ ps a b,hk=>by
  simp only[aD,xA,List.all_eq_true,yD]at hk ⊢
  exact⟨⟨fun t ht=>yA (hk.1.1 t ht) h,br h a hk.1.2⟩,br h b hk.2⟩
 | .exit _,_=>rfl
 | .label _,_=>rfl
 | .goto _,_=>rfl
 | .ret,_=>rfl
 | .refuse _,_=>rfl
end
section
variable{P:Program}{A A':Av}{ρ:Nat→Nat}{S:Root→List Nat}{hd:Root→Value}{fl:List Nat}{k k':Wk}{vals:List (SV×Value)}{w:World}{G:Nat→Option D}
theorem GA.rebW(hG:GA G A)(h:KR A ρ S hd [] k vals w){w':World}(hsz:w'.heap.size=w.heap.size)(hsame:∀b,w'.heap[b]? =w.heap[b]? ∨∀t,A.F t b):GA G (A.reb S [] [] w' k.H.length ρ):=fun g d e=>by
 obtain⟨q1,q2,q3⟩:=hG.now h e;obtain⟨_,_,h3,vs,h4,h5⟩:=hG g d e;have q4:w'.heap[g]? =w.heap[g]? :=(hsame g).resolve_right fun q=>h3 true (q true)
 refine⟨by show g<w'.heap.size;rw[hsz];exact q2,q1,fun t ht=>ht.elim (h3 t) (by simp),vs,h4.same (q4.trans q3),h5⟩
theorem KR.upX(hl:A'.le A)(h:KR A' ρ S hd fl k vals w){X:List Nat}(hn:X.Nodup)(hX:∀b∈X,b<w.heap.size∧(∀t,A'.F t b)∧(∀t,¬A.F t b)∧(b<A.w0.heap.size→A.O0 b)){w':World}(ho:w'.os=w.os)(ht:w'.tape=w.tape)(hu:w'.output=w.output)(hsz:w'.heap.size=w.heap.size)(hsame:∀b,b∉X→w'.heap[b]? =w.heap[b]?)(hrec:Recs w w'):
  KR A ρ S hd (X++fl) k vals w'∧Ext (aa A' k.H.length ρ S fl w) (aa A k.H.length ρ S (X++fl) w'):=by
 have hXn:∀b∈X,¬Own S fl b:=fun b hb q=>(h.blk b q).2.1 true ((hX b hb).2.1 true)
 have ext:Ext (aa A' k.H.length ρ S fl w) (aa A k.H.length ρ S (X++fl) w'):=⟨fun t b hp=>by
  have hb:b∉X:=fun q=>hp.2.1 ((hX b q).2.1 t)
  refine⟨⟨fun q=> ?_,fun q=>hp.2.1 (hl.F t b q),by rw[hsz];exact hp.2.2⟩,hsame b hb⟩
  rcases q with q |q
  ·exact hp.1 (.inl q)
  ·exact(List.mem_append.1 q).elim hb (fun q=>hp.1 (.inr q)),Nat.le_refl _,fun _ _=>rfl⟩
 have kept:∀r,∀b∈S r,w'.heap[b]? =w.heap[b]? :=fun r b hb=>hsame b fun q=>hXn b q (.inl ⟨r,hb⟩)
 have f0:=Fr.le hl h.fr
 refine⟨⟨fun r t ht=>TC.ext ext _ _ _ (kept r) (h.cont r t ht),h.gone,h.obj,fun n ob he hp=>(h.map n ob he hp).ext ext (kept _) rfl rfl,⟨h.dis.nd,?_,h.dis.one,fun r b hb hf=> ?_⟩,fun b hb=> ?_,fun p hp=> ?_,⟨ho.trans f0.os,ht.trans f0.tape,hu.trans f0.output,by rw[hsz];exact f0.size,fun b hb hO=> ?_,f0.recs.trans hrec⟩,hl.fold,⟨Nat.le_trans hl.n0 h.rho.1,fun o ho=>(h.rho.2 o (yA ho hl.n0)).trans (hl.rho o ho)⟩⟩,ext⟩
 ·rw[xT]
  exact⟨hn,h.dis.ndF,fun a ha b hb e=>hXn a ha (.inr (e▸hb))⟩
 ·rcases List.mem_append.1 hf with q |q
  ·exact hXn b q (.inl ⟨r,hb⟩)
  ·exact h.dis.oneF r b hb q
 ·have:b∈X∨Own S fl b:=by
   rcases hb with q |q
   ·exact .inr (.inl q)
   ·exact(List.mem_append.1 q).imp id .inr
  rcases this with q |q
  ·exact⟨by rw[hsz];exact(hX b q).1,(hX b q).2.2.1,(hX b q).2.2.2⟩
  ·have:=h.blk b q
   exact⟨by rw[hsz];exact this.1,fun t q=>this.2.1 t (hl.F t b q),fun hlt=>hl.O0 b hlt (this.2.2 (yA hlt hl.fr.size))⟩
 ·exact SO.keep ext (fun r q=>h.hold (k':=k) (hd':=hd) _ rfl rfl (kept r) q) (h.vals p hp)
 ·rw[hsame b fun q=>hO ((hX b q).2.2.2 hb)]
  exact f0.kept b hb hO
theorem Jk{rs rs':List T}{H:List Ob}{vs:List Value}(ret:∀c,RetAll c rs vs [])(h:KR A ρ S hd [] {ct:=[],H:=H} [] w):Over A (ik A.n0 rs' H) rs (Cq vs) w:=by
 have hn:A.n0≤H.length:=h.rho.1;have full:∃S',KR A ρ S' hd [] {ct:=[],H:=H} [] w:=⟨S,h⟩
 unfold ik;split
 ·exact⟨ρ,S,hd,[],_,h,ret _,rfl⟩
 ·split
  ·rename_i hl
   obtain⟨hl1,hl2⟩:=hl;obtain⟨S',q1,q2⟩:=h.cut (n2:=A.n0) hn (Nat.le_refl _) (.inr (fun ob hob=>List.all_eq_true.1 hl2 ob hob))
   exact⟨ρ,S',hd,[],_,q1,ret _,rfl⟩
  ·exact⟨ρ,S,hd,[],_,h,ret _,rfl⟩
theorem SO.loosen{c:Cx}{K:Root→Option T}{u:SV}{v:Value}(h:SO c K hd u v):SO c K hd u.loose v:=by
 cases u with
 |d x=>exact h
 |bor r p o l=>cases r with
  |l n j=>exact h
  |o n=>trivial
 |loc r p i o=>cases r with
  |l n j=>exact h
  |o n=>trivial
 |_=>trivial
theorem G7{call:ak}(hc:cH P G call)(hints:FuncId→Hint)(hgl:∀f g d,(hints f).gl g=some d→G g=some d)(hm:P.follows .mixedOrders=true)(n:Nat){o:Nat}{ds:List D}{H:List Ob}{rs:List T}{H2:List Ob}(e:pO P call hints n o ds H=some (rs,H2)){args:Array Value}(hA:A.n0=H.length)(hG:GA G A)(hkr:KR A A.ρ0 S hd [] {ct:=[],H} [] A.w0)(hargs:VVs (aa A H.length A.ρ0 S [] A.w0) ds args.toList):
  CallsY P A.ρ0 (YB+o) args A.w0 fun e w'=>∃v,Ends (aQ rs) e v∧Over A H2 rs v w':=by
 unfold pO at e
 split at e
 ·rename_i g p x y env ct d hob
  simp only[xB]at e
  obtain⟨⟨e1,s1⟩,c1,e⟩:=e;simp only at e
  split at e
  ·simp only[xB]at e
   obtain⟨⟨e2,s2⟩,c2,e⟩:=e;simp only at e
   split at e
   ·split at e
    ·rename_i hlk
     simp only[xJ,pJ]at e
     obtain⟨rfl,rfl⟩:=e;obtain⟨M,hM,r,r1,r2,r3,r4,r5,r6,r7,r8⟩:=hkr.map o _ hob rfl;have hoH:o<H.length:=(List.getElem?_eq_some_iff.1 hob).1;subst r5;subst r6;simp only[VVs]at hargs
     obtain⟨v,rest,hv1,hv2,hv3,rfl⟩:=hargs;have hargs1:args= #[v]:=Array.toList_inj.1 hv1;subst hargs1;have hps:r.params= #[p]:=Array.toList_inj.1 r4
     have htm:(r.params.zip #[v]).foldl (fun tmps (t,a)=>tmps.setIfInBounds t a) r.tmps=r.tmps.setIfInBounds p v:=by
      rw[hps];simp
     have hp:p<r.tmps.size:=r8.1 p (by simp)
     have hl0:A.ρ0 o<A.w0.heap.size:=(Array.getElem?_eq_some_iff.1 r1).1;obtain⟨k1,x1⟩:=hkr.lockMap hob rfl hM;have k1':KR A A.ρ0 (upd S (.o o) []) hd ([A.ρ0 o]++(M++[])) {ct:=[],H:=H.set o .lock} [] A.w0:=by simpa using k1
     obtain⟨k2,le2,cx2⟩:=k1'.reb;have G2:=hG.reb k1'
     have ext1:Ext (aa A H.length A.ρ0 S [] A.w0) (aa (A.reb (upd S (.o o) []) (M++[]) [A.ρ0 o] A.w0 (H.set o .lock).length A.ρ0) (H.set o .lock).length A.ρ0 (upd S (.o o) []) (M++[]) A.w0):=by
      refine Ext.trans ?_ (.of cx2.symm);simp only[List.length_set];exact x1
     have fr1:=r7.imp (c':=aa (A.reb (upd S (.o o) []) (M++[]) [A.ρ0 o] A.w0 (H.set o .lock).length A.ρ0) (H.set o .lock).length A.ρ0 (upd S (.o o) []) (M++[]) A.w0) (fun _ _=>rfl) (fun _ _ _ _ _ q=>VV.ext ext1 q) (fun _ _ _ _ hM q=>TC.ext ext1 _ _ _ (fun _ _=>rfl) q)
     obtain⟨S3,hd3,k3,cx3,v3⟩:=k2.ungather fr1
     have sr1:SR (A.reb (upd S (.o o) []) (M++[]) [A.ρ0 o] A.w0 (H.set o .lock).length A.ρ0) {env:=(p,.d d)::env,ct,H:=H.set o .lock} {tmps:=r.tmps.setIfInBounds p v,defers:=[]} A.w0:=by
      refine⟨A.ρ0,S3,hd3,k3,fun t=> ?_⟩
      show SO _ _ _ ((look ((p,SV.d d)::env) t).getD .dead) ((r.tmps.setIfInBounds p v).getD t undef);simp only[look]
      by_cases ht:p=t
      ·subst ht
       rw[if_pos rfl]
       have:(r.tmps.setIfInBounds p v).getD p undef=v:=by
        rw[yB,Array.getElem?_setIfInBounds_self_of_lt hp];rfl
       rw[this];have q:VV (aa A H.length A.ρ0 S [] A.w0) d v:=⟨hv2,hv3⟩;exact VV.ext (ext1.trans (.of cx3.symm)) q
      ·rw[if_neg ht]
       have:(r.tmps.setIfInBounds p v).getD t undef=r.tmps.getD t undef:=by
        rw[yB,Array.getElem?_setIfInBounds_ne ht,yB]
       rw[this];exact v3 t
     unfold CallsY;rw[if_pos (Nat.le_add_right _ _),Nat.add_sub_cancel_left]
     refine⟨r,r1,by rw[hps];rfl,roundIn_of_wpIn trivial ?_⟩
     rw[htm];have hsz0:(r.tmps.setIfInBounds p v).size=r.tmps.size:=by simp
     refine dt (hint:={hints g with nest:=true}) hc (hgl g) hm n (ro:=some (A.ρ0 o)) (.inl rfl) r.assign G2 c1 sr1 (by rw[hsz0];exact r8.2.1) fun A2 a1 w1 z l2 G3 g1 g2 g3=> ?_
     have hz:z=.normal:=g3;subst hz;obtain⟨ρ4,S4,hd4,k4,v4⟩:=g1
     have hnO1:¬Own (upd S (.o o) []) (M++[]) (A.ρ0 o):=by
      rintro(⟨rr,hr⟩ |hr)
      ·exact k1'.dis.oneF rr _ hr (by simp)
      ·have:=k1'.dis.ndF
       rw[xT]at this
       exact this.2.2 _ (by simp) _ hr rfl
     have hl1:w1.heap[A.ρ0 o]? =some (.loop r):=((Fr.le l2 k4.fr).kept _ hl0 hnO1).trans r1;have hF2:∀t,A2.F t (A.ρ0 o):=fun t=>l2.F t _ (.inr (by simp))
     let w2:World:=w1.putObj (A.ρ0 o) (.loop {r with state:=.busy})
     have hlt1:A.ρ0 o<w1.heap.size:=(Array.getElem?_eq_some_iff.1 hl1).1;have hsz2:w2.heap.size=w1.heap.size:=by simp[w2]
     have hl2:w2.heap[A.ρ0 o]? =some (.loop {r with state:=.busy}):=World.putObj_heap_same hlt1
     have hsame2:∀b,w2.heap[b]? =w1.heap[b]? ∨∀t,A2.F t b:=fun b=>by
      by_cases hb:b=A.ρ0 o
      ·exact .inr (by rw[hb];exact hF2)
      ·exact .inl (World.putObj_heap_other hb)
     have hrec2:Recs w1 w2:=fun b rr hb=>by
      by_cases hbl:b=A.ρ0 o
      ·subst hbl
       rw[hl1]at hb
       simp only[xJ,Obj.loop.injEq]at hb
       subst hb
       exact⟨.busy,r.pending,hl2⟩
      ·exact⟨rr.state,rr.pending,(World.putObj_heap_other hbl).trans hb⟩
     have hnO4:¬Own S4 [] (A.ρ0 o):=fun q=>(k4.blk _ q).2.1 true (hF2 true)
     obtain⟨k5,x5⟩:=k4.rebW hsz2 hsame2;have G5:=G3.rebW k4 hsz2 hsame2
     refine⟨w2,run_beginRound hl1 r2,?_⟩
     have sr3:SR (A2.reb S4 [] [] w2 s1.H.length ρ4) s1 a1 w2:=⟨ρ4,S4,hd4,k5,fun t=>SO.keep x5 (fun rr q=>k4.hold (k':=s1.wk) (hd':=hd4) _ rfl rfl (fun b hb=>(hsame2 b).resolve_right fun q=>(k4.blk b (.inl ⟨rr,hb⟩)).2.1 true (q true)) q) (v4 t)⟩
     have l02:=l2.trans le2;have f1:=Fr.le l02 k4.fr;have hO0:A.O0 (A.ρ0 o):=(hkr.blk _ (.inl ⟨.o o,by rw[hM];simp⟩)).2.2 hl0
     have hnF:∀t,¬A.F t (A.ρ0 o):=(hkr.blk _ (.inl ⟨.o o,by rw[hM];simp⟩)).2.1
     have l03:(A2.reb S4 [] [] w2 s1.H.length ρ4).le A:=⟨fun t b q=>.inl (l02.F t b q),Nat.le_trans l02.n0 k4.rho.1,fun i hi=>(k4.rho.2 i (yA hi l02.n0)).trans (l02.rho i hi),fun b hb q=>l02.O0 b hb ((k4.blk b q).2.2 (yA hb l02.fr.size)),⟨f1.os,f1.tape,f1.output,by show _≤w2.heap.size;rw[hsz2];exact f1.size,fun b hb hO=>by
      have:b≠A.ρ0 o:=fun e=>hO (e▸hO0)
      exact(World.putObj_heap_other this).trans (f1.kept b hb hO),f1.recs.trans hrec2⟩,hkr.Fold⟩
     refine dt (hint:={hints g with nest:=true}) hc (hgl g) hm n (ro:=some (A.ρ0 o)) (.inl rfl) r.body G5 c2 sr3 (by rw[g2.size,hsz0];exact r8.2.2) fun A4 a2 w3 z2 l4 G6 p1 p2 p3=> ?_
     have hz2:z2=.normal:=p3;subst hz2;obtain⟨ρ6,S6,hd6,k6,v6⟩:=p1;have hl3:w3.heap[A.ρ0 o]? =some (.loop {r with state:=.busy}):=((Fr.le l4 k6.fr).kept _ (by show _<w2.heap.size;rw[hsz2];exact hlt1) hnO4).trans hl2
     have hlt3:A.ρ0 o<w3.heap.size:=(Array.getElem?_eq_some_iff.1 hl3).1
     let rr:Loop:={r with state:=.ready,pending:=none}
     let w4:World:=w3.putObj (A.ρ0 o) (.loop rr)
     have hl4:w4.heap[A.ρ0 o]? =some (.loop rr):=World.putObj_heap_same hlt3
     refine⟨.bool true,w4,run_endRound (r:={r with state:=.busy}) none hl3,.bool true,rfl,?_⟩
     have le4:=l4.trans l03;have hF4:∀t,A4.F t (A.ρ0 o):=fun t=>l4.F t _ (.inl (hF2 t))
     have hρ:ρ6 o=A.ρ0 o:=(k6.rho.2 o (yA (by rw[hA];exact hoH) le4.n0)).trans (le4.rho o (by rw[hA];exact hoH))
     let keys:=(env.map (·.1)).filter fun t=> !(p::jY r.assign++jY r.body).contains t
     let env':=keys.map fun t=>(t,(s2.get t).loose)
     let L:=fu (SV.rootss (env'.map (·.2)))
     obtain⟨S7,k7,t7⟩:=k6.forget L (ct:=pick s2.ct L) (fun x=>kI _ x)
     have hrec4:Recs w3 w4:=fun b r0 hb=>by
      by_cases hbl:b=A.ρ0 o
      ·subst hbl
       rw[hl3]at hb
       simp only[xJ,Obj.loop.injEq]at hb
       subst hb
       exact⟨.ready,none,hl4⟩
      ·exact⟨r0.state,r0.pending,(World.putObj_heap_other hbl).trans hb⟩
     obtain⟨k8,x8⟩:=k7.upX le4 (X:=[A.ρ0 o]) (w':=w4) (by simp) (fun b hb=>by
      rw[yQ]at hb
      subst hb
      exact⟨hlt3,hF4,hnF,fun _=>hO0⟩) rfl rfl rfl (by simp[w4]) (fun b hb=>World.putObj_heap_other (fun e=>hb (by simp[e]))) hrec4
     obtain⟨k9,cx9⟩:=k8.gather;obtain⟨k10,cx10⟩:=k9.perm (fl':=(A.ρ0 o::ownL S7 (pick s2.ct L))++[]) (by simp)
     have hx:Ext (aa A4 s2.H.length ρ6 S7 [] w3) (aa A s2.H.length ρ6 (soO S7) ((A.ρ0 o::ownL S7 (pick s2.ct L))++[]) w4):=x8.trans ((Ext.of cx9.symm).trans (.of cx10))
     have henv:env'.map (fun q=>(q.1,q.2.loose))=env':=by
      simp only[env',List.map_map];refine List.map_congr_left fun t _=> ?_
      simp[ud]
     have kept7:∀rt,∀b∈S7 rt,w4.heap[b]? =w3.heap[b]? :=fun rt b hb=>World.putObj_heap_other fun e=>(k7.blk b (.inl ⟨rt,hb⟩)).2.1 true (e▸hF4 true)
     have fr7:=CW k7 (env:=env') (tmps:=r.tmps) (fun t=>by
      have hlook:look env' t=if t∈keys then some ((s2.get t).loose)else none:=zL keys (fun t=>(s2.get t).loose) t
      rw[hlook]
      by_cases ht:t∈keys
      ·rw[if_pos ht]
       have hnd:t∉p::jY r.assign++jY r.body:=by
        have:=(List.mem_filter.1 ht).2
        simpa using this
       simp only[List.cons_append,xY,xD,not_or]at hnd
       have htv:r.tmps.getD t undef=a2.tmps.getD t undef:=by
        rw[yB,yB,p2.tmps t hnd.2.2,g2.tmps t hnd.2.1,Array.getElem?_setIfInBounds_ne (Ne.symm hnd.1)]
       rw[htv];refine t7 _ _ (fun q hq=> ?_) (SO.loosen (v6 t))
       rw[fC];refine kH (u:=(s2.get t).loose) ?_ hq;simp only[env',List.map_map,List.mem_map]
       exact⟨t,ht,rfl⟩
      ·rw[if_neg ht]
       trivial) hx kept7
     rw[henv]at fr7
     have k10':KR A ρ6 (soO S7) hd6 ((ρ6 o::ownL S7 (pick s2.ct L))++[]) {ct:=[],H:=s2.H} [] w4:=by rw[hρ];exact k10
     obtain⟨k11,_⟩:=k10'.unlockMap (ob:=.frame g [p] r.assign r.body env' (pick s2.ct L)) rfl hlk ⟨rr,by rw[hρ];exact hl4,rfl,rfl,r4,rfl,rfl,by rw[hρ];exact fr7,r8⟩
     rw[←hA];exact Jk (rs:=[.d (.bool true)]) (vs:=[.bool true]) (fun c=>⟨.bool true,[],[],[],rfl,rfl,by simp[TC,VC,Value.cells],rfl,rfl,rfl⟩) k11
    ·cases e
   ·cases e
  ·cases e
 ·cases e
end
section
variable{P:Program}{A A':Av}{ρ:Nat→Nat}{S:Root→List Nat}{hd:Root→Value}{fl:List Nat}{k k':Wk}{vals:List (SV×Value)}{w:World}{G:Nat→Option D}
theorem CY{hint:Hint}{dst:Nat}{ty:TypeId}{op:Op}{σ:Operand→SV}{r:SV×Wk}(e:am P kz hint dst ty op σ k=some r):opE P hint dst ty op σ k=some r∨∃f args ats g first cap ds nm y,op=.call {callee:=.value f,args:=args,argTypes:=ats}∧σ f=.d (.fn (.func g) first cap)∧ii P g=some nm∧SV.pures (args.toList.map σ)=some ds∧AB nm (first++ds++cap)=some y∧r=(.d y,k):=by
 have h0:∀(f:FuncId) (ds:List D) (b:Lend) (k1:Wk),cF kz hint dst f ds b k1=none:=fun f ds b k1=>by
  have h1:∀(ds:List D) (b:Lend),aU kz hint dst f ds b k1=none:=fun ds b=>by
   unfold aU;split
   ·rfl
   ·split <;>rfl
  unfold cF;split
  ·cases(uE (roD k1.H 4) ds)with
   |none=>rfl
   |some l=>exact h1 _ _
  ·split
   ·exact h1 _ _
   ·exact h1 _ _
 unfold am at e
 split at e
 ·split at e
  ·rename_i hf
   split at e
   ·cases e
   split at e
   ·rename_i nm hnm
    simp only[xB,xM]at e
    obtain⟨ds,e1,y,e2,rfl⟩:=e;exact .inr ⟨_,_,_,_,_,_,ds,nm,y,rfl,hf,hnm,e1,e2,rfl⟩
   ·simp only[xB]at e
    obtain⟨⟨ds,k1,b⟩,_,r1,e2,_⟩:=e;rw[h0]at e2;cases e2
  ·simp only[xB]at e
   obtain⟨⟨ds,k1,b⟩,_,r1,e2,_⟩:=e;rw[h0]at e2;cases e2
  ·cases e
 ·exact .inl e
theorem RX(hG:GA G A){hint:Hint}(hgl:∀g d,hint.gl g=some d→G g=some d){ops:Array Oper}{o:Oper}{s s':St}{a a0:Act}{ds:List Nat}(hs:SR A s a w)(hkp:Kp a0 ds a)(hd:∀d,o.dst=some d→d∈ds∧d<a0.tmps.size)(e:ij P kz hint ops.toList o s=some s'):
  ∃v w',SR A s' (a.put o.dst v) w'∧Kp a0 ds (a.put o.dst v)∧((Region.wanted o (yielded ops a.tmps)=true∧((execOp a.eval o).run P w=.ok (.value v) w'∨(v=undef∧(execOp a.eval o).run P w=.ok .skip w')))∨(Region.wanted o (yielded ops a.tmps)=false∧v=undef∧w'=w)):=by
 simp only[ij,xB]at e
 obtain⟨b,e1,e⟩:=e;rw[wR hs e1];obtain⟨ρ,S,hd0,h,hv⟩:=hs
 have hk:KR A ρ S hd0 [] s.wk (dY s a o.op.operands.toList) w:=h.withVals (fun p hp=>by
  simp only[dY,xD,List.mem_map]at hp
  rcases hp with⟨q,_,rfl⟩ |⟨x,_,rfl⟩
  ·exact hv q.1
  ·exact SR.val hv x)
 have henv:∀t∈s.env.map (·.1),(s.get t,a.tmps.getD t undef)∈dY s a o.op.operands.toList:=fun t ht=>by
  simp only[List.mem_map]at ht
  obtain⟨q,hq,rfl⟩:=ht;simp only[dY,xD,List.mem_map];exact .inl ⟨q,hq,rfl⟩
 have hlt:∀d,o.dst=some d→d<a.tmps.size:=fun d q=>by rw[hkp.2.1];exact(hd d q).2
 have hin:∀d,o.dst=some d→d∈ds:=fun d q=>(hd d q).1
 cases b
 ·simp only[xH,if_false,xJ]at e ⊢
  subst e
  exact⟨undef,w,SR.fin (vals:=dY s a o.op.operands.toList) hk ⟨#[],rfl,rfl⟩ henv hlt,hkp.put hin _,.inr ⟨trivial,rfl,rfl⟩⟩
 ·simp only[if_true,xM]at e ⊢
  obtain⟨⟨sv,k'⟩,e2,rfl⟩:=e
  have hvv:∀x∈o.op.operands,(s.val x,a.eval x)∈dY s a o.op.operands.toList:=fun x hx=>by
   simp only[dY,xD,List.mem_map];exact .inr ⟨x,by simpa using hx,rfl⟩
  rcases CY e2 with e2 |⟨f,args,ats,g,first,cap,ds',nm,y,hop,hf,hnm,q1,q2,hr⟩
  case inr=>
   simp only[pJ]at hr
   obtain⟨rfl,rfl⟩:=hr;obtain⟨v,h1,h2⟩:=zK hk rfl hop hvv hf hnm q1 q2
   exact⟨v,w,SR.fin hk h2 henv hlt,hkp.put hin _,.inl ⟨trivial,.inl h1⟩⟩
  obtain⟨nx,v,w',ρ',S',hd',h1,h2,h3,h4⟩:=IW hG hk rfl hgl (ev:=a.eval) (fun _=>rfl) hvv e2
  rcases h2 with rfl |⟨rfl,rfl⟩
  ·exact⟨v,w',SR.fin h3 h4 henv hlt,hkp.put hin _,.inl ⟨trivial,.inl h1⟩⟩
  ·exact⟨undef,w',SR.fin h3 h4 henv hlt,hkp.put hin _,.inl ⟨trivial,.inr ⟨rfl,h1⟩⟩⟩
theorem xh(hG:GA G A){hint:Hint}(hgl:∀g d,hint.gl g=some d→G g=some d){ops:Array Oper}{a0:Act}{ds:List Nat}{cs:List Frame}{Q:Exit→Act→List Frame→World→Prop}:∀(l:List Oper) (i:Nat) {s s':St} {a:Act} {w:World},(∀j,j<l.length→ops[i+j]? =l[j]?)→SR A s a w→Kp a0 ds a→(∀o∈l,∀d,o.dst=some d→d∈ds∧d<a0.tmps.size)→ba P kz hint ops.toList l s=some s'→
  (∀a' w',SR A s' a' w'→Kp a0 ds a'→Q .normal a' cs w')→wpOpsSIn (FW none) 0 P ops Q (List.range' i l.length) a cs w
 | [],i,s,s',a,w,hl,hs,hkp,hd,e,hQ=>by
  simp only[ba,xJ]at e
  subst e;exact hQ a w hs hkp
 |o::l,i,s,s',a,w,hl,hs,hkp,hd,e,hQ=>by
  simp only[ba,xB]at e
  obtain⟨s1,e1,e2⟩:=e;obtain⟨v,w',g1,g2,g3⟩:=RX hG hgl hs hkp (hd o (by simp)) e1
  have ho:ops[i]? =some o:=by have:=hl 0 (by simp);simpa using this
  have rest:=xh hG hgl (cs:=cs) (Q:=Q) l (i+1) (fun j hj=>by have:=hl (j+1) (by simp;omega);rw[show i+1+j=i+(j+1)by omega];simpa using this) g1 g2 (fun o' ho'=>hd o' (by simp[ho'])) e2 hQ
  rw[xZ,List.range'_succ];simp only[wpOpsSIn,ho]
  refine⟨fun _ _=>trivial,?_⟩
  rcases g3 with⟨hw,h1 |⟨rfl,h1⟩⟩ |⟨hw,rfl,rfl⟩
  ·rw[if_pos hw,h1];exact rest
  ·rw[if_pos hw,h1];exact rest
  ·rw[if_neg (by simp[hw])];exact rest
def CD(P:Program)(u u':FrameMode):CallT:=fun _ f args w R=>CallsDIn (FW none) 0 P f args u w fun e m w'=>m=u'∧R e w'
theorem Na{u u':FrameMode}:CallT.mono (CD P u u'):=fun _ _ _ _ _ _ h hr=>h.mono fun _ _ _ q=>⟨q.1,hr _ _ q.2⟩
structure RecIs(u u':FrameMode)(r:D):Prop where
 run:u≠ .run
 settle:Go.settle u'=.returning
 rcv:∀(c₀:Frame) (cs:List Frame),c₀.mode=u→∃v,(∀c,VV c r v)∧((recoverD (c₀::cs)=none∧u'=u∧v=.nilIface)∨recoverD (c₀::cs)=some (v,{c₀ with mode:=u'}::cs))
theorem zV:RecIs .returning .returning .nili:=
 ⟨by simp,rfl,fun c₀ cs hu=>⟨.nilIface,fun c=>⟨rfl,rfl⟩,.inl ⟨by simp[recoverD,hu],rfl,rfl⟩⟩⟩
theorem G8{d:D}{x:Value}(hx:∀c,VV c d x):RecIs (.panicking [{v:=x,recovered:=false}]) (.panicking [{v:=x,recovered:=true}]) d:=
 ⟨by simp,rfl,fun c₀ cs hu=>⟨x,hx,.inr (by simp[recoverD,hu])⟩⟩
theorem SR.put{s:St}{a:Act}(hs:SR A s a w){t:Nat}{d:D}{v:Value}(ht:t<a.tmps.size)(hv:∀c,VV c d v):SR A {s with env:=(t,.d d)::s.env} (a.put (some t) v) w:=by
 obtain⟨ρ,S,hd,h,hv0⟩:=hs
 refine⟨ρ,S,hd,h,fun t'=> ?_⟩
 show SO _ _ _ ((look ((t,SV.d d)::s.env) t').getD .dead) ((a.tmps.setIfInBounds t v).getD t' undef);simp only[look]
 by_cases e:t=t'
 ·subst e
  rw[if_pos rfl]
  have:(a.tmps.setIfInBounds t v).getD t undef=v:=by
   rw[yB,Array.getElem?_setIfInBounds_self_of_lt ht];rfl
  rw[this];exact hv _
 ·rw[if_neg e]
  have:(a.tmps.setIfInBounds t v).getD t' undef=a.tmps.getD t' undef:=by
   rw[yB,Array.getElem?_setIfInBounds_ne e,yB]
  rw[this];exact hv0 t'
theorem El{call:ak}{hints:FuncId→Hint}{n:Nat}{r:D}{g:FuncId}{ds:List D}{H:List Ob}{x:List T×List Ob}(e:fy P call hints n r g ds H=some x):∃fn,P.funcs[g]? =some fn∧fn.body.isSome=true∧(fn.name== "runtime.NumGoroutine")=false:=by
 simp only[fy,xB]at e
 obtain⟨fn,hf,c,hb,e⟩:=e
 refine⟨fn,hf,by rw[hb];rfl,?_⟩
 split at e
 ·split at e
  ·split at e
   ·split at e
    ·rename_i hh;exact hh.2.2
    ·cases e
   ·cases e
  ·cases e
 ·cases e
theorem G9{call:ak}(hc:cH P G call){hints:FuncId→Hint}(hgl:∀f g d,(hints f).gl g=some d→G g=some d)(hm:P.follows .mixedOrders=true)(n:Nat){u u':FrameMode}{r:D}(hr:RecIs u u' r):uQ (CD P u u') G (fy P call hints n r):=by
 intro g ds H rs H2 e A S hd args hA hG hkr hargs;simp only[fy,xB]at e
 obtain⟨fn,hf,c,hb,e⟩:=e
 split at e
 ·rename_i id ops rest
  split at e
  ·rename_i o l hops
   split at e
   ·rename_i args' ats t hop hdst hgu
    split at e
    ·rename_i hh
     obtain⟨hl,hk,_⟩:=hh;simp only[aD,xA]at hk
     simp only[xB]at e
     obtain⟨s1,e1,⟨ex,s2⟩,e2,e3⟩:=e
     have e4:(ex=.normal∨ex=.ret)∧cJ P (hints g).own fn A.n0 (ex,s2)=some (rs,H2):=by
      rw[hA];simp only at e3
      split at e3
      ·exact⟨.inl rfl,e3⟩
      ·exact⟨.inr rfl,e3⟩
      ·cases e3
     clear e3;obtain⟨hex,e4⟩:=e4;refine callsDIn_of_wpSIn hf hb trivial fun c₀ cs hu=> ?_
     obtain⟨rv,hrv,hrec⟩:=hr.rcv c₀ cs hu;have hs0:=xe (n:=fn.ntmps) hkr hargs;have hsz:fn.ntmps≤(args++Array.replicate (fn.ntmps - args.size) undef).size:=by simp;omega
     have hokk:=xg hsz hk.1;have htl:=w9 hokk o (by rw[hops];simp) t hdst
     have hs1:=SR.put hs0 (a:={tmps:=args++Array.replicate (fn.ntmps - args.size) undef,defers:=[]}) htl hrv
     have hcs':∃cs',cs'={c₀ with mode:=u'}::cs∧∀(Q:Exit→Act→List Frame→World→Prop) (a:Act) (w:World),
       wpOpsSIn (FW none) 0 P ops Q (List.range' 1 l.length) (a.put o.dst rv) cs' w→wpOpsSIn (FW none) 0 P ops Q (List.range ops.size) a (c₀::cs) w:=by
      refine⟨_,rfl,fun Q a w h=> ?_⟩
      have hsize:ops.size=l.length+1:=by rw[←yF,hops];rfl
      rw[List.range_eq_range',hsize,List.range'_succ];have ho:ops[0]? =some o:=by rw[←yM,hops];rfl
      simp only[wpOpsSIn,ho]
      refine⟨fun _ _=>trivial,?_⟩
      rw[if_pos (by simp[Region.wanted,hgu])]
      have hrun:(execOp a.eval o).run P w=.ok .recover w:=by
       obtain⟨odst,op,oty,pos,after,guard⟩:=o;simp only at hop;subst hop;simp[execOp,resolve,invoke,builtin,Sem.run_bind,Sem.run_pure,Result.andThen]
      rw[hrun]
      simp only
      rcases hrec with⟨h1,h2,h3⟩ |h1
      ·rw[h1]
       simp only
       subst h3
       have:c₀={c₀ with mode:=u'}:=by rw[h2,←hu]
       rw[this];exact h
      ·rw[h1]
       exact h
     obtain⟨cs',hcs,key⟩:=hcs';refine wpSIn_seq (wpSIn_region (key _ _ _ ?_));have hdin:∀o'∈ops.toList,∀d,o'.dst=some d→d∈ops.toList.filterMap (·.dst)∧d<(args++Array.replicate (fn.ntmps - args.size) undef).size:=iq hokk
     rw[hdst];refine xh (a0:={tmps:=args++Array.replicate (fn.ntmps - args.size) undef,defers:=[]}) (ds:=ops.toList.filterMap (·.dst)) hG (hgl g) l 1 (fun j hj=> ?_) hs1 ((Kp.refl _ _).put (dst:=some t) (fun d hd=>(hdin o (by rw[hops];simp) d (by rw[hdst];exact hd)).1) _) (fun o' ho'=>hdin o' (by rw[hops];simp[ho'])) e1 fun a1 w1 q1 q2=> ?_
     ·rw[←yM,hops,show 1+j=j+1 by omega,List.getElem?_cons_succ]
     ·refine wpSIn_of_wpIn rfl (dt (hint:={hints g with nest:=true}) hc (hgl g) hm n (ro:=none) (.inl rfl) rest hG e2 (q1.prune _) (by rw[q2.2.1];exact br hsz rest hk.2) fun A' a' w' x l1 G1 g1 g2 g3=> ?_)
      have hdef:a'.defers=[]:=(g2.nst rfl).trans q2.1;obtain⟨p1,v,p2,p3⟩:=rh (g1.up l1) hex e4
      have hx:x=.normal∨x=.ret:=by
       rcases hex with rfl |rfl
       ·exact .inl g3
       ·exact .inr g3
      have fin:a'.defers=[]∧∃m,cs'={c₀ with mode:=m}::cs∧∃v,(results fn a'.tmps).run P w'=.ok v w'∧(m=u'∧∃v1,Ends (aQ rs) (.returned v) v1∧Over A H2 rs v1 w'):=
       ⟨hdef,u',hcs,v,p2,rfl,v,by unfold Ends;rw[p1,if_neg (by simp)],p3⟩
      rcases hx with rfl |rfl
      ·exact fin
      ·exact fin
    ·cases e
   ·cases e
  ·cases e
 ·cases e
theorem VV.pin{c c':Cx}(hn:c.nO≤c'.nO)(hr:∀o,o<c.nO→c'.ρ o=c.ρ o){d:D}{v:Value}(hp:d.pin=true)(h:VV c d v):VV c' d v:=by
 have other:d.flat=true→VV c' d v:=fun hf=>VV.flat hf h
 cases d with
 |ptr o=>
  refine⟨?_,h.2⟩
  have:=h.1
  simp only[VC]at this ⊢
  refine⟨yA this.1 hn,?_⟩
  rw[hr o this.1];exact this.2
 |_=>exact other hp
theorem VVs.pin{c c':Cx}(hn:c.nO≤c'.nO)(hr:∀o,o<c.nO→c'.ρ o=c.ρ o):∀(l:List D) (vs:List Value),l.all D.pin=true→VVs c l vs→VVs c' l vs
 | [],_,_,h=>by simpa [VVs]using h
 |d::l,vs,hp,h=>by
  simp only[List.all_cons,xA]at hp
  simp only[VVs]at h ⊢
  obtain⟨v,r,h1,h2,h3,h4⟩:=h;have q:=VV.pin hn hr hp.1 (⟨h2,h3⟩:VV c d v)
  exact⟨v,r,h1,q.1,q.2,VVs.pin hn hr l r hp.2 h4⟩
theorem ug{call:ak}{hint:Hint}(hc:cH P G call)(hG:GA G A)(hgl:∀g d,hint.gl g=some d→G g=some d){ops:Array Oper}{ro:Option Nat}{Q:Exit→Act→World→Prop}{a0:Act}{ds:List Nat}{rest:List Oper}:∀(l:List Oper) {s s':St} {a:Act} {w:World},SR A s a w→Kp a0 ds a→(∀o∈l,∀d,o.dst=some d→d∈ds∧d<a0.tmps.size)→ba P call hint ops.toList l s=some s'→
  (∀a' w',SR A s' a' w'→Kp a0 ds a'→wpListIn (FW ro) 0 P ops Q rest a' w')→wpListIn (FW ro) 0 P ops Q (l++rest) a w
 | [],s,s',a,w,hs,hkp,hd,e,hQ=>by
  simp only[ba,xJ]at e
  subst e;exact hQ a w hs hkp
 |o::l,s,s',a,w,hs,hkp,hd,e,hQ=>by
  simp only[ba,xB]at e
  obtain⟨s1,e1,e2⟩:=e;rw[List.cons_append];refine wpListIn_step fun K hK=>wT hc hG hgl hs hkp (hd o (by simp)) e1 fun a' w' g1 g2=>hK _ _ ?_
  exact ug hc hG hgl l g1 g2 (fun o' ho=>hd o' (by simp[ho])) e2 hQ
theorem SR.reb{s:St}{a:Act}(hG:GA G A)(hs:SR A s a w):∃(A1:Av) (ρ:Nat→Nat) (S:Root→List Nat) (hd:Root→Value),A1=A.reb S [] [] w s.H.length ρ∧KR A ρ S hd [] s.wk [] w∧A1.le A∧GA G A1∧SR A1 s a w∧∀t,SO (aa A s.H.length ρ S [] w) s.wk.get hd (s.get t) (a.tmps.getD t undef):=by
 obtain⟨ρ,S,hd,h,hv⟩:=hs;obtain⟨k1,le1,cx1⟩:=KR.reb (X:=[]) (fl:=[]) (by simpa using h)
 have G1:=GA.reb (X:=[]) (fl:=[]) hG (by simpa using h)
 refine⟨_,ρ,S,hd,rfl,h,le1,G1,⟨ρ,S,hd,k1,fun t=> ?_⟩,hv⟩
 have cx1':aa (A.reb S [] [] w s.H.length ρ) s.H.length ρ S [] w=aa A s.H.length ρ S [] w:=cx1;rw[cx1'];exact hv t
theorem Nb{call:ak}(hc:cH P G call){hints:FuncId→Hint}(hgl:∀f g d,(hints f).gl g=some d→G g=some d)(hm:P.follows .mixedOrders=true)(n:Nat){f:FuncId}{fn:Func}{c:Code}{nt:Nat}(hf:P.funcs[f]? =some fn)(hb:fn.body=some c){args:Array Value}(hG:GA G A){s s':St}{ex:Ex}{own:Bool}{rs:List T}{H2:List Ob}
  (hs:SR A s {tmps:=args++Array.replicate (fn.ntmps - args.size) undef,defers:=[]} A.w0) (hk:aD (args++Array.replicate (fn.ntmps - args.size) undef).size c=true) (e1:yU P call hints n f c nt s=some (ex,s')) (e2:cJ P own fn A.n0 (ex,s')=some (rs,H2)):
  Calls P f args A.w0 fun e w'=>∃v,Ends (aQ rs) e v∧Over A H2 rs v w':=by
 refine fG.1 (callsIn_of_wp_marks (F:=FW none) (n:=0) hf hb trivial ?_);unfold yU at e1
 split at e1
 ·rename_i i0 o0 i1 o1 rest
  simp only[aD,xA]at hk
  obtain⟨hk0,hk1,hk2⟩:=hk;simp only[xB]at e1
  obtain⟨s1,e11,e1⟩:=e1
  split at e1
  ·rename_i o hlast
   split at e1
   ·rename_i x args' ats hop hdst hgu
    simp only[xB]at e1
    obtain⟨s2,e12,e1⟩:=e1
    split at e1
    ·rename_i g cap hx
     split at e1
     ·rename_i hpin
      obtain⟨hargs0,hpin⟩:=hpin
      obtain rfl:args'= #[]:=Array.size_eq_zero_iff.1 hargs0
      simp only[xB,xM,pJ]at e1
      obtain⟨⟨ex3,s3⟩,e13,r,hr,⟨sv,k'⟩,⟨⟨sv0,k0⟩,e14,e15⟩,rfl,rfl⟩:=e1
      have hnp:sv0=sv∧k0=k'∧sv0.isPan=false:=by
       unfold eH at e15
       split at e15
       ·cases e15
       ·rename_i hp
        simp only[xJ,pJ]at e15
        exact⟨e15.1,e15.2,by simpa using hp⟩
      obtain⟨rfl,rfl,hnp⟩:=hnp;refine wpIn_seq (uf hc hG (hgl f) hs (iq hk0) e11 fun a1 w1 g1 g2=> ?_)
      refine wpIn_seq (wpIn_region ?_);rw[List.range_eq_range',←yF,wpOpsIn_eq_wpListIn o1.toList 0 (by simp)]
      have hsplit:o1.toList.dropLast++[o]=o1.toList:=by
       obtain⟨ys,hys⟩:=List.getLast?_eq_some_iff.1 hlast;rw[hys,List.dropLast_concat]
      have hdin:=iq (n:=a1.tmps.size) (ops:=o1) (by rw[g2.2.1];exact hk1)
      rw[←hsplit];refine ug (a0:=a1) (ds:=o1.toList.filterMap (·.dst)) hc hG (hgl f) _ (g1.prune _) (.refl _ _) (fun o' ho'=>hdin o' (List.dropLast_subset _ ho')) e12 fun a2 w2 q1 q2=> ?_
      refine wpListIn_plain hgu fun K hK=>⟨fun _ _=>trivial,?_⟩
      obtain⟨A1,ρ2,S2,hd2,hA1,k2,le1,G1,sr2,v2⟩:=SR.reb hG q1;have hfv:=SR.val v2 x;rw[hx]at hfv
      have hfv':=VV.inv (c:=aa A s2.H.length ρ2 S2 [] w2) hfv (by simp)
      simp only[VC,xC,and_true]at hfv'
      obtain⟨av,bv,hev,ha,hbv⟩:=hfv'
      have hav:av= #[]:=by
       simp only[VVs]at ha
       exact Array.toList_eq_nil_iff.1 ha
      subst hav
      have hrun:(o.semAt (FW none).round a2.eval).run P w2=.ok (.defer {target:=.fn (.func g) bv,args:= #[]}) w2:=by
       rw[show(FW none).round=none from rfl,Oper.semAt_none]
       obtain⟨odst,op,oty,pos,after,guard⟩:=o;simp only at hop;subst hop;have hev':a2.eval x=.func (.func g) #[] bv:=hev;simp[execOp,resolve,hev',Deferred.ofValue,Sem.run_bind,Sem.run_pure,Result.andThen]
      rw[hrun,Oper.uponIn_defer,hdst];refine hK _ _ (wpListIn_nil ?_);have hd2':a2.defers=[]:=q2.1.trans g2.1;have sr2':SR A1 (prune ((hints f).live i1) s2) ({a2 with defers:={target:=.fn (.func g) bv,args:= #[]}::a2.defers}:Act) w2:=sr2.prune _
      refine dt (hint:=hints f) hc (hgl f) hm n (ro:=none) (.inr rfl) rest G1 e13 sr2' (by show aD a2.tmps.size rest=true;rw[q2.2.1,g2.2.1];exact hk2) fun A' a' w' z l1 G2 p1 p2 p3=> ?_
      obtain⟨l,hdef,hnd,hmk⟩:=p2.mks
      have hdef':a'.defers=l.map mkD++[{target:=.fn (.func g) bv,args:= #[]}]:=by
       rw[hdef];show _++(_::a2.defers)=_;rw[hd2']
      obtain⟨ρ3,S3,hd3,k3,v3⟩:=p1;have now:∀b∈l,w'.heap[b]? =some (.deferred (some [])):=fun b hb=>(hmk b hb).2.now k3.fr
      have le':=l1.trans le1
      have fin:∀{u u':FrameMode},RecIs u u' r→LeavesInM (FW none) 0 P fn a'.tmps (fun e w'=>∃v,Ends (aQ rs) e v∧Over A H2 rs v w') a'.defers u w':=fun{u u'} hrec=>by
       rw[hdef'];refine re hrec.run l w' hnd now fun w'' sh=>⟨hrec.run,.inr ⟨fun hh=>by simp[FW,Fence.wide]at hh,.func g,bv,g, #[]++bv,rfl,?_,fun _ _=>trivial,?_⟩⟩
       ·obtain⟨dds,HH,rr,hrr⟩:∃ds H r',fy P call hints n r g ds H=some r':=by
         unfold aU at e14
         split at e14
         ·rename_i hc0
          simp at hc0
         ·simp only[List.contains_nil,xH,if_false,xB]at e14
          obtain⟨rr,q,_⟩:=e14
          exact⟨_,_,rr,q⟩
        obtain⟨fn',f1,f2,f3⟩:=El hrr;simp only[invoke];exact dC f1 f2 f3
       ·have hsm:∀b,w''.heap[b]? =w'.heap[b]? ∨(A.w0.heap.size≤b∧∀t,A'.F t b):=fun b=>(sh.same b).imp id fun q=>⟨Nat.le_trans (by rw[hA1];exact k2.fr.size) (hmk b q).1,(hmk b q).2.1⟩
        obtain⟨k4,x4⟩:=k3.upW le' sh.os sh.tape sh.output sh.size hsm sh.recs;have kept:∀rt,∀b∈S3 rt,w''.heap[b]? =w'.heap[b]? :=fun rt b hb=>(hsm b).resolve_right fun q=>(k3.blk b (.inl ⟨rt,hb⟩)).2.1 true (q.2 true)
        have v4:∀t,SO (aa A s3.H.length ρ3 S3 [] w'') s3.wk.get hd3 (s3.get t) (a'.tmps.getD t undef):=fun t=>SO.keep x4 (fun rt q=>k3.hold (k':=s3.wk) (hd':=hd3) _ rfl rfl (kept rt) q) (v3 t)
        have k5:KR A ρ3 S3 hd3 [] s3.wk (dY s3 a' []) w'':=k4.withVals (fun p hp=>by
         simp only[dY,List.map_nil,List.append_nil,List.mem_map]at hp
         obtain⟨q,_,rfl⟩:=hp
         exact v4 q.1)
        have hn0:A1.n0=s2.H.length:=by rw[hA1];rfl
        have hr0:A1.ρ0=ρ2:=by rw[hA1];rfl
        have hcapv:VVs (aa A s3.H.length ρ3 S3 [] w'') cap bv.toList:=VVs.pin (c:=aa A s2.H.length ρ2 S2 [] w2) (by
         show s2.H.length≤s3.H.length;rw[←hn0]
         exact Nat.le_trans l1.n0 k3.rho.1) (fun o ho=>by
         have ho':o<A1.n0:=by rw[hn0];exact ho
         show ρ3 o=ρ2 o;rw[←hr0]
         exact(k3.rho.2 o (yA ho' l1.n0)).trans (l1.rho o ho')) _ _ hpin hbv
        have hargs:VVs (cxS ({}:Lend).sn ({}:Lend).lk A s3.H.length ρ3 S3 [] w'') (canon false cap) (#[]++bv).toList:=by
         rw[Array.empty_append];exact VVs.canon (AJ _ _ _) (VVs.ext (kE _ _ _) _ _ hcapv)
        have hcall:=n9 (C:=CD P u u') Na hG (G9 hc hgl hm n hrec) k5 hargs e14;refine CallsDIn.mono hcall fun en m w3 he=> ?_
        obtain⟨rfl,v,hen,ρ6,S6,hd6,r1,r2⟩:=he;rw[hnp]at hen
        unfold Ends at hen;rw[if_neg (by simp)]at hen
        subst hen;show LeavesInM _ _ _ _ _ _ [] (Go.settle m) w3;rw[hrec.settle]
        have srf:SR A (s3.fin none .dead k0) (a'.put none undef) w3:=SR.fin (d:=none) (v:=undef) r1 trivial (fun t ht=>by
         simp only[dY,List.map_nil,List.append_nil,List.mem_map]at ht ⊢
         obtain⟨q,hq,rfl⟩:=ht
         exact⟨q,hq,rfl⟩) (fun t ht=>by cases ht)
        obtain⟨q1,v,q2,q3⟩:=rh srf (.inr rfl) e2
        exact⟨v,q2,v,by unfold Ends;rw[q1,if_neg (by simp)],q3⟩
      cases ex3 with
      |exit id=>cases hr
      |normal=>
       have hz:z=.normal:=p3;subst hz;simp only[Gp,xJ]at hr
       subst hr;exact fin zV
      |ret=>
       have hz:z=.ret:=p3;subst hz;simp only[Gp,xJ]at hr
       subst hr;exact fin zV
      |pan d=>
       obtain⟨xv,rfl,hxv⟩:=p3;simp only[Gp,xJ]at hr
       subst hr;exact fin (G8 hxv)
     ·cases e1
    ·cases e1
   ·cases e1
  ·cases e1
 ·cases e1
end
section
variable{P:Program}{A:Av}{G:Nat→Option D}
theorem Ha{ds:List D}{es:List T}{v:Value}{vs:List Value}{S:Root→List Nat}{hd:Root→Value}{n:Nat}(h:KR A A.ρ0 S hd [] {ct:=[((0,0),.own es)],H:=[]} [] A.w0)
  (hs:SB (aa A 0 A.ρ0 S [] A.w0) ({ct:=[((0,0),.own es)],H:=[]}:Wk).get hd (.bor (.l 0 0) [] 0 es.length) v) (ha:VVs (aa A 0 A.ρ0 S [] A.w0) ds vs):
  SR A (pM es ds) {tmps:=(v::vs).toArray++Array.replicate (n - (v::vs).toArray.size) undef,defers:=[]} A.w0:=by
 refine⟨A.ρ0,S,hd,h,fun t=> ?_⟩
 have e2:(((v::vs).toArray++Array.replicate (n - (v::vs).toArray.size) undef).getD t undef)=((v::vs)[t]?).getD undef:=by
  generalize ha:(v::vs).toArray=args;have e3:v::vs=args.toList:=by rw[←ha]
  rw[e3,yM]
  by_cases hlt:t<args.size
  ·rw[yB,Array.getElem?_append_left hlt]
  ·rw[yB,Array.getElem?_append_right (by omega),Array.getElem?_eq_none (xs:=args) (by omega)]
   by_cases h2:t - args.size<n - args.size
   ·rw[Array.getElem?_replicate,if_pos h2];rfl
   ·rw[Array.getElem?_replicate,if_neg h2]
 have e4:(pM es ds).env=(0,.bor (.l 0 0) [] 0 es.length)::(ds.zipIdx 1).map fun p=>(p.2,SV.d p.1):=by
  simp only[pM];rw[List.zipIdx_succ,List.map_map];rfl
 show SO _ _ _ ((look (pM es ds).env t).getD .dead) _;rw[e2,e4];simp only[look]
 by_cases ht:0=t
 ·subst ht
  exact hs
 ·rw[if_neg ht]
  have:=xd (K:=(pM es ds).wk.get) (hd:=hd) ds vs t ha 1
  rw[if_pos (by omega)]at this
  cases t with
  |zero=>exact absurd rfl ht
  |succ t=>exact this
def ri(P:Program)(G:Nat→Option D)(f:FuncId)(F:List D→Option (List T)):Prop:=
 wM P f∧∀ds rs (H:List Ob),F ds=some rs→aQ rs=false→∀(A:Av) (S:Root→List Nat) (hd:Root→Value) (args:Array Value),A.n0=H.length→GA G A→KR A A.ρ0 S hd [] {ct:=[],H} [] A.w0→VVs (aa A H.length A.ρ0 S [] A.w0) ds args.toList→
  CallsY P A.ρ0 f args A.w0 fun e w'=>∃v,Ends false e v∧Over A H rs v w'
theorem CZ(hm:P.follows .mixedOrders=true)(hints:FuncId→Hint)(hgl:∀f g d,(hints f).gl g=some d→G g=some d)(hext:∀f F,(hints f).ext=some F→ri P G f F):∀n,cH P G (aR P hints n)
 |0=>⟨fun f ds H r e=>by simp[aR]at e,fun f ds H rs H2 e=>by simp[aR]at e,fun f ds es rs H2 e=>by simp[aR]at e⟩
 |n+1=>by
  have ih:=CZ hm hints hgl hext n
  refine⟨fun f ds H r e=> ?_,fun f ds H rs H2 e A S hd args hA hG hkr hargs=> ?_,fun f ds es rs H2 e h0 hy har A S hd v vs hA hG hkr hs hargs=> ?_⟩
  ·simp only[aR]at e
   split at e
   ·rename_i hy;exact .inl hy
   split at e
   ·rename_i F hF
    exact(hext f F hF).1
   ·simp only[xB]at e
    obtain⟨fn,hf,c,hb,e⟩:=e
    split at e
    ·rename_i hh
     exact .inr ⟨fn,hf,by rw[hb];rfl,hh.2.2⟩
    ·split at e
     ·rename_i hh
      exact .inr ⟨fn,hf,by rw[hb];rfl,hh.2.2⟩
     ·cases e
  rotate_left
  ·simp only[aR]at e
   rw[if_neg hy]at e
   split at e
   ·simp only[xB]at e
    obtain⟨rs',_,e⟩:=e
    split at e
    ·cases e
    ·simp only[xJ,pJ]at e
     obtain⟨_,rfl⟩:=e;simp at h0
   ·simp only[xB]at e
    obtain⟨fn,hf,c,hb,e⟩:=e;rw[hf,xQ,xJ]at har
    rw[if_neg (fun q=>by omega)]at e
    split at e
    ·rename_i hh
     simp only[Fs,xS,xB]at e
     obtain⟨⟨ex,s'⟩,e1,e2⟩:=e;rw[←hA]at e2
     exact AV ih (hgl f) hm n hf hb hG (Ha hkr hs hargs) (br (by simp;omega) c hh.2.1) e1 e2
    ·cases e
  simp only[aR]at e
  split at e
  ·rename_i hy
   obtain⟨o,rfl⟩:=Nat.exists_eq_add_of_le hy;rw[Nat.add_sub_cancel_left]at e
   exact G7 ih hints hgl hm n e hA hG hkr hargs
  rename_i hy
  split at e
  ·rename_i F hF
   simp only[xB]at e
   obtain⟨rs',e1,e⟩:=e
   split at e
   ·cases e
   rename_i hp;simp only[xJ,pJ]at e
   obtain⟨rfl,rfl⟩:=e;have hp':aQ rs'=false:=by simpa using hp
   rw[hp']
   exact(hext f F hF).2 ds rs' H e1 hp' A S hd args hA hG hkr hargs
  unfold CallsY;rw[if_neg hy];simp only[xB]at e
  obtain⟨fn,hf,c,hb,e⟩:=e
  split at e
  ·rename_i hh
   obtain⟨hl,hk,hnm⟩:=hh;have hk':aD (args++Array.replicate (fn.ntmps - args.size) undef).size c=true:=br (by simp;omega) c hk
   split at e
   ·rename_i hrcv
    simp only[xB]at e
    obtain⟨⟨ex,s'⟩,e1,e2⟩:=e;rw[←hA]at e2
    exact Nb ih hgl hm n hf hb hG (xe hkr hargs) hk' e1 e2
   by_cases hnil:(decide ((hints f).nilt≠0)&&cK ds)=true
   ·rw[if_pos hnil]at e
    obtain⟨t1,t2,H1,H2',ht,q1,q2,l1,l2,m1,m2,hr⟩:=pP e
    obtain⟨b0,rfl⟩:∃b0,ds=[.sl b0 []]:=by
     simp only[xA]at hnil
     have h2:=hnil.2;unfold cK at h2
     split at h2
     ·exact⟨_,rfl⟩
     ·cases h2
    obtain⟨v,hv1,a,cap,rfl⟩:∃v,args.toList=[v]∧∃a cap,v=.slice a 0 cap:=by
     simp only[VVs]at hargs
     obtain⟨v,r,h1,h2,h3,rfl⟩:=hargs;have h4:=VV.inv (c:=_) ⟨h2,h3⟩ (by simp)
     simp only[VC,xC,and_true]at h4
     obtain⟨a,len,cap,rfl,rfl,_⟩:=h4
     exact⟨_,h1,a,cap,rfl⟩
    have go:∀(b:Bool) (Hb:List Ob),b=a.isNone→eV Hb=true→Hb.length=H.length→(aB P (aR P hints n) (hints f) n c (jm b H)).bind (cJ P (hints f).own fn H.length)=some ([t1],Hb)→
      Calls P f args A.w0 fun e w'=>∃v,Ends (aQ rs) e v∧Over A H2 rs v w':=by
     intro b Hb hba hlk hlen hrun
     obtain rfl:Hb=H2:=by rw[xf hlk,hlen];exact(congrArg Prod.snd hr).symm
     obtain rfl:rs=[t2]:=congrArg Prod.fst hr
     have told:∀{v w'},Over A Hb [t1] v w'→Over A Hb [t2] v w':=fun q=>by
      rcases ht with⟨rfl,rfl⟩ |⟨rfl,rfl⟩
      ·exact G4 q
      ·exact q
     simp only[xB]at hrun
     obtain⟨⟨ex,s'⟩,e1,e2⟩:=hrun;rw[←hA]at e2
     have hp:aQ [t1]=false∧aQ [t2]=false:=by
      rcases ht with⟨rfl,rfl⟩ |⟨rfl,rfl⟩ <;>exact⟨rfl,rfl⟩
     refine Calls.mono (AV ih (hgl f) hm n hf hb hG (G0 hkr hv1 ⟨a,cap,rfl,hba⟩) hk' e1 e2) fun en w' he=> ?_
     obtain⟨v,h1,h2⟩:=he;rw[hp.1]at h1
     exact⟨v,by rw[hp.2];exact h1,told h2⟩
    cases hn:a.isNone with
    |true=>exact go true H1 hn.symm l1 m1 q1
    |false=>exact go false H2' hn.symm l2 m2 q2
   rw[if_neg hnil]at e
   simp only[xB]at e
   obtain⟨⟨ex,s'⟩,e1,e2⟩:=e;rw[←hA]at e2
   exact AV ih (hgl f) hm n hf hb hG (xe hkr hargs) hk' e1 e2
  ·split at e
   ·simp only[xB]at e
    obtain⟨es,he,_⟩:=e;unfold Fs at he
    split at he
    ·obtain⟨_,_,q⟩:=hkr.map 0 _ rfl rfl
     exact q.elim
    ·cases he
   ·cases e
end
end Go.Am
namespace Go.Am
open Go
def cB(c c':ak):Prop:=∀f ds H r,c f ds H=some r→c' f ds H=some r
section
variable{P:Program}{c c':ak}{h:Hint}
theorem eM(hc:cB c c'){dst:Nat}{f:FuncId}{ds:List D}{b:Lend}{k:Wk}{r:SV×Wk}(e:aU c h dst f ds b k=some r):aU c' h dst f ds b k=some r:=by
 unfold aU at e ⊢
 split at e
 ·rename_i hk
  rw[if_pos hk];simp only[xB]at e ⊢
  obtain⟨x,e1,e2⟩:=e
  exact⟨x,hc _ _ _ _ e1,e2⟩
 rename_i hk0;rw[if_neg hk0]
 split at e
 ·cases e
 ·rename_i hk
  rw[if_neg hk];simp only[xB]at e ⊢
  obtain⟨x,e1,e2⟩:=e
  exact⟨x,hc _ _ _ _ e1,e2⟩
theorem qe(hc:cB c c'){dst:Nat}{f:FuncId}{ds:List D}{b:Lend}{k:Wk}{r:SV×Wk}(e:cF c h dst f ds b k=some r):cF c' h dst f ds b k=some r:=by
 unfold cF at e ⊢
 split at e
 ·rename_i hro
  simp only[xB]at e
  obtain⟨ds',e1,e⟩:=e;rw[if_pos hro,e1];exact eM hc e
 ·rename_i hro
  rw[if_neg hro]
  split at e
  ·rename_i hl
   rw[if_pos hl];exact eM hc e
  ·rename_i hl
   rw[if_neg hl];exact eM hc e
theorem Em(hc:cB c c'){dst:Nat}{ty:TypeId}{op:Op}{σ:Operand→SV}{k:Wk}{r:SV×Wk}(e:am P c h dst ty op σ k=some r):am P c' h dst ty op σ k=some r:=by
 unfold am at e ⊢
 split at e
 ·simp only
  split at e
  ·split at e
   ·cases e
   ·rename_i hy
    rw[if_neg hy]
    split at e
    ·exact e
    simp only[xB]at e ⊢
    obtain⟨x,e1,y,e2,e3⟩:=e
    exact⟨x,e1,y,qe hc e2,e3⟩
  ·simp only[xB]at e ⊢
   obtain⟨x,e1,y,e2,e3⟩:=e
   exact⟨x,e1,y,qe hc e2,e3⟩
  ·cases e
 ·exact e
theorem Jl(hc:cB c c'){dst:Nat}{g:FuncId}{xs:List SV}{k:Wk}{r:SV×Wk}(e:mvE P c h dst g xs k=some r):mvE P c' h dst g xs k=some r:=by simp[mvE]at e
theorem xi(hc:cB c c'){dst:Nat}{ty:TypeId}{op:Op}{σ:Operand→SV}{k:Wk}{r:Option D×SV×Wk}(e:cZ P c h dst ty op σ k=some r):cZ P c' h dst ty op σ k=some r:=by
 unfold cZ at e ⊢
 split at e
 ·exact e
 ·simp only
  split at e
  ·split at e
   ·cases e
   ·rename_i hy
    rw[if_neg hy]
    split at e
    ·rename_i hm
     rw[if_pos hm]
     split at e
     ·rename_i hf
      rw[if_pos hf];simp only[xM,xB]at e ⊢
      obtain⟨x,⟨y,e1,e2⟩,e3⟩:=e
      exact⟨x,⟨y,Jl hc e1,e2⟩,e3⟩
     ·cases e
    rename_i hm;rw[if_neg hm];simp only[xB]at e ⊢
    obtain⟨x,e1,y,e2,e3⟩:=e
    exact⟨x,e1,y,qe hc e2,e3⟩
  ·cases e
 ·exact e
theorem kN(hc:cB c c'){ops:List Oper}{o:Oper}{s:St}{r:Bool×SV×Wk}(e:bP P c h ops o s=some r):bP P c' h ops o s=some r:=by
 simp only[bP,xB]at e ⊢
 obtain⟨w,e1,e2⟩:=e
 refine⟨w,e1,?_⟩
 split at e2
 ·rename_i hw
  rw[if_pos hw];simp only[xM]at e2 ⊢
  obtain⟨x,e3,e4⟩:=e2
  exact⟨x,Em hc e3,e4⟩
 ·rename_i hw
  rw[if_neg hw];exact e2
theorem En(hc:cB c c'){ops:List Oper}{o:Oper}{s s':St}(e:ij P c h ops o s=some s'):ij P c' h ops o s=some s':=by
 rw[gq]at e ⊢
 simp only[xM]at e ⊢
 obtain⟨x,e1,e2⟩:=e
 exact⟨x,kN hc e1,e2⟩
theorem cr(hc:cB c c'){ops:List Oper}:∀(l:List Oper) {s s':St},ba P c h ops l s=some s'→ba P c' h ops l s=some s'
 | [],s,s',e=>e
 |o::l,s,s',e=>by
  simp only[ba,xB]at e ⊢
  obtain⟨x,e1,e2⟩:=e
  exact⟨x,En hc e1,cr hc l e2⟩
theorem C0(hc:cB c c'){ops:List Oper}{o:Oper}{s:Cf}{r:Cf×Fp}(e:aH P c h ops o s=some r):aH P c' h ops o s=some r:=by
 simp only[aH,xM]at e ⊢
 obtain⟨x,e1,e2⟩:=e
 exact⟨x,kN hc e1,e2⟩
theorem eZ(hc:cB c c'){ops:List Oper}:∀(l:List Oper) {s:Cf} {r:Cf×List Fp},aC P c h ops l s=some r→aC P c' h ops l s=some r
 | [],s,r,e=>e
 |o::l,s,r,e=>by
  simp only[aC,xB,xM]at e ⊢
  obtain⟨x,e1,y,e2,e3⟩:=e
  exact⟨x,C0 hc e1,y,eZ hc l e2,e3⟩
theorem e9(hc:cB c c'){ops:List Oper}:∀(l:List Oper) {s:St} {r:Option D×St},ck P c h ops l s=some r→ck P c' h ops l s=some r
 | [],s,r,e=>e
 |o::l,s,r,e=>by
  simp only[ck,xB]at e ⊢
  obtain⟨w,e1,e2⟩:=e
  refine⟨w,e1,?_⟩
  split at e2
  ·rename_i hw
   rw[if_pos hw];simp only[xB]at e2 ⊢
   obtain⟨⟨t,v,k⟩,e3,e4⟩:=e2
   refine⟨(t,v,k),xi hc e3,?_⟩
   simp only at e4 ⊢
   split at e4
   ·exact e4
   ·exact e9 hc l e4
  ·rename_i hw
   rw[if_neg hw];exact e9 hc l e2
theorem qf(hc:cB c c'){live:List Nat}{ops:List Oper}{bs:List Nat}{s:St}:∀(t:OT) (E:List (Nat×Nat)) {r:St},oA P c h live ops bs s t E=some r→oA P c' h live ops bs s t E=some r
 | .leaf,E,r,e=>by
  simp only[oA,xB]at e ⊢
  obtain⟨x,e1,e2⟩:=e
  exact⟨x,eZ hc _ e1,e2⟩
 | .node i j a b,E,r,e=>by
  simp only[oA]at e ⊢
  split at e
  ·rename_i hij
   rw[if_pos hij];simp only[xB]at e ⊢
   obtain⟨x,e1,y,e2,e3⟩:=e
   exact⟨x,qf hc a _ e1,y,qf hc b _ e2,e3⟩
  ·cases e
theorem C1(hc:cB c c'){f:Operand}{ps:List Nat}{x y:Code}{s:St}{r:Ex×St}(e:pL c h f ps x y s=some r):pL c' h f ps x y s=some r:=by
 unfold pL at e ⊢
 split at e
 ·cases e
 rename_i hn;rw[if_neg hn]
 split at e
 ·simp only
  split at e
  ·cases e
  rename_i hy;rw[if_neg hy];simp only[xB]at e ⊢
  obtain⟨z,e1,e2⟩:=e
  exact⟨z,hc _ _ _ _ e1,e2⟩
 ·cases e
theorem fI{f f':St→Option (Ex×St)}(hf:∀s r,f s=some r→f' s=some r):∀(n m:Nat),n≤m→∀s r,gi f n s=some r→gi f' m s=some r
 |0,_,_,_,_,e=>by cases e
 |n+1,0,h,_,_,_=>by omega
 |n+1,m+1,h,s,r,e=>by
  simp only[gi,xB]at e ⊢
  obtain⟨⟨ex,s1⟩,e1,e2⟩:=e
  refine⟨⟨ex,s1⟩,hf _ _ e1,?_⟩
  simp only at e2 ⊢
  split at e2
  ·exact fI hf n m (by omega) _ _ e2
  ·exact e2
theorem az(hc:cB c c'){n m:Nat}(hn:n≤m):∀(cd:Code) (s:St) (r:Ex×St),aB P c h n cd s=some r→aB P c' h m cd s=some r
 | .skip,s,r,e=>e
 | .label _,s,r,e=>e
 | .ret,s,r,e=>e
 | .exit _,s,r,e=>e
 | .goto _,s,r,e=>by cases e
 | .refuse _,s,r,e=>by cases e
 | .rangeFunc _ _ _ _,s,r,e=>by
  simp only[aB]at e ⊢
  exact C1 hc e
 | .region id ops dr,s,r,e=>by
  simp only[aB]at e ⊢
  cases dr with
  |true=>
   simp only[if_true]at e ⊢
   split at e
   ·simp only[xB,xM]at e ⊢
    obtain⟨bs,e1,s1,e2,e3⟩:=e
    exact⟨bs,e1,s1,qf hc _ _ e2,e3⟩
   ·simp only[xB]at e ⊢
    obtain⟨x,e1,e2⟩:=e
    exact⟨x,eZ hc _ e1,e2⟩
  |false=>
   simp only[xH,if_false]at e ⊢
   split at e
   ·rename_i hp
    rw[if_pos hp];simp only[xM]at e ⊢
    obtain⟨x,e1,e2⟩:=e
    exact⟨x,e9 hc _ e1,e2⟩
   ·rename_i hp
    rw[if_neg hp];simp only[xM]at e ⊢
    obtain⟨x,e1,e2⟩:=e
    exact⟨x,cr hc _ e1,e2⟩
 | .seq a b,s,r,e=>by
  simp only[aB]at e ⊢
  cases hp:tG a b with
  |some p=>rw[hp]at e;exact e
  |none=>
   rw[hp]at e
   simp only[xB]at e ⊢
   obtain⟨⟨ex,s1⟩,e1,e2⟩:=e
   refine⟨⟨ex,s1⟩,az hc hn a _ _ e1,?_⟩
   simp only at e2 ⊢
   split at e2
   ·exact az hc hn b _ _ e2
   ·exact e2
 | .cond o a b,s,r,e=>by
  simp only[aB]at e ⊢
  split at e
  ·split at e
   ·rename_i ht;rw[if_pos ht];exact az hc hn a _ _ e
   ·rename_i ht;rw[if_neg ht];exact az hc hn b _ _ e
  ·cases e
 | .block id a,s,r,e=>by
  simp only[aB,xM]at e ⊢
  obtain⟨x,e1,e2⟩:=e
  exact⟨x,az hc hn a _ _ e1,e2⟩
 | .loop a,s,r,e=>by
  simp only[aB]at e ⊢
  exact fI (fun s r=>az hc hn a s r) n m hn s r e
 | .scope a,s,r,e=>by
  simp only[aB]at e ⊢
  exact az hc hn a _ _ e
theorem uh(hc:cB c c'){hints:FuncId→Hint}{n m:Nat}(hn:n≤m){o:Nat}{ds:List D}{H:List Ob}{r:List T×List Ob}(e:pO P c hints n o ds H=some r):pO P c' hints m o ds H=some r:=by
 unfold pO at e ⊢
 split at e
 ·rename_i g p a b env ct d hob
  simp only[xB]at e
  obtain⟨⟨x,s1⟩,e1,e⟩:=e;simp only[hob];rw[az hc hn a _ _ e1,xS];simp only at e ⊢
  split at e
  ·simp only[xB]at e
   obtain⟨⟨y,s2⟩,e2,e⟩:=e;rw[az hc hn b _ _ e2,xS];exact e
  ·cases e
 ·cases e
theorem ui(hc:cB c c'){hints:FuncId→Hint}{n m:Nat}(hn:n≤m){r:D}:cB (fy P c hints n r) (fy P c' hints m r):=fun g ds H x e=>by
 simp only[fy,xB]at e ⊢
 obtain⟨fn,h1,cd,h2,e⟩:=e
 refine⟨fn,h1,cd,h2,?_⟩
 split at e
 ·split at e
  ·rename_i hops
   simp only[hops]
   split at e
   ·rename_i hop hdst hgu
    split at e
    ·rename_i hh
     rw[if_pos hh];simp only[xB]at e ⊢
     obtain⟨s1,e1,y,e2,e3⟩:=e;rw[hops]at e1
     exact⟨s1,e1,y,az hc hn _ _ _ e2,e3⟩
    ·cases e
   ·cases e
  ·cases e
 ·cases e
theorem zW(hc:cB c c'){hints:FuncId→Hint}{n m:Nat}(hn:n≤m){f:FuncId}{cd:Code}{nt:Nat}{s:St}{r:Ex×St}(e:yU P c hints n f cd nt s=some r):yU P c' hints m f cd nt s=some r:=by
 unfold yU at e ⊢
 split at e
 ·simp only[xB]at e ⊢
  obtain⟨s1,e1,e⟩:=e
  refine⟨s1,cr hc _ e1,?_⟩
  split at e
  ·rename_i hl
   split at e
   ·rename_i hop hdst hgu
    simp only[hop,hdst,hgu,xB]at e ⊢
    obtain⟨s2,e2,e⟩:=e
    refine⟨s2,cr hc _ e2,?_⟩
    split at e
    ·rename_i hx
     split at e
     ·rename_i hp
      rw[if_pos hp];simp only[xB,xM]at e ⊢
      obtain⟨y,e3,q,e4,z,⟨z0,e5,e6⟩,e7⟩:=e
      exact⟨y,az hc hn _ _ _ e3,q,e4,z,⟨z0,eM (ui hc hn) e5,e6⟩,e7⟩
     ·cases e
    ·cases e
   ·cases e
  ·cases e
 ·cases e
theorem C2{hints:FuncId→Hint}:∀n,cB (aR P hints n) (aR P hints (n+1))
 |0=>fun f ds H r e=>by cases e
 |n+1=>fun f ds H r e=>by
  have ih:=C2 (hints:=hints) n;rw[aR]at e ⊢
  by_cases hy:YB≤f
  ·rw[if_pos hy]at e ⊢
   exact uh ih (Nat.le_succ n) e
  rw[if_neg hy]at e ⊢
  split at e
  ·exact e
  simp only[xB]at e ⊢
  obtain⟨fn,h1,cd,h2,e⟩:=e
  refine⟨fn,h1,cd,h2,?_⟩
  split at e
  ·rename_i hh
   rw[if_pos hh]
   by_cases hr:(hints f).rcv=true
   ·rw[if_pos hr]at e ⊢
    simp only[xB]at e ⊢
    obtain⟨x,e1,e2⟩:=e
    exact⟨x,zW ih (Nat.le_succ n) e1,e2⟩
   rw[if_neg hr]at e ⊢
   by_cases hnil:(decide ((hints f).nilt≠0)&&cK ds)=true
   ·rw[if_pos hnil]at e ⊢
    obtain⟨t1,t2,H1,H2,ht,q1,q2,l1,l2,m1,m2,rfl⟩:=pP e;simp only[xB]at q1 q2
    obtain⟨x,e1,e2⟩:=q1;obtain⟨y,e3,e4⟩:=q2;show wh H.length (Ft (hints f) ds) ((aB P (aR P hints (n+1)) (hints f) (n+1) cd (jm true H)).bind (cJ P (hints f).own fn H.length)) ((aB P (aR P hints (n+1)) (hints f) (n+1) cd (jm false H)).bind (cJ P (hints f).own fn H.length))=_;rw[az ih (Nat.le_succ n) cd _ _ e1,az ih (Nat.le_succ n) cd _ _ e3,xS,xS,e2,e4];exact B8 ht l1 l2 m1 m2
   rw[if_neg hnil]at e ⊢
   simp only[xB]at e ⊢
   obtain⟨x,e1,e2⟩:=e
   exact⟨x,az ih (Nat.le_succ n) cd _ _ e1,e2⟩
  ·rename_i hh
   rw[if_neg hh]
   split at e
   ·rename_i h3
    rw[if_pos h3];simp only[xB]at e ⊢
    obtain⟨es,e0,x,e1,e2⟩:=e
    exact⟨es,e0,x,az ih (Nat.le_succ n) cd _ _ e1,e2⟩
   ·cases e
theorem aM{hints:FuncId→Hint}{n m:Nat}(h:n≤m):cB (aR P hints n) (aR P hints m):=by
 induction h with
 |refl=>exact fun _ _ _ _ e=>e
 |step _ ih=>exact fun f ds H r e=>C2 _ f ds H r (ih f ds H r e)
end
open Classical in
noncomputable def lim{α:Type}(g:Nat→Option α):Option α:=if h:∃r,∃n,g n=some r then some (Classical.choose h)else none
theorem FB{α:Type}{g:Nat→Option α}(hg:∀n m r,n≤m→g n=some r→g m=some r){r:α}:lim g=some r↔∃n,g n=some r:=by
 unfold lim;constructor
 ·intro h
  split at h
  ·rename_i hx
   simp only[xJ]at h
   rw[←h];exact Classical.choose_spec hx
  ·cases h
 ·rintro⟨n,hn⟩
  have hx:∃r,∃n,g n=some r:=⟨r,n,hn⟩
  rw[dif_pos hx];obtain⟨m,hm⟩:=Classical.choose_spec hx;have h1:=hg n (max n m) r (Nat.le_max_left _ _) hn;have h2:=hg m (max n m) _ (Nat.le_max_right _ _) hm;rw[h1]at h2
  simp only[xJ]at h2
  rw[←h2]
section
variable(P:Program)(hints:FuncId→Hint)
noncomputable def aX:ak:=fun f ds H=>lim fun n=>aR P hints n f ds H
noncomputable def aY(h:Hint)(c:Code)(s:St):Option (Ex×St):=lim fun n=>aB P (aR P hints n) h n c s
variable{P hints}
theorem cx{f:FuncId}{ds:List D}{H:List Ob}{r:List T×List Ob}:aX P hints f ds H=some r↔∃n,aR P hints n f ds H=some r:=
 FB fun n m r h e=>aM h f ds H r e
theorem aA{h:Hint}{c:Code}{s:St}{r:Ex×St}:aY P hints h c s=some r↔∃n,aB P (aR P hints n) h n c s=some r:=
 FB fun n m r hn e=>az (aM hn) hn c s r e
theorem rj(n:Nat):cB (aR P hints n) (aX P hints):=fun f ds H r e=>cx.2 ⟨n,e⟩
section
variable{h:Hint}
theorem mB{dst:Nat}{f:FuncId}{ds:List D}{b:Lend}{k:Wk}{r:SV×Wk}(e:aU (aX P hints) h dst f ds b k=some r):∃n,aU (aR P hints n) h dst f ds b k=some r:=by
 unfold aU at e
 split at e
 ·rename_i hk
  simp only[xB]at e
  obtain⟨x,e1,e2⟩:=e;obtain⟨n,hn⟩:=cx.1 e1
  exact⟨n,by unfold aU;rw[if_pos hk,hn];exact e2⟩
 rename_i hk0
 split at e
 ·cases e
 ·rename_i hk
  simp only[xB]at e
  obtain⟨x,e1,e2⟩:=e;obtain⟨n,hn⟩:=cx.1 e1
  exact⟨n,by unfold aU;rw[if_neg hk0,if_neg hk,hn];exact e2⟩
theorem qg{dst:Nat}{f:FuncId}{ds:List D}{b:Lend}{k:Wk}{r:SV×Wk}(e:cF (aX P hints) h dst f ds b k=some r):∃n,cF (aR P hints n) h dst f ds b k=some r:=by
 unfold cF at e
 split at e
 ·rename_i hro
  simp only[xB]at e
  obtain⟨ds',e1,e⟩:=e;obtain⟨n,hn⟩:=mB e
  exact⟨n,by unfold cF;rw[if_pos hro,e1];exact hn⟩
 ·rename_i hro
  split at e
  ·rename_i hl
   obtain⟨n,hn⟩:=mB e
   exact⟨n,by unfold cF;rw[if_neg hro,if_pos hl];exact hn⟩
  ·rename_i hl
   obtain⟨n,hn⟩:=mB e
   exact⟨n,by unfold cF;rw[if_neg hro,if_neg hl];exact hn⟩
theorem Eo{dst:Nat}{ty:TypeId}{op:Op}{σ:Operand→SV}{k:Wk}{r:SV×Wk}(e:am P (aX P hints) h dst ty op σ k=some r):∃n,am P (aR P hints n) h dst ty op σ k=some r:=by
 by_cases hc:∃f args ats,op=.call {callee:=.value f,args:=args,argTypes:=ats}
 ·obtain⟨f,args,ats,rfl⟩:=hc
  unfold am at e ⊢
  simp only at e ⊢
  split at e
  ·split at e
   ·cases e
   rename_i hy;simp only[if_neg hy]
   split at e
   ·exact⟨0,e⟩
   simp only[xB]at e
   obtain⟨x,e1,y,e2,e3⟩:=e;obtain⟨n,hn⟩:=qg e2
   exact⟨n,by rw[e1,xS,hn];exact e3⟩
  ·simp only[xB]at e
   obtain⟨x,e1,y,e2,e3⟩:=e;obtain⟨n,hn⟩:=qg e2
   exact⟨n,by rw[e1,xS,hn];exact e3⟩
  ·cases e
 ·have:∀call:ak,am P call h dst ty op σ k=opE P h dst ty op σ k:=fun call=>by
   unfold am;split
   ·exact absurd ⟨_,_,_,rfl⟩ hc
   ·rfl
  rw[this]at e
  exact⟨0,by rw[this];exact e⟩
theorem xj{ops:List Oper}{o:Oper}{s:St}{r:Bool×SV×Wk}(e:bP P (aX P hints) h ops o s=some r):∃n,bP P (aR P hints n) h ops o s=some r:=by
 simp only[bP,xB]at e
 obtain⟨w,e1,e2⟩:=e
 split at e2
 ·rename_i hw
  simp only[xM]at e2
  obtain⟨x,e3,e4⟩:=e2;obtain⟨n,hn⟩:=Eo e3
  exact⟨n,by simp only[bP,e1,xS,hw,if_true,hn,xQ];rw[←e4]⟩
 ·rename_i hw
  exact⟨0,by simp only[bP,e1,xS];rw[if_neg hw];exact e2⟩
theorem i6{ops:List Oper}:∀(l:List Oper) {s s':St},ba P (aX P hints) h ops l s=some s'→∃n,ba P (aR P hints n) h ops l s=some s'
 | [],s,s',e=>⟨0,e⟩
 |o::l,s,s',e=>by
  simp only[ba,xB]at e
  obtain⟨x,e1,e2⟩:=e;rw[gq]at e1
  simp only[xM]at e1
  obtain⟨y,e3,e4⟩:=e1;obtain⟨n,hn⟩:=xj e3;obtain⟨m,hm⟩:=i6 l e2
  refine⟨max n m,?_⟩
  simp only[ba,xB]
  refine⟨x,?_,cr (aM (Nat.le_max_right n m)) l hm⟩
  rw[gq,kN (aM (Nat.le_max_left n m)) hn];simp only[xQ,e4]
theorem rk{ops:List Oper}:∀(l:List Oper) {s:Cf} {r:Cf×List Fp},aC P (aX P hints) h ops l s=some r→∃n,aC P (aR P hints n) h ops l s=some r
 | [],s,r,e=>⟨0,e⟩
 |o::l,s,r,e=>by
  simp only[aC,xB,xM]at e
  obtain⟨x,e1,y,e2,e3⟩:=e;simp only[aH,xM]at e1
  obtain⟨z,e4,e5⟩:=e1;obtain⟨n,hn⟩:=xj e4;obtain⟨m,hm⟩:=rk l e2
  refine⟨max n m,?_⟩
  simp only[aC,xB,xM]
  refine⟨x,?_,y,eZ (aM (Nat.le_max_right n m)) l hm,e3⟩
  simp only[aH,kN (aM (Nat.le_max_left n m)) hn,xQ,e5]
theorem Jm{dst:Nat}{g:FuncId}{xs:List SV}{k:Wk}{r:SV×Wk}(e:mvE P (aX P hints) h dst g xs k=some r):∃n,mvE P (aR P hints n) h dst g xs k=some r:=by simp[mvE]at e
theorem Ep{dst:Nat}{ty:TypeId}{op:Op}{σ:Operand→SV}{k:Wk}{r:Option D×SV×Wk}(e:cZ P (aX P hints) h dst ty op σ k=some r):∃n,cZ P (aR P hints n) h dst ty op σ k=some r:=by
 by_cases hc:∃f args ats,op=.call {callee:=.value f,args:=args,argTypes:=ats}
 ·obtain⟨f,args,ats,rfl⟩:=hc
  unfold cZ at e ⊢
  simp only at e ⊢
  split at e
  ·split at e
   ·cases e
   rename_i hy;simp only[if_neg hy]
   split at e
   ·rename_i hm
    simp only[if_pos hm]
    split at e
    ·rename_i hf
     simp only[xM,xB]at e
     obtain⟨x,⟨y,e1,e2⟩,e3⟩:=e;obtain⟨n,hn⟩:=Jm e1
     exact⟨n,by rw[if_pos hf,hn,xS,e2,xQ,e3]⟩
    ·cases e
   rename_i hm;simp only[if_neg hm];simp only[xB]at e
   obtain⟨x,e1,y,e2,e3⟩:=e;obtain⟨n,hn⟩:=qg e2
   exact⟨n,by rw[e1,xS,hn];exact e3⟩
  ·cases e
 ·have:∀call call':ak,cZ P call h dst ty op σ k=cZ P call' h dst ty op σ k:=fun call call'=>by
   unfold cZ;split
   ·rfl
   ·exact absurd ⟨_,_,_,rfl⟩ hc
   ·rfl
  exact⟨0,by rw[this _ (aX P hints)];exact e⟩
theorem kO{ops:List Oper}:∀(l:List Oper) {s:St} {r:Option D×St},ck P (aX P hints) h ops l s=some r→∃n,ck P (aR P hints n) h ops l s=some r
 | [],s,r,e=>⟨0,e⟩
 |o::l,s,r,e=>by
  simp only[ck,xB]at e
  obtain⟨w,e1,e2⟩:=e
  split at e2
  ·rename_i hw
   simp only[xB]at e2
   obtain⟨⟨t,v,k⟩,e3,e4⟩:=e2;obtain⟨n,hn⟩:=Ep e3;simp only at e4
   split at e4
   ·refine⟨n,?_⟩
    simp only[ck,e1,xS,hw,if_true,hn];exact e4
   ·obtain⟨m,hm⟩:=kO l e4
    refine⟨max n m,?_⟩
    simp only[ck,e1,xS,hw,if_true,xi (aM (Nat.le_max_left n m)) hn];exact e9 (aM (Nat.le_max_right n m)) l hm
  ·rename_i hw
   obtain⟨n,hn⟩:=kO l e2
   exact⟨n,by simp only[ck,e1,xS];rw[if_neg hw];exact hn⟩
theorem dd{α:Type}{x y:Option α}(h:∀r,x=some r↔y=some r):x=y:=Option.ext h
theorem gu{c:Code}{s:St}{x:Option (Ex×St)}(hx:∀n,aB P (aR P hints n) h n c s=x):aY P hints h c s=x:=
 dd fun r=>by rw[aA];simp[hx]
theorem xk{s:St}:aY P hints h .skip s=some (.normal,s):=gu fun _=>rfl
theorem uj{l:Nat}{s:St}:aY P hints h (.label l) s=some (.normal,s):=gu fun _=>rfl
theorem zX{s:St}:aY P hints h .ret s=some (.ret,s):=gu fun _=>rfl
theorem xl{id:Nat}{s:St}:aY P hints h (.exit id) s=some (.exit id,s):=gu fun _=>rfl
theorem rl{id:Nat}{ops:Array Oper}{s:St}(hp:h.pan.contains id=false):aY P hints h (.region id ops false) s=(ba P (aX P hints) h ops.toList ops.toList s).map fun s'=>(.normal,prune (h.live id) s'):=
 dd fun r=>by
  rw[aA];simp only[aB,hp,xH,if_false,xM];constructor
  ·rintro⟨n,x,e1,e2⟩;exact⟨x,cr (rj n) _ e1,e2⟩
  ·rintro⟨x,e1,e2⟩;obtain⟨n,hn⟩:=i6 _ e1;exact⟨n,x,hn,e2⟩
theorem y8{id:Nat}{ops:Array Oper}{s:St}(hp:h.pan.contains id=true):aY P hints h (.region id ops false) s=(ck P (aX P hints) h ops.toList ops.toList s).map fun p=>match p.1 with |some d=>(.pan d,p.2) |none=>(.normal,prune (h.live id) p.2):=
 dd fun r=>by
  rw[aA];simp only[aB,hp,xH,if_false,if_true,xM];constructor
  ·rintro⟨n,x,e1,e2⟩;exact⟨x,e9 (rj n) _ e1,e2⟩
  ·rintro⟨x,e1,e2⟩;obtain⟨n,hn⟩:=kO _ e1;exact⟨n,x,hn,e2⟩
theorem xm{id:Nat}{ops:Array Oper}{s:St}(hp:h.swp id=none):aY P hints h (.region id ops true) s=(aC P (aX P hints) h ops.toList ops.toList (s,gM s)).bind fun(c,fs)=>if mg ops.toList fs then some (.normal,prune (h.live id) c.1)else none:=
 dd fun r=>by
  rw[aA];simp only[aB,hp,if_true,xB];constructor
  ·rintro⟨n,x,e1,e2⟩;exact⟨x,eZ (rj n) _ e1,e2⟩
  ·rintro⟨x,e1,e2⟩;obtain⟨n,hn⟩:=rk _ e1;exact⟨n,x,hn,e2⟩
noncomputable def zY(P:Program)(hints:FuncId→Hint)(h:Hint)(b:Code)(r:Ex×St):Option (Ex×St):=match r.1 with | .normal=>aY P hints h b r.2 |e=>some (e,r.2)
theorem Hc{a b:Code}{s:St}{p:Cpy}(hc:tG a b=some p):aY P hints h (.seq a b) s=B7 P p s:=gu fun n=>by simp only[aB,hc]
theorem zZ{a b:Code}{s:St}(hc:tG a b=none):aY P hints h (.seq a b) s=(aY P hints h a s).bind (zY P hints h b):=
 dd fun r=>by
  rw[aA];simp only[aB,hc,xB,zY];constructor
  ·rintro⟨n,⟨ex,s1⟩,e1,e2⟩
   refine⟨⟨ex,s1⟩,aA.2 ⟨n,e1⟩,?_⟩
   simp only at e2 ⊢
   cases ex with
   |normal=>exact aA.2 ⟨n,e2⟩
   |_=>exact e2
  ·rintro⟨⟨ex,s1⟩,e1,e2⟩
   obtain⟨n,hn⟩:=aA.1 e1;simp only at e2
   split at e2
   ·obtain⟨m,hm⟩:=aA.1 e2
    exact⟨max n m,⟨.normal,s1⟩,az (aM (Nat.le_max_left n m)) (Nat.le_max_left n m) a _ _ hn,az (aM (Nat.le_max_right n m)) (Nat.le_max_right n m) b _ _ hm⟩
   ·rename_i hne
    refine⟨n,⟨ex,s1⟩,hn,?_⟩
    cases ex with
    |normal=>exact absurd rfl hne
    |_=>exact e2
theorem Er{o:Operand}{a b:Code}{s:St}:aY P hints h (.cond o a b) s=match s.val o with | .d (.bool t)=>if t then aY P hints h a s else aY P hints h b s |_=>none:=
 dd fun r=>by
  rw[aA];simp only[aB];generalize s.val o=v
  cases v with
  |d x=>
   cases x with
   |bool t=>cases t <;>simp[aA]
   |_=>simp
  |_=>simp
theorem C3{id:Nat}{a:Code}{s:St}:aY P hints h (.block id a) s=(aY P hints h a s).map fun r=>(r.1.block id,r.2):=
 dd fun r=>by
  rw[aA];simp only[aB,xM];constructor
  ·rintro⟨n,x,e1,e2⟩;exact⟨x,aA.2 ⟨n,e1⟩,e2⟩
  ·rintro⟨x,e1,e2⟩;obtain⟨n,hn⟩:=aA.1 e1;exact⟨n,x,hn,e2⟩
theorem uk{a:Code}{s:St}:aY P hints h (.scope a) s=aY P hints h a s:=
 dd fun r=>by rw[aA,aA];simp only[aB]
theorem xn{a:Code}{s:St}:aY P hints h (.loop a) s=(aY P hints h a s).bind (zY P hints h (.loop a)):=
 dd fun r=>by
  rw[aA];simp only[xB,zY];constructor
  ·rintro⟨n,e⟩
   simp only[aB]at e
   cases n with
   |zero=>cases e
   |succ n=>
    have e0:=e;simp only[gi,xB]at e
    obtain⟨⟨ex,s1⟩,e1,e2⟩:=e
    refine⟨⟨ex,s1⟩,aA.2 ⟨n+1,e1⟩,?_⟩
    simp only at e2 ⊢
    cases ex with
    |normal=>
     refine aA.2 ⟨n+1,?_⟩;simp only[aB];exact fI (fun _ _ e=>e) n (n+1) (Nat.le_succ n) _ _ e2
    |_=>exact e2
  ·rintro⟨⟨ex,s1⟩,e1,e2⟩
   obtain⟨n,hn⟩:=aA.1 e1;simp only at e2
   split at e2
   ·obtain⟨m,hm⟩:=aA.1 e2
    simp only[aB]at hm
    refine⟨max n m+1,?_⟩
    simp only[aB,gi,xB]
    exact⟨⟨.normal,s1⟩,az (aM (by omega)) (by omega) a _ _ hn,fI (fun s r e=>az (aM (by omega)) (by omega) a s r e) m (max n m) (Nat.le_max_right n m) _ _ hm⟩
   ·rename_i hne
    refine⟨n+1,?_⟩
    simp only[aB,gi,xB]
    refine⟨⟨ex,s1⟩,az (aM (Nat.le_succ n)) (Nat.le_succ n) a _ _ hn,?_⟩
    cases ex with
    |normal=>exact absurd rfl hne
    |_=>exact e2
end
theorem Jn{f:FuncId}{ds:List D}{H:List Ob}{fn:Func}{c:Code}(hy:¬YB≤f)(hr:(hints f).rcv=false)(hxt:(hints f).ext=none)(hf:P.funcs[f]? =some fn)(hb:fn.body=some c)(hl:ds.length=fn.params.size+fn.nfree)(hk:aD fn.ntmps c=true)(hn:(fn.name== "runtime.NumGoroutine")=false)(hx:(decide ((hints f).nilt≠0)&&cK ds)=false):
  aX P hints f ds H=(aY P hints (hints f) c (enter ds H)).bind (cJ P (hints f).own fn H.length):=
 dd fun r=>by
  rw[cx];simp only[xB];constructor
  ·rintro⟨n,e⟩
   cases n with
   |zero=>cases e
   |succ n=>
    rw[aR,if_neg hy]at e
    simp only[hxt,hf,hb,xS]at e
    rw[if_pos ⟨hl,hk,hn⟩,if_neg (by rw[hr];simp),if_neg (by rw[hx];simp)]at e
    simp only[xB]at e
    obtain⟨x,e1,e2⟩:=e
    exact⟨x,aA.2 ⟨n,e1⟩,e2⟩
  ·rintro⟨x,e1,e2⟩
   obtain⟨n,hn'⟩:=aA.1 e1
   refine⟨n+1,?_⟩
   rw[aR,if_neg hy];simp only[hxt,hf,hb,xS];rw[if_pos ⟨hl,hk,hn⟩,if_neg (by rw[hr];simp),if_neg (by rw[hx];simp)]
   simp only[xB]
   exact⟨x,hn',e2⟩
theorem Hd{f:FuncId}{ds:List D}{H:List Ob}{F:List D→Option (List T)}(hy:¬YB≤f)(hx:(hints f).ext=some F):aX P hints f ds H=(F ds).bind fun rs=>if aQ rs=true then none else some (rs,H):=
 dd fun r=>by
  rw[cx];constructor
  ·rintro⟨n,e⟩
   cases n with
   |zero=>cases e
   |succ n=>
    rw[aR,if_neg hy]at e
    simp only[hx]at e
    exact e
  ·intro e
   refine⟨1,?_⟩
   rw[aR,if_neg hy];simp only[hx];exact e
end
end Go.Am
