/- 'EtextReadsUptoCardSaid': the expression whose text anything is in any scope, or where and why it is none's, is what the document says. Condition: what is read is of bulk at most 1048576; the listed variables hold what the program's text lays them with (tied by the card). -/
import Derived.Test.YtngkjkmjoieecaaGreatDoorEr10
import Derived.Lib.ItoaMem
import Derived.Lib.ItoaLen
import Derived.Test.YtngkjkmjoieecaaGreatDoorCards
import Derived.Test.YtngkjkmjoieecaaGreatDoorTie
import Derived.Deep.DeepHandedRow
import Derived.Deep.DeepLaidRun
set_option linter.unusedSimpArgs false
set_option linter.unusedVariables false
namespace Go.Etx
open Go Go.Am Go.Proofs
set_option maxHeartbeats 4000000
set_option maxRecDepth 20000
def comm:List UInt8→List UInt8→Nat
 |a::x,b::y=>if a=b then comm x y+1 else 0
 |_,_=>0
def rd0(t:List UInt8)(s:GScope)(l:List Glex_Token):Rdr:=⟨l,(t.length:Int),s,0,0,0,[]⟩
def readK(t:List UInt8)(s:GScope)(l:List Glex_Token):Rdr:=(rdK (20 * l.length+9) (.level 1) (rd0 t s l)).getD (rd0 t s l)
def endK(r:Rdr):Rdr:=if r.e=0∧r.pos<r.l.length then r.fail 3 else r
def doneK(t:List UInt8)(s:GScope)(r:Rdr):List GNode×Int×Int:=
 if r.e≠0 then([],r.place,r.e)
 else if(kindK r.out s).2≠0 then([],0,(kindK r.out s).2)
 else if(textK r.out s).2≠0 then([],0,(textK r.out s).2)
 else if(textK r.out s).1=t then(r.out,0,0)else([],(comm (textK r.out s).1 t:Nat),13)
def parseK(t:List UInt8)(s:GScope):List GNode×Int×Int:=
 if(scanK t).2.2≠0 then([],(scanK t).2.1,(scanK t).2.2)else doneK t s (endK (readK t s (scanK t).1))
theorem scanK_ok(t:List UInt8):(scanK t).1.length≤t.length∧∀x∈(scanK t).1,Tr7.inR x.N=true:=by
 unfold scanK
 split
 ·exact⟨Nat.zero_le _,fun x hx=>(by cases hx)⟩
 ·exact scan_ok (t.length+1) (gap false t) [] (by omega) (gap_le false t) (Nat.zero_le _) fun x hx=>(by cases hx)
theorem read_eq(t:List UInt8)(s:GScope)(l:List Glex_Token):rdK (20 * l.length+9) (.level 1) (rd0 t s l)=some (readK t s l):=by
 obtain⟨r,h⟩:=rd_some (20 * l.length+9) (.level 1) (rd0 t s l) (md_level (by decide)) (Nat.zero_le _) (Nat.le_refl _)
 unfold readK
 rw[h];rfl
theorem comm_drop{a b:List UInt8}{i:Nat}(ha:i<a.length)(hb:i<b.length):comm (a.drop i) (b.drop i)=if a[i]=b[i]then comm (a.drop (i+1)) (b.drop (i+1))+1 else 0:=by
 rw[xW ha,xW hb];rfl
theorem comm_end{a b:List UInt8}{i:Nat}(h:¬(i<a.length∧i<b.length)):comm (a.drop i) (b.drop i)=0:=by
 by_cases ha:i<a.length
 ·rw[List.drop_eq_nil_of_le (show b.length≤i by omega)]
  cases a.drop i <;>rfl
 ·rw[List.drop_eq_nil_of_le (show a.length≤i by omega)]
  cases b.drop i <;>rfl
noncomputable section
variable{ρ:Type}
theorem parted_eq(a b:List UInt8)(hb:b.length<4611686018427387904)(g:Int→Option ρ):f_etext_parted a b g=g ((comm a b:Nat):Int):=by
 simp only[f_etext_parted,F_etext_parted,mkF]
 refine(iterC_is (fun v:Int=>∃i:Nat,v=i∧i≤a.length∧i≤b.length) (fun v=>g ((v.toNat+comm (a.drop v.toNat) (b.drop v.toNat):Nat):Int)) (fun v=>a.length - v.toNat) ?_ (v:=(0:Int)) ⟨0,rfl,Nat.zero_le _,Nat.zero_le _⟩).trans (by simp)
 rintro v k ⟨i,rfl,hi,hj⟩ hk
 simp only[xV]
 by_cases h1:i<a.length
 ·by_cases h2:i<b.length
  ·have i0:(0:Int)≤(i:Int):=by omega
   rw[if_pos (by omega),if_pos (by omega),comm_drop h1 h2]
   simp only[i0,if_true,xG h1,xG h2,xS]
   by_cases hq:a[i]=b[i]
   ·rw[if_pos (by rw[hq]),if_pos hq,wrapS (by omega),hk _ ⟨i+1,rfl,h1,h2⟩ (by rw[xV];omega),xV]
    rw[show i+1+comm (a.drop (i+1)) (b.drop (i+1))=i+(comm (a.drop (i+1)) (b.drop (i+1))+1)by omega]
   ·rw[if_neg (fun e=>hq (UInt8.toNat_inj.1 (by omega))),if_neg hq,Nat.add_zero]
  ·rw[if_pos (by omega),if_neg (by omega),comm_end (by omega),Nat.add_zero]
 ·rw[if_neg (by omega),comm_end (by omega),Nat.add_zero]
theorem opx_eq(t:List UInt8)(b:Int)(g:Int→Bool→Option ρ):f_etext_opOf t b g=match opK t b with |some o=>g o true |none=>g 0 false:=by
 simp only[f_etext_opOf,F_etext_opOf,mkF,signx_eq]
 have key:∀(n i:Nat),i+n=9→∀fuel,n<fuel→iterCN (fun(v:Int) k=>if v≤19 then(if decide (11≤v∧v≤19)=true then if sgnT v=t then if sgnB v=b then g v true else k (IntKind.i64.wrap (v+1))else k (IntKind.i64.wrap (v+1))else k (IntKind.i64.wrap (v+1)))else g 0 false) fuel ((11+i:Nat):Int)=match (([11,12,13,14,15,16,17,18,19]:List Int).drop i).find? fun o=>decide (sgnT o=t∧sgnB o=b)with |some o=>g o true |none=>g 0 false:=by
  intro n
  induction n with
  |zero=>
   intro i hi fuel hf
   obtain rfl:i=9:=by omega
   cases fuel with
   |zero=>omega
   |succ f=>rfl
  |succ n ih=>
   intro i hi fuel hf
   cases fuel with
   |zero=>omega
   |succ f=>
    have hl:i<([11,12,13,14,15,16,17,18,19]:List Int).length:=by show i<9;omega
    have he:([11,12,13,14,15,16,17,18,19]:List Int)[i]=((11+i:Nat):Int):=by
     have:∀j:Fin 9,([11,12,13,14,15,16,17,18,19]:List Int)[j.val]'(j.isLt)=((11+j.val:Nat):Int):=by decide
     exact this ⟨i,by omega⟩
    have ih:=ih (i+1) (by omega) f (by omega)
    rw[xW hl,List.find?_cons,he,iterCN]
    rw[if_pos (by omega),if_pos (decide_eq_true (by omega)),wrapS (by omega)]
    by_cases h1:sgnT ((11+i:Nat):Int)=t
    ·by_cases h2:sgnB ((11+i:Nat):Int)=b
     ·rw[if_pos h1,if_pos h2,decide_eq_true ⟨h1,h2⟩]
     ·rw[if_pos h1,if_neg h2,decide_eq_false (fun q=>h2 q.2)]
      exact ih
    ·rw[if_neg h1,decide_eq_false (fun q=>h1 q.1)]
     exact ih
 refine limE_eq 10 fun n hn=> ?_
 exact key 9 0 rfl n (by omega)
theorem lkC(s:GScope)(hs:Few s):LK 41 s (fun nm=>fidx (pC nm) s.Chans) ρ:=fun nm κ=>by
 simp -implicitDefEqProofs (maxSteps:=1000000) [go_sem,chanx_eq hs]
theorem lkP(s:GScope)(hs:Few s):LK 42 s (fun nm=>fidx (pP nm) s.Procs) ρ:=fun nm κ=>by
 simp -implicitDefEqProofs (maxSteps:=1000000) [go_sem,procx_eq hs]
theorem lkS(s:GScope)(hs:Few s):LK 43 s (fun nm=>fidx (pS nm) s.Scalars) ρ:=fun nm κ=>by
 simp -implicitDefEqProofs (maxSteps:=1000000) [go_sem,scalx_eq hs]
theorem fidx_cases{α:Type}(p:α→Bool)(l:List α):0≤fidx p l∨fidx p l=-1:=by
 unfold fidx
 split
 ·exact .inl (by omega)
 ·exact .inr rfl
theorem lkT(s:GScope)(hs:Few s)(nm:List UInt8)(κ:KT ρ):cbK (call 40 [.str nm,.agg [.sl false (List.map eScalar s.Scalars),.sl false (List.map eVar s.Vars),.sl false (List.map eChan s.Chans),.sl false (List.map (eProc false) s.Procs),.sl false (List.map eVar s.Locals),.int .i64 s.Self]] []) κ=κ ([.d (.int .i64 (standsK s nm).1),.d (.int .i64 (standsK s nm).2)],[]):=by
 have h:∀g:Int→Int→Option ρ,f_etext_stands nm s g=g (standsK s nm).1 (standsK s nm).2:=fun g=>by
  rw[standsx_eq hs]
  unfold standsK
  rcases fidx_cases (pV nm) s.Locals with h1 |h1
  ·rw[if_neg (show¬fidx (pV nm) s.Locals<0 by omega),if_pos h1]
  ·rw[if_pos (show fidx (pV nm) s.Locals<0 by omega),if_neg (show¬0≤fidx (pV nm) s.Locals by omega)]
   rcases fidx_cases (pV nm) s.Vars with h2 |h2
   ·rw[if_neg (show¬fidx (pV nm) s.Vars<0 by omega),if_pos h2]
   ·rw[if_pos (show fidx (pV nm) s.Vars<0 by omega),if_neg (show¬0≤fidx (pV nm) s.Vars by omega)]
 simp -implicitDefEqProofs (maxSteps:=1000000) [go_sem,h]
theorem lkO:OpW ρ:=fun t b κ=>by
 simp -implicitDefEqProofs (maxSteps:=1000000) [go_sem,opx_eq]
 all_goals (cases opK t b <;>rfl)
theorem whole_eq{n:Nat}{r r':Rdr}(h:rdK n (.level 1) r=some r')(ok:Ok r)(κ:KT ρ):cbK (call 16 [.ptr 0] [.box (rdT r)]) κ=κ ([],[.box (rdT r')]):=
 whole_w (((all_w (ρ:=ρ) lkC lkP lkS lkT lkO n n (Nat.le_refl _)).2.2.2) 1 (by decide) (by decide)) r r' h (fun q=>by cases q) ok [] (fun _ _=>rfl) κ
theorem Parse_eq(t:List UInt8)(s:GScope)(hs:Few s)(ht:t.length≤100000)(κ:KT ρ):
  cbK (call 8 [.str t,.agg [.sl false (List.map eScalar s.Scalars),.sl false (List.map eVar s.Vars),.sl false (List.map eChan s.Chans),.sl false (List.map (eProc false) s.Procs),.sl false (List.map eVar s.Locals),.int .i64 s.Self]] []) κ=κ ([.d (.sl false (List.map eNode (parseK t s).1)),.d (.int .i64 (parseK t s).2.1),.d (.int .i64 (parseK t s).2.2)],[]):=by
 refine(ge8 _ _ _ rfl).trans ?_
 have hsc:=fun κ=>scan_w (ρ:=ρ) t (by omega) κ
 unfold parseK
 by_cases h0:(scanK t).2.2=0
 ·rw[if_neg (by simp[h0])]
  have h0:=tt h0
  generalize hr:readK t s (scanK t).1=r
  have hread:=read_eq t s (scanK t).1
  rw[hr]at hread
  have ok0:Ok (rd0 t s (scanK t).1):=⟨Nat.zero_le _,Nat.le_refl _,by have:=(scanK_ok t).1;show(scanK t).1.length< _;omega,hs⟩
  have hw:∀κ:KT ρ,cbK (call 16 [.ptr 0] [.box (.agg [.d (.sl false (List.map elex_Token (scanK t).1)),.d (.int .i64 (t.length:Int)),.d (.sl false (List.map eScalar s.Scalars)),.d (.sl false (List.map eVar s.Vars)),.d (.sl false (List.map eChan s.Chans)),.d (.sl false (List.map (eProc false) s.Procs)),.d (.sl false (List.map eVar s.Locals)),.d (.int .i64 s.Self),
   .d (.int .i64 0),.d (.int .i64 0),.d (.int .i64 0),.own []])]) κ=κ ([],[.box (rdT r)]):=fun κ=>whole_eq (ρ:=ρ) hread ok0 κ
  have le:=rdk_le (fun q=>by cases q) hread
  have el:r.l=(scanK t).1:=le.l
  have es:r.s=s:=le.s
  have hlen:=(scanK_ok t).1
  have hpos:r.pos≤t.length:=by have:=le.len (Nat.zero_le _);have e:(rd0 t s (scanK t).1).l=(scanK t).1:=rfl;rw[e]at this;omega
  have hf:=fun x M κ=>fail_w (ρ:=ρ) r (by omega) x M κ
  have hN:InN r.out:=rd_in (md_level (by decide)) hread hs (scanK_ok t).2 (fun x hx=>by cases hx)
  have hN':∀x∈r.out,x.N≤9223372036854775807:=fun x hx=>by
   have:=hN x hx
   simp only[Tr7.inR,xA,yD]at this
   exact this.2
  unfold endK
  by_cases e0:r.e=0
  ·by_cases hp:r.pos<(scanK t).1.length
   ·have hq:r.e=0∧r.pos<r.l.length:=⟨e0,by rw[el];exact hp⟩
    have f1:(r.fail 3).e=3:=by unfold Rdr.fail;rw[if_pos e0]
    rw[if_pos hq]
    unfold doneK
    rw[if_pos (by rw[f1];decide)]
    have e0:=tt e0
    have f2:((r.fail 3).e=0)=False:=ff (by rw[f1];decide)
    simp -implicitDefEqProofs (maxSteps:=1000000) [go_sem,hsc,h0,hw,e0,hp,hf,f2,-List.map_append,-List.map_take,-List.map_drop,-List.map_set]
   ·have hq:¬(r.e=0∧r.pos<r.l.length):=fun q=>hp (by rw[←el];exact q.2)
    rw[if_neg hq]
    unfold doneK
    rw[if_neg (by simp[e0])]
    have hk:=fun β κ=>Kind_eq (ρ:=ρ) β r.out s hs.sc hN' κ
    have ht2:=fun β κ=>Text_eq (ρ:=ρ) β r.out s hs hN κ
    have e0:=tt e0
    by_cases k0:(kindK r.out s).2=0
    ·rw[if_neg (by simp[k0])]
     have k0:=tt k0
     by_cases t0:(textK r.out s).2=0
     ·rw[if_neg (by simp[t0])]
      have t0:=tt t0
      by_cases u0:(textK r.out s).1=t
      ·rw[if_pos u0]
       have u0:=tt u0
       simp -implicitDefEqProofs (maxSteps:=1000000) [go_sem,hsc,h0,hw,e0,hp,hk,k0,ht2,t0,u0,-List.map_append,-List.map_take,-List.map_drop,-List.map_set]
      ·rw[if_neg u0]
       have u0:=ff u0
       have hpt:=fun g=>parted_eq (ρ:=ρ) (textK r.out s).1 t (by omega) g
       simp -implicitDefEqProofs (maxSteps:=1000000) [go_sem,hsc,h0,hw,e0,hp,hk,k0,ht2,t0,u0,hpt,-List.map_append,-List.map_take,-List.map_drop,-List.map_set]
     ·rw[if_pos (by simpa using t0)]
      have t0:=ff t0
      simp -implicitDefEqProofs (maxSteps:=1000000) [go_sem,hsc,h0,hw,e0,hp,hk,k0,ht2,t0,-List.map_append,-List.map_take,-List.map_drop,-List.map_set]
    ·rw[if_pos (by simpa using k0)]
     have k0:=ff k0
     simp -implicitDefEqProofs (maxSteps:=1000000) [go_sem,hsc,h0,hw,e0,hp,hk,k0,-List.map_append,-List.map_take,-List.map_drop,-List.map_set]
  ·rw[if_neg (fun q=>e0 q.1)]
   unfold doneK
   rw[if_pos e0]
   have e0:=ff e0
   simp -implicitDefEqProofs (maxSteps:=1000000) [go_sem,hsc,h0,hw,e0,-List.map_append,-List.map_take,-List.map_drop,-List.map_set]
 ·rw[if_pos (by simpa using h0)]
  have h0:=ff h0
  simp -implicitDefEqProofs (maxSteps:=1000000) [go_sem,hsc,h0,-List.map_append,-List.map_take,-List.map_drop,-List.map_set]
end
end Go.Etx
namespace Go.Etx
open Go Go.Am Go.Proofs
def Rdr.pre(o:List GNode)(r:Rdr):Rdr:={r with out:=o++r.out}
section
variable(o:List GNode)(r:Rdr)
theorem pre_now:(r.pre o).now=r.now:=rfl
theorem pre_e:(r.pre o).e=r.e:=rfl
theorem pre_s:(r.pre o).s=r.s:=rfl
theorem pre_is(k:Int)(t:List UInt8):(r.pre o).is k t=r.is k t:=rfl
theorem pre_step:(r.pre o).step=r.step.pre o:=rfl
theorem pre_fail(x:Int):(r.pre o).fail x=(r.fail x).pre o:=by
 unfold Rdr.fail
 rw[pre_e]
 split <;>rfl
theorem pre_take(t:List UInt8):(r.pre o).take t=(r.take t).pre o:=by
 unfold Rdr.take
 rw[pre_is]
 split
 ·rfl
 ·exact pre_fail o r 3
theorem pre_put(op n:Int):(r.pre o).put op n=(r.put op n).pre o:=by
 unfold Rdr.put
 rw[pre_e]
 split
 ·simp[Rdr.pre,xK]
 ·rfl
theorem pre_kind(k:Int):(r.pre o).kind k=((r.kind k).1,(r.kind k).2.pre o):=by
 unfold Rdr.kind
 rw[pre_e,pre_now]
 split
 ·rfl
 ·exact congrArg (Prod.mk _) (pre_fail o r 3)
theorem pre_found(lk:List UInt8→Int):(r.pre o).found lk=((r.found lk).1,(r.found lk).2.pre o):=by
 unfold Rdr.found
 rw[pre_e,pre_now]
 split
 ·split
  ·exact congrArg (Prod.mk _) (pre_fail o r 8)
  ·rfl
 ·exact congrArg (Prod.mk _) (pre_fail o r 3)
theorem pre_wide:(r.pre o).wide=r.wide.pre o:=by
 unfold Rdr.wide
 rw[pre_e,pre_now]
 split
 ·exact pre_fail o r 10
 ·rfl
theorem pre_length:(r.pre o).length=r.length.pre o:=by
 unfold Rdr.length
 simp only[pre_take,pre_found,pre_put,pre_s]
theorem pre_nothing:(r.pre o).nothing=r.nothing.pre o:=by
 unfold Rdr.nothing
 simp only[pre_take,pre_found,pre_put,pre_s]
theorem pre_where:(r.pre o).whereR=r.whereR.pre o:=by
 unfold Rdr.whereR Rdr.whereA Rdr.whereI
 simp only[pre_take,pre_found,pre_put,pre_s,pre_wide,pre_kind]
end
theorem rd_pre(o:List GNode):∀(n:Nat) (md:Md) (r:Rdr),rdK n md (r.pre o)=(rdK n md r).map (Rdr.pre o)
 |0,_,_=>rfl
 |n+1,.level b,r=>by
  rw[rdK,rdK]
  by_cases h6:b=6
  ·rw[if_pos h6,if_pos h6];exact rd_pre o n _ r
  rw[if_neg h6,if_neg h6]
  by_cases h7:b=7
  ·rw[if_pos h7,if_pos h7];exact rd_pre o n _ r
  rw[if_neg h7,if_neg h7,rd_pre o n _ r]
  cases rdK n (.level (b+1)) r with
  |none=>rfl
  |some r1=>exact rd_pre o n _ r1
 |n+1,.rest b,r=>by
  rw[rdK,rdK,pre_now,pre_step]
  by_cases h0:r.e=0
  ·rw[if_pos h0,if_pos (show(r.pre o).e=0 from h0)]
   cases opK r.now.Text b with
   |none=>rfl
   |some op=>
    simp only
    by_cases h1:r.now.Kind=3
    ·rw[if_pos h1,if_pos h1,rd_pre o n _ r.step]
     cases rdK n (.level (b+1)) r.step with
     |none=>rfl
     |some r1=>
      simp only[xQ,xS,pre_put]
      by_cases h3:b=3
      ·rw[if_pos h3,if_pos h3];rfl
      ·rw[if_neg h3,if_neg h3];exact rd_pre o n _ _
    ·rw[if_neg h1,if_neg h1];rfl
  ·rw[if_neg h0,if_neg (show¬(r.pre o).e=0 from h0)];rfl
 |n+1,.strong,r=>by
  rw[rdK,rdK,pre_is,pre_is,pre_step,pre_now,pre_step]
  by_cases h1:r.is 3 [33]=true
  ·rw[if_pos h1,if_pos h1,rd_pre o n _ r.step]
   cases rdK n .strong r.step with
   |none=>rfl
   |some r1=>exact congrArg some (pre_put o r1 9 0)
  rw[if_neg h1,if_neg h1]
  by_cases h2:r.is 3 [45]=true
  ·rw[if_pos h2,if_pos h2]
   by_cases h3:r.step.now.Kind=2
   ·rw[if_pos h3,if_pos h3];exact congrArg some (pre_put o _ _ _)
   ·rw[if_neg h3,if_neg h3,rd_pre o n _ r.step]
    cases rdK n .strong r.step with
    |none=>rfl
    |some r1=>exact congrArg some (pre_put o r1 10 0)
  ·rw[if_neg h2,if_neg h2];exact rd_pre o n _ r
 |n+1,.leaf,r=>by
  rw[rdK,rdK,pre_is,pre_step,pre_now]
  by_cases h0:r.e=0
  ·rw[if_pos h0,if_pos (show(r.pre o).e=0 from h0)]
   by_cases h1:r.now.Kind=2
   ·rw[if_pos h1,if_pos h1];exact congrArg some (pre_put o _ _ _)
   rw[if_neg h1,if_neg h1]
   by_cases h2:r.is 3 [40]=true
   ·rw[if_pos h2,if_pos h2,rd_pre o n _ r.step]
    cases rdK n (.level 1) r.step with
    |none=>rfl
    |some r1=>exact congrArg some (pre_take o r1 _)
   rw[if_neg h2,if_neg h2]
   by_cases h3:r.now.Kind=1
   ·rw[if_pos h3,if_pos h3];exact rd_pre o n _ r
   ·rw[if_neg h3,if_neg h3];exact congrArg some (pre_fail o r 3)
  ·rw[if_neg h0,if_neg (show¬(r.pre o).e=0 from h0)];rfl
 |n+1,.word,r=>by
  rw[rdK,rdK,pre_now,pre_step,pre_s,pre_is,pre_step]
  by_cases h1:r.now.Text=[115,101,108,102]
  ·rw[if_pos h1,if_pos h1];exact congrArg some (pre_put o _ _ _)
  rw[if_neg h1,if_neg h1]
  by_cases h2:r.now.Text=[108,101,110]
  ·rw[if_pos h2,if_pos h2];exact congrArg some (pre_length o _)
  rw[if_neg h2,if_neg h2]
  by_cases h3:r.now.Text=[97,116]
  ·rw[if_pos h3,if_pos h3];exact congrArg some (pre_where o _)
  rw[if_neg h3,if_neg h3]
  by_cases h4:r.now.Text=[110,111,110,101]
  ·rw[if_pos h4,if_pos h4];exact congrArg some (pre_nothing o _)
  rw[if_neg h4,if_neg h4]
  by_cases h5:(standsK r.s r.now.Text).1=0
  ·rw[if_pos h5,if_pos h5];exact congrArg some (pre_fail o r 8)
  rw[if_neg h5,if_neg h5]
  by_cases h6:(standsK r.s r.now.Text).1=2∧r.step.is 3 [91]=true
  ·rw[if_pos h6,if_pos h6,rd_pre o n _ r.step.step]
   cases rdK n (.level 1) r.step.step with
   |none=>rfl
   |some r1=>
    simp only[xQ]
    rw[pre_take,pre_put]
  ·rw[if_neg h6,if_neg h6];exact congrArg some (pre_put o _ _ _)
structure Bad(r r':Rdr):Prop where
 e:r'.e=r.e
 p:r'.place=r.place
theorem Bad.refl(r:Rdr):Bad r r:=⟨rfl,rfl⟩
theorem Bad.trans{a b c:Rdr}(h:Bad a b)(k:Bad b c):Bad a c:=⟨k.e.trans h.e,k.p.trans h.p⟩
section
variable{r:Rdr}
theorem bad_fail(h:r.e≠0)(x:Int):Bad r (r.fail x):=by unfold Rdr.fail;rw[if_neg h];exact Bad.refl r
theorem bad_is(h:r.e≠0)(k:Int)(t:List UInt8):r.is k t=false:=by unfold Rdr.is;rw[decide_eq_false h];rfl
theorem bad_take(h:r.e≠0)(t:List UInt8):Bad r (r.take t):=by unfold Rdr.take;rw[bad_is h,if_neg (by decide)];exact bad_fail h 3
theorem bad_put(h:r.e≠0)(op n:Int):Bad r (r.put op n):=by unfold Rdr.put;rw[if_neg h];exact Bad.refl r
theorem bad_kind(h:r.e≠0)(k:Int):Bad r (r.kind k).2:=by unfold Rdr.kind;rw[if_neg (fun q=>h q.1)];exact bad_fail h 3
theorem bad_found(h:r.e≠0)(lk:List UInt8→Int):Bad r (r.found lk).2:=by unfold Rdr.found;rw[if_neg (fun q=>h q.1)];exact bad_fail h 3
theorem bad_wide(h:r.e≠0):Bad r r.wide:=by unfold Rdr.wide;rw[if_neg (fun q=>h q.1)];exact Bad.refl r
end
theorem Bad.ne{r r':Rdr}(h:Bad r r')(k:r.e≠0):r'.e≠0:=by rw[h.e];exact k
def TokOk(t:Glex_Token):Prop:=t.Kind=3∨(t.Text≠[]∧∀b∈t.Text,pt b=true)
theorem tok_sign{t:Glex_Token}{c:UInt8}(h:TokOk t)(e:t.Text=[c])(hc:pt c=false):t.Kind=3:=by
 rcases h with h |⟨_,h⟩
 ·exact h
 ·have:=h c (by rw[e];exact List.mem_singleton.2 rfl)
  rw[hc]at this;cases this
theorem take_mem{q:UInt8→Bool}{s:List UInt8}:∀b∈s.take (twl q s),q b=true:=by
 have h:s.take (twl q s)=s.takeWhile q:=by
  have h1:=List.takeWhile_prefix (p:=q) (l:=s)
  exact(List.prefix_iff_eq_take.1 h1).symm
 rw[h]
 exact fun b hb=>List.all_eq_true.1 (List.all_takeWhile (p:=q) (l:=s)) b hb
theorem one_tok{s:List UInt8}(h:(oneK s).1=0):(oneK s).2.Kind=3∨((oneK s).2.Text≠[]∧∀b∈(oneK s).2.Text,pt b=true):=by
 have hne:=(one_ok h).1
 have hne':(oneK s).2.Text≠[]:=fun e=>by rw[e]at hne;simp at hne
 unfold oneK at h hne' ⊢
 split at h
 ·rename_i c
  rw[if_pos c]at hne' ⊢
  split at h
  ·cases h
  ·rename_i c2
   rw[if_neg c2]at hne' ⊢
   exact .inr ⟨hne',take_mem⟩
 ·rename_i c
  rw[if_neg c]at hne' ⊢
  split at h
  ·rename_i c2
   rw[if_pos c2]at hne' ⊢
   split at h
   ·rename_i c3
    rw[if_pos c3]at hne' ⊢
    exact .inr ⟨hne',fun b hb=>by have:=take_mem (q:=dg) b hb;simp only[pt,partB,Bool.or_eq_true];exact .inl (.inr this)⟩
   ·cases h
  ·rename_i c2
   rw[if_neg c2]at hne' ⊢
   split at h
   ·exact .inl rfl
   ·cases h
theorem scan_tok{s:List UInt8}:∀(n p:Nat) (out:List Glex_Token),(∀x∈out,TokOk x)→∀x∈(scanL n s p out).1,TokOk x
 |0,p,out,_=>fun x hx=>by cases hx
 |n+1,p,out,ho=>by
  rw[scanL]
  split
  ·split
   ·exact fun x hx=>by cases hx
   split
   ·rename_i h1
    refine scan_tok n _ _ fun x hx=> ?_
    rcases List.mem_append.1 hx with q |q
    ·exact ho x q
    ·rw[yQ]at q;subst q;exact one_tok h1
   ·exact fun x hx=>by cases hx
  ·exact ho
theorem scanK_tok(t:List UInt8):∀x∈(scanK t).1,TokOk x:=by
 unfold scanK
 split
 ·exact fun x hx=>by cases hx
 ·exact scan_tok _ _ [] fun x hx=>by cases hx
end Go.Etx
namespace Go.Etx
open Go Go.Am Go.Proofs
set_option maxHeartbeats 4000000
set_option maxRecDepth 20000
section
variable{ρ:Type}
theorem span_iter{q:UInt8→Bool}{s:List UInt8}(hs:s.length<4611686018427387904){Φ:Int→(Int→Option ρ)→Option ρ}(B:Nat→Option ρ)
  (ht:∀(i:Nat) k (h:i<s.length),Φ (i:Int) k=if q s[i]=true then k ((i+1:Nat):Int)else B i) (he:∀k,Φ (s.length:Int) k=B s.length) (p:Nat) (hp:p≤s.length):
  iterC Φ ((p:Nat):Int)=B (p+twl q (s.drop p)):=by
 refine(iterC_is (fun v:Int=>∃i:Nat,v=i∧i≤s.length) (fun v=>B (v.toNat+twl q (s.drop v.toNat))) (fun v=>s.length - v.toNat) ?_ (v:=((p:Nat):Int)) ⟨p,rfl,hp⟩).trans (by rw[xV])
 rintro v k ⟨i,rfl,hi⟩ hk
 simp only[xV]
 by_cases hlt:i<s.length
 ·rw[ht i k hlt]
  cases hb:q s[i]with
  |true=>
   rw[if_pos rfl,hk _ ⟨i+1,rfl,hlt⟩ (by rw[xV];omega),xV]
   have e:=twl_ext (q:=q) (s:=s) 1 i (fun j a b=>(by obtain rfl:j=i:=(by omega);exact⟨hlt,hb⟩))
   rw[e,Nat.add_assoc]
  |false=>rw[if_neg (by simp),twl_stop hlt hb,Nat.add_zero]
 ·obtain rfl:i=s.length:=by omega
  have e:twl q (s.drop s.length)=0:=by rw[List.drop_length];rfl
  rw[he,e,Nat.add_zero]
theorem find_cast{α:Type}(l:List α)(N:Nat)(hN:N=l.length)(p:α→Bool)(A:α→Option ρ)(fin:Option ρ):
  ((List.range N).findSome? fun i=>match l[i]? with |some x=>if p x=true then some (A x)else none |none=>none).getD fin=match l.find? p with |some x=>A x |none=>fin:=by
 subst hN
 have key:∀(l:List α) (k:Nat) (m:List α),m.drop k=l→((List.range' k l.length).findSome? fun i=>match m[i]? with |some x=>if p x=true then some (A x)else none |none=>none).getD fin=match l.find? p with |some x=>A x |none=>fin:=by
  intro l
  induction l with
  |nil=>intro k m _;rfl
  |cons a l ih=>
   intro k m h
   have hk:m[k]? =some a:=by
    have:=congrArg (fun x:List α=>x[0]?) h
    simpa using this
   have hd:m.drop (k+1)=l:=by
    have:=congrArg List.tail h
    simpa using this
   rw[xZ,List.range'_succ,List.findSome?_cons,hk,List.find?_cons]
   cases hp:p a with
   |true=>simp[hp]
   |false=>simp only[hp,xH,if_false];exact ih (k+1) m hd
 rw[List.range_eq_range']
 exact key l 0 l rfl
theorem begins_all{s:List UInt8}(hs:s.length<4611686018427387904){p:Nat}(hp:p<s.length){g:Int→Int→Option ρ}:
  f_r09_begins s p g=if letB (bI s[p])=true then g ((twl pt (s.drop p):Nat):Int) 1 else if digB (bI s[p])=true then g ((twl dg (s.drop p):Nat):Int) 2 else match sgL.find? (fun x=>x.isPrefixOf (s.drop p))with |some x=>g (x.length:Int) 3 |none=>g 0 0:=by
 simp only[f_r09_begins,F_r09_begins,mkF,letr_eq,digr_eq,f_r09_signs,F_r09_signs]
 have hget:s[p]? =some s[p]:=xG hp
 have i0:(0:Int)≤(p:Int):=by omega
 have i1:(p:Int)<(s.length:Int):=by omega
 simp only[i0,i1,if_true,xV,hget,xS]
 rw[show((s[p].toNat:Nat):Int)=bI s[p]from rfl,wrapS (by omega)]
 have e1:∀q:UInt8→Bool,q s[p]=true→twl q (s.drop p)=1+twl q (s.drop (p+1)):=fun q h=>twl_ext (q:=q) (s:=s) 1 p (fun j a b=>(by obtain rfl:j=p:=(by omega);exact⟨hp,h⟩))
 have wd:∀i:Nat,p≤i→i≤s.length→IntKind.i64.wrap ((i:Int) - (p:Int))=((i - p:Nat):Int):=fun i h1 h2=>by rw[wrap_i64 (by omega) (by omega)];omega
 cases hl:letB (bI s[p])with
 |true=>
  have hpt:pt s[p]=true:=by simp[pt,partB,hl]
  simp only[if_true]
  rw[span_iter (q:=pt) hs (fun i=>g (IntKind.i64.wrap ((i:Int) - (p:Int))) 1) (fun i k h=> ?_) (fun k=>by rw[if_neg (by omega)]) (p+1) (by omega)]
  ·have le:=twl_le pt (s.drop (p+1))
   rw[List.length_drop]at le
   rw[wd _ (by omega) (by omega),e1 pt hpt,show p+1+twl pt (s.drop (p+1)) - p=1+twl pt (s.drop (p+1))by omega]
  ·have j0:(0:Int)≤(i:Int):=by omega
   rw[if_pos (by omega)]
   simp only[j0,if_true,xV,xG h,xS,wrapS (show i<4611686018427387904 by omega),pt,partB]
   rw[show((s[i].toNat:Nat):Int)=bI s[i]from rfl]
   by_cases h1:letB (bI s[i])=true <;>by_cases h2:digB (bI s[i])=true <;>by_cases h95:bI s[i]=95 <;>simp[h1,h2,h95]
 |false=>
  simp only[xH,if_false]
  cases hd:digB (bI s[p])with
  |true=>
   simp only[if_true]
   rw[span_iter (q:=dg) hs (fun i=>g (IntKind.i64.wrap ((i:Int) - (p:Int))) 2) (fun i k h=> ?_) (fun k=>by rw[if_neg (by omega)]) (p+1) (by omega)]
   ·have le:=twl_le dg (s.drop (p+1))
    rw[List.length_drop]at le
    rw[wd _ (by omega) (by omega),e1 dg hd,show p+1+twl dg (s.drop (p+1)) - p=1+twl dg (s.drop (p+1))by omega]
   ·have j0:(0:Int)≤(i:Int):=by omega
    rw[if_pos (by omega)]
    simp only[j0,if_true,xV,xG h,xS,wrapS (show i<4611686018427387904 by omega)]
    rfl
  |false=>
   simp only[xH,if_false]
   refine Eq.trans ?_ ((find_cast sgL 25 rfl (fun x=>x.isPrefixOf (s.drop p)) (fun x=>g (x.length:Int) 3) (g 0 0)).trans (by cases sgL.find? fun x=>x.isPrefixOf (s.drop p) <;>rfl))
   refine iterC_find 25 (fun i:Nat=>(i:Int)) _ (g 0 0) (fun i k hi=> ?_) (fun k=>by rw[if_neg (by omega)])
   have hl:i<sgL.length:=hi
   have hx:=sgL_ne (List.getElem_mem hl)
   generalize hxx:sgL[i]=x at hx
   have j0:(0:Int)≤(i:Int):=by omega
   have w1:IntKind.i64.wrap ((s.length:Int) - (p:Int))=((s.length - p:Nat):Int):=by rw[wrap_i64 (by omega) (by omega)];omega
   have w2:IntKind.i64.wrap ((p:Int)+(x.length:Int))=((p+x.length:Nat):Int):=by rw[wrap_i64 (by omega) (by omega)];omega
   rw[if_pos (show(i:Int)<25 by omega)]
   simp only[j0,if_true,xV,xG hl,hxx,xS,wrapS (show i<4611686018427387904 by omega),w1,w2]
   by_cases hle:x.length≤s.length - p
   ·rw[if_pos (by omega),if_pos (by omega),if_pos (by omega)]
    rw[show p+x.length - p=x.length by omega]
    have hpe:=pre_eq (s:=s.drop p) (x:=x) (by rw[List.length_drop];exact hle)
    by_cases hq:(s.drop p).take x.length=x
    ·rw[if_pos hq,if_pos (hpe.mp hq)]
    ·rw[if_neg hq,if_neg (fun h=>hq (hpe.mpr h))]
   ·have hq:x.isPrefixOf (s.drop p)=false:=by
     cases hq:x.isPrefixOf (s.drop p)with
     |true=>exact absurd (List.isPrefixOf_iff_prefix.1 hq).length_le (by rw[List.length_drop];exact hle)
     |false=>rfl
    rw[if_neg (by omega),hq]
    rfl
end
end Go.Etx
namespace Go.Etx.Nm
open Go Go.Am Go.Tr7 Go.Etx
open Go.Lib (decDigits itoa indexByte countByte atoiAll parseUint10 parseMag)
theorem dd_small{u:Nat}(h:u<10):decDigits u=[UInt8.ofNat (48+u)]:=by rw[decDigits,dif_pos h]
theorem dd_big{u:Nat}(h:¬u<10):decDigits u=decDigits (u / 10)++[UInt8.ofNat (48+u % 10)]:=by rw[decDigits,dif_neg h]
theorem dig{k:Nat}(h:k<10):(UInt8.ofNat (48+k)).toNat=48+k:=by rw[UInt8.toNat_ofNat'];omega
theorem dd_ne(u:Nat):decDigits u≠[]:=by
 by_cases h:u<10
 ·rw[dd_small h];simp
 ·rw[dd_big h];simp
theorem dd_mem(u:Nat):∀x∈decDigits u,48≤x.toNat∧x.toNat≤57:=by
 induction u using Nat.strongRecOn with
 |ind u ih=>
  by_cases h:u<10
  ·rw[dd_small h]
   intro x hx
   rw[yQ]at hx
   subst hx
   rw[dig h];omega
  ·rw[dd_big h]
   intro x hx
   rw[xD,yQ]at hx
   rcases hx with hx |rfl
   ·exact ih _ (by omega) x hx
   ·rw[dig (by omega)];omega
theorem parse_app{m:List UInt8}:∀(l:List UInt8) (acc a:Nat),parseUint10 acc l=.ok a→parseUint10 acc (l++m)=parseUint10 a m
 | [],acc,a,h=>by
  simp only[parseUint10]at h
  injection h with h
  subst h;rfl
 |c::r,acc,a,h=>by
  simp only[parseUint10,List.cons_append]at h ⊢
  split at h
  ·rename_i h1
   split at h
   ·cases h
   ·rename_i h2
    split at h
    ·cases h
    ·rename_i h3
     rw[if_pos h1,if_neg h2,if_neg h3]
     exact parse_app r _ a h
  ·cases h
theorem parse_dd(u:Nat)(hu:u≤9223372036854775808):parseUint10 0 (decDigits u)=.ok u:=by
 induction u using Nat.strongRecOn with
 |ind u ih=>
  by_cases h:u<10
  ·rw[dd_small h]
   simp only[parseUint10]
   rw[dig h,if_pos (by omega),if_neg (by omega),if_neg (by omega)]
   congr 1;omega
  ·rw[dd_big h,parse_app _ 0 (u / 10) (ih _ (by omega) (by omega))]
   simp only[parseUint10]
   rw[dig (by omega),if_pos (by omega),if_neg (by omega),if_neg (by omega)]
   congr 1;omega
theorem mag_dd(u:Nat)(hu:u≤9223372036854775808):parseMag (decDigits u)=.ok u:=by
 unfold parseMag
 rw[if_neg (dd_ne u),parse_dd u hu]
theorem atoi_itoa(n:Int)(h0:-9223372036854775808≤n)(h1:n≤9223372036854775807):atoiAll (itoa n)=.ok n:=by
 unfold itoa
 by_cases hn:n<0
 ·rw[if_pos hn]
  simp only[atoiAll]
  simp only[show(45:UInt8).toNat=45 from rfl]
  rw[if_pos (.inr trivial),mag_dd _ (by omega)]
  simp only[not_true_eq_false,false_and,if_false,true_and,if_true]
  rw[if_neg (by omega)]
  congr 1;omega
 ·rw[if_neg hn]
  have hm:=dd_mem n.toNat
  have hp:=mag_dd n.toNat (by omega)
  revert hm hp
  generalize hl:decDigits n.toNat=l
  intro hm hp
  cases l with
  |nil=>exact absurd hl (dd_ne _)
  |cons c r=>
   have hc:=hm c (by simp)
   simp only[atoiAll]
   rw[if_neg (by omega),hp]
   simp only
   rw[if_neg (by omega),if_neg (by omega),if_neg (by omega)]
   congr 1;omega
theorem inB_inR{n:Int}(h:Tr7.inB n=true):inR n=true:=by
 have:=of_decide_eq_true h
 simp only[inR,xA,yD];omega
theorem numF_dec{n:Int}(h:inR n=true):numF (decI n)=if Tr7.inB n=true then(n,true)else(0,false):=by
 have h':=h
 simp only[inR,xA,yD]at h'
 unfold numF
 rw[decI_eq h,atoi_itoa n h'.1 h'.2]
 simp only[decI_eq h,decide_true,Bool.and_true]
theorem numF_cases(s:List UInt8):(∃v,numF s=(v,true)∧decI v=s∧Tr7.inB v=true)∨numF s=(0,false):=by
 unfold numF
 cases atoiAll s with
 |ok v=>
  simp only
  by_cases h:(Tr7.inB v&&decide (decI v=s))=true
  ·rw[if_pos h]
   simp only[xA,yD]at h
   exact .inl ⟨v,rfl,h.2,h.1⟩
  ·rw[if_neg h];exact .inr rfl
 |_=>exact .inr rfl
theorem u8_mod(n:Int):IntKind.u8.wrap n=n % 256:=by
 rw[IntKind.wrap];simp[IntKind.signed,IntKind.bits]
section
variable{ρ:Type}
theorem within_eq(n:Int)(κ:Bool→Option ρ):f_r01_within n κ=κ (Tr7.inB n):=by
 simp only[f_r01_within,F_r01_within,mkF,Tr7.inB]
 by_cases h:-1048576≤n
 ·rw[if_pos h];simp[h]
 ·rw[if_neg h];simp[h]
def nst(p:Nat×Nat)(x:UInt8):Nat×Nat:=if 48≤x.toNat∧x.toNat≤57∧p.2<8 then(p.1 * 10+(x.toNat - 48),p.2+1)else p
theorem nst_bound(l:List UInt8):(l.foldl nst (0,0)).1<10 ^ (l.foldl nst (0,0)).2∧(l.foldl nst (0,0)).2≤8:=by
 refine snoc_ind (P:=fun l=>(l.foldl nst (0,0)).1<10 ^ (l.foldl nst (0,0)).2∧(l.foldl nst (0,0)).2≤8) (by simp) (fun l x ih=> ?_) l
 rw[List.foldl_append,List.foldl_cons,List.foldl_nil]
 revert ih
 generalize l.foldl nst (0,0)=p
 rintro⟨h1,h2⟩
 unfold nst
 split
 ·rename_i h
  simp only
  rw[Nat.pow_succ]
  omega
 ·exact⟨h1,h2⟩
theorem nst_dd:∀(k u:Nat),k≤7→u<10 ^ (k+1)→∃d,d≤k+1∧(decDigits u).foldl nst (0,0)=(u,d)
 |0,u,_,h=>by
  rw[dd_small (by simpa using h)]
  refine⟨1,by omega,?_⟩
  have h':u<10:=by simpa using h
  rw[List.foldl_cons,List.foldl_nil,nst,dig h',if_pos (by omega)]
  simp
 |k+1,u,hk,h=>by
  by_cases hu:u<10
  ·obtain⟨d,h1,h2⟩:=nst_dd 0 u (by omega) (by simpa using hu)
   exact⟨d,by omega,h2⟩
  ·rw[Nat.pow_succ]at h
   obtain⟨d,h1,h2⟩:=nst_dd k (u / 10) (by omega) (by omega)
   refine⟨d+1,by omega,?_⟩
   rw[dd_big hu,List.foldl_append,h2,List.foldl_cons,List.foldl_nil,nst,dig (by omega),if_pos (by simp only;omega)]
   simp only[pJ,and_true]
   omega
def refN(s:List UInt8):Int:=if s[0]? =some 45 then -((s.foldl nst (0,0)).1:Int)else((s.foldl nst (0,0)).1:Int)
theorem refN_dec{v:Int}(h:Tr7.inB v=true):refN (decI v)=v∧((decI v).foldl nst (0,0)).2≤7:=by
 have h':=of_decide_eq_true h
 unfold refN
 rw[decI_eq (inB_inR h)]
 unfold itoa
 have hp:(10:Nat) ^ (6+1)=10000000:=by decide
 obtain⟨d,h1,h2⟩:=nst_dd 6 v.natAbs (by omega) (by rw[hp];omega)
 by_cases hn:v<0
 ·rw[if_pos hn]
  have e:(45::decDigits v.natAbs).foldl nst (0,0)=(v.natAbs,d):=by
   rw[List.foldl_cons,show nst (0,0) 45=(0,0)from rfl,h2]
  rw[e]
  simp only[yE,if_true]
  omega
 ·rw[if_neg hn,show v.toNat=v.natAbs by omega,h2]
  have hx:(decDigits v.natAbs)[0]? ≠some 45:=by
   intro hx
   have:=dd_mem v.natAbs 45 (yS hx)
   simp at this
  rw[if_neg hx]
  simp only
  omega
theorem Number_eq(s:List UInt8)(hs:s.length≤1073741824)(κ:Int→Bool→Option ρ):f_r01_Number s κ=κ (numF s).1 (numF s).2:=by
 have fin:(if 7<(((s.foldl nst (0,0)).2:Nat):Int)then κ 0 false else f_r01_within (refN s) fun y0=>if y0=false then κ 0 false else f_r01_Decimal (refN s) fun y1=>if y1=s then κ (refN s) true else κ 0 false)=κ (numF s).1 (numF s).2:=by
  rw[within_eq]
  rcases numF_cases s with⟨v,h1,h2,h3⟩ |h1
  ·have h4:=refN_dec h3
   rw[h2]at h4
   rw[h1,if_neg (by omega),h4.1,h3,if_neg (by simp),decr_eq (inB_inR h3),if_pos h2]
  ·rw[h1]
   split
   ·rfl
   ·split
    ·rfl
    ·rename_i hb
     have hb:Tr7.inB (refN s)=true:=by simpa using hb
     rw[decr_eq (inB_inR hb)]
     split
     ·rename_i hd
      have:=numF_dec (inB_inR hb)
      rw[hd,h1,if_pos hb]at this
      simp at this
     ·rfl
 rw[←fin]
 clear fin
 simp only[f_r01_Number,F_r01_Number,mkF]
 refine iterC_runE s.length (fun i=>((((s.take i).foldl nst (0,0)).1:Int),(((s.take i).foldl nst (0,0)).2:Int),(i:Int))) (by simp) (fun i k hi=> ?_) (fun k=> ?_)
 ·simp only
  have hb:=nst_bound (s.take i)
  rw[foldl_step hi]
  revert hb
  generalize (s.take i).foldl nst (0,0)=p
  rintro⟨hb1,hb2⟩
  have hb3:p.1<10 ^ 8:=yA hb1 (Nat.pow_le_pow_right (by omega) hb2)
  have e8:(10:Nat) ^ 8=100000000:=by decide
  rw[e8]at hb3
  clear hb1 e8
  rw[if_pos (by omega),if_pos (by omega),xV,xG hi,xS,wrapS (k:=i) (by omega)]
  generalize s[i]=x
  have hx:=x.toNat_lt
  unfold nst
  by_cases h1:48≤x.toNat
  ·rw[if_pos (by omega),if_pos (by omega),xS]
   by_cases h2:x.toNat≤57
   ·rw[if_pos (by omega)]
    by_cases h3:p.2<8
    ·rw[if_pos (by omega),if_pos (by omega),if_pos ⟨h1,h2,h3⟩,xS,wrapS (by omega),u8_mod,show((x.toNat:Int) - 48) % 256=((x.toNat - 48:Nat):Int)by omega,wrap64 (x:=(p.1:Int) * 10) (by omega) (by omega),wrap64 (x:=((x.toNat - 48:Nat):Int)) (by omega) (by omega),wrap64 (by omega) (by omega)]
     simp only
     congr 1
    ·rw[if_neg (by omega),if_neg (by omega)]
   ·rw[if_neg (by omega),if_neg (by omega)]
  ·rw[if_neg (by omega),if_neg (by omega)]
 ·simp only
  rw[if_neg (by omega),List.take_length]
  have hb:=nst_bound s
  unfold refN
  revert hb
  generalize s.foldl nst (0,0)=p
  rintro⟨hb1,hb2⟩
  have hb3:p.1<10 ^ 8:=yA hb1 (Nat.pow_le_pow_right (by omega) hb2)
  have e8:(10:Nat) ^ 8=100000000:=by decide
  rw[e8]at hb3
  clear hb1 e8
  cases s with
  |nil=>simp
  |cons x r=>
   simp only[yE,xS,xJ,xZ,Nat.zero_lt_succ,if_true]
   by_cases hx:x=45
   ·subst hx
    rw[if_pos (by decide),if_pos rfl,wrap64 (by omega) (by omega)]
   ·rw[if_neg (by intro h;apply hx;apply UInt8.toNat_inj.1;show x.toNat=45;omega),if_neg hx]
end
end Go.Etx.Nm
namespace Go.Etx
open Go Go.Am Go.Proofs
set_option maxHeartbeats 4000000
set_option maxRecDepth 20000
noncomputable section
variable{ρ:Type}
def rTok(t:Glex_Token):Gr09_Token:=⟨t.Kind,t.N,t.At,t.Text⟩
theorem rTok_len(l:List Glex_Token):(l.map rTok).length=l.length:=List.length_map ..
theorem head_drop{s:List UInt8}{p:Nat}(h:p<s.length):(s.drop p).headD 0=s[p]:=by rw[xW h];rfl
theorem rscan_loop(s:List UInt8)(hs:s.length≤1000000)(κ:Am.Ex×St→Option ρ)(A:List Glex_Token×Int×Int→Option ρ)
  (hr:∀a b:Int,κ (.ret,⟨[(2,.bor (.l 2 0) [] 0 0),(3,.d (.int .i64 a)),(4,.d (.int .i64 b))],[((2,0),.own [])],[]⟩)=A ([],a,b))
  (he:∀(out:List Glex_Token),κ (.exit 0,⟨[(0,.d (.str s)),(5,.bor (.l 5 0) [] 0 out.length),(6,.d (.int .i64 s.length)),(20,.d (.bool false))],[((5,0),.own (tl er09_Token (out.map rTok)))],[]⟩)=A (out,0,0)):
  ∀(n p:Nat) (out:List Glex_Token),s.length<p+n→p≤s.length→out.length≤p→out.length≤6000→goLp P hints hint28 b28 0 ⟨[(0,.d (.str s)),(5,.bor (.l 5 0) [] 0 out.length),(6,.d (.int .i64 p))],[((5,0),.own (tl er09_Token (out.map rTok)))],[]⟩ κ=A (scanL n s p out)
 |0,p,out,h,hp,_,_=>by omega
 |n+1,p,out,h,hp,ho,h6k=>by
  refine(goLp_turn q28_0.2).trans ?_
  rw[scanL]
  have el:=rTok_len out
  by_cases hlt:p<s.length
  ·have h1:(p:Int)<(s.length:Int):=by omega
   have hbg:=fun g=>begins_all (ρ:=ρ) (s:=s) (by omega) hlt (g:=g)
   rw[if_pos hlt]
   by_cases h6:6000≤out.length
   ·have h2:(out.length:Int)=6000:=by omega
    rw[if_pos h6]
    by_cases c1:letB (bI s[p])=true
    ·simp -implicitDefEqProofs (maxSteps:=1000000) [go_sem,h1,h2,hr,hbg,c1,-List.map_append,-List.map_take,-List.map_drop,-List.map_set]
    ·by_cases c2:digB (bI s[p])=true
     ·simp -implicitDefEqProofs (maxSteps:=1000000) [go_sem,h1,h2,hr,hbg,c1,c2,-List.map_append,-List.map_take,-List.map_drop,-List.map_set]
     ·cases c3:sgL.find? (fun x=>x.isPrefixOf (s.drop p)) <;>
       simp -implicitDefEqProofs (maxSteps:=1000000) [go_sem,h1,h2,hr,hbg,c1,c2,c3,-List.map_append,-List.map_take,-List.map_drop,-List.map_set]
   ·have h2:¬(out.length:Int)=6000:=by omega
    rw[if_neg h6]
    have hb1:(out.length+1) * 40≤140737488355328:=by omega
    have hb2:out.length≤9223372036854775806:=by omega
    have hh:=head_drop hlt
    have go:∀(k v:Int) (x:List UInt8),1≤x.length→x.length≤s.length - p→
      goLp P hints hint28 b28 0 ⟨[(0,.d (.str s)),(5,.bor (.l 5 0) [] 0 (out.length+1)),(6,.d (.int .i64 ((p+x.length+gap false (s.drop (p+x.length)):Nat):Int)))],[((5,0),.own (tl er09_Token (out.map rTok++[⟨k,v,(p:Int),x⟩])))],[]⟩ κ=A (scanL n s (p+x.length+gap false (s.drop (p+x.length))) (out++[⟨k,v,(p:Int),x⟩])):=fun k v x x1 x2=>by
     have hg:=gap_le false (s.drop (p+x.length))
     rw[List.length_drop]at hg
     have ih:=rscan_loop s hs κ A hr he n (p+x.length+gap false (s.drop (p+x.length))) (out++[⟨k,v,(p:Int),x⟩]) (by omega) (by omega) (by rw[xP,List.length_singleton];omega) (by rw[xP,List.length_singleton];omega)
     rw[xP,List.length_singleton,List.map_append]at ih
     exact ih
    have cut:∀m:Nat,m≤s.length - p→((s.drop p).take m).length=m:=fun m hm=>by rw[yR,List.length_drop];omega
    have wm:∀m:Nat,m≤s.length - p→IntKind.i64.wrap ((p:Int)+(m:Int))=((p+m:Nat):Int):=fun m hm=>by rw[wrap_i64 (by omega) (by omega)];omega
    have hm:∀m:Nat,p+m - p=m:=fun m=>by omega
    by_cases c1:letB (bI s[p])=true
    ·have hpt:pt s[p]=true:=by simp[pt,partB,c1]
     have e1:=twl_ext (q:=pt) (s:=s) 1 p (fun j a b=>(by obtain rfl:j=p:=(by omega);exact⟨hlt,hpt⟩))
     have le:=twl_le pt (s.drop p)
     rw[List.length_drop]at le
     have hone:oneK (s.drop p)=if 16<twl pt (s.drop p)then(6,⟨0,0,0,[]⟩)else(0,⟨1,0,0,(s.drop p).take (twl pt (s.drop p))⟩):=by
      unfold oneK
      rw[hh,if_pos ⟨by omega,c1⟩]
     rw[hone]
     have n0:¬twl pt (s.drop p)=0:=by omega
     clear hone
     revert le n0 hbg
     generalize twl pt (s.drop p)=m
     intro hbg le n0
     have i2:((p:Nat):Int)≤((p+m:Nat):Int):=by omega
     have i3:((p+m:Nat):Int)≤(s.length:Int):=by omega
     have i4:p+m≤s.length:=by omega
     by_cases h16:16<m
     ·have j16:(16:Int)<(m:Int):=by omega
      rw[if_pos h16]
      simp -implicitDefEqProofs (maxSteps:=1000000) [go_sem,h1,h2,el,hr,hbg,c1,n0,wm m le,hm,i2,i3,i4,j16,-Int.natCast_add,-List.map_append,-List.map_take,-List.map_drop,-List.map_set,-List.length_take]
     ·have j16:¬(16:Int)<(m:Int):=by omega
      rw[if_neg h16]
      have g1:=go 1 0 ((s.drop p).take m) (by rw[cut m le];omega) (by rw[cut m le];exact le)
      rw[cut m le]at g1
      have hsk:=fun κ=>skip_w (ρ:=ρ) s (by omega) (p+m) i4 κ
      simp -implicitDefEqProofs (maxSteps:=1000000) [go_sem,h1,h2,el,hbg,c1,n0,wm m le,hm,i2,i3,i4,j16,hb1,hb2,hsk,g1,cut m le,-Int.natCast_add,-List.map_append,-List.map_take,-List.map_drop,-List.map_set,-List.length_take]
    ·by_cases c2:digB (bI s[p])=true
     ·have e1:=twl_ext (q:=dg) (s:=s) 1 p (fun j a b=>(by obtain rfl:j=p:=(by omega);exact⟨hlt,c2⟩))
      have le:=twl_le dg (s.drop p)
      rw[List.length_drop]at le
      have hone:oneK (s.drop p)=if(Tr7.numF ((s.drop p).take (twl dg (s.drop p)))).2=true then(0,⟨2,(Tr7.numF ((s.drop p).take (twl dg (s.drop p)))).1,0,(s.drop p).take (twl dg (s.drop p))⟩)else(10,⟨0,0,0,[]⟩):=by
       unfold oneK
       rw[hh,if_neg (fun q=>c1 q.2),if_pos (by omega)]
      rw[hone]
      have n0:¬twl dg (s.drop p)=0:=by omega
      clear hone
      revert le n0 hbg
      generalize twl dg (s.drop p)=m
      intro hbg le n0
      have i2:((p:Nat):Int)≤((p+m:Nat):Int):=by omega
      have i3:((p+m:Nat):Int)≤(s.length:Int):=by omega
      have i4:p+m≤s.length:=by omega
      have hnum:=fun g=>Nm.Number_eq (ρ:=ρ) ((s.drop p).take m) (by rw[cut m le];omega) g
      by_cases hok:(Tr7.numF ((s.drop p).take m)).2=true
      ·rw[if_pos hok]
       have g1:=go 2 (Tr7.numF ((s.drop p).take m)).1 ((s.drop p).take m) (by rw[cut m le];omega) (by rw[cut m le];exact le)
       rw[cut m le]at g1
       have hsk:=fun κ=>skip_w (ρ:=ρ) s (by omega) (p+m) i4 κ
       simp -implicitDefEqProofs (maxSteps:=1000000) [go_sem,h1,h2,el,hbg,c1,c2,n0,wm m le,hm,i2,i3,i4,hb1,hb2,hsk,hnum,hok,g1,cut m le,-Int.natCast_add,-List.map_append,-List.map_take,-List.map_drop,-List.map_set,-List.length_take]
      ·rw[if_neg hok]
       simp -implicitDefEqProofs (maxSteps:=1000000) [go_sem,h1,h2,el,hr,hbg,c1,c2,n0,wm m le,hm,i2,i3,i4,hnum,hok,-Int.natCast_add,-List.map_append,-List.map_take,-List.map_drop,-List.map_set,-List.length_take]
     ·have hone:oneK (s.drop p)=match sgL.find? (fun x=>x.isPrefixOf (s.drop p))with |some x=>(0,⟨3,0,0,x⟩) |none=>(13,⟨0,0,0,[]⟩):=by
       have z:twl dg (s.drop p)=0:=twl_stop hlt (by simpa using c2)
       unfold oneK
       rw[hh,if_neg (fun q=>c1 q.2),if_neg (by omega)]
       cases sgL.find? (fun x=>x.isPrefixOf (s.drop p)) <;>rfl
      rw[hone]
      clear hone
      revert hbg
      cases c3:sgL.find? (fun x=>x.isPrefixOf (s.drop p))with
      |none=>
       intro hbg
       simp -implicitDefEqProofs (maxSteps:=1000000) [go_sem,h1,h2,el,hr,hbg,c1,c2,-Int.natCast_add,-List.map_append,-List.map_take,-List.map_drop,-List.map_set,-List.length_take]
      |some x=>
       intro hbg
       have hx1:=sgL_ne (List.mem_of_find?_eq_some c3)
       have hx0:=List.find?_some (p:=fun x:List UInt8=>x.isPrefixOf (s.drop p)) c3
       have hx2:x <+:s.drop p:=List.isPrefixOf_iff_prefix.1 hx0
       have hx3:=hx2.length_le
       rw[List.length_drop]at hx3
       have htk:(s.drop p).take x.length=x:=(List.prefix_iff_eq_take.1 hx2).symm
       have n0:¬x.length=0:=by omega
       have n1:¬x=[]:=fun e=>n0 (by rw[e];rfl)
       have i2:((p:Nat):Int)≤((p+x.length:Nat):Int):=by omega
       have i3:((p+x.length:Nat):Int)≤(s.length:Int):=by omega
       have i4:p+x.length≤s.length:=by omega
       have g1:=go 3 0 x hx1.1 hx3
       have hsk:=fun κ=>skip_w (ρ:=ρ) s (by omega) (p+x.length) i4 κ
       simp -implicitDefEqProofs (maxSteps:=1000000) [go_sem,h1,h2,el,hbg,c1,c2,n0,n1,wm x.length hx3,hm,htk,i2,i3,i4,hb1,hb2,hsk,g1,-Int.natCast_add,-List.map_append,-List.map_take,-List.map_drop,-List.map_set,-List.length_take]
  ·have h1:¬(p:Int)<(s.length:Int):=by omega
   obtain rfl:p=s.length:=by omega
   rw[if_neg hlt]
   simp -implicitDefEqProofs (maxSteps:=1000000) [go_sem,h1,he,-List.map_append,-List.map_take,-List.map_drop,-List.map_set]
theorem rscan_w(s:List UInt8)(hs:s.length≤1000000)(κ:KT ρ):cbK (call 28 [.str s] []) κ=κ ([.d (.sl false (List.map er09_Token ((scanK s).1.map rTok))),.d (.int .i64 (scanK s).2.1),.d (.int .i64 (scanK s).2.2)],[]):=by
 refine(ge28 _ _ _ rfl).trans ?_
 have hb:=fun κ=>skip_w (ρ:=ρ) s (by omega) 0 (Nat.zero_le _) κ
 simp only[Int.natCast_zero,List.drop_zero,Nat.zero_add]at hb
 unfold scanK
 by_cases h:20000<s.length
 ·have h1:(20000:Int)<(s.length:Int):=by omega
  rw[if_pos h]
  simp -implicitDefEqProofs (maxSteps:=1000000) [go_sem,h1,-List.map_append,-List.map_take,-List.map_drop,-List.map_set]
 ·have h1:¬(20000:Int)<(s.length:Int):=by omega
  rw[if_neg h]
  simp -implicitDefEqProofs (maxSteps:=1000000) [go_sem,h1,hb,-List.map_map,-List.map_append,-List.map_take,-List.map_drop,-List.map_set]
  have hg:=gap_le false s
  refine rscan_loop s hs _ (fun v=>κ ([.d (.sl false (List.map er09_Token (v.1.map rTok))),.d (.int .i64 v.2.1),.d (.int .i64 v.2.2)],[])) (fun a b=> ?_) (fun out=> ?_) (s.length+1) (gap false s) [] (by omega) hg (Nat.zero_le _) (Nat.zero_le _) <;>
   simp -implicitDefEqProofs (maxSteps:=1000000) [go_sem,rTok_len,-List.map_map,-List.map_append,-List.map_take,-List.map_drop,-List.map_set]
end
end Go.Etx
namespace Go.Etx
open Go Go.Am Go.Proofs
set_option maxHeartbeats 4000000
set_option maxRecDepth 20000
noncomputable section
variable{ρ:Type}
structure Rf where
 l:List Glex_Token
 s:GScope
 stop:Int
abbrev rTs(l:List Glex_Token):List Gr09_Token:=l.map rTok
abbrev pD(f:Rf):D:=.agg [.sl false (List.map er09_Token (rTs f.l)),.sl false (List.map eScalar f.s.Scalars),.sl false (List.map eVar f.s.Vars),.sl false (List.map eChan f.s.Chans),.sl false (List.map (eProc false) f.s.Procs),.sl false (List.map eVar f.s.Locals),.int .i64 f.s.Self,.int .i64 f.stop]
abbrev rD(E:List GNode)(a p w:Int):T:=.d (.agg [.sl false (List.map eNode E),.int .i64 a,.int .i64 p,.int .i64 w])
structure FOk(f:Rf):Prop where
 few:Few f.s
 len:f.l.length<1000000
 tok:∀x∈f.l,TokOk x
def isR(f:Rf)(i:Nat)(t:List UInt8):Bool:=match f.l[i]? with |some x=>decide (x.Text=t) |none=>false
def atR(f:Rf)(i:Nat):Int:=match f.l[i]? with |some x=>x.At |none=>f.stop
def sgnR(f:Rf)(i:Nat)(k:Int):Int:=match f.l[i]? with |some x=>if x.Kind=3 then(opK x.Text k).getD 0 else 0 |none=>0
theorem rTs_get(l:List Glex_Token)(i:Nat):(rTs l)[i]? =(l[i]?).map rTok:=by unfold rTs;rw[List.getElem?_map]
theorem rTs_len(l:List Glex_Token):(rTs l).length=l.length:=List.length_map ..
theorem isx_eq(f:Rf)(i:Nat)(t:List UInt8)(g:Bool→Option ρ):f_r11_P_is ⟨rTs f.l,f.s,f.stop⟩ (i:Int) t g=g (isR f i t):=by
 simp only[f_r11_P_is,F_r11_P_is,mkF,rTs_len,rTs_get,xV]
 unfold isR
 by_cases h:i<f.l.length
 ·rw[if_pos (by omega),if_pos (by omega),xG h];rfl
 ·rw[if_neg (by omega),List.getElem?_eq_none (by omega)]
theorem wrongx_eq(f:Rf)(i:Nat)(w:Int)(g:Int→Option ρ):f_r11_P_wrong ⟨rTs f.l,f.s,f.stop⟩ (i:Int) w g=g (atR f i):=by
 simp only[f_r11_P_wrong,F_r11_P_wrong,mkF,rTs_len,rTs_get,xV]
 unfold atR
 by_cases h:i<f.l.length
 ·rw[if_neg (by omega),if_pos (by omega),xG h];rfl
 ·rw[if_pos (by omega),List.getElem?_eq_none (by omega)]
theorem strength_op{o:Int}(h:11≤o∧o≤19)(g:Int→Option ρ):f_r11_strength ⟨o,0⟩ g=g (sgnB o):=by
 have:∀k:Fin 9,∀g:Int→Option ρ,f_r11_strength ⟨11+(k.val:Int),0⟩ g=g (sgnB (11+(k.val:Int))):=by
  intro k g
  simp only[f_r11_strength,F_r11_strength,mkF]
  match k with
  |⟨0,_⟩=>rfl
  |⟨1,_⟩=>rfl
  |⟨2,_⟩=>rfl
  |⟨3,_⟩=>rfl
  |⟨4,_⟩=>rfl
  |⟨5,_⟩=>rfl
  |⟨6,_⟩=>rfl
  |⟨7,_⟩=>rfl
  |⟨8,_⟩=>rfl
 have:=this ⟨(o - 11).toNat,by omega⟩ g
 rw[show(11+((o - 11).toNat:Int))=o by omega]at this
 exact this
theorem sign_op{o:Int}(h:11≤o∧o≤19)(g:List UInt8→Option ρ):f_r11_sign o g=g (sgnT o):=by
 have:∀k:Fin 9,∀g:List UInt8→Option ρ,f_r11_sign (11+(k.val:Int)) g=g (sgnT (11+(k.val:Int))):=by
  intro k g
  simp only[f_r11_sign,F_r11_sign,mkF]
  match k with
  |⟨0,_⟩=>rfl
  |⟨1,_⟩=>rfl
  |⟨2,_⟩=>rfl
  |⟨3,_⟩=>rfl
  |⟨4,_⟩=>rfl
  |⟨5,_⟩=>rfl
  |⟨6,_⟩=>rfl
  |⟨7,_⟩=>rfl
  |⟨8,_⟩=>rfl
 have:=this ⟨(o - 11).toNat,by omega⟩ g
 rw[show(11+((o - 11).toNat:Int))=o by omega]at this
 exact this
def opF(f:Rf)(i:Nat)(k:Int)(g:Int→Option ρ)(v:Int)(k1:Int→Option ρ):Option ρ:=
 if v≤19 then(if v=10 then k1 (IntKind.i64.wrap (v+1))else f_r11_strength ⟨v,0⟩ fun x=>if x=k then(if(i:Int)<((rTs f.l).length:Int)then if 0≤(i:Int)then((rTs f.l)[(i:Int).toNat]?).bind fun z=>if z.Kind=3 then f_r11_sign v fun x=>(if isR f i x=true then g v else k1 (IntKind.i64.wrap (v+1)))else k1 (IntKind.i64.wrap (v+1))else none else k1 (IntKind.i64.wrap (v+1)))else k1 (IntKind.i64.wrap (v+1)))else g 0
theorem opF_hit(f:Rf)(i:Nat)(k:Int)(g:Int→Option ρ)(j:Nat)(hj:j<9)(k1:Int→Option ρ):opF f i k g ((11+j:Nat):Int) k1=
  match f.l[i]? with |some x=>if x.Kind=3∧x.Text=sgnT ((11+j:Nat):Int)∧sgnB ((11+j:Nat):Int)=k then g ((11+j:Nat):Int)else k1 ((11+(j+1):Nat):Int) |none=>k1 ((11+(j+1):Nat):Int):=by
 unfold opF
 rw[if_pos (by omega),if_neg (by omega),strength_op (by omega),wrapS (by omega),rTs_len,rTs_get,xV]
 by_cases hk:sgnB ((11+j:Nat):Int)=k
 ·rw[if_pos hk]
  by_cases hi:i<f.l.length
  ·rw[if_pos (by omega),if_pos (by omega),xG hi]
   simp only[xQ,xS,sign_op (show(11:Int)≤((11+j:Nat):Int)∧((11+j:Nat):Int)≤19 by omega)]
   have hir:isR f i (sgnT ((11+j:Nat):Int))=decide (f.l[i].Text=sgnT ((11+j:Nat):Int)):=by unfold isR;rw[xG hi]
   rw[hir,show(rTok f.l[i]).Kind=f.l[i].Kind from rfl]
   by_cases h3:f.l[i].Kind=3
   ·rw[if_pos h3]
    by_cases ht:f.l[i].Text=sgnT ((11+j:Nat):Int)
    ·rw[if_pos (decide_eq_true ht),if_pos ⟨h3,ht,hk⟩]
    ·rw[if_neg (by simpa using ht),if_neg (fun q=>ht q.2.1)];rfl
   ·rw[if_neg h3,if_neg (fun q=>h3 q.1)];rfl
  ·rw[if_neg (by omega),List.getElem?_eq_none (by omega)];rfl
 ·rw[if_neg hk]
  cases f.l[i]? with
  |none=>rfl
  |some x=>simp only[if_neg (fun q:x.Kind=3∧x.Text=sgnT ((11+j:Nat):Int)∧sgnB ((11+j:Nat):Int)=k=>hk q.2.2)];rfl
theorem opF_run(f:Rf)(i:Nat)(k:Int)(g:Int→Option ρ):∀(n j:Nat),j+n=9→∀fuel,n<fuel→iterCN (opF f i k g) fuel ((11+j:Nat):Int)=
   g (match f.l[i]? with |some x=>if x.Kind=3 then((([11,12,13,14,15,16,17,18,19]:List Int).drop j).find? fun o=>decide (sgnT o=x.Text∧sgnB o=k)).getD 0 else 0 |none=>0)
 |_,_,_,0,h=>by omega
 |0,j,hj,fu+1,_=>by
  obtain rfl:j=9:=by omega
  have e:iterCN (opF f i k g) (fu+1) ((11+9:Nat):Int)=g 0:=rfl
  rw[e]
  cases f.l[i]? with
  |none=>rfl
  |some x=>simp
 |n+1,j,hj,fu+1,hf=>by
  have hl:j<([11,12,13,14,15,16,17,18,19]:List Int).length:=by show j<9;omega
  have he:([11,12,13,14,15,16,17,18,19]:List Int)[j]=((11+j:Nat):Int):=by
   have:∀m:Fin 9,([11,12,13,14,15,16,17,18,19]:List Int)[m.val]'(m.isLt)=((11+m.val:Nat):Int):=by decide
   exact this ⟨j,by omega⟩
  have ih:=opF_run f i k g n (j+1) (by omega) fu (by omega)
  rw[xW hl,he,iterCN,opF_hit f i k g j (by omega),ih]
  simp only[List.find?_cons]
  cases f.l[i]? with
  |none=>rfl
  |some x=>
   simp only
   by_cases h3:x.Kind=3
   ·by_cases hq:sgnT ((11+j:Nat):Int)=x.Text∧sgnB ((11+j:Nat):Int)=k
    ·rw[if_pos ⟨h3,hq.1.symm,hq.2⟩,if_pos h3,decide_eq_true hq];rfl
    ·rw[if_neg (fun q=>hq ⟨q.2.1.symm,q.2.2⟩),decide_eq_false hq]
   ·rw[if_neg (fun q=>h3 q.1),if_neg h3,if_neg h3]
theorem opr_eq(f:Rf)(i:Nat)(k:Int)(g:Int→Option ρ):f_r11_P_op ⟨rTs f.l,f.s,f.stop⟩ (i:Int) k g=g (sgnR f i k):=by
 simp only[f_r11_P_op,F_r11_P_op,mkF,isx_eq]
 refine limE_eq 11 fun n hn=> ?_
 obtain⟨m,rfl⟩:∃m,n=m+1:=⟨n - 1,by omega⟩
 exact(show iterCN (opF f i k g) (m+1) 10=iterCN (opF f i k g) m ((11+0:Nat):Int)from rfl).trans (opF_run f i k g 9 0 rfl m (by omega))
end
end Go.Etx
namespace Go.Etx
open Go Go.Am Go.Proofs
set_option maxHeartbeats 4000000
set_option maxRecDepth 20000
structure RR where
 E:List GNode
 At:Nat
 Place:Int
 Why:Int
def badR(f:Rf)(i:Nat)(w:Int):RR:=⟨[],0,atR f i,w⟩
abbrev rrT(x:RR):T:=rD x.E x.At x.Place x.Why
abbrev rrD(x:RR):D:=.agg [.sl false (List.map eNode x.E),.int .i64 x.At,.int .i64 x.Place,.int .i64 x.Why]
def closedK(f:Rf)(x:RR)(t:List UInt8):RR:=if x.Why=0 then(if isR f x.At t=true then⟨x.E,x.At+1,0,0⟩else badR f x.At 3)else x
def lookR(f:Rf)(w nm:List UInt8):Int×Int:=if w=wN then(fidx (pS nm) f.s.Scalars,8)else if w=wA then(fidx (pP nm) f.s.Procs,7)else(fidx (pC nm) f.s.Chans,6)
def ofK(f:Rf)(i:Nat)(w:List UInt8):RR:=
 if isR f (i+1) [40]=true then(match f.l[i+2]? with
  |some y=>if y.Kind=1 then(if(lookR f w y.Text).1<0 then badR f (i+2) 8
    else if w=wA then(if isR f (i+3) [44]=true then(match f.l[i+4]? with
      |some z=>if z.Kind=2 then(if 15<z.N then badR f (i+4) 10 else closedK f ⟨[⟨7,w64 (w64 (16 * (lookR f w y.Text).1)+z.N)⟩],i+5,0,0⟩ [41])else badR f (i+4) 3
      |none=>badR f (i+4) 3)else badR f (i+3) 3)
    else closedK f ⟨[⟨(lookR f w y.Text).2,(lookR f w y.Text).1⟩],i+3,0,0⟩ [41])else badR f (i+2) 3
  |none=>badR f (i+2) 3)else badR f (i+1) 3
def base(f:Rf)(i:Nat)(p:Int):Rdr:=⟨f.l,f.stop,f.s,i,p,0,[]⟩
section
variable{p:Int}
def resK(r:Rdr):RR:=if r.e=0 then⟨r.out,r.pos,0,0⟩else⟨[],0,r.place,r.e⟩
theorem bad_res{r r':Rdr}(h:Bad r r')(k:r.e≠0):resK r'=⟨[],0,r.place,r.e⟩:=by
 unfold resK
 rw[if_neg (h.ne k),h.e,h.p]
theorem base_now{f:Rf}{i:Nat}:(base f i p).now=(f.l[i]?).getD tok0:=rfl
theorem base_is{f:Rf}(ok:FOk f){i:Nat}{c:UInt8}(hc:pt c=false):(base f i p).is 3 [c]=isR f i [c]:=by
 unfold Rdr.is isR
 rw[base_now]
 cases h:f.l[i]? with
 |none=>simp[base]
 |some x=>
  simp only[Option.getD_some]
  by_cases ht:x.Text=[c]
  ·have hk:=tok_sign (ok.tok x (yS h)) ht hc
   simp[base,ht,hk]
  ·simp[ht]
theorem base_fail{f:Rf}{i:Nat}{x:Int}(hx:x≠0):(base f i p).fail x=⟨f.l,f.stop,f.s,i,atR f i,x,[]⟩:=by
 unfold Rdr.fail atR base
 rw[if_pos rfl]
 cases f.l[i]? <;>rfl
theorem fail_bad{f:Rf}{i:Nat}{x:Int}(hx:x≠0){r':Rdr}(h:Bad ((base f i p).fail x) r'):resK r'=badR f i x:=by
 rw[bad_res h (by rw[base_fail hx];exact hx),base_fail hx];rfl
theorem fail_e{f:Rf}{i:Nat}{x:Int}(hx:x≠0):((base f i p).fail x).e≠0:=by rw[base_fail hx];exact hx
theorem base_take{f:Rf}(ok:FOk f){i:Nat}{c:UInt8}(hc:pt c=false):(base f i p).take [c]=if isR f i [c]=true then base f (i+1) p else(base f i p).fail 3:=by
 unfold Rdr.take
 rw[base_is ok hc];rfl
theorem base_found{f:Rf}{i:Nat}(lk:List UInt8→Int):(base f i p).found lk=match f.l[i]? with
  |some y=>if y.Kind=1 then(if lk y.Text<0 then(0,(base f i p).fail 8)else(lk y.Text,base f (i+1) p))else(0,(base f i p).fail 3)
  |none=>(0,(base f i p).fail 3):=by
 unfold Rdr.found
 rw[base_now]
 cases h:f.l[i]? with
 |none=>simp
 |some y=>
  simp only[Option.getD_some]
  by_cases hk:y.Kind=1
  ·rw[if_pos ⟨rfl,hk⟩,if_pos hk];rfl
  ·rw[if_neg (fun q=>hk q.2),if_neg hk]
theorem res_close{f:Rf}(ok:FOk f){i:Nat}{c:UInt8}(hc:pt c=false)(E:List GNode)(op n:Int):resK (((base f i p).take [c]).put op n)=closedK f ⟨[⟨op,n⟩],i,0,0⟩ [c]:=by
 unfold closedK
 rw[if_pos rfl,base_take ok hc]
 simp only
 by_cases h:isR f i [c]=true
 ·rw[if_pos h,if_pos h];rfl
 ·rw[if_neg h,if_neg h]
  exact fail_bad (by decide) (bad_put (fail_e (by decide)) _ _)
theorem find_res{f:Rf}(ok:FOk f)(i:Nat)(w:List UInt8)(hw:w≠wA)(lk:List UInt8→Int)(op:Int)(hl:∀nm,lookR f w nm=(lk nm,op)):
  resK (((((base f (i+1) p).take [40]).found lk).2.take [41]).put op (((base f (i+1) p).take [40]).found lk).1)=ofK f i w:=by
 unfold ofK
 rw[base_take ok (c:=40) (by decide)]
 by_cases h1:isR f (i+1) [40]=true
 ·rw[if_pos h1,if_pos h1,base_found]
  cases h2:f.l[i+1+1]? with
  |none=>
   try rw[show i+2=i+1+1 from rfl]
   exact fail_bad (by decide) ((bad_take (fail_e (by decide)) _).trans (bad_put ((bad_take (fail_e (by decide)) _).ne (fail_e (by decide))) _ _))
  |some y=>
   try rw[show i+2=i+1+1 from rfl]
   simp only[hl]
   by_cases h3:y.Kind=1
   ·rw[if_pos h3,if_pos h3]
    by_cases h4:lk y.Text<0
    ·rw[if_pos h4,if_pos h4]
     exact fail_bad (by decide) ((bad_take (fail_e (by decide)) _).trans (bad_put ((bad_take (fail_e (by decide)) _).ne (fail_e (by decide))) _ _))
    ·rw[if_neg h4,if_neg h4,if_neg hw]
     exact res_close ok (by decide) [] _ _
   ·rw[if_neg h3,if_neg h3]
    exact fail_bad (by decide) ((bad_take (fail_e (by decide)) _).trans (bad_put ((bad_take (fail_e (by decide)) _).ne (fail_e (by decide))) _ _))
 ·rw[if_neg h1,if_neg h1]
  have e1:=fail_e (f:=f) (p:=p) (i:=i+1) (x:=3) (by decide)
  have b1:=bad_found e1 lk
  have b2:=b1.trans (bad_take (b1.ne e1) [41])
  exact fail_bad (by decide) (b2.trans (bad_put (b2.ne e1) _ _))
theorem length_res{f:Rf}(ok:FOk f)(i:Nat):resK (base f i p).step.length=ofK f i wL:=find_res (p:=p) ok i wL (by decide) _ 6 fun nm=>by unfold lookR;rw[if_neg (by decide),if_neg (by decide)];rfl
theorem nothing_res{f:Rf}(ok:FOk f)(i:Nat):resK (base f i p).step.nothing=ofK f i wN:=find_res (p:=p) ok i wN (by decide) _ 8 fun nm=>by unfold lookR;rw[if_pos rfl];rfl
theorem where_res{f:Rf}(ok:FOk f)(i:Nat):resK (base f i p).step.whereR=ofK f i wA:=by
 have hl:∀nm,lookR f wA nm=(fidx (pP nm) f.s.Procs,7):=fun nm=>by unfold lookR;rw[if_neg (by decide),if_pos rfl]
 have tail:∀(r:Rdr) (j:Nat) (x k:Int),x≠0→Bad ((base f j p).fail x) r→resK (((r.wide.kind 2).2.take [41]).put 7 k)=badR f j x:=fun r j x k hx hb=>by
  have e0:=fail_e (f:=f) (p:=p) (i:=j) hx
  have b1:=hb.trans (bad_wide (hb.ne e0))
  have b2:=b1.trans (bad_kind (b1.ne e0) 2)
  have b3:=b2.trans (bad_take (b2.ne e0) [41])
  exact fail_bad hx (b3.trans (bad_put (b3.ne e0) _ _))
 unfold Rdr.whereR Rdr.whereI Rdr.whereA ofK
 rw[show(base f i p).step=base f (i+1) p from rfl,base_take ok (c:=40) (by decide)]
 by_cases h1:isR f (i+1) [40]=true
 ·rw[if_pos h1,if_pos h1,base_found]
  simp only[hl]
  cases h2:f.l[i+1+1]? with
  |none=>
   try rw[show i+2=i+1+1 from rfl]
   exact tail _ _ _ _ (by decide) (bad_take (fail_e (by decide)) _)
  |some y=>
   try rw[show i+2=i+1+1 from rfl]
   simp only
   by_cases h3:y.Kind=1
   ·rw[if_pos h3,if_pos h3]
    by_cases h4:fidx (pP y.Text) f.s.Procs<0
    ·have h4':fidx (pP y.Text) (base f (i+1) p).s.Procs<0:=h4
     rw[if_pos h4',if_pos h4]
     exact tail _ _ _ _ (by decide) (bad_take (fail_e (by decide)) _)
    ·have h4':¬fidx (pP y.Text) (base f (i+1) p).s.Procs<0:=h4
     rw[if_neg h4',if_neg h4,if_pos trivial]
     simp only
     rw[base_take ok (c:=44) (by decide),show i+3=i+1+1+1 from rfl]
     by_cases h5:isR f (i+1+1+1) [44]=true
     ·rw[if_pos h5,if_pos h5,show i+4=i+1+1+1+1 from rfl]
      cases h6:f.l[i+1+1+1+1]? with
      |none=>
       have hn:(base f (i+1+1+1+1) p).now=tok0:=by rw[base_now,h6];rfl
       have hw:(base f (i+1+1+1+1) p).wide=base f (i+1+1+1+1) p:=by unfold Rdr.wide;rw[hn,if_neg (fun q=>by have:=q.2;revert this;decide)]
       have hk:(base f (i+1+1+1+1) p).kind 2=(tok0,(base f (i+1+1+1+1) p).fail 3):=by unfold Rdr.kind;rw[hn,if_neg (fun q=>by have:=q.2;revert this;decide)]
       rw[hw,hk]
       have e0:=fail_e (f:=f) (p:=p) (i:=i+1+1+1+1) (x:=3) (by decide)
       have b3:=bad_take e0 [41]
       exact fail_bad (by decide) (b3.trans (bad_put (b3.ne e0) _ _))
      |some z=>
       have hn:(base f (i+1+1+1+1) p).now=z:=by rw[base_now,h6];rfl
       simp only
       by_cases h7:z.Kind=2
       ·rw[if_pos h7]
        by_cases h8:15<z.N
        ·have hw:(base f (i+1+1+1+1) p).wide=(base f (i+1+1+1+1) p).fail 10:=by unfold Rdr.wide;rw[hn,if_pos ⟨rfl,h7,by omega⟩]
         rw[if_pos h8,hw]
         have e0:=fail_e (f:=f) (p:=p) (i:=i+1+1+1+1) (x:=10) (by decide)
         have b2:=bad_kind e0 2
         have b3:=b2.trans (bad_take (b2.ne e0) [41])
         exact fail_bad (by decide) (b3.trans (bad_put (b3.ne e0) _ _))
        ·have hw:(base f (i+1+1+1+1) p).wide=base f (i+1+1+1+1) p:=by unfold Rdr.wide;rw[hn,if_neg (fun q=>by omega)]
         have hk:(base f (i+1+1+1+1) p).kind 2=(z,base f (i+1+1+1+1+1) p):=by unfold Rdr.kind;rw[hn,if_pos ⟨rfl,h7⟩];rfl
         rw[if_neg h8,hw,hk]
         exact res_close ok (by decide) [] _ _
       ·have hw:(base f (i+1+1+1+1) p).wide=base f (i+1+1+1+1) p:=by unfold Rdr.wide;rw[hn,if_neg (fun q=>h7 q.2.1)]
        have hk:(base f (i+1+1+1+1) p).kind 2=(tok0,(base f (i+1+1+1+1) p).fail 3):=by unfold Rdr.kind;rw[hn,if_neg (fun q=>h7 q.2)]
        rw[if_neg h7,hw,hk]
        have e0:=fail_e (f:=f) (p:=p) (i:=i+1+1+1+1) (x:=3) (by decide)
        have b3:=bad_take e0 [41]
        exact fail_bad (by decide) (b3.trans (bad_put (b3.ne e0) _ _))
     ·rw[if_neg h5,if_neg h5]
      exact tail _ _ _ _ (by decide) (Bad.refl _)
   ·rw[if_neg h3,if_neg h3]
    exact tail _ _ _ _ (by decide) (bad_take (fail_e (by decide)) _)
 ·rw[if_neg h1,if_neg h1]
  have e1:=fail_e (f:=f) (p:=p) (i:=i+1) (x:=3) (by decide)
  have b1:=bad_found e1 (fun nm=>fidx (pP nm) (base f (i+1) p).s.Procs)
  exact tail _ _ _ _ (by decide) (b1.trans (bad_take (b1.ne e1) [44]))
end
end Go.Etx
namespace Go.Etx
open Go Go.Am Go.Proofs
set_option maxHeartbeats 4000000
set_option maxRecDepth 20000
noncomputable section
variable{ρ:Type}
theorem closed_w(f:Rf)(x:RR)(hx:x.At<4611686018427387904)(t:List UInt8)(κ:KT ρ):cbK (call 95 [pD f,rrD x,.str t] []) κ=κ ([rrT (closedK f x t)],[]):=by
 refine(ge95 _ _ _ rfl).trans ?_
 have hw:=wrapS hx
 unfold closedK
 by_cases h0:x.Why=0
 ·rw[if_pos h0]
  have h0:=tt h0
  cases h1:isR f x.At t <;>
   simp -implicitDefEqProofs (maxSteps:=1000000) [go_sem,isx_eq,wrongx_eq,h0,h1,hw,badR,-Int.natCast_add,-List.map_map,-List.map_append,-List.map_take,-List.map_drop,-List.map_set] <;>rfl
 ·rw[if_neg h0]
  have h0:=ff h0
  simp -implicitDefEqProofs (maxSteps:=1000000) [go_sem,h0,-Int.natCast_add,-List.map_map,-List.map_append,-List.map_take,-List.map_drop,-List.map_set] <;>rfl
theorem closed1_w(f:Rf)(op n:Int)(j:Nat)(hj:j<4611686018427387904)(t:List UInt8)(κ:KT ρ):cbK (call 95 [pD f,.agg [.sl false [.agg [.int .i64 op,.int .i64 n]],.int .i64 ((j:Nat):Int),.int .i64 0,.int .i64 0],.str t] []) κ=κ ([rrT (closedK f ⟨[⟨op,n⟩],j,0,0⟩ t)],[]):=closed_w f ⟨[⟨op,n⟩],j,0,0⟩ hj t κ
theorem of_w(f:Rf)(ok:FOk f)(i:Nat)(y:Glex_Token)(h1:f.l[i]? =some y)(hy:y.Text=wL∨y.Text=wA∨y.Text=wN)(κ:KT ρ):cbK (call 93 [pD f,.int .i64 i] []) κ=κ ([rrT (ofK f i y.Text)],[]):=by
 refine(ge93 _ _ _ rfl).trans ?_
 have hi:i<f.l.length:=(List.getElem?_eq_some_iff.1 h1).1
 have hlen:=ok.len
 have w1:IntKind.i64.wrap ((i:Int)+1)=((i+1:Nat):Int):=wrapS (by omega)
 have w2:IntKind.i64.wrap ((i:Int)+2)=((i+2:Nat):Int):=by rw[wrap_i64 (by omega) (by omega)];omega
 have w3:IntKind.i64.wrap ((i:Int)+3)=((i+3:Nat):Int):=by rw[wrap_i64 (by omega) (by omega)];omega
 have w4:IntKind.i64.wrap (((i+3:Nat):Int)+1)=((i+4:Nat):Int):=by rw[wrap_i64 (by omega) (by omega)];omega
 have w5:IntKind.i64.wrap (((i+3:Nat):Int)+2)=((i+5:Nat):Int):=by rw[wrap_i64 (by omega) (by omega)];omega
 have hc3:=fun op n κ=>closed1_w (ρ:=ρ) f op n (i+3) (by omega) [41] κ
 have hc5:=fun op n κ=>closed1_w (ρ:=ρ) f op n (i+5) (by omega) [41] κ
 have rk:∀t:Glex_Token,(rTok t).Kind=t.Kind∧(rTok t).Text=t.Text∧(rTok t).N=t.N:=fun t=>⟨rfl,rfl,rfl⟩
 have z4:(0:Int)≤((i+4:Nat):Int):=by omega
 have tn:(((i+4:Nat):Int)).toNat=i+4:=xV _
 unfold ofK lookR
 cases c1:isR f (i+1) [40]with
 |false=>
  simp -implicitDefEqProofs (maxSteps:=1000000) [go_sem,h1,w1,w2,w3,isx_eq,wrongx_eq,c1,badR,-Int.natCast_add,-List.map_map,-List.map_append,-List.map_take,-List.map_drop,-List.map_set] <;>rfl
 |true=>
  rw[if_pos rfl]
  by_cases c2:i+2<f.l.length
  ·have g2:f.l[i+2]? =some f.l[i+2]:=xG c2
   have c2':¬f.l.length≤i+2:=by omega
   rw[g2]
   simp only
   generalize f.l[i+2]=a at g2
   by_cases k1:a.Kind=1
   ·rw[if_pos k1]
    have k1:=tt k1
    have A4:i+3<4611686018427387904:=by omega
    rcases hy with hy |hy |hy
    ·rw[hy,if_neg (show¬wL=wN by decide),if_neg (show¬wL=wA by decide),if_neg (show¬wL=wA by decide)]
     by_cases k2:fidx (pC a.Text) f.s.Chans<0
     ·rw[if_pos k2]
      simp -implicitDefEqProofs (maxSteps:=1000000) [go_sem,h1,w1,w2,w3,w4,w5,z4,tn,isx_eq,wrongx_eq,c1,c2',g2,rk,k1,hc3,hc5,k2,hy,badR,chanr_eq ok.few,procr_eq ok.few,scalr_eq ok.few,-Int.natCast_add,-List.map_map,-List.map_append,-List.map_take,-List.map_drop,-List.map_set] <;>rfl
     ·rw[if_neg k2]
      simp -implicitDefEqProofs (maxSteps:=1000000) [go_sem,h1,w1,w2,w3,w4,w5,z4,tn,isx_eq,wrongx_eq,c1,c2',g2,rk,k1,hc3,hc5,k2,hy,badR,chanr_eq ok.few,procr_eq ok.few,scalr_eq ok.few,-Int.natCast_add,-List.map_map,-List.map_append,-List.map_take,-List.map_drop,-List.map_set] <;>rfl
    ·rw[hy,if_neg (show¬wA=wN by decide),if_pos (rfl:wA=wA),if_pos (rfl:wA=wA)]
     by_cases k2:fidx (pP a.Text) f.s.Procs<0
     ·rw[if_pos k2]
      simp -implicitDefEqProofs (maxSteps:=1000000) [go_sem,h1,w1,w2,w3,w4,w5,z4,tn,isx_eq,wrongx_eq,c1,c2',g2,rk,k1,hc3,hc5,k2,hy,badR,chanr_eq ok.few,procr_eq ok.few,scalr_eq ok.few,-Int.natCast_add,-List.map_map,-List.map_append,-List.map_take,-List.map_drop,-List.map_set] <;>rfl
     ·rw[if_neg k2]
      cases c3:isR f (i+3) [44]with
      |false=>
       rw[if_neg (by decide)]
       simp -implicitDefEqProofs (maxSteps:=1000000) [go_sem,h1,w1,w2,w3,w4,w5,z4,tn,isx_eq,wrongx_eq,c1,c2',g2,rk,k1,hc3,hc5,k2,hy,c3,badR,chanr_eq ok.few,procr_eq ok.few,scalr_eq ok.few,-Int.natCast_add,-List.map_map,-List.map_append,-List.map_take,-List.map_drop,-List.map_set] <;>rfl
      |true=>
       rw[if_pos rfl]
       by_cases c4:i+4<f.l.length
       ·have g4:f.l[i+4]? =some f.l[i+4]:=xG c4
        have c4':¬(f.l.length:Int)≤((i+4:Nat):Int):=by omega
        rw[g4]
        simp only
        generalize f.l[i+4]=b at g4
        by_cases k4:b.Kind=2
        ·rw[if_pos k4]
         have k4:=tt k4
         by_cases k5:15<b.N
         ·rw[if_pos k5]
          simp -implicitDefEqProofs (maxSteps:=1000000) [go_sem,h1,w1,w2,w3,w4,w5,z4,tn,isx_eq,wrongx_eq,c1,c2',g2,rk,k1,hc3,hc5,k2,hy,c3,c4',g4,k4,k5,badR,chanr_eq ok.few,procr_eq ok.few,scalr_eq ok.few,-Int.natCast_add,-List.map_map,-List.map_append,-List.map_take,-List.map_drop,-List.map_set] <;>rfl
         ·rw[if_neg k5]
          simp -implicitDefEqProofs (maxSteps:=1000000) [go_sem,h1,w1,w2,w3,w4,w5,z4,tn,isx_eq,wrongx_eq,c1,c2',g2,rk,k1,hc3,hc5,k2,hy,c3,c4',g4,k4,k5,badR,chanr_eq ok.few,procr_eq ok.few,scalr_eq ok.few,-Int.natCast_add,-List.map_map,-List.map_append,-List.map_take,-List.map_drop,-List.map_set] <;>rfl
        ·rw[if_neg k4]
         have k4:=ff k4
         simp -implicitDefEqProofs (maxSteps:=1000000) [go_sem,h1,w1,w2,w3,w4,w5,z4,tn,isx_eq,wrongx_eq,c1,c2',g2,rk,k1,hc3,hc5,k2,hy,c3,c4',g4,k4,badR,chanr_eq ok.few,procr_eq ok.few,scalr_eq ok.few,-Int.natCast_add,-List.map_map,-List.map_append,-List.map_take,-List.map_drop,-List.map_set] <;>rfl
       ·have g4:f.l[i+4]? =none:=List.getElem?_eq_none (by omega)
        have c4':(f.l.length:Int)≤((i+4:Nat):Int):=by omega
        rw[g4]
        simp -implicitDefEqProofs (maxSteps:=1000000) [go_sem,h1,w1,w2,w3,w4,w5,z4,tn,isx_eq,wrongx_eq,c1,c2',g2,rk,k1,hc3,hc5,k2,hy,c3,c4',badR,chanr_eq ok.few,procr_eq ok.few,scalr_eq ok.few,-Int.natCast_add,-List.map_map,-List.map_append,-List.map_take,-List.map_drop,-List.map_set] <;>rfl
    ·rw[hy,if_pos (rfl:wN=wN),if_neg (show¬wN=wA by decide)]
     by_cases k2:fidx (pS a.Text) f.s.Scalars<0
     ·rw[if_pos k2]
      simp -implicitDefEqProofs (maxSteps:=1000000) [go_sem,h1,w1,w2,w3,w4,w5,z4,tn,isx_eq,wrongx_eq,c1,c2',g2,rk,k1,hc3,hc5,k2,hy,badR,chanr_eq ok.few,procr_eq ok.few,scalr_eq ok.few,-Int.natCast_add,-List.map_map,-List.map_append,-List.map_take,-List.map_drop,-List.map_set] <;>rfl
     ·rw[if_neg k2]
      simp -implicitDefEqProofs (maxSteps:=1000000) [go_sem,h1,w1,w2,w3,w4,w5,z4,tn,isx_eq,wrongx_eq,c1,c2',g2,rk,k1,hc3,hc5,k2,hy,badR,chanr_eq ok.few,procr_eq ok.few,scalr_eq ok.few,-Int.natCast_add,-List.map_map,-List.map_append,-List.map_take,-List.map_drop,-List.map_set] <;>rfl
   ·rw[if_neg k1]
    have k1:=ff k1
    simp -implicitDefEqProofs (maxSteps:=1000000) [go_sem,h1,w1,w2,w3,isx_eq,wrongx_eq,c1,c2',g2,rk,k1,badR,-Int.natCast_add,-List.map_map,-List.map_append,-List.map_take,-List.map_drop,-List.map_set] <;>rfl
  ·have g2:f.l[i+2]? =none:=List.getElem?_eq_none (by omega)
   have c2':f.l.length≤i+2:=by omega
   rw[g2]
   simp -implicitDefEqProofs (maxSteps:=1000000) [go_sem,h1,w1,w2,w3,isx_eq,wrongx_eq,c1,c2',badR,-Int.natCast_add,-List.map_map,-List.map_append,-List.map_take,-List.map_drop,-List.map_set] <;>rfl
end
end Go.Etx
namespace Go.Etx
open Go Go.Am Go.Proofs
set_option maxHeartbeats 4000000
set_option maxRecDepth 20000
def putR(x:RR)(op n:Int):RR:=if x.Why=0 then⟨x.E++[⟨op,n⟩],x.At,0,0⟩else x
theorem put_res(r:Rdr)(op n:Int):resK (r.put op n)=putR (resK r) op n:=by
 unfold putR resK Rdr.put
 by_cases h:r.e=0
 ·simp[h]
 ·simp[h]
structure Of(f:Rf)(r:Rdr):Prop where
 l:r.l=f.l
 s:r.s=f.s
 stop:r.stop=f.stop
 pos:r.pos≤f.l.length
theorem Of.le{f:Rf}{r r':Rdr}(h:Of f r)(k:RLe r r'):Of f r':=⟨k.l.trans h.l,k.s.trans h.s,k.stop.trans h.stop,by have:=k.len;rw[h.l]at this;exact this h.pos⟩
theorem of_base{f:Rf}{i:Nat}(h:i≤f.l.length)(p:Int):Of f (base f i p):=⟨rfl,rfl,rfl,h⟩
theorem r_is{f:Rf}(ok:FOk f){r:Rdr}(hf:Of f r)(he:r.e=0){c:UInt8}(hc:pt c=false):r.is 3 [c]=isR f r.pos [c]:=by
 have h:=base_is (p:=0) ok (i:=r.pos) hc
 rw[←h]
 unfold Rdr.is Rdr.now base
 rw[hf.l,he]
theorem take_res{f:Rf}(ok:FOk f){r:Rdr}(hf:Of f r){c:UInt8}(hc:pt c=false):resK (r.take [c])=closedK f (resK r) [c]:=by
 by_cases he:r.e=0
 ·have hr:resK r=⟨r.out,r.pos,0,0⟩:=by unfold resK;rw[if_pos he]
  rw[hr]
  unfold closedK Rdr.take
  rw[if_pos rfl,r_is ok hf he hc]
  simp only
  by_cases h:isR f r.pos [c]=true
  ·rw[if_pos h,if_pos h]
   unfold resK
   rw[if_pos (show r.step.e=0 from he)];rfl
  ·rw[if_neg h,if_neg h]
   have e1:(r.fail 3).e=3:=by unfold Rdr.fail;rw[if_pos he]
   have e2:(r.fail 3).place=atR f r.pos:=by unfold Rdr.fail atR;rw[if_pos he,hf.l,hf.stop];cases f.l[r.pos]? <;>rfl
   unfold resK
   rw[if_neg (by rw[e1];decide),e1,e2];rfl
 ·have hr:resK r=⟨[],0,r.place,r.e⟩:=by unfold resK;rw[if_neg he]
  rw[hr,bad_res (bad_take he _) he]
  unfold closedK
  rw[if_neg he]
theorem base_at{f:Rf}{i:Nat}{p:Int}{y:Glex_Token}(h:f.l[i]? =some y):(base f i p).now=y:=by rw[base_now,h];rfl
theorem fail_res{f:Rf}{i:Nat}{p x:Int}(hx:x≠0):resK ((base f i p).fail x)=badR f i x:=fail_bad hx (Bad.refl _)
theorem eta_base{f:Rf}{r:Rdr}(hf:Of f r)(he:r.e=0):r.step=(base f (r.pos+1) r.place).pre r.out:=by
 cases r
 obtain⟨h1,h2,h3,_⟩:=hf
 simp only at h1 h2 h3 he
 subst h1 h2 h3 he
 simp[Rdr.step,base,Rdr.pre]
noncomputable section
variable{ρ:Type}
def RDoes(f:Rf)(n:Nat)(g:Nat)(ds:Nat→List D)(md:Md)(ρ:Type):Prop:=∀(i:Nat) (p:Int) (r':Rdr),i≤f.l.length→rdK n md (base f i p)=some r'→∀κ:KT ρ,cbK (call g (ds i) []) κ=κ ([rrT (resK r')],[])
abbrev dLv(f:Rf)(b:Int)(i:Nat):List D:=[pD f,.int .i64 i,.int .i64 b]
abbrev dAt(f:Rf)(i:Nat):List D:=[pD f,.int .i64 i]
theorem rd_len{n:Nat}{md:Md}{f:Rf}(ok:FOk f){i:Nat}{p:Int}{r':Rdr}(hi:i≤f.l.length)(hw:md=.word→(base f i p).now.Kind=1)(h:rdK n md (base f i p)=some r'):r'.out.length≤f.l.length∧Of f r':=by
 have le:=rdk_le hw h
 have h1:=(of_base hi p).le le
 have h2:=le.out
 have h3:=h1.pos
 have h4:(base f i p).out.length=0:=rfl
 have h5:(base f i p).pos=i:=rfl
 exact⟨by omega,h1⟩
theorem word94(f:Rf)(ok:FOk f){n:Nat}(hl:RDoes f n 29 (dLv f 1) (.level 1) ρ){i:Nat}{p:Int}{y:Glex_Token}(hy:f.l[i]? =some y)(k1:y.Kind=1)(n1:y.Text≠wS)(n2:y.Text≠wL)(n3:y.Text≠wA)(n4:y.Text≠wN){r':Rdr}(h:rdK (n+1) .word (base f i p)=some r')(κ:KT ρ):cbK (call 94 [pD f,.int .i64 i] []) κ=κ ([rrT (resK r')],[]):=by
 refine(ge94 _ _ _ rfl).trans ?_
 have hi:i<f.l.length:=(List.getElem?_eq_some_iff.1 hy).1
 have hlen:=ok.len
 have rk:∀t:Glex_Token,(rTok t).Kind=t.Kind∧(rTok t).Text=t.Text∧(rTok t).N=t.N:=fun t=>⟨rfl,rfl,rfl⟩
 have w1:IntKind.i64.wrap ((i:Int)+1)=((i+1:Nat):Int):=wrapS (by omega)
 have w2:IntKind.i64.wrap ((i:Int)+2)=((i+2:Nat):Int):=by rw[wrap_i64 (by omega) (by omega)];omega
 rw[rdK,base_at hy,if_neg n1,if_neg n2,if_neg n3,if_neg n4]at h
 have hs:(base f i p).s=f.s:=rfl
 rw[hs]at h
 rcases fidx_cases (pV y.Text) f.s.Locals with c1 |c1
 ·have st:standsK f.s y.Text=(4,fidx (pV y.Text) f.s.Locals):=by unfold standsK;rw[if_pos c1]
  rw[st,if_neg (show¬(4:Int)=0 by decide),if_neg (fun q=>absurd q.1 (show¬(4:Int)=2 by decide))]at h
  simp only[xJ]at h
  subst h
  rw[put_res]
  have e:putR (resK (base f i p).step) 4 (fidx (pV y.Text) f.s.Locals)=⟨[⟨4,fidx (pV y.Text) f.s.Locals⟩],i+1,0,0⟩:=rfl
  rw[e]
  simp -implicitDefEqProofs (maxSteps:=1000000) [go_sem,hy,rk,w1,localr_eq ok.few,c1,-Int.natCast_add,-List.map_map,-List.map_append,-List.map_take,-List.map_drop,-List.map_set] <;>rfl
 ·have c1':fidx (pV y.Text) f.s.Locals<0:=by omega
  have c1n:¬0≤fidx (pV y.Text) f.s.Locals:=by omega
  rcases fidx_cases (pV y.Text) f.s.Vars with c2 |c2
  ·have st:standsK f.s y.Text=(2,fidx (pV y.Text) f.s.Vars):=by unfold standsK;rw[if_neg c1n,if_pos c2]
   have c2n:¬fidx (pV y.Text) f.s.Vars<0:=by omega
   rw[st,if_neg (show¬(2:Int)=0 by decide)]at h
   have his:(base f i p).step.is 3 [91]=isR f (i+1) [91]:=base_is ok (i:=i+1) (by decide)
   rw[his]at h
   cases hb:isR f (i+1) [91]with
   |true=>
    rw[if_pos ⟨rfl,hb⟩]at h
    simp only[xM]at h
    obtain⟨r1,h1,rfl⟩:=h
    have hi2:i+1<f.l.length:=by
     rcases Nat.lt_or_ge (i+1) f.l.length with q |q
     ·exact q
     ·unfold isR at hb;rw[List.getElem?_eq_none q]at hb;cases hb
    have hlv:=fun κ=>hl (i+2) p r1 hi2 h1 κ
    obtain⟨hln,hof⟩:=rd_len ok (i:=i+2) hi2 (fun q=>by cases q) h1
    have hAt:(resK r1).At<4611686018427387904:=by unfold resK;split;(have:=hof.pos;show r1.pos< _;omega);(show 0< _;omega)
    have hcl:=fun κ=>closed_w (ρ:=ρ) f (resK r1) hAt [93] κ
    rw[put_res,take_res ok hof (by decide)]
    have hE:(closedK f (resK r1) [93]).E.length≤f.l.length:=by
     have h0:(resK r1).E.length≤f.l.length:=by unfold resK;split;exact hln;exact Nat.zero_le _
     unfold closedK badR
     split
     ·split
      ·exact h0
      ·exact Nat.zero_le _
     ·exact h0
    generalize closedK f (resK r1) [93]=x at *
    have b1:(x.E.length+1) * 16≤140737488355328∧x.E.length≤9223372036854775806:=by omega
    have b2:x.E.length * 16≤140737488355328∧x.E.length≤9223372036854775807:=by omega
    have b3:¬9223372036854775807<x.E.length:=by omega
    unfold putR
    by_cases hx:x.Why=0
    ·rw[if_pos hx]
     have hx:=tt hx
     simp -implicitDefEqProofs (maxSteps:=1000000) [go_sem,hy,rk,w1,w2,localr_eq ok.few,varr11_eq ok.few,isx_eq,wrongx_eq,c1',c1n,c2n,hb,hlv,hcl,hx,b1,b2,b3,-Int.natCast_add,-List.map_map,-List.map_append,-List.map_take,-List.map_drop,-List.map_set]
    ·rw[if_neg hx]
     have hx:=ff hx
     simp -implicitDefEqProofs (maxSteps:=1000000) [go_sem,hy,rk,w1,w2,localr_eq ok.few,varr11_eq ok.few,isx_eq,wrongx_eq,c1',c1n,c2n,hb,hlv,hcl,hx,b1,b2,b3,-Int.natCast_add,-List.map_map,-List.map_append,-List.map_take,-List.map_drop,-List.map_set]
   |false=>
    rw[if_neg (fun q=>by rw[hb]at q;cases q.2)]at h
    simp only[xJ]at h
    subst h
    rw[put_res]
    have e:putR (resK (base f i p).step) 2 (fidx (pV y.Text) f.s.Vars)=⟨[⟨2,fidx (pV y.Text) f.s.Vars⟩],i+1,0,0⟩:=rfl
    rw[e]
    simp -implicitDefEqProofs (maxSteps:=1000000) [go_sem,hy,rk,w1,localr_eq ok.few,varr11_eq ok.few,isx_eq,wrongx_eq,c1',c1n,c2n,hb,-Int.natCast_add,-List.map_map,-List.map_append,-List.map_take,-List.map_drop,-List.map_set] <;>rfl
  ·have st:standsK f.s y.Text=(0,-1):=by unfold standsK;rw[if_neg c1n,if_neg (by omega)]
   have c2':fidx (pV y.Text) f.s.Vars<0:=by omega
   rw[st,if_pos rfl]at h
   simp only[xJ]at h
   subst h
   rw[fail_res (by decide)]
   simp -implicitDefEqProofs (maxSteps:=1000000) [go_sem,hy,rk,w1,localr_eq ok.few,varr11_eq ok.few,isx_eq,wrongx_eq,c1',c1n,c2',badR,-Int.natCast_add,-List.map_map,-List.map_append,-List.map_take,-List.map_drop,-List.map_set] <;>rfl
theorem leaf58(f:Rf)(ok:FOk f){n:Nat}(hl:RDoes f n 29 (dLv f 1) (.level 1) ρ)(hw:∀m,n=m+1→RDoes f m 29 (dLv f 1) (.level 1) ρ):RDoes f (n+1) 58 (dAt f) .leaf ρ:=by
 intro i p r' hi h κ
 refine(ge58 _ _ _ rfl).trans ?_
 have hlen:=ok.len
 have rk:∀t:Glex_Token,(rTok t).Kind=t.Kind∧(rTok t).Text=t.Text∧(rTok t).N=t.N:=fun t=>⟨rfl,rfl,rfl⟩
 have w1:IntKind.i64.wrap ((i:Int)+1)=((i+1:Nat):Int):=wrapS (by omega)
 rw[rdK,if_pos (show(base f i p).e=0 from rfl)]at h
 by_cases hlt:i<f.l.length
 ·have hy:f.l[i]? =some f.l[i]:=xG hlt
  have hn:¬f.l.length≤i:=by omega
  generalize f.l[i]=y at hy
  rw[base_at hy]at h
  by_cases k2:y.Kind=2
  ·rw[if_pos k2]at h
   simp only[xJ]at h
   subst h
   rw[put_res]
   have e:putR (resK (base f i p).step) 1 y.N=⟨[⟨1,y.N⟩],i+1,0,0⟩:=rfl
   rw[e]
   have k2:=tt k2
   simp -implicitDefEqProofs (maxSteps:=1000000) [go_sem,hy,rk,w1,hn,k2,-Int.natCast_add,-List.map_map,-List.map_append,-List.map_take,-List.map_drop,-List.map_set] <;>rfl
  rw[if_neg k2]at h
  by_cases k1:y.Kind=1
  ·have h40:(base f i p).is 3 [40]=false:=by
    unfold Rdr.is
    rw[base_at hy,k1]
    simp
   rw[if_neg (by rw[h40];decide),if_pos k1]at h
   have k2:=ff k2
   have k1':=tt k1
   cases n with
   |zero=>simp[rdK]at h
   |succ m=>
    by_cases n1:y.Text=wS
    ·rw[rdK,base_at hy,if_pos n1]at h
     simp only[xJ]at h
     subst h
     rw[put_res]
     have e:putR (resK (base f i p).step) 5 0=⟨[⟨5,0⟩],i+1,0,0⟩:=rfl
     rw[e]
     have n1:=tt n1
     simp -implicitDefEqProofs (maxSteps:=1000000) [go_sem,hy,rk,w1,hn,k2,k1',n1,-Int.natCast_add,-List.map_map,-List.map_append,-List.map_take,-List.map_drop,-List.map_set] <;>rfl
    by_cases n2:y.Text=wL
    ·have ho:=fun κ=>of_w (ρ:=ρ) f ok i y hy (.inl n2) κ
     rw[rdK,base_at hy,if_neg n1,if_pos n2]at h
     simp only[xJ]at h
     subst h
     rw[length_res ok i]
     rw[n2]at ho
     have n1:=ff n1
     have n2:=tt n2
     simp -implicitDefEqProofs (maxSteps:=1000000) [go_sem,hy,rk,w1,hn,k2,k1',n1,n2,ho,-Int.natCast_add,-List.map_map,-List.map_append,-List.map_take,-List.map_drop,-List.map_set] <;>rfl
    by_cases n3:y.Text=wA
    ·have ho:=fun κ=>of_w (ρ:=ρ) f ok i y hy (.inr (.inl n3)) κ
     rw[rdK,base_at hy,if_neg n1,if_neg n2,if_pos n3]at h
     simp only[xJ]at h
     subst h
     rw[where_res ok i]
     rw[n3]at ho
     have n1:=ff n1
     have n2:=ff n2
     have n3:=tt n3
     simp -implicitDefEqProofs (maxSteps:=1000000) [go_sem,hy,rk,w1,hn,k2,k1',n1,n2,n3,ho,-Int.natCast_add,-List.map_map,-List.map_append,-List.map_take,-List.map_drop,-List.map_set] <;>rfl
    by_cases n4:y.Text=wN
    ·have ho:=fun κ=>of_w (ρ:=ρ) f ok i y hy (.inr (.inr n4)) κ
     rw[rdK,base_at hy,if_neg n1,if_neg n2,if_neg n3,if_pos n4]at h
     simp only[xJ]at h
     subst h
     rw[nothing_res ok i]
     rw[n4]at ho
     have n1:=ff n1
     have n2:=ff n2
     have n3:=ff n3
     have n4:=tt n4
     simp -implicitDefEqProofs (maxSteps:=1000000) [go_sem,hy,rk,w1,hn,k2,k1',n1,n2,n3,n4,ho,-Int.natCast_add,-List.map_map,-List.map_append,-List.map_take,-List.map_drop,-List.map_set] <;>rfl
    ·have hwd:=fun κ=>word94 (ρ:=ρ) f ok (hw m rfl) hy k1 n1 n2 n3 n4 h κ
     have n1:=ff n1
     have n2:=ff n2
     have n3:=ff n3
     have n4:=ff n4
     simp -implicitDefEqProofs (maxSteps:=1000000) [go_sem,hy,rk,w1,hn,k2,k1',n1,n2,n3,n4,hwd,-Int.natCast_add,-List.map_map,-List.map_append,-List.map_take,-List.map_drop,-List.map_set] <;>rfl
  ·rw[base_is ok (by decide),if_neg k1]at h
   have hi40:isR f i [40]=decide (y.Text=[40]):=by unfold isR;rw[hy]
   rw[hi40]at h
   have k2:=ff k2
   have k1:=ff k1
   by_cases t40:y.Text=[40]
   ·rw[if_pos (decide_eq_true t40)]at h
    simp only[xM]at h
    obtain⟨r1,h1,rfl⟩:=h
    have hlv:=fun κ=>hl (i+1) p r1 hlt h1 κ
    obtain⟨hln,hof⟩:=rd_len ok (i:=i+1) hlt (fun q=>by cases q) h1
    have hAt:(resK r1).At<4611686018427387904:=by unfold resK;split;(have:=hof.pos;show r1.pos< _;omega);(show 0< _;omega)
    have hcl:=fun κ=>closed_w (ρ:=ρ) f (resK r1) hAt [41] κ
    rw[take_res ok hof (by decide)]
    have t40:=tt t40
    simp -implicitDefEqProofs (maxSteps:=1000000) [go_sem,hy,rk,w1,hn,k2,k1,t40,hlv,hcl,-Int.natCast_add,-List.map_map,-List.map_append,-List.map_take,-List.map_drop,-List.map_set] <;>rfl
   ·rw[if_neg (by simpa using t40)]at h
    simp only[xJ]at h
    subst h
    rw[fail_res (by decide)]
    have t40:=ff t40
    simp -implicitDefEqProofs (maxSteps:=1000000) [go_sem,hy,rk,w1,hn,k2,k1,t40,isx_eq,wrongx_eq,badR,-Int.natCast_add,-List.map_map,-List.map_append,-List.map_take,-List.map_drop,-List.map_set] <;>rfl
 ·have hn:f.l.length≤i:=by omega
  have hnow:(base f i p).now=tok0:=by rw[base_now,List.getElem?_eq_none hn];rfl
  have h40:(base f i p).is 3 [40]=false:=by
   unfold Rdr.is
   rw[hnow]
   simp
  rw[hnow,if_neg (by decide),if_neg (by rw[h40];decide),if_neg (by decide)]at h
  simp only[xJ]at h
  subst h
  rw[fail_res (by decide)]
  simp -implicitDefEqProofs (maxSteps:=1000000) [go_sem,hn,isx_eq,wrongx_eq,badR,-Int.natCast_add,-List.map_map,-List.map_append,-List.map_take,-List.map_drop,-List.map_set] <;>rfl
theorem strong29(f:Rf)(ok:FOk f){n:Nat}(hs:RDoes f n 29 (dLv f 6) .strong ρ)(hlf:RDoes f n 58 (dAt f) .leaf ρ):RDoes f (n+1) 29 (dLv f 6) .strong ρ:=by
 intro i p r' hi h κ
 refine(ge29 _ _ _ rfl).trans ?_
 have hlen:=ok.len
 have rk:∀t:Glex_Token,(rTok t).Kind=t.Kind∧(rTok t).Text=t.Text∧(rTok t).N=t.N:=fun t=>⟨rfl,rfl,rfl⟩
 have w1:IntKind.i64.wrap ((i:Int)+1)=((i+1:Nat):Int):=wrapS (by omega)
 have w2:IntKind.i64.wrap ((i:Int)+2)=((i+2:Nat):Int):=by rw[wrap_i64 (by omega) (by omega)];omega
 rw[rdK,base_is ok (by decide),base_is ok (by decide)]at h
 have lt_of:∀c:UInt8,isR f i [c]=true→i<f.l.length:=fun c hc=>by
  rcases Nat.lt_or_ge i f.l.length with q |q
  ·exact q
  ·unfold isR at hc;rw[List.getElem?_eq_none q]at hc;cases hc
 have bnd:∀{j:Nat} {r1:Rdr},j≤f.l.length→rdK n .strong (base f j p)=some r1→((resK r1).E.length+1) * 16≤140737488355328∧(resK r1).E.length≤9223372036854775806∧(resK r1).E.length * 16≤140737488355328∧(resK r1).E.length≤9223372036854775807∧¬9223372036854775807<(resK r1).E.length:=fun hj h1=>by
  obtain⟨hln,hof⟩:=rd_len ok hj (fun q=>by cases q) h1
  unfold resK
  split
  ·simp only;omega
  ·simp
 cases c1:isR f i [33]with
 |true=>
  rw[if_pos c1]at h
  simp only[xM]at h
  obtain⟨r1,h1,rfl⟩:=h
  have hlt:=lt_of _ c1
  have hst:=fun κ=>hs (i+1) p r1 hlt h1 κ
  have b1:=bnd hlt h1
  have c45:isR f i [45]=false:=by
   unfold isR at c1 ⊢
   rw[xG hlt]at c1 ⊢
   simp only[yD]at c1
   show decide (f.l[i].Text=[45])=false
   rw[c1];rfl
  rw[put_res]
  generalize resK r1=x at *
  unfold putR
  by_cases hx:x.Why=0
  ·rw[if_pos hx]
   have hx:=tt hx
   simp -implicitDefEqProofs (maxSteps:=1000000) [go_sem,isx_eq,w1,c1,c45,hst,hx,b1,-Int.natCast_add,-List.map_map,-List.map_append,-List.map_take,-List.map_drop,-List.map_set]
  ·rw[if_neg hx]
   have hx:=ff hx
   simp -implicitDefEqProofs (maxSteps:=1000000) [go_sem,isx_eq,w1,c1,c45,hst,hx,b1,-Int.natCast_add,-List.map_map,-List.map_append,-List.map_take,-List.map_drop,-List.map_set] <;>rfl
 |false=>
  rw[if_neg (by rw[c1];decide)]at h
  cases c2:isR f i [45]with
  |true=>
   rw[if_pos c2]at h
   have hlt:=lt_of _ c2
   have hstep:(base f i p).step=base f (i+1) p:=rfl
   rw[hstep]at h
   by_cases c3:i+1<f.l.length
   ·have hy:f.l[i+1]? =some f.l[i+1]:=xG c3
    rw[base_at hy]at h
    by_cases k2:f.l[i+1].Kind=2
    ·rw[if_pos k2]at h
     simp only[xJ]at h
     subst h
     rw[put_res]
     have e:putR (resK (base f (i+1) p).step) 1 (w64 (-f.l[i+1].N))=⟨[⟨1,w64 (-f.l[i+1].N)⟩],i+2,0,0⟩:=rfl
     rw[e]
     have k2:=tt k2
     simp -implicitDefEqProofs (maxSteps:=1000000) [go_sem,isx_eq,w1,w2,c1,c2,c3,hy,rk,k2,-Int.natCast_add,-List.map_map,-List.map_append,-List.map_take,-List.map_drop,-List.map_set] <;>rfl
    ·rw[if_neg k2]at h
     simp only[xM]at h
     obtain⟨r1,h1,rfl⟩:=h
     have hst:=fun κ=>hs (i+1) p r1 hlt h1 κ
     have b1:=bnd hlt h1
     rw[put_res]
     generalize resK r1=x at *
     unfold putR
     have k2:=ff k2
     by_cases hx:x.Why=0
     ·rw[if_pos hx]
      have hx:=tt hx
      simp -implicitDefEqProofs (maxSteps:=1000000) [go_sem,isx_eq,w1,w2,c1,c2,c3,hy,rk,k2,hst,hx,b1,-Int.natCast_add,-List.map_map,-List.map_append,-List.map_take,-List.map_drop,-List.map_set]
     ·rw[if_neg hx]
      have hx:=ff hx
      simp -implicitDefEqProofs (maxSteps:=1000000) [go_sem,isx_eq,w1,w2,c1,c2,c3,hy,rk,k2,hst,hx,b1,-Int.natCast_add,-List.map_map,-List.map_append,-List.map_take,-List.map_drop,-List.map_set] <;>rfl
   ·have hnow:(base f (i+1) p).now=tok0:=by rw[base_now,List.getElem?_eq_none (by omega)];rfl
    rw[hnow,if_neg (by decide)]at h
    simp only[xM]at h
    obtain⟨r1,h1,rfl⟩:=h
    have hst:=fun κ=>hs (i+1) p r1 hlt h1 κ
    have b1:=bnd hlt h1
    rw[put_res]
    generalize resK r1=x at *
    unfold putR
    by_cases hx:x.Why=0
    ·rw[if_pos hx]
     have hx:=tt hx
     simp -implicitDefEqProofs (maxSteps:=1000000) [go_sem,isx_eq,w1,w2,c1,c2,c3,hst,hx,b1,-Int.natCast_add,-List.map_map,-List.map_append,-List.map_take,-List.map_drop,-List.map_set]
    ·rw[if_neg hx]
     have hx:=ff hx
     simp -implicitDefEqProofs (maxSteps:=1000000) [go_sem,isx_eq,w1,w2,c1,c2,c3,hst,hx,b1,-Int.natCast_add,-List.map_map,-List.map_append,-List.map_take,-List.map_drop,-List.map_set] <;>rfl
  |false=>
   rw[if_neg (by rw[c2];decide)]at h
   have hc:=fun κ=>hlf i p r' hi h κ
   simp -implicitDefEqProofs (maxSteps:=1000000) [go_sem,isx_eq,c1,c2,hc,-Int.natCast_add,-List.map_map,-List.map_append,-List.map_take,-List.map_drop,-List.map_set] <;>rfl
theorem level29_7(f:Rf){n:Nat}(hlf:RDoes f n 58 (dAt f) .leaf ρ):RDoes f (n+1) 29 (dLv f 7) (.level 7) ρ:=by
 intro i p r' hi h κ
 refine(ge29 _ _ _ rfl).trans ?_
 rw[rdK,if_neg (by decide),if_pos rfl]at h
 have hc:=fun κ=>hlf i p r' hi h κ
 simp -implicitDefEqProofs (maxSteps:=1000000) [go_sem,hc,-Int.natCast_add,-List.map_map,-List.map_append,-List.map_take,-List.map_drop,-List.map_set] <;>rfl
theorem level29_r(f:Rf){b:Int}(hb:b<6){i:Nat}{x:RR}(hr:∀κ:KT ρ,cbK (call 57 [pD f,.int .i64 i,.int .i64 b] []) κ=κ ([rrT x],[]))(κ:KT ρ):cbK (call 29 [pD f,.int .i64 i,.int .i64 b] []) κ=κ ([rrT x],[]):=by
 refine(ge29 _ _ _ rfl).trans ?_
 simp -implicitDefEqProofs (maxSteps:=1000000) [go_sem,hb,hr,-Int.natCast_add,-List.map_map,-List.map_append,-List.map_take,-List.map_drop,-List.map_set] <;>rfl
end
end Go.Etx
namespace Go.Etx
open Go Go.Am Go.Proofs
set_option maxHeartbeats 4000000
set_option maxRecDepth 20000
noncomputable section
variable{ρ:Type}
theorem news_p{nv:Nat}{r:Root}{q:Nat×Nat}{p:Path}{off m:Nat}{k:Wk}:newsE nv (.bor r (q::p) off m) k=(k.get r).bind fun c=>(c.at (q::p)).bind fun nd=>match nd with
  | .own es=>if plainT (win es off m)=true then some (win es off m,k)else none
  |_=>none:=by
 cases r <;>rfl
theorem plain_nd:∀(l:List GNode),plainT (tl eNode l)=true
 | []=>rfl
 |_::l=>plain_nd l
abbrev oT(x:RR):T:=.agg [.own (tl eNode x.E),.d (.int .i64 x.At),.d (.int .i64 x.Place),.d (.int .i64 x.Why)]
abbrev rowC(f:Rf)(t:T):List ((Nat×Nat)×T):=[((3,0),.own [.d (pD f)]),((6,0),.own [.agg [.own [],.d (.int .i64 0),.d (.int .i64 0),.d (.int .i64 0)]]),((7,0),.own [t])]
abbrev rowE(b cnt:Int)(l:List (Nat×SV)):List (Nat×SV):=(2,.d (.int .i64 b))::(3,.loc (Root.l 3 0) [] 0 0)::(6,.loc (Root.l 6 0) [] 0 0)::(7,.loc (Root.l 7 0) [] 0 0)::(8,.d (.int .i64 cnt))::l
abbrev cellT(c:Bool)(x:RR):T:=if c=true then oT x else rrT x
theorem tl_or(l m:List GNode):((¬l=[]∨tl eNode l=[])∨¬tl eNode m=[])=True:=by
 refine eq_true (.inl ?_)
 by_cases h:l=[]
 ·exact .inr (by rw[h];rfl)
 ·exact .inl h
theorem take_app(l m:List GNode):List.take (l.length+m.length) (l++m)=l++m:=List.take_of_length_le (by simp)
theorem row_end(f:Rf)(b cnt:Int)(x:RR)(c:Bool)(h:x.Why≠0∨¬0<sgnR f x.At b∨(b=3∧cnt≠0))(κ:Am.Ex×St→Option ρ):goLp P hints hint57 b57 0 ⟨rowE b cnt [],rowC f (cellT c x),[]⟩ κ=κ (.exit 0,⟨rowE b cnt [(34,.d (.bool false))],rowC f (cellT c x),[]⟩):=by
 refine(goLp_turn q57_0.2).trans ?_
 by_cases h0:x.Why=0
 ·have h0:=tt h0
  by_cases h1:0<sgnR f x.At b
  ·have h2:b=3∧cnt≠0:=by
    rcases h with h |h |h
    ·exact absurd (of_eq_true h0) h
    ·exact absurd h1 h
    ·exact h
   have h3:=tt h2.1
   have h4:=ff h2.2
   have h1:=tt h1
   cases c <;>simp -implicitDefEqProofs (maxSteps:=1000000) [go_sem,news_p,plain_nd,cellT,oT,opr_eq,h0,h1,h3,h4,-Int.natCast_add,-List.map_map,-List.map_append,-List.map_take,-List.map_drop,-List.map_set]
  ·have h1:=ff h1
   cases c <;>simp -implicitDefEqProofs (maxSteps:=1000000) [go_sem,news_p,plain_nd,cellT,oT,opr_eq,h0,h1,-Int.natCast_add,-List.map_map,-List.map_append,-List.map_take,-List.map_drop,-List.map_set]
 ·have h0:=ff h0
  cases c <;>simp -implicitDefEqProofs (maxSteps:=1000000) [go_sem,news_p,plain_nd,cellT,oT,opr_eq,h0,-Int.natCast_add,-List.map_map,-List.map_append,-List.map_take,-List.map_drop,-List.map_set]
theorem row_go(f:Rf)(b cnt:Int)(x y:RR)(c:Bool)(hb:b=3→cnt=0)(h:x.Why=0)(h2:0<sgnR f x.At b)(wb:IntKind.i64.wrap (b+1)=b+1)(wa:IntKind.i64.wrap ((x.At:Int)+1)=((x.At+1:Nat):Int))(hl:∀κ:KT ρ,cbK (call 29 [pD f,.int .i64 ((x.At+1:Nat):Int),.int .i64 (b+1)] []) κ=κ ([rrT y],[]))
  (hx:x.E.length<1000000) (hy:y.E.length<1000000) (κ:Am.Ex×St→Option ρ):goLp P hints hint57 b57 0 ⟨rowE b cnt [],rowC f (cellT c x),[]⟩ κ=
   if y.Why=0 then goLp P hints hint57 b57 0 ⟨rowE b (IntKind.i64.wrap (cnt+1)) [],rowC f (oT ⟨x.E++y.E++[⟨sgnR f x.At b,0⟩],y.At,0,0⟩),[]⟩ κ
   else κ (.ret,⟨[(6,.loc (Root.l 6 0) [] 0 0)],[((6,0),.own [rrT y])],[]⟩):=by
 refine(goLp_turn q57_0.2).trans ?_
 have h:=tt h
 have h2:=tt h2
 have b1:x.E.length * 16≤140737488355328∧x.E.length≤9223372036854775807:=by omega
 have b2:(x.E.length+y.E.length) * 16≤140737488355328∧x.E.length+y.E.length≤9223372036854775807:=by omega
 have b3:(x.E.length+y.E.length+1) * 16≤140737488355328∧x.E.length+y.E.length≤9223372036854775806:=by omega
 have b4:(x.E.length+y.E.length+1=x.E.length+(y.E.length+1))=True:=eq_true (Nat.add_assoc _ _ _)
 by_cases hb3:b=3
 ·have hc:=hb hb3
  have hb3:=tt hb3
  subst hc
  cases c <;>simp -implicitDefEqProofs (maxSteps:=1000000) [go_sem,news_p,plain_nd,cellT,oT,opr_eq,h,h2,hb3,wb,wa,hl,b1,b2,b3,b4,tl_or,take_app,-Int.natCast_add,-List.map_map,-List.map_append,-List.map_take,-List.map_drop,-List.map_set] <;>rfl
 ·have hb3:=ff hb3
  cases c <;>simp -implicitDefEqProofs (maxSteps:=1000000) [go_sem,news_p,plain_nd,cellT,oT,opr_eq,h,h2,hb3,wb,wa,hl,b1,b2,b3,b4,tl_or,take_app,-Int.natCast_add,-List.map_map,-List.map_append,-List.map_take,-List.map_drop,-List.map_set] <;>rfl
theorem opK_some{t:List UInt8}{b o:Int}(h:opK t b=some o):0<o:=by
 have hm:=List.mem_of_find?_eq_some h
 have:∀o∈([11,12,13,14,15,16,17,18,19]:List Int),0<o:=by decide
 exact this o hm
theorem row_loop(f:Rf)(ok:FOk f){b:Int}(hb:1≤b∧b≤5)(κ:Am.Ex×St→Option ρ)(A:RR→Option ρ)
  (hr:∀x:RR,κ (.ret,⟨[(6,.loc (Root.l 6 0) [] 0 0)],[((6,0),.own [rrT x])],[]⟩)=A x)
  (he:∀(cnt:Int) (c:Bool) (x:RR),κ (.exit 0,⟨rowE b cnt [(34,.d (.bool false))],rowC f (cellT c x),[]⟩)=A x):
  ∀(n:Nat),(∀m,m<n→RDoes f m 29 (dLv f (b+1)) (.level (b+1)) ρ)→∀(R r':Rdr) (c:Bool) (cnt:Int),rdK n (.rest b) R=some r'→Of f R→R.out.length≤R.pos→(b=3→cnt=0)→
   goLp P hints hint57 b57 0 ⟨rowE b cnt [],rowC f (cellT c (resK R)),[]⟩ κ=A (resK r')
 |0,_,R,r',c,cnt,h,_,_,_=>by simp[rdK]at h
 |n+1,hnext,R,r',c,cnt,h,hf,hout,h3=>by
  have hlen:=ok.len
  have hpos:=hf.pos
  rw[rdK]at h
  by_cases h0:R.e=0
  ·have hx:resK R=⟨R.out,R.pos,0,0⟩:=by unfold resK;rw[if_pos h0]
   rw[if_pos h0]at h
   have hnow:R.now=(f.l[R.pos]?).getD tok0:=by unfold Rdr.now;rw[hf.l]
   cases ho:opK R.now.Text b with
   |none=>
    rw[ho]at h
    simp only[xJ]at h
    subst h
    rw[row_end f b cnt (resK R) c (.inr (.inl ?_)),he]
    rw[hx]
    simp only
    unfold sgnR
    cases hg:f.l[R.pos]? with
    |none=>simp
    |some y=>
     rw[hg]at hnow
     have hny:R.now=y:=hnow
     rw[hny]at ho
     simp only[ho]
     split <;>simp
   |some o=>
    rw[ho]at h
    simp only at h
    by_cases hk:R.now.Kind=3
    ·rw[if_pos hk]at h
     have hlt:R.pos<f.l.length:=by have:=now_lt (r:=R) (by rw[hk];decide);rw[hf.l]at this;exact this
     have hg:f.l[R.pos]? =some f.l[R.pos]:=xG hlt
     have hny:R.now=f.l[R.pos]:=by rw[hnow,hg];rfl
     have hs:sgnR f R.pos b=o:=by
      unfold sgnR
      rw[hg]
      rw[hny]at ho hk
      simp only[hk,ho,if_true,Option.getD_some]
     simp only[xB]at h
     obtain⟨r1,h1,h2⟩:=h
     rw[eta_base hf h0,rd_pre]at h1
     simp only[xM]at h1
     obtain⟨r2,h1,rfl⟩:=h1
     have hlv:=fun κ=>hnext n (Nat.lt_succ_self n) (R.pos+1) R.place r2 hlt h1 κ
     obtain⟨hln,hof⟩:=rd_len ok (i:=R.pos+1) hlt (fun q=>by cases q) h1
     have hle:=rdk_le (fun q=>by cases q) h1
     have ho2:r2.out.length+(R.pos+1)≤r2.pos:=by have:=hle.out;have e:(base f (R.pos+1) R.place).out.length=0:=rfl;have e2:(base f (R.pos+1) R.place).pos=R.pos+1:=rfl;omega
     have hE:(resK r2).E.length<1000000:=by unfold resK;split;(show r2.out.length< _;omega);(show 0< _;omega)
     have hgo:=row_go f b cnt (resK R) (resK r2) c h3 (by rw[hx]) (by rw[hx];show 0<sgnR f R.pos b;rw[hs];exact opK_some ho) (wrap_i64 (by omega) (by omega)) (by rw[hx];exact wrapS (by show R.pos< _;omega)) (by rw[hx];exact hlv) (by rw[hx];show R.out.length< _;omega) hE κ
     rw[hgo]
     by_cases w0:r2.e=0
     ·have hy:resK r2=⟨r2.out,r2.pos,0,0⟩:=by unfold resK;rw[if_pos w0]
      rw[hy,if_pos rfl]
      have hR2:resK ((r2.pre R.out).put o 0)=⟨R.out++r2.out++[⟨o,0⟩],r2.pos,0,0⟩:=by
       rw[put_res]
       have e:resK (r2.pre R.out)=⟨R.out++r2.out,r2.pos,0,0⟩:=by unfold resK;rw[if_pos (show(r2.pre R.out).e=0 from w0)];rfl
       rw[e];rfl
      rw[hx]
      simp only[hs]
      rw[←hR2]
      by_cases hb3:b=3
      ·rw[if_pos hb3]at h2
       simp only[xJ]at h2
       subst h2
       have hc:=h3 hb3
       subst hc
       have:=row_end f b (IntKind.i64.wrap (0+1)) (resK ((r2.pre R.out).put o 0)) true (.inr (.inr ⟨hb3,by decide⟩)) κ
       exact this.trans (he _ true _)
      ·rw[if_neg hb3]at h2
       have hst:((r2.pre R.out).put o 0).stop=f.stop:=by unfold Rdr.put;split <;>exact hof.stop
       have hof2:Of f ((r2.pre R.out).put o 0):=⟨by rw[put_l];exact hof.l,by rw[put_s];exact hof.s,hst,by rw[put_pos];exact hof.pos⟩
       have ho3:((r2.pre R.out).put o 0).out.length≤((r2.pre R.out).put o 0).pos:=by
        rw[put_pos]
        unfold Rdr.put
        rw[if_pos (show(r2.pre R.out).e=0 from w0)]
        show(R.out++r2.out++[(⟨o,0⟩:GNode)]).length≤r2.pos
        simp only[xP,List.length_singleton]
        omega
       exact row_loop f ok hb κ A hr he n (fun m hm=>hnext m (by omega)) _ r' true _ h2 hof2 ho3 (fun q=>absurd q hb3)
     ·have hy:resK r2=⟨[],0,r2.place,r2.e⟩:=by unfold resK;rw[if_neg w0]
      have hbad:Bad r2 ((r2.pre R.out).put o 0):=(⟨rfl,rfl⟩:Bad r2 (r2.pre R.out)).trans (bad_put (show(r2.pre R.out).e≠0 from w0) _ _)
      have hres:resK r'=resK r2:=by
       rw[hy]
       by_cases hb3:b=3
       ·rw[if_pos hb3]at h2
        simp only[xJ]at h2
        subst h2
        exact bad_res hbad w0
       ·rw[if_neg hb3]at h2
        cases n with
        |zero=>simp[rdK]at h2
        |succ n=>
         rw[rdK,if_neg (hbad.ne w0)]at h2
         simp only[xJ]at h2
         subst h2
         exact bad_res hbad w0
      rw[hres,hy,if_neg w0,hr]
    ·rw[if_neg hk]at h
     simp only[xJ]at h
     subst h
     rw[row_end f b cnt (resK R) c (.inr (.inl ?_)),he]
     rw[hx]
     simp only
     unfold sgnR
     cases hg:f.l[R.pos]? with
     |none=>simp
     |some y=>
      rw[hg]at hnow
      have hny:R.now=y:=hnow
      rw[hny]at hk
      simp only[hk,if_false];simp
  ·rw[if_neg h0]at h
   simp only[xJ]at h
   subst h
   rw[row_end f b cnt (resK R) c (.inl ?_),he]
   unfold resK
   rw[if_neg h0];exact h0
theorem row57(f:Rf)(ok:FOk f){b:Int}(hb:1≤b∧b≤5){n:Nat}(hnext:∀m,m≤n→RDoes f m 29 (dLv f (b+1)) (.level (b+1)) ρ){i:Nat}{p:Int}{r1 r':Rdr}(hi:i≤f.l.length)(h1:rdK n (.level (b+1)) (base f i p)=some r1)(h2:rdK n (.rest b) r1=some r')(κ:KT ρ):cbK (call 57 [pD f,.int .i64 i,.int .i64 b] []) κ=κ ([rrT (resK r')],[]):=by
 refine(ge57 _ _ _ rfl).trans ?_
 have hlv:=fun κ=>hnext n (Nat.le_refl n) i p r1 hi h1 κ
 have wb:IntKind.i64.wrap (b+1)=b+1:=wrap_i64 (by omega) (by omega)
 obtain⟨hln,hof⟩:=rd_len ok hi (fun q=>by cases q) h1
 have hle:=rdk_le (fun q=>by cases q) h1
 have ho:r1.out.length≤r1.pos:=by have:=hle.out;have e:(base f i p).out.length=0:=rfl;have e2:(base f i p).pos=i:=rfl;omega
 simp -implicitDefEqProofs (maxSteps:=1000000) [go_sem,wb,hlv,-Int.natCast_add,-List.map_map,-List.map_append,-List.map_take,-List.map_drop,-List.map_set]
 refine row_loop f ok hb _ (fun x=>κ ([rrT x],[])) (fun x=> ?_) (fun cnt c x=> ?_) n (fun m hm=>hnext m (by omega)) r1 r' false 0 h2 hof ho (fun _=>rfl)
 ·simp -implicitDefEqProofs (maxSteps:=1000000) [go_sem,-Int.natCast_add,-List.map_map,-List.map_append,-List.map_take,-List.map_drop,-List.map_set]
 ·cases c <;>simp -implicitDefEqProofs (maxSteps:=1000000) [go_sem,cellT,-Int.natCast_add,-List.map_map,-List.map_append,-List.map_take,-List.map_drop,-List.map_set]
theorem rall_w(f:Rf)(ok:FOk f):∀(N n:Nat),n≤N→RDoes f n 29 (dLv f 6) .strong ρ∧RDoes f n 58 (dAt f) .leaf ρ∧∀b:Int,1≤b→b≤7→RDoes f n 29 (dLv f b) (.level b) ρ:=by
 have zero:∀g ds md,RDoes f 0 g ds md ρ:=fun g ds md i p r' _ h=>by simp[rdK]at h
 intro N
 induction N with
 |zero=>
  intro n hn
  obtain rfl:n=0:=by omega
  exact⟨zero _ _ _,zero _ _ _,fun b _ _=>zero _ _ _⟩
 |succ N ih=>
  intro n hn
  cases n with
  |zero=>exact⟨zero _ _ _,zero _ _ _,fun b _ _=>zero _ _ _⟩
  |succ n=>
   obtain⟨i1,i2,i3⟩:=ih n (by omega)
   refine⟨strong29 f ok i1 i2,leaf58 f ok (i3 1 (by omega) (by omega)) (fun m hm=>(ih m (by omega)).2.2 1 (by omega) (by omega)),fun b b1 b7=> ?_⟩
   intro i p r' hi h κ
   by_cases h6:b=6
   ·subst h6
    rw[rdK,if_pos rfl]at h
    exact i1 i p r' hi h κ
   by_cases h7:b=7
   ·subst h7
    exact level29_7 f i2 i p r' hi h κ
   rw[rdK,if_neg h6,if_neg h7]at h
   simp only[xB]at h
   obtain⟨r1,e1,e2⟩:=h
   exact level29_r f (by omega) (fun κ=>row57 f ok ⟨b1,by omega⟩ (fun m hm=>(ih m (by omega)).2.2 (b+1) (by omega) (by omega)) hi e1 e2 κ) κ
end
end Go.Etx
namespace Go.Etx
open Go Go.Am Go.Proofs Go.Tr7
set_option maxHeartbeats 4000000
set_option maxRecDepth 20000
theorem equal_eq{ρ:Type}(a b:List GNode)(h:a.length<4611686018427387904)(g:Bool→Option ρ):f_eN a b g=g (decide (a=b)):=by
 simp only[f_eN,F_eN,mkF]
 by_cases hl:a.length=b.length
 ·rw[if_pos (by omega)]
  rw[show(0:Int)=((0:Nat):Int)from rfl,loop_all a.length (fun i=>(i:Int)) (fun i=>decide (a[i]? =b[i]?)) (g false)]
  ·by_cases hab:a=b
   ·subst hab;simp
   ·rw[if_neg,decide_eq_false hab]
    intro hq
    refine hab (List.ext_getElem? fun i=> ?_)
    by_cases hi:i<a.length
    ·simpa using hq i hi
    ·rw[List.getElem?_eq_none (by omega),List.getElem?_eq_none (by omega)]
  ·intro i k hi
   have hi':i<b.length:=by omega
   have hs:IntKind.i64.wrap ((i:Int)+1)=((i+1:Nat):Int):=wrapS (by omega)
   simp only[xV,xG hi,xG hi',xS,hs,xJ]
   rw[if_pos (by omega),if_pos (by omega),if_pos (by omega)]
   by_cases hq:a[i]=b[i]
   ·rw[if_neg (by rw[hq];simp),if_pos (by simpa using hq)]
   ·have:¬a[i].Op=b[i].Op∨¬a[i].N=b[i].N:=by
     cases ha:a[i]
     cases hb:b[i]
     rw[ha,hb]at hq
     simp only[GNode.mk.injEq]at hq
     simp only
     omega
    rw[if_pos this,if_neg (by simpa using hq)]
  ·intro k;simp
 ·have hab:a≠b:=fun h=>hl (by rw[h])
  rw[if_neg (by omega),decide_eq_false hab]
theorem light0{ρ:Type}(s:GScope)(κ:KT ρ):cbK (call 6 [.sl false [],.agg [.sl false (List.map eScalar s.Scalars),.sl false (List.map eVar s.Vars),.sl false (List.map eChan s.Chans),.sl false (List.map (eProc false) s.Procs),.sl false (List.map eVar s.Locals),.int .i64 s.Self]] []) κ=if lightB [] s=true then κ ([.d (.int .i64 1)],[])else κ ([.d (.int .i64 0)],[]):=by
 have h:cbK (call 6 [.sl false (List.map eNode []),.agg [.sl false (List.map eScalar s.Scalars),.sl false (List.map eVar s.Vars),.sl false (List.map eChan s.Chans),.sl false (List.map (eProc false) s.Procs),.sl false (List.map eVar s.Locals),.int .i64 s.Self]] []) κ=_:=W_law11_Light (ρ:=ρ) ..
 rw[light_eq]at h
 exact h
theorem comm_comm:∀(a b:List UInt8),comm a b=comm b a
 | [],[]=>rfl
 | [],_::_=>rfl
 |_::_,[]=>rfl
 |x::a,y::b=>by
  simp only[comm]
  by_cases h:x=y
  ·rw[if_pos h,if_pos h.symm,comm_comm a b]
  ·rw[if_neg h,if_neg (fun q=>h q.symm)]
theorem apart_eq{ρ:Type}(a b:List UInt8)(ha:a.length<4611686018427387904)(g:Int→Option ρ):f_r11_Apart a b g=g ((comm a b:Nat):Int):=by
 simp only[f_r11_Apart,F_r11_Apart,mkF]
 refine(iterC_is (fun v:Int=>∃i:Nat,v=i∧i≤a.length∧i≤b.length) (fun v=>g ((v.toNat+comm (a.drop v.toNat) (b.drop v.toNat):Nat):Int)) (fun v=>a.length - v.toNat) ?_ (v:=(0:Int)) ⟨0,rfl,Nat.zero_le _,Nat.zero_le _⟩).trans (by simp)
 rintro v k ⟨i,rfl,hi,hj⟩ hk
 simp only[xV]
 by_cases h1:i<a.length
 ·by_cases h2:i<b.length
  ·have i0:(0:Int)≤(i:Int):=by omega
   rw[if_pos (by omega),if_pos (by omega),comm_drop h1 h2]
   simp only[i0,if_true,xG h1,xG h2,xS]
   by_cases hq:a[i]=b[i]
   ·rw[if_pos (by rw[hq]),if_pos hq,wrapS (by omega),hk _ ⟨i+1,rfl,h1,h2⟩ (by rw[xV];omega),xV]
    rw[show i+1+comm (a.drop (i+1)) (b.drop (i+1))=i+(comm (a.drop (i+1)) (b.drop (i+1))+1)by omega]
   ·rw[if_neg (fun e=>hq (UInt8.toNat_inj.1 (by omega))),if_neg hq,Nat.add_zero]
  ·rw[if_pos (by omega),if_neg (by omega),comm_end (by omega),Nat.add_zero]
 ·rw[if_neg (by omega),comm_end (by omega),Nat.add_zero]
theorem RParse_eq{ρ:Type}(t:List UInt8)(s:GScope)(hs:Few s)(ht:t.length≤100000)(κ:KT ρ):
  cbK (call 11 [.str t,.agg [.sl false (List.map eScalar s.Scalars),.sl false (List.map eVar s.Vars),.sl false (List.map eChan s.Chans),.sl false (List.map (eProc false) s.Procs),.sl false (List.map eVar s.Locals),.int .i64 s.Self]] []) κ=κ ([.d (.sl false (List.map eNode (parseK t s).1)),.d (.int .i64 (parseK t s).2.1),.d (.int .i64 (parseK t s).2.2)],[]):=by
 refine(ge11 _ _ _ rfl).trans ?_
 have hsc:=fun κ=>rscan_w (ρ:=ρ) t (by omega) κ
 have hlen:=(scanK_ok t).1
 unfold parseK
 by_cases h0:(scanK t).2.2=0
 ·rw[if_neg (by simp[h0])]
  have h0:=tt h0
  have ok:FOk ⟨(scanK t).1,s,(t.length:Int)⟩:=⟨hs,by show(scanK t).1.length< _;omega,scanK_tok t⟩
  generalize hr:readK t s (scanK t).1=r
  have hread:=read_eq t s (scanK t).1
  rw[hr]at hread
  have hw:∀κ:KT ρ,cbK (call 29 [pD ⟨(scanK t).1,s,(t.length:Int)⟩,.int .i64 0,.int .i64 1] []) κ=κ ([rrT (resK r)],[]):=fun κ=>
   (rall_w (ρ:=ρ) _ ok _ _ (Nat.le_refl _)).2.2 1 (by decide) (by decide) 0 0 r (Nat.zero_le _) hread κ
  have le:=rdk_le (fun q=>by cases q) hread
  have el:r.l=(scanK t).1:=le.l
  have es:r.s=s:=le.s
  have est:r.stop=(t.length:Int):=le.stop
  have hwr:=fun i w g=>wrongx_eq (ρ:=ρ) ⟨(scanK t).1,s,(t.length:Int)⟩ i w g
  have hN:InN r.out:=rd_in (md_level (by decide)) hread hs (scanK_ok t).2 (fun x hx=>by cases hx)
  have hN':∀x∈r.out,x.N≤9223372036854775807:=fun x hx=>by
   have:=hN x hx
   simp only[Tr7.inR,xA,yD]at this
   exact this.2
  unfold endK
  by_cases e0:r.e=0
  ·have hx:resK r=⟨r.out,r.pos,0,0⟩:=by unfold resK;rw[if_pos e0]
   rw[hx]at hw
   by_cases hp:r.pos<(scanK t).1.length
   ·have hq:r.e=0∧r.pos<r.l.length:=⟨e0,by rw[el];exact hp⟩
    have f1:(r.fail 3).e=3:=by unfold Rdr.fail;rw[if_pos e0]
    have f2:(r.fail 3).place=atR ⟨(scanK t).1,s,(t.length:Int)⟩ r.pos:=by unfold Rdr.fail atR;rw[if_pos e0,el,est];cases(scanK t).1[r.pos]? <;>rfl
    rw[if_pos hq]
    unfold doneK
    rw[if_pos (by rw[f1];decide),f1,f2]
    simp -implicitDefEqProofs (maxSteps:=1000000) [go_sem,hsc,h0,hw,hp,hwr,-List.map_map,-List.map_append,-List.map_take,-List.map_drop,-List.map_set]
   ·have hq:¬(r.e=0∧r.pos<r.l.length):=fun q=>hp (by rw[←el];exact q.2)
    rw[if_neg hq]
    unfold doneK
    rw[if_neg (by simp[e0])]
    have hk:=fun g=>ker_eq (ρ:=ρ) false r.out s hN' g
    have ht2:=fun β κ=>RText_eq (ρ:=ρ) β r.out s hs hN κ
    by_cases k0:(kindK r.out s).2=0
    ·rw[if_neg (by simp[k0])]
     have k0:=tt k0
     by_cases t0:(textK r.out s).2=0
     ·rw[if_neg (by simp[t0])]
      have t0:=tt t0
      by_cases u0:(textK r.out s).1=t
      ·rw[if_pos u0]
       have u0:=tt u0
       simp -implicitDefEqProofs (maxSteps:=1000000) [go_sem,hsc,h0,hw,hp,hk,k0,ht2,t0,u0,-List.map_map,-List.map_append,-List.map_take,-List.map_drop,-List.map_set]
      ·rw[if_neg u0]
       have u0:=ff u0
       have hap:=fun g=>apart_eq (ρ:=ρ) t (textK r.out s).1 (by omega) g
       rw[comm_comm]
       simp -implicitDefEqProofs (maxSteps:=1000000) [go_sem,hsc,h0,hw,hp,hk,k0,ht2,t0,u0,hap,-List.map_map,-List.map_append,-List.map_take,-List.map_drop,-List.map_set]
     ·rw[if_pos (by simpa using t0)]
      have t0:=ff t0
      simp -implicitDefEqProofs (maxSteps:=1000000) [go_sem,hsc,h0,hw,hp,hk,k0,ht2,t0,-List.map_map,-List.map_append,-List.map_take,-List.map_drop,-List.map_set]
    ·rw[if_pos (by simpa using k0)]
     have k0:=ff k0
     simp -implicitDefEqProofs (maxSteps:=1000000) [go_sem,hsc,h0,hw,hp,hk,k0,-List.map_map,-List.map_append,-List.map_take,-List.map_drop,-List.map_set]
  ·have hx:resK r=⟨[],0,r.place,r.e⟩:=by unfold resK;rw[if_neg e0]
   rw[hx]at hw
   rw[if_neg (fun q=>e0 q.1)]
   unfold doneK
   rw[if_pos e0]
   have e0:=ff e0
   simp -implicitDefEqProofs (maxSteps:=1000000) [go_sem,hsc,h0,hw,e0,-List.map_map,-List.map_append,-List.map_take,-List.map_drop,-List.map_set]
 ·rw[if_pos (by simpa using h0)]
  have h0:=ff h0
  simp -implicitDefEqProofs (maxSteps:=1000000) [go_sem,hsc,h0,-List.map_map,-List.map_append,-List.map_take,-List.map_drop,-List.map_set]
theorem text_kind{e:List GNode}{s:GScope}(h:(textK e s).2=0):(kindK e s).2=0:=by
 unfold textK at h
 split at h
 ·exact h
 ·rename_i q;simpa using q
theorem done_cases(t:List UInt8)(s:GScope)(r:Rdr):((doneK t s r).2.2≠0∧(doneK t s r).1=[])∨((doneK t s r).2.2=0∧(doneK t s r).1=r.out∧(textK r.out s).2=0∧(textK r.out s).1=t):=by
 unfold doneK
 split
 ·rename_i h;exact .inl ⟨h,rfl⟩
 split
 ·rename_i h;exact .inl ⟨h,rfl⟩
 split
 ·rename_i h;exact .inl ⟨h,rfl⟩
 split
 ·rename_i _ _ h1 h2;exact .inr ⟨rfl,rfl,by simpa using h1,h2⟩
 ·exact .inl ⟨(by decide:(13:Int)≠0),rfl⟩
theorem parse_cases(t:List UInt8)(s:GScope)(hs:Few s):((parseK t s).2.2≠0∧(parseK t s).1=[])∨((parseK t s).2.2=0∧InN (parseK t s).1∧(textK (parseK t s).1 s).2=0∧(textK (parseK t s).1 s).1=t):=by
 unfold parseK
 split
 ·rename_i h;exact .inl ⟨h,rfl⟩
 rcases done_cases t s (endK (readK t s (scanK t).1))with h |⟨h1,h2,h3,h4⟩
 ·exact .inl h
 ·refine .inr ⟨h1,?_,by rw[h2];exact h3,by rw[h2];exact h4⟩
  rw[h2]
  have hN:InN (readK t s (scanK t).1).out:=rd_in (md_level (by decide)) (read_eq t s (scanK t).1) hs (scanK_ok t).2 (fun x hx=>by cases hx)
  unfold endK
  split
  ·rw[fail_out];exact hN
  ·exact hN
theorem law_EtextReads(t:List UInt8)(s:GScope)(_ht:ok9 t)(_hs:ok27 s)(_hb:bk9 t+bk27 s≤1048576):call 4 [eS t,eScope false s] []=some ([.d (.bool true)],[]):=by
 rw[←cbK_some (call 4 _ _)]
 refine(ge4 _ _ _ rfl).trans ?_
 by_cases h4:t.length≤400
 ·have i4:¬(400:Int)<(t.length:Int):=by omega
  cases hl:lightB [] s with
  |true=>
   have hf:=few_of hl
   have hp:=fun κ=>Parse_eq (ρ:=List T×List Ob) t s hf (by omega) κ
   have hq:=fun κ=>RParse_eq (ρ:=List T×List Ob) t s hf (by omega) κ
   have hlen:(parseK t s).1.length<4611686018427387904:=by
    rcases parse_cases t s hf with⟨_,e⟩ |⟨_,_,e,_⟩
    ·rw[e];show 0< _;omega
    ·have:=(kind_ok (text_kind e)).1;omega
   have e3:=fun g=>equal_eq (ρ:=List T×List Ob) (parseK t s).1 (parseK t s).1 hlen g
   simp -implicitDefEqProofs (maxSteps:=1000000) [go_sem,i4,light0,hl,hp,hq,e3,works_eq,-List.map_append,-List.map_take,-List.map_drop,-List.map_set]
  |false=>
   simp -implicitDefEqProofs (maxSteps:=1000000) [go_sem,i4,light0,hl,works_eq,-List.map_append,-List.map_take,-List.map_drop,-List.map_set]
 ·have i4:(400:Int)<(t.length:Int):=by omega
  simp -implicitDefEqProofs (maxSteps:=1000000) [go_sem,i4,works_eq,-List.map_append,-List.map_take,-List.map_drop,-List.map_set]
open Go.Proofs.YtngkjkmjoieecaaGreatDoor in
theorem held{W:World}(h:laidMet Tryz.prog Rows.etextReadsUptoRow.laid W):GA gl8 (A0 W):=by
 have hp:=laid_tail (laid_tail h)
 have hr:=laid_tail hp
 have hs:=laid_tail hr
 have hg:=laid_tail hs
 have ho:=laid_tail hg
 have key:∀g d,(∃vs:List Value,GH W g vs∧GV d vs)→g<(A0 W).w0.heap.size∧¬(A0 W).O0 g∧(∀t,¬(A0 W).F t g)∧∃vs:List Value,GH (A0 W).w0 g vs∧GV d vs:=by
  rintro g d ⟨vs,h1,h2⟩
  refine⟨?_,id,fun _=>id,vs,h1,h2⟩
  obtain⟨t,fr,h3⟩:=h1
  exact(Array.getElem?_eq_some_iff.1 h3).1
 intro g d e
 refine key g d ?_
 simp only[gl8,Am.look]at e
 split at e
 ·rename_i hh
  simp only[xJ]at e
  subst e
  rw[←hh]
  exact laid_texts g_own t_own Tryz.underlying105 Tryz.underlying9 (by kernel_rfl) (by kernel_rfl) ho
 ·split at e
  ·rename_i hh
   simp only[xJ]at e
   subst e
   rw[←hh]
   exact laid_texts g_sgn t_sgn Tryz.underlying125 Tryz.underlying9 (by kernel_rfl) (by kernel_rfl) hg
  ·split at e
   ·rename_i hh
    simp only[xJ]at e
    subst e
    rw[←hh]
    exact laid_iface g_syn t_syn Tryz.underlying155 hs
   ·split at e
    ·rename_i hh
     simp only[xJ]at e
     subst e
     rw[←hh]
     exact laid_iface g_rng t_rng Tryz.underlying155 hr
    ·split at e
     ·rename_i hh
      simp only[xJ]at e
      subst e
      rw[←hh]
      exact laid_ints g_pow t_pow Tryz.underlying203 Tryz.underlying185 (by kernel_rfl) (by kernel_rfl) hp
     ·cases e
end Go.Etx
namespace Go.Proofs.YtngkjkmjoieecaaGreatDoor
open Go Go.Am Go.Etx Go.ChangeShapes Go.WideShapes Go.ChangeAt Go.RowKit
set_option maxRecDepth 20000
namespace EtextReadsLaw
theorem own:ownKnob Tryz.prog.godebug=none:=by kernel_rfl
theorem follows:Tryz.prog.follows .mixedOrders=true:=by kernel_rfl
theorem laid:laidOutB Tryz.prog=true:=by kernel_rfl
theorem okT9:tyOk Tryz.prog 10 9=true:=by kernel_rfl
theorem rdT9:(Tryz.prog.readableRec 9&&decide (9<Tryz.prog.types.size))=true:=by kernel_rfl
theorem okT27:tyOk Tryz.prog 10 27=true:=by kernel_rfl
theorem rdT27:(Tryz.prog.readableRec 27&&decide (27<Tryz.prog.types.size))=true:=by kernel_rfl
theorem contract(H:Type)(enc:TypeId×Value→H)(W:World)(base:Nat)(args:Array Value)(ds gs:List (DataW H))(before:List MemPlace)
  (hval:∀(j:Nat) t v,Tryz.f4.params[j]? =some t→args[j]? =some v→Value.okWide Tryz.prog W .any base t v)
  (hW:DataW.Whole enc Tryz.prog Tryz.f4.params.toList Rows.etextReadsSpec.vars false W args.toList ds gs before) (hk:Rows.uptoSmall H (ds++gs)=true) (hL:laidMetH Tryz.prog Rows.etextReadsUptoRow.laid W):
  Calls Tryz.prog 4 args W fun e W'=>∃v,e=.returned v∧Rows.etextReadsSpec.post enc Tryz.prog Tryz.f4 false true false false W args v W':=by
 have hW':=hW
 obtain⟨p,q,hA0,hV,rfl,hfz,hnd⟩:=hW
 have hA:DataW.TrodAll enc Tryz.prog W 0 (fun _=>true) true Tryz.f4.params.toList args.toList ds p:=hA0
 obtain⟨rfl,rfl⟩:=trodVars_none hV
 have hb:Rows.uptoBulkAll ds≤1048576:=of_decide_eq_true (by simpa [Rows.uptoSmall]using hk)
 have hp:Tryz.f4.params.toList=[9,27]:=by rw[Tryz.params4]
 obtain⟨xs,hv,ht,hbk⟩:=readAll_ok (P:=Tryz.prog) (n:=10) Tryz.f4.params.toList args.toList ds p (by rw[hp];simp[okT9,okT27]) (fun j t v h1 h2=>⟨base,hval j t v (by simpa using h1) (by simpa using h2)⟩) hA
 rw[hp]at ht
 obtain⟨a0,r0,rfl,h0,a1,r1,rfl,h1,rfl⟩:=ht
 obtain⟨x0,rfl,k0⟩:=dec9 (n:=9) h0
 obtain⟨x1,rfl,k1⟩:=dec27 (n:=0) h1
 have hbk2:=Nat.le_trans hbk hb
 simp only[D.bulks,bkE9,bkE27,Nat.add_zero]at hbk2
 obtain⟨n,hn⟩:=callX_iff.1 (law_EtextReads x0 x1 k0 k1 (by omega))
 refine(calls_true follows hints_gl hints_ext (show¬YB≤4 by unfold YB;omega) hn (held (laid_of_plain (by kernel_rfl) hL)) hv).mono fun e W' ⟨he,hbl⟩=> ?_
 subst he
 obtain⟨d0,d1,rfl⟩:∃d0 d1,ds=[d0,d1]:=by
  rw[hp]at hA
  obtain⟨v0,vs0,d0,ds0,p0,q0,_,rfl,rfl,_,g0⟩:=trodAll_cons hA
  obtain⟨v1,vs1,d1,ds1,p1,q1,_,rfl,rfl,_,g1⟩:=trodAll_cons g0
  obtain⟨_,rfl,_⟩:=trodAll_nil g1
  exact⟨d0,d1,rfl⟩
 exact⟨_,rfl,law_post hW' rfl rfl hbl laid (by
  rw[hp]
  intro t ht
  simp only[xY,List.not_mem_nil,or_false]at ht
  rcases ht with rfl |rfl
  ·simpa using rdT9
  ·simpa using rdT27) (by kernel_rfl) Tryz.underlying4⟩
noncomputable def low:Nat:=(World.holding Tryz.prog default ⟨#[], #[],[]⟩).heap.size
def cell1:DataW Unit→List Value
 | .lit (.int k n)=>[.int k n]
 | .lit (.string s)=>[.string ⟨s.toArray⟩]
 |_=>[]
def cell2:DataW Unit→List Value
 | .agg l=>l.flatMap cell1
 |x=>cell1 x
def cells:DataW Unit→Array Value
 | .agg l=>(l.flatMap cell2).toArray
 |_=> #[]
noncomputable def laidWorld(os:Os):World:=
 let w0:=World.holding Tryz.prog os ⟨#[.cells #[.string ⟨#[118,97,108,117,101,32,111,117,116,32,111,102,32,114,97,110,103,101]⟩] 202,.cells #[.string ⟨#[105,110,118,97,108,105,100,32,115,121,110,116,97,120]⟩] 202], #[],[]⟩
 let put (g:Nat) (vs:Array Value) (h:Array Obj):Array Obj:=h.modify g fun
  | .cells _ t frozen=>.cells vs t frozen
  |o=>o
 {w0 with heap:=put 0 (cells Rows.laid_lariat_lex_own) (put 1 (cells Rows.laid_lariat_lex_signs) (put 2 #[.iface 200 (.pointer (some ⟨low+1,0,none⟩))] (put 3 #[.iface 200 (.pointer (some ⟨low,0,none⟩))] (put 4 (cells Rows.laid_internal_strconv_uint64pow10) (put 5 (cells Rows.laid_math_bits_deBruijn32tab) (put 6 (cells Rows.laid_math_bits_deBruijn64tab) w0.heap))))))}
theorem laid_met(os:Os):laidMet Tryz.prog Rows.etextReadsUptoRow.laid ((laidWorld os).forCall (fun _ _=>0) ⟨#[], #[.string ⟨#[]⟩,.agg #[.slice none 0 0,.slice none 0 0,.slice none 0 0,.slice none 0 0,.slice none 0 0,.int .i64 0]],[]⟩).memory:=
 laidMet_of_run3 8 (by kernel_rfl) (by kernel_rfl) (by kernel_rfl)
theorem reads(os:Os){H:Type}(enc:TypeId×Value→H):∃places,DataW.whole enc Tryz.prog ((laidWorld os).forCall (fun _ _=>0) ⟨#[], #[.string ⟨#[]⟩,.agg #[.slice none 0 0,.slice none 0 0,.slice none 0 0,.slice none 0 0,.slice none 0 0,.int .i64 0]],[]⟩).memory Tryz.f4.params.toList Rows.etextReadsSpec.vars false (#[.string ⟨#[]⟩,.agg #[.slice none 0 0,.slice none 0 0,.slice none 0 0,.slice none 0 0,.slice none 0 0,.int .i64 0]]:Array Value).toList 10=some ([.lit (.string []),.agg [.nil,.nil,.nil,.nil,.nil,.lit (.int .i64 0)]],[],places):=
 ⟨[],by kernel_rfl⟩
set_option maxRecDepth 100000 in
theorem lifted(os:Os)(started:os.Started)(H:Type)(enc:TypeId×Value→H)(F:Stop.Interp):
  ReturnsInHanded {} Tryz.checked os 4 .any ((Rows.OpenSpec.upto Rows.etextReadsSpec).preRow enc Tryz.prog Tryz.f4 Rows.etextReadsUptoRow.domain false Rows.etextReadsUptoRow.laid) (((Rows.OpenSpec.upto Rows.etextReadsSpec).at F).post enc Tryz.prog Tryz.f4 false true false false):=by
 obtain⟨places,hx⟩:=reads os enc
 refine returnsInHanded_of_row (C:=Tryz.checked) (s:=Rows.OpenSpec.upto Rows.etextReadsSpec) own started (by kernel_rfl) Tryz.func4
  (witness_row_at (enc:=enc) (C:=Tryz.checked) false (laidWorld os) #[.string ⟨#[]⟩,.agg #[.slice none 0 0,.slice none 0 0,.slice none 0 0,.slice none 0 0,.slice none 0 0,.int .i64 0]] rfl (by kernel_rfl) (by kernel_rfl) (by kernel_rfl)
   (OpenSpec.preRow_of_cond 10 hx (by kernel_rfl) (fun k hk=>by cases hk;kernel_rfl) (by kernel_rfl) (laid_met os))) ?_
 intro W base args ds gs before hval hW _ hcond _ hL _ _
 exact contract H enc W base args ds gs before hval hW (hcond _ rfl) hL
theorem saidUpto:Rows.EtextReadsUptoSaid:=
 OpenClaim.holds_of_cond 4 Tryz.f4 rfl rfl rfl rfl rfl rfl rfl ⟨rfl,rfl,rfl,rfl,rfl⟩ rfl rfl rfl rfl rfl (by kernel_rfl) Tryz.func4 (by kernel_rfl)
  (of_decide_eq_true (by kernel_rfl)) (by unfold Func.isWrapper;first |(rw[if_pos (by decide +kernel)];kernel_rfl) |(rw[if_neg (by decide +kernel)];exact⟨rfl,rfl⟩))
  (fun os started H enc _ F=>by rw[OpenClaim.pre_eq_preRow];exact lifted os started H enc F)
theorem plain(f:FuncId)(fn:Func)(hf:Tryz.pinned.checked.prog.funcNamed "lariat/lariatlaw11.EtextReads" =some f)(hfn:Tryz.pinned.checked.prog.funcs[f]? =some fn):
  true=Tryz.pinned.checked.prog.looks []∧∀(j:Nat) t,fn.params[j]? =some t→Tryz.pinned.checked.prog.wantsStandIn t=false:=by
 obtain rfl:f=4:=Option.some.inj ((show Tryz.prog.funcNamed "lariat/lariatlaw11.EtextReads" =some 4 by kernel_rfl).symm.trans hf) |>.symm
 obtain rfl:fn=Tryz.f4:=(Option.some.inj (Tryz.func4.symm.trans hfn)).symm
 refine⟨by kernel_rfl,fun j t ht=> ?_⟩
 rw[Tryz.params4]at ht
 have hm:t∈[9,27]:=by simpa using Array.mem_of_getElem? ht
 have hall:([9,27].all fun u=> !Tryz.prog.wantsStandIn u)=true:=by kernel_rfl
 exact(show Tryz.prog.wantsStandIn t=false by simpa using List.all_eq_true.1 hall t hm)
end EtextReadsLaw
theorem etextReads_uptoCard:Rows.EtextReadsUptoCardSaid:=
 Claim7.holds_tied_plain_at .later [] _ _ _ _ EtextReadsLaw.saidUpto (fun _ h=>by cases h) (by kernel_rfl) (fun _ h=>by cases h) etextReadsUpto_row_tie rfl ⟨rfl,rfl⟩ (by kernel_rfl) rfl EtextReadsLaw.plain (by kernel_rfl)
end Go.Proofs.YtngkjkmjoieecaaGreatDoor
