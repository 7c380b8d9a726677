/- 'EtextOneUptoCardSaid': what is read has just that text, and a kind. Condition: what is read is of bulk at most 1048576; the listed variables hold what the program's text lays them with (tied by the card). -/
import Derived.Test.YtngkjkmjoieecaaGreatDoorEo10
import Derived.Test.YtngkjkmjoieecaaGreatDoorCards
import Derived.Test.YtngkjkmjoieecaaGreatDoorTie
import Derived.Deep.DeepHandedRow
import Derived.Deep.DeepLaidRun
set_option linter.unusedSimpArgs false
set_option linter.unusedVariables false
namespace Go.Etx
open Go Go.Am Go.Proofs
set_option maxHeartbeats 4000000
set_option maxRecDepth 20000
def comm:List UInt8→List UInt8→Nat
 |a::x,b::y=>if a=b then comm x y+1 else 0
 |_,_=>0
def rd0(t:List UInt8)(s:GScope)(l:List Glex_Token):Rdr:=⟨l,(t.length:Int),s,0,0,0,[]⟩
def readK(t:List UInt8)(s:GScope)(l:List Glex_Token):Rdr:=(rdK (20 * l.length+9) (.level 1) (rd0 t s l)).getD (rd0 t s l)
def endK(r:Rdr):Rdr:=if r.e=0∧r.pos<r.l.length then r.fail 3 else r
def doneK(t:List UInt8)(s:GScope)(r:Rdr):List GNode×Int×Int:=
 if r.e≠0 then([],r.place,r.e)
 else if(kindK r.out s).2≠0 then([],0,(kindK r.out s).2)
 else if(textK r.out s).2≠0 then([],0,(textK r.out s).2)
 else if(textK r.out s).1=t then(r.out,0,0)else([],(comm (textK r.out s).1 t:Nat),13)
def parseK(t:List UInt8)(s:GScope):List GNode×Int×Int:=
 if(scanK t).2.2≠0 then([],(scanK t).2.1,(scanK t).2.2)else doneK t s (endK (readK t s (scanK t).1))
theorem scanK_ok(t:List UInt8):(scanK t).1.length≤t.length∧∀x∈(scanK t).1,Tr7.inR x.N=true:=by
 unfold scanK
 split
 ·exact⟨Nat.zero_le _,fun x hx=>(by cases hx)⟩
 ·exact scan_ok (t.length+1) (gap false t) [] (by omega) (gap_le false t) (Nat.zero_le _) fun x hx=>(by cases hx)
theorem read_eq(t:List UInt8)(s:GScope)(l:List Glex_Token):rdK (20 * l.length+9) (.level 1) (rd0 t s l)=some (readK t s l):=by
 obtain⟨r,h⟩:=rd_some (20 * l.length+9) (.level 1) (rd0 t s l) (md_level (by decide)) (Nat.zero_le _) (Nat.le_refl _)
 unfold readK
 rw[h];rfl
theorem comm_drop{a b:List UInt8}{i:Nat}(ha:i<a.length)(hb:i<b.length):comm (a.drop i) (b.drop i)=if a[i]=b[i]then comm (a.drop (i+1)) (b.drop (i+1))+1 else 0:=by
 rw[xW ha,xW hb];rfl
theorem comm_end{a b:List UInt8}{i:Nat}(h:¬(i<a.length∧i<b.length)):comm (a.drop i) (b.drop i)=0:=by
 by_cases ha:i<a.length
 ·rw[List.drop_eq_nil_of_le (show b.length≤i by omega)]
  cases a.drop i <;>rfl
 ·rw[List.drop_eq_nil_of_le (show a.length≤i by omega)]
  cases b.drop i <;>rfl
noncomputable section
variable{ρ:Type}
theorem parted_eq(a b:List UInt8)(hb:b.length<4611686018427387904)(g:Int→Option ρ):f_etext_parted a b g=g ((comm a b:Nat):Int):=by
 simp only[f_etext_parted,F_etext_parted,mkF]
 refine(iterC_is (fun v:Int=>∃i:Nat,v=i∧i≤a.length∧i≤b.length) (fun v=>g ((v.toNat+comm (a.drop v.toNat) (b.drop v.toNat):Nat):Int)) (fun v=>a.length - v.toNat) ?_ (v:=(0:Int)) ⟨0,rfl,Nat.zero_le _,Nat.zero_le _⟩).trans (by simp)
 rintro v k ⟨i,rfl,hi,hj⟩ hk
 simp only[xV]
 by_cases h1:i<a.length
 ·by_cases h2:i<b.length
  ·have i0:(0:Int)≤(i:Int):=by omega
   rw[if_pos (by omega),if_pos (by omega),comm_drop h1 h2]
   simp only[i0,if_true,xG h1,xG h2,xS]
   by_cases hq:a[i]=b[i]
   ·rw[if_pos (by rw[hq]),if_pos hq,wrapS (by omega),hk _ ⟨i+1,rfl,h1,h2⟩ (by rw[xV];omega),xV]
    rw[show i+1+comm (a.drop (i+1)) (b.drop (i+1))=i+(comm (a.drop (i+1)) (b.drop (i+1))+1)by omega]
   ·rw[if_neg (fun e=>hq (UInt8.toNat_inj.1 (by omega))),if_neg hq,Nat.add_zero]
  ·rw[if_pos (by omega),if_neg (by omega),comm_end (by omega),Nat.add_zero]
 ·rw[if_neg (by omega),comm_end (by omega),Nat.add_zero]
theorem opx_eq(t:List UInt8)(b:Int)(g:Int→Bool→Option ρ):f_etext_opOf t b g=match opK t b with |some o=>g o true |none=>g 0 false:=by
 simp only[f_etext_opOf,F_etext_opOf,mkF,signx_eq]
 have key:∀(n i:Nat),i+n=9→∀fuel,n<fuel→iterCN (fun(v:Int) k=>if v≤19 then(if decide (11≤v∧v≤19)=true then if sgnT v=t then if sgnB v=b then g v true else k (IntKind.i64.wrap (v+1))else k (IntKind.i64.wrap (v+1))else k (IntKind.i64.wrap (v+1)))else g 0 false) fuel ((11+i:Nat):Int)=match (([11,12,13,14,15,16,17,18,19]:List Int).drop i).find? fun o=>decide (sgnT o=t∧sgnB o=b)with |some o=>g o true |none=>g 0 false:=by
  intro n
  induction n with
  |zero=>
   intro i hi fuel hf
   obtain rfl:i=9:=by omega
   cases fuel with
   |zero=>omega
   |succ f=>rfl
  |succ n ih=>
   intro i hi fuel hf
   cases fuel with
   |zero=>omega
   |succ f=>
    have hl:i<([11,12,13,14,15,16,17,18,19]:List Int).length:=by show i<9;omega
    have he:([11,12,13,14,15,16,17,18,19]:List Int)[i]=((11+i:Nat):Int):=by
     have:∀j:Fin 9,([11,12,13,14,15,16,17,18,19]:List Int)[j.val]'(j.isLt)=((11+j.val:Nat):Int):=by decide
     exact this ⟨i,by omega⟩
    have ih:=ih (i+1) (by omega) f (by omega)
    rw[xW hl,List.find?_cons,he,iterCN]
    rw[if_pos (by omega),if_pos (decide_eq_true (by omega)),wrapS (by omega)]
    by_cases h1:sgnT ((11+i:Nat):Int)=t
    ·by_cases h2:sgnB ((11+i:Nat):Int)=b
     ·rw[if_pos h1,if_pos h2,decide_eq_true ⟨h1,h2⟩]
     ·rw[if_pos h1,if_neg h2,decide_eq_false (fun q=>h2 q.2)]
      exact ih
    ·rw[if_neg h1,decide_eq_false (fun q=>h1 q.1)]
     exact ih
 refine limE_eq 10 fun n hn=> ?_
 exact key 9 0 rfl n (by omega)
theorem lkC(s:GScope)(hs:Few s):LK 41 s (fun nm=>fidx (pC nm) s.Chans) ρ:=fun nm κ=>by
 simp -implicitDefEqProofs (maxSteps:=1000000) [go_sem,chanx_eq hs]
theorem lkP(s:GScope)(hs:Few s):LK 42 s (fun nm=>fidx (pP nm) s.Procs) ρ:=fun nm κ=>by
 simp -implicitDefEqProofs (maxSteps:=1000000) [go_sem,procx_eq hs]
theorem lkS(s:GScope)(hs:Few s):LK 43 s (fun nm=>fidx (pS nm) s.Scalars) ρ:=fun nm κ=>by
 simp -implicitDefEqProofs (maxSteps:=1000000) [go_sem,scalx_eq hs]
theorem fidx_cases{α:Type}(p:α→Bool)(l:List α):0≤fidx p l∨fidx p l=-1:=by
 unfold fidx
 split
 ·exact .inl (by omega)
 ·exact .inr rfl
theorem lkT(s:GScope)(hs:Few s)(nm:List UInt8)(κ:KT ρ):cbK (call 40 [.str nm,.agg [.sl false (List.map eScalar s.Scalars),.sl false (List.map eVar s.Vars),.sl false (List.map eChan s.Chans),.sl false (List.map (eProc false) s.Procs),.sl false (List.map eVar s.Locals),.int .i64 s.Self]] []) κ=κ ([.d (.int .i64 (standsK s nm).1),.d (.int .i64 (standsK s nm).2)],[]):=by
 have h:∀g:Int→Int→Option ρ,f_etext_stands nm s g=g (standsK s nm).1 (standsK s nm).2:=fun g=>by
  rw[standsx_eq hs]
  unfold standsK
  rcases fidx_cases (pV nm) s.Locals with h1 |h1
  ·rw[if_neg (show¬fidx (pV nm) s.Locals<0 by omega),if_pos h1]
  ·rw[if_pos (show fidx (pV nm) s.Locals<0 by omega),if_neg (show¬0≤fidx (pV nm) s.Locals by omega)]
   rcases fidx_cases (pV nm) s.Vars with h2 |h2
   ·rw[if_neg (show¬fidx (pV nm) s.Vars<0 by omega),if_pos h2]
   ·rw[if_pos (show fidx (pV nm) s.Vars<0 by omega),if_neg (show¬0≤fidx (pV nm) s.Vars by omega)]
 simp -implicitDefEqProofs (maxSteps:=1000000) [go_sem,h]
theorem lkO:OpW ρ:=fun t b κ=>by
 simp -implicitDefEqProofs (maxSteps:=1000000) [go_sem,opx_eq]
 cases opK t b <;>rfl
theorem whole_eq{n:Nat}{r r':Rdr}(h:rdK n (.level 1) r=some r')(ok:Ok r)(κ:KT ρ):cbK (call 16 [.ptr 0] [.box (rdT r)]) κ=κ ([],[.box (rdT r')]):=
 whole_w (((all_w (ρ:=ρ) lkC lkP lkS lkT lkO n n (Nat.le_refl _)).2.2.2) 1 (by decide) (by decide)) r r' h (fun q=>by cases q) ok [] (fun _ _=>rfl) κ
theorem Parse_eq(t:List UInt8)(s:GScope)(hs:Few s)(ht:t.length≤100000)(κ:KT ρ):
  cbK (call 8 [.str t,.agg [.sl false (List.map eScalar s.Scalars),.sl false (List.map eVar s.Vars),.sl false (List.map eChan s.Chans),.sl false (List.map (eProc false) s.Procs),.sl false (List.map eVar s.Locals),.int .i64 s.Self]] []) κ=κ ([.d (.sl false (List.map eNode (parseK t s).1)),.d (.int .i64 (parseK t s).2.1),.d (.int .i64 (parseK t s).2.2)],[]):=by
 refine(ge8 _ _ _ rfl).trans ?_
 have hsc:=fun κ=>scan_w (ρ:=ρ) t (by omega) κ
 unfold parseK
 by_cases h0:(scanK t).2.2=0
 ·rw[if_neg (by simp[h0])]
  have h0:=tt h0
  generalize hr:readK t s (scanK t).1=r
  have hread:=read_eq t s (scanK t).1
  rw[hr]at hread
  have ok0:Ok (rd0 t s (scanK t).1):=⟨Nat.zero_le _,Nat.le_refl _,by have:=(scanK_ok t).1;show(scanK t).1.length< _;omega,hs⟩
  have hw:∀κ:KT ρ,cbK (call 16 [.ptr 0] [.box (.agg [.d (.sl false (List.map elex_Token (scanK t).1)),.d (.int .i64 (t.length:Int)),.d (.sl false (List.map eScalar s.Scalars)),.d (.sl false (List.map eVar s.Vars)),.d (.sl false (List.map eChan s.Chans)),.d (.sl false (List.map (eProc false) s.Procs)),.d (.sl false (List.map eVar s.Locals)),.d (.int .i64 s.Self),
   .d (.int .i64 0),.d (.int .i64 0),.d (.int .i64 0),.own []])]) κ=κ ([],[.box (rdT r)]):=fun κ=>whole_eq (ρ:=ρ) hread ok0 κ
  have le:=rdk_le (fun q=>by cases q) hread
  have el:r.l=(scanK t).1:=le.l
  have es:r.s=s:=le.s
  have hlen:=(scanK_ok t).1
  have hpos:r.pos≤t.length:=by have:=le.len (Nat.zero_le _);have e:(rd0 t s (scanK t).1).l=(scanK t).1:=rfl;rw[e]at this;omega
  have hf:=fun x M κ=>fail_w (ρ:=ρ) r (by omega) x M κ
  have hN:InN r.out:=rd_in (md_level (by decide)) hread hs (scanK_ok t).2 (fun x hx=>by cases hx)
  have hN':∀x∈r.out,x.N≤9223372036854775807:=fun x hx=>by
   have:=hN x hx
   simp only[Tr7.inR,xA,yD]at this
   exact this.2
  unfold endK
  by_cases e0:r.e=0
  ·by_cases hp:r.pos<(scanK t).1.length
   ·have hq:r.e=0∧r.pos<r.l.length:=⟨e0,by rw[el];exact hp⟩
    have f1:(r.fail 3).e=3:=by unfold Rdr.fail;rw[if_pos e0]
    rw[if_pos hq]
    unfold doneK
    rw[if_pos (by rw[f1];decide)]
    have e0:=tt e0
    have f2:((r.fail 3).e=0)=False:=ff (by rw[f1];decide)
    simp -implicitDefEqProofs (maxSteps:=1000000) [go_sem,hsc,h0,hw,e0,hp,hf,f2,-List.map_append,-List.map_take,-List.map_drop,-List.map_set]
   ·have hq:¬(r.e=0∧r.pos<r.l.length):=fun q=>hp (by rw[←el];exact q.2)
    rw[if_neg hq]
    unfold doneK
    rw[if_neg (by simp[e0])]
    have hk:=fun β κ=>Kind_eq (ρ:=ρ) β r.out s hs.sc hN' κ
    have ht2:=fun β κ=>Text_eq (ρ:=ρ) β r.out s hs hN κ
    have e0:=tt e0
    by_cases k0:(kindK r.out s).2=0
    ·rw[if_neg (by simp[k0])]
     have k0:=tt k0
     by_cases t0:(textK r.out s).2=0
     ·rw[if_neg (by simp[t0])]
      have t0:=tt t0
      by_cases u0:(textK r.out s).1=t
      ·rw[if_pos u0]
       have u0:=tt u0
       simp -implicitDefEqProofs (maxSteps:=1000000) [go_sem,hsc,h0,hw,e0,hp,hk,k0,ht2,t0,u0,-List.map_append,-List.map_take,-List.map_drop,-List.map_set]
      ·rw[if_neg u0]
       have u0:=ff u0
       have hpt:=fun g=>parted_eq (ρ:=ρ) (textK r.out s).1 t (by omega) g
       simp -implicitDefEqProofs (maxSteps:=1000000) [go_sem,hsc,h0,hw,e0,hp,hk,k0,ht2,t0,u0,hpt,-List.map_append,-List.map_take,-List.map_drop,-List.map_set]
     ·rw[if_pos (by simpa using t0)]
      have t0:=ff t0
      simp -implicitDefEqProofs (maxSteps:=1000000) [go_sem,hsc,h0,hw,e0,hp,hk,k0,ht2,t0,-List.map_append,-List.map_take,-List.map_drop,-List.map_set]
    ·rw[if_pos (by simpa using k0)]
     have k0:=ff k0
     simp -implicitDefEqProofs (maxSteps:=1000000) [go_sem,hsc,h0,hw,e0,hp,hk,k0,-List.map_append,-List.map_take,-List.map_drop,-List.map_set]
  ·rw[if_neg (fun q=>e0 q.1)]
   unfold doneK
   rw[if_pos e0]
   have e0:=ff e0
   simp -implicitDefEqProofs (maxSteps:=1000000) [go_sem,hsc,h0,hw,e0,-List.map_append,-List.map_take,-List.map_drop,-List.map_set]
 ·rw[if_pos (by simpa using h0)]
  have h0:=ff h0
  simp -implicitDefEqProofs (maxSteps:=1000000) [go_sem,hsc,h0,-List.map_append,-List.map_take,-List.map_drop,-List.map_set]
end
end Go.Etx
namespace Go.Etx
open Go Go.Am Go.Proofs Go.Tr7
set_option maxHeartbeats 4000000
set_option maxRecDepth 20000
theorem text_kind{e:List GNode}{s:GScope}(h:(textK e s).2=0):(kindK e s).2=0:=by
 unfold textK at h
 split at h
 ·exact h
 ·rename_i q;simpa using q
theorem done_cases(t:List UInt8)(s:GScope)(r:Rdr):((doneK t s r).2.2≠0∧(doneK t s r).1=[])∨((doneK t s r).2.2=0∧(doneK t s r).1=r.out∧(textK r.out s).2=0∧(textK r.out s).1=t):=by
 unfold doneK
 split
 ·rename_i h;exact .inl ⟨h,rfl⟩
 split
 ·rename_i h;exact .inl ⟨h,rfl⟩
 split
 ·rename_i h;exact .inl ⟨h,rfl⟩
 split
 ·rename_i _ _ h1 h2;exact .inr ⟨rfl,rfl,by simpa using h1,h2⟩
 ·exact .inl ⟨(by decide:(13:Int)≠0),rfl⟩
theorem parse_cases(t:List UInt8)(s:GScope)(hs:Few s):((parseK t s).2.2≠0∧(parseK t s).1=[])∨((parseK t s).2.2=0∧InN (parseK t s).1∧(textK (parseK t s).1 s).2=0∧(textK (parseK t s).1 s).1=t):=by
 unfold parseK
 split
 ·rename_i h;exact .inl ⟨h,rfl⟩
 rcases done_cases t s (endK (readK t s (scanK t).1))with h |⟨h1,h2,h3,h4⟩
 ·exact .inl h
 ·refine .inr ⟨h1,?_,by rw[h2];exact h3,by rw[h2];exact h4⟩
  rw[h2]
  have hN:InN (readK t s (scanK t).1).out:=rd_in (md_level (by decide)) (read_eq t s (scanK t).1) hs (scanK_ok t).2 (fun x hx=>by cases hx)
  unfold endK
  split
  ·rw[fail_out];exact hN
  ·exact hN
theorem light0{ρ:Type}(s:GScope)(κ:KT ρ):cbK (call 6 [.sl false [],.agg [.sl false (List.map eScalar s.Scalars),.sl false (List.map eVar s.Vars),.sl false (List.map eChan s.Chans),.sl false (List.map (eProc false) s.Procs),.sl false (List.map eVar s.Locals),.int .i64 s.Self]] []) κ=if lightB [] s=true then κ ([.d (.int .i64 1)],[])else κ ([.d (.int .i64 0)],[]):=by
 have h:cbK (call 6 [.sl false (List.map eNode []),.agg [.sl false (List.map eScalar s.Scalars),.sl false (List.map eVar s.Vars),.sl false (List.map eChan s.Chans),.sl false (List.map (eProc false) s.Procs),.sl false (List.map eVar s.Locals),.int .i64 s.Self]] []) κ=_:=W_law11_Light (ρ:=ρ) ..
 rw[light_eq]at h
 exact h
theorem law_EtextOne(t:List UInt8)(s:GScope)(_ht:ok9 t)(_hs:ok27 s)(_hb:bk9 t+bk27 s≤1048576):call 3 [eS t,eScope false s] []=some ([.d (.bool true)],[]):=by
 rw[←cbK_some (call 3 _ _)]
 refine(ge3 _ _ _ rfl).trans ?_
 by_cases h4:t.length≤400
 ·have i4:¬(400:Int)<(t.length:Int):=by omega
  cases hl:lightB [] s with
  |true=>
   have hf:=few_of hl
   have hp:=fun κ=>Parse_eq (ρ:=List T×List Ob) t s hf (by omega) κ
   rcases parse_cases t s hf with⟨e1,e2⟩ |⟨e1,e2,e3,e4⟩
   ·have e1:=ff e1
    simp -implicitDefEqProofs (maxSteps:=1000000) [go_sem,i4,light0,hl,hp,e1,e2,works_eq,-List.map_append,-List.map_take,-List.map_drop,-List.map_set]
   ·have h7:=fun β κ=>Text_eq (ρ:=List T×List Ob) β (parseK t s).1 s hf e2 κ
    have hN':∀x∈(parseK t s).1,x.N≤9223372036854775807:=fun x hx=>by
     have:=e2 x hx
     simp only[Tr7.inR,xA,yD]at this
     exact this.2
    have h8:=fun g=>ker_eq (ρ:=List T×List Ob) false (parseK t s).1 s hN' g
    have e5:=text_kind e3
    simp -implicitDefEqProofs (maxSteps:=1000000) [go_sem,i4,light0,hl,hp,e1,e3,e4,e5,h7,h8,works_eq,-List.map_append,-List.map_take,-List.map_drop,-List.map_set]
  |false=>
   simp -implicitDefEqProofs (maxSteps:=1000000) [go_sem,i4,light0,hl,works_eq,-List.map_append,-List.map_take,-List.map_drop,-List.map_set]
 ·have i4:(400:Int)<(t.length:Int):=by omega
  simp -implicitDefEqProofs (maxSteps:=1000000) [go_sem,i4,works_eq,-List.map_append,-List.map_take,-List.map_drop,-List.map_set]
open Go.Proofs.YtngkjkmjoieecaaGreatDoor in
theorem held{W:World}(h:laidMet Tryz.prog Rows.etextOneUptoRow.laid W):GA gl8 (A0 W):=by
 have hp:=laid_tail (laid_tail h)
 have hr:=laid_tail hp
 have hs:=laid_tail hr
 have hg:=laid_tail hs
 have ho:=laid_tail hg
 have key:∀g d,(∃vs:List Value,GH W g vs∧GV d vs)→g<(A0 W).w0.heap.size∧¬(A0 W).O0 g∧(∀t,¬(A0 W).F t g)∧∃vs:List Value,GH (A0 W).w0 g vs∧GV d vs:=by
  rintro g d ⟨vs,h1,h2⟩
  refine⟨?_,id,fun _=>id,vs,h1,h2⟩
  obtain⟨t,fr,h3⟩:=h1
  exact(Array.getElem?_eq_some_iff.1 h3).1
 intro g d e
 refine key g d ?_
 simp only[gl8,Am.look]at e
 split at e
 ·rename_i hh
  simp only[xJ]at e
  subst e
  rw[←hh]
  exact laid_texts g_own t_own Tryz.underlying105 Tryz.underlying9 (by kernel_rfl) (by kernel_rfl) ho
 ·split at e
  ·rename_i hh
   simp only[xJ]at e
   subst e
   rw[←hh]
   exact laid_texts g_sgn t_sgn Tryz.underlying125 Tryz.underlying9 (by kernel_rfl) (by kernel_rfl) hg
  ·split at e
   ·rename_i hh
    simp only[xJ]at e
    subst e
    rw[←hh]
    exact laid_iface g_syn t_syn Tryz.underlying155 hs
   ·split at e
    ·rename_i hh
     simp only[xJ]at e
     subst e
     rw[←hh]
     exact laid_iface g_rng t_rng Tryz.underlying155 hr
    ·split at e
     ·rename_i hh
      simp only[xJ]at e
      subst e
      rw[←hh]
      exact laid_ints g_pow t_pow Tryz.underlying203 Tryz.underlying185 (by kernel_rfl) (by kernel_rfl) hp
     ·cases e
end Go.Etx
namespace Go.Proofs.YtngkjkmjoieecaaGreatDoor
open Go Go.Am Go.Etx Go.ChangeShapes Go.WideShapes Go.ChangeAt Go.RowKit
set_option maxRecDepth 20000
namespace EtextOneLaw
theorem own:ownKnob Tryz.prog.godebug=none:=by kernel_rfl
theorem follows:Tryz.prog.follows .mixedOrders=true:=by kernel_rfl
theorem laid:laidOutB Tryz.prog=true:=by kernel_rfl
theorem okT9:tyOk Tryz.prog 10 9=true:=by kernel_rfl
theorem rdT9:(Tryz.prog.readableRec 9&&decide (9<Tryz.prog.types.size))=true:=by kernel_rfl
theorem okT27:tyOk Tryz.prog 10 27=true:=by kernel_rfl
theorem rdT27:(Tryz.prog.readableRec 27&&decide (27<Tryz.prog.types.size))=true:=by kernel_rfl
theorem contract(H:Type)(enc:TypeId×Value→H)(W:World)(base:Nat)(args:Array Value)(ds gs:List (DataW H))(before:List MemPlace)
  (hval:∀(j:Nat) t v,Tryz.f3.params[j]? =some t→args[j]? =some v→Value.okWide Tryz.prog W .any base t v)
  (hW:DataW.Whole enc Tryz.prog Tryz.f3.params.toList Rows.etextOneSpec.vars false W args.toList ds gs before) (hk:Rows.uptoSmall H (ds++gs)=true) (hL:laidMetH Tryz.prog Rows.etextOneUptoRow.laid W):
  Calls Tryz.prog 3 args W fun e W'=>∃v,e=.returned v∧Rows.etextOneSpec.post enc Tryz.prog Tryz.f3 false true false false W args v W':=by
 have hW':=hW
 obtain⟨p,q,hA0,hV,rfl,hfz,hnd⟩:=hW
 have hA:DataW.TrodAll enc Tryz.prog W 0 (fun _=>true) true Tryz.f3.params.toList args.toList ds p:=hA0
 obtain⟨rfl,rfl⟩:=trodVars_none hV
 have hb:Rows.uptoBulkAll ds≤1048576:=of_decide_eq_true (by simpa [Rows.uptoSmall]using hk)
 have hp:Tryz.f3.params.toList=[9,27]:=by rw[Tryz.params3]
 obtain⟨xs,hv,ht,hbk⟩:=readAll_ok (P:=Tryz.prog) (n:=10) Tryz.f3.params.toList args.toList ds p (by rw[hp];simp[okT9,okT27]) (fun j t v h1 h2=>⟨base,hval j t v (by simpa using h1) (by simpa using h2)⟩) hA
 rw[hp]at ht
 obtain⟨a0,r0,rfl,h0,a1,r1,rfl,h1,rfl⟩:=ht
 obtain⟨x0,rfl,k0⟩:=dec9 (n:=9) h0
 obtain⟨x1,rfl,k1⟩:=dec27 (n:=0) h1
 have hbk2:=Nat.le_trans hbk hb
 simp only[D.bulks,bkE9,bkE27,Nat.add_zero]at hbk2
 obtain⟨n,hn⟩:=callX_iff.1 (law_EtextOne x0 x1 k0 k1 (by omega))
 refine(calls_true follows hints_gl hints_ext (show¬YB≤3 by unfold YB;omega) hn (held (laid_of_plain (by kernel_rfl) hL)) hv).mono fun e W' ⟨he,hbl⟩=> ?_
 subst he
 obtain⟨d0,d1,rfl⟩:∃d0 d1,ds=[d0,d1]:=by
  rw[hp]at hA
  obtain⟨v0,vs0,d0,ds0,p0,q0,_,rfl,rfl,_,g0⟩:=trodAll_cons hA
  obtain⟨v1,vs1,d1,ds1,p1,q1,_,rfl,rfl,_,g1⟩:=trodAll_cons g0
  obtain⟨_,rfl,_⟩:=trodAll_nil g1
  exact⟨d0,d1,rfl⟩
 exact⟨_,rfl,law_post hW' rfl rfl hbl laid (by
  rw[hp]
  intro t ht
  simp only[xY,List.not_mem_nil,or_false]at ht
  rcases ht with rfl |rfl
  ·simpa using rdT9
  ·simpa using rdT27) (by kernel_rfl) Tryz.underlying4⟩
noncomputable def low:Nat:=(World.holding Tryz.prog default ⟨#[], #[],[]⟩).heap.size
def cell1:DataW Unit→List Value
 | .lit (.int k n)=>[.int k n]
 | .lit (.string s)=>[.string ⟨s.toArray⟩]
 |_=>[]
def cell2:DataW Unit→List Value
 | .agg l=>l.flatMap cell1
 |x=>cell1 x
def cells:DataW Unit→Array Value
 | .agg l=>(l.flatMap cell2).toArray
 |_=> #[]
noncomputable def laidWorld(os:Os):World:=
 let w0:=World.holding Tryz.prog os ⟨#[.cells #[.string ⟨#[118,97,108,117,101,32,111,117,116,32,111,102,32,114,97,110,103,101]⟩] 202,.cells #[.string ⟨#[105,110,118,97,108,105,100,32,115,121,110,116,97,120]⟩] 202], #[],[]⟩
 let put (g:Nat) (vs:Array Value) (h:Array Obj):Array Obj:=h.modify g fun
  | .cells _ t frozen=>.cells vs t frozen
  |o=>o
 {w0 with heap:=put 0 (cells Rows.laid_lariat_lex_own) (put 1 (cells Rows.laid_lariat_lex_signs) (put 2 #[.iface 200 (.pointer (some ⟨low+1,0,none⟩))] (put 3 #[.iface 200 (.pointer (some ⟨low,0,none⟩))] (put 4 (cells Rows.laid_internal_strconv_uint64pow10) (put 5 (cells Rows.laid_math_bits_deBruijn32tab) (put 6 (cells Rows.laid_math_bits_deBruijn64tab) w0.heap))))))}
theorem laid_met(os:Os):laidMet Tryz.prog Rows.etextOneUptoRow.laid ((laidWorld os).forCall (fun _ _=>0) ⟨#[], #[.string ⟨#[]⟩,.agg #[.slice none 0 0,.slice none 0 0,.slice none 0 0,.slice none 0 0,.slice none 0 0,.int .i64 0]],[]⟩).memory:=
 laidMet_of_run3 8 (by kernel_rfl) (by kernel_rfl) (by kernel_rfl)
theorem reads(os:Os){H:Type}(enc:TypeId×Value→H):∃places,DataW.whole enc Tryz.prog ((laidWorld os).forCall (fun _ _=>0) ⟨#[], #[.string ⟨#[]⟩,.agg #[.slice none 0 0,.slice none 0 0,.slice none 0 0,.slice none 0 0,.slice none 0 0,.int .i64 0]],[]⟩).memory Tryz.f3.params.toList Rows.etextOneSpec.vars false (#[.string ⟨#[]⟩,.agg #[.slice none 0 0,.slice none 0 0,.slice none 0 0,.slice none 0 0,.slice none 0 0,.int .i64 0]]:Array Value).toList 10=some ([.lit (.string []),.agg [.nil,.nil,.nil,.nil,.nil,.lit (.int .i64 0)]],[],places):=
 ⟨[],by kernel_rfl⟩
set_option maxRecDepth 100000 in
theorem lifted(os:Os)(started:os.Started)(H:Type)(enc:TypeId×Value→H)(F:Stop.Interp):
  ReturnsInHanded {} Tryz.checked os 3 .any ((Rows.OpenSpec.upto Rows.etextOneSpec).preRow enc Tryz.prog Tryz.f3 Rows.etextOneUptoRow.domain false Rows.etextOneUptoRow.laid) (((Rows.OpenSpec.upto Rows.etextOneSpec).at F).post enc Tryz.prog Tryz.f3 false true false false):=by
 obtain⟨places,hx⟩:=reads os enc
 refine returnsInHanded_of_row (C:=Tryz.checked) (s:=Rows.OpenSpec.upto Rows.etextOneSpec) own started (by kernel_rfl) Tryz.func3
  (witness_row_at (enc:=enc) (C:=Tryz.checked) false (laidWorld os) #[.string ⟨#[]⟩,.agg #[.slice none 0 0,.slice none 0 0,.slice none 0 0,.slice none 0 0,.slice none 0 0,.int .i64 0]] rfl (by kernel_rfl) (by kernel_rfl) (by kernel_rfl)
   (OpenSpec.preRow_of_cond 10 hx (by kernel_rfl) (fun k hk=>by cases hk;kernel_rfl) (by kernel_rfl) (laid_met os))) ?_
 intro W base args ds gs before hval hW _ hcond _ hL _ _
 exact contract H enc W base args ds gs before hval hW (hcond _ rfl) hL
theorem saidUpto:Rows.EtextOneUptoSaid:=
 OpenClaim.holds_of_cond 3 Tryz.f3 rfl rfl rfl rfl rfl rfl rfl ⟨rfl,rfl,rfl,rfl,rfl⟩ rfl rfl rfl rfl rfl (by kernel_rfl) Tryz.func3 (by kernel_rfl)
  (of_decide_eq_true (by kernel_rfl)) (by unfold Func.isWrapper;first |(rw[if_pos (by decide +kernel)];kernel_rfl) |(rw[if_neg (by decide +kernel)];exact⟨rfl,rfl⟩))
  (fun os started H enc _ F=>by rw[OpenClaim.pre_eq_preRow];exact lifted os started H enc F)
theorem plain(f:FuncId)(fn:Func)(hf:Tryz.pinned.checked.prog.funcNamed "lariat/lariatlaw11.EtextOne" =some f)(hfn:Tryz.pinned.checked.prog.funcs[f]? =some fn):
  true=Tryz.pinned.checked.prog.looks []∧∀(j:Nat) t,fn.params[j]? =some t→Tryz.pinned.checked.prog.wantsStandIn t=false:=by
 obtain rfl:f=3:=Option.some.inj ((show Tryz.prog.funcNamed "lariat/lariatlaw11.EtextOne" =some 3 by kernel_rfl).symm.trans hf) |>.symm
 obtain rfl:fn=Tryz.f3:=(Option.some.inj (Tryz.func3.symm.trans hfn)).symm
 refine⟨by kernel_rfl,fun j t ht=> ?_⟩
 rw[Tryz.params3]at ht
 have hm:t∈[9,27]:=by simpa using Array.mem_of_getElem? ht
 have hall:([9,27].all fun u=> !Tryz.prog.wantsStandIn u)=true:=by kernel_rfl
 exact(show Tryz.prog.wantsStandIn t=false by simpa using List.all_eq_true.1 hall t hm)
end EtextOneLaw
theorem etextOne_uptoCard:Rows.EtextOneUptoCardSaid:=
 Claim7.holds_tied_plain_at .later [] _ _ _ _ EtextOneLaw.saidUpto (fun _ h=>by cases h) (by kernel_rfl) (fun _ h=>by cases h) etextOneUpto_row_tie rfl ⟨rfl,rfl⟩ (by kernel_rfl) rfl EtextOneLaw.plain (by kernel_rfl)
end Go.Proofs.YtngkjkmjoieecaaGreatDoor
