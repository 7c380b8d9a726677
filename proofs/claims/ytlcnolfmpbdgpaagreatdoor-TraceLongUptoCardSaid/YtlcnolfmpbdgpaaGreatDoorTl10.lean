/- A part of the proof. -/
import Derived.Test.YtlcnolfmpbdgpaaGreatDoorTl9
set_option linter.unusedSimpArgs false
set_option linter.unusedVariables false
namespace Go.Etx
open Go Go.Am Go.Proofs
set_option maxHeartbeats 4000000
set_option maxRecDepth 20000
attribute [-simp] List.map_append List.map_take List.map_drop List.map_set
theorem yj{ρ:Type}{p:GProc}{s:GScope}{g:Int→Option ρ}:lz p s g=g (tj p s):=by
 simp only[lz,ly,mkF,fo,tj]
 by_cases h1:fS p.Name=false
 ·simp[h1]
 by_cases h2:p.Over<0
 ·simp[h1,h2]
 by_cases h3:(s.Scalars.length:Int)<p.Over
 ·simp[h1,h2,h3]
 by_cases h4:p.Locs<1
 ·simp[h1,h2,h3,h4]
 by_cases h5:12<p.Locs
 ·simp[h1,h2,h3,h4,h5]
 by_cases h6:12<p.Cmds.length
 ·simp[h1,h2,h3,h4,h5,h6,show(12:Int)<(p.Cmds.length:Int)by omega]
 ·simp[h1,h2,h3,h4,h5,h6,show¬(12:Int)<(p.Cmds.length:Int)by omega]
def SL(s:GScope)(l:List GVar)(H:List Ob)(i:Int):St:=
 ⟨[(3,.loc (.l 3 0) [] 0 0),(23,.d (.sl false (List.map aq l))),(24,.d (.int .i64 l.length)),(25,.d (.int .i64 i))],[((3,0),.own [.d (scD false s)])],H⟩
def XL(s:GScope)(l:List GVar)(H:List Ob):St:=
 ⟨[(3,.loc (.l 3 0) [] 0 0),(23,.d (.sl false (List.map aq l))),(24,.d (.int .i64 l.length)),(25,.d (.int .i64 l.length)),(26,.d (.bool false))],[((3,0),.own [.d (scD false s)])],H⟩
theorem Pv{ρ:Type}(s:GScope)(hs:s.Vars.length≤1000)(l:List GVar)(hl:l.length≤1000)(H:List Ob)(i:Nat)(hi:i<l.length)(R:St→Option ρ)(κ:Ex×St→Option ρ):
  go P hints jc HC BG.1 (SL s l H i) (kLp R κ)=if dm s l[i]=0 then R (SL s l (H++[.box (.d (aq l[i]))]) (i+1:Nat))else κ (.ret,⟨[(4,.d (.int .i64 i)),(5,.d (.int .i64 (dm s l[i])))],[],H++[.box (.d (aq l[i]))]⟩):=by
 have e1:l[i]? =some l[i]:=xG hi;have e2:(i:Int)<(l.length:Int):=by omega
 have w1:IntKind.i64.wrap ((i:Int)+1)=((i+1:Nat):Int):=aP (by omega)
 have hh:=fun κ=>Ut (ρ:=ρ) s.Vars hs l[i] (H++[.box (.d (aq l[i]))]) H.length (by simp) κ
 simp only[aq,eS,eI]at hh
 unfold SL
 by_cases h0:l[i].Over=0
 ·simp only[aq,eS,eI,h0]at hh
  by_cases h1:l[i].Name∈s.Vars.map (·.Name)
  ·have hE:dm s l[i]=7:=by unfold dm;rw[if_neg (fun q=>q h0),if_pos h1]
   rw[hE,if_neg (by decide)]
   simp only[decide_eq_true h1]at hh
   simp -implicitDefEqProofs [go_sem,e1,e2,w1,hh,h0]
  ·have hE:dm s l[i]=0:=by unfold dm;rw[if_neg (fun q=>q h0),if_neg h1]
   rw[hE,if_pos rfl];simp only[decide_eq_false h1]at hh
   simp -implicitDefEqProofs [go_sem,e1,e2,w1,hh,h0]
 ·have hE:dm s l[i]=9:=by unfold dm;rw[if_pos h0]
  rw[hE,if_neg (by decide)]
  simp -implicitDefEqProofs [go_sem,e1,e2,w1,h0]
theorem Pw{ρ:Type}(s:GScope)(l:List GVar)(H:List Ob)(R:St→Option ρ)(κ:Ex×St→Option ρ):
  go P hints jc HC BG.1 (SL s l H (l.length:Nat)) (kLp R κ)=κ (.exit 0,XL s l H):=by
 unfold SL XL
 simp -implicitDefEqProofs [go_sem]
theorem Px{ρ:Type}(s:GScope)(hs:s.Vars.length≤1000)(l:List GVar)(hl:l.length≤1000)(κ:Ex×St→Option ρ)(A:Option ρ)(B:Nat→Int→Option ρ)(hA:∀H,κ (.exit 0,XL s l H)=A)(hB:∀i e H,κ (.ret,⟨[(4,.d (.int .i64 (i:Nat))),(5,.d (.int .i64 e))],[],H⟩)=B i e):∀(m i:Nat) (H:List Ob),l.length - i=m→i≤l.length→(∀k,k<i→aV l (dm s) k=0)→
  cX P hints jc HC 0 (SL s l H i) κ=(aw l.length (aV l (dm s))).elim A fun q=>B q.1 q.2:=by
 intro m
 induction m with
 |zero=>
  intro i H hn hi h0
  have:i=l.length:=by omega
  subst this;rw[ap BG.2,Pw,dx h0,hA];rfl
 |succ m ih=>
  intro i H hn hi h0;have hlt:i<l.length:=by omega
  have hm:aV l (dm s) i=dm s l[i]:=by simp[aV,hlt]
  rw[ap BG.2,Pv s hs l hl H i hlt]
  by_cases hf:dm s l[i]=0
  ·rw[if_pos hf]
   exact ih (i+1) _ (by omega) (by omega) fun k hk=>by
    rcases Nat.lt_or_ge k i with q |q
    ·exact h0 k q
    ·rw[show k=i by omega,hm];exact hf
  ·rw[if_neg hf,gy hlt (by rw[hm];exact hf) h0,hm,hB];rfl
theorem Lt{ρ:Type}(p:GProc)(s:GScope)(hs:s.Vars.length≤1000)(hs2:s.Scalars.length≤1000)(hl:p.Vars.length≤1000)(κ:KT ρ):
  cbK (call 121 [prD p,scD false s] []) κ=(oe p s).elim (κ ([.d (.int .i64 0),.d (.int .i64 0)],[])) fun q=>κ ([.d (.int .i64 q.1),.d (.int .i64 q.2)],[]):=by
 refine(YC _ _ _ rfl).trans ?_
 have hv:=fun g=>Gd (ρ:=ρ) (n:=4) hl hs2 (g:=g)
 simp only[show((4:Nat):Int)=4 from rfl]at hv
 unfold oe
 cases hq:l8 p.Vars s.Scalars 4 with
 |some q=>
  obtain⟨h1,h2,h3,h4⟩:=bG (i:=q.1) (e:=q.2) hq
  simp -implicitDefEqProofs [go_sem,hv,hq,atE,h3]
 |none=>
  have hlp:=fun κ A B hA hB=>Px (ρ:=ρ) s hs p.Vars hl κ A B hA hB _ 0 [] rfl (Nat.zero_le _) (fun k hk=>by omega)
  simp only[SL,XL,Int.natCast_zero]at hlp
  simp -implicitDefEqProofs [go_sem,hv,hq,atE]
  rw[hlp _ (κ ([.d (.int .i64 0),.d (.int .i64 0)],[])) (fun i e=>κ ([.d (.int .i64 i),.d (.int .i64 e)],[]))]
  ·intro H
   simp -implicitDefEqProofs [go_sem]
   cases H <;>rfl
  ·intro i e H
   simp -implicitDefEqProofs [go_sem]
   cases H <;>rfl
theorem afI:hint72.nvAt 33=1099511627776:=rfl
structure ProcE(p:GProc):Prop where
 c:∀c∈p.Cmds,CmdE c∧c.Acts.length≤1000
def SQ(p:GProc)(s:GScope)(H:List Ob)(i:Int):St:=
 ⟨[(2,.loc (.l 2 0) [] 0 0),(10,.loc (.l 10 0) [] 0 0),(35,.d (.sl false (List.map (bS false) p.Cmds))),(36,.d (.int .i64 p.Cmds.length)),(37,.d (.int .i64 i))],[((2,0),.own [.d (prD p)]),((10,0),.own [.d (scD false (innerP p s))])],H⟩
def XQ(p:GProc)(s:GScope)(H:List Ob):St:=
 ⟨[(2,.loc (.l 2 0) [] 0 0),(10,.loc (.l 10 0) [] 0 0),(35,.d (.sl false (List.map (bS false) p.Cmds))),(36,.d (.int .i64 p.Cmds.length)),(37,.d (.int .i64 p.Cmds.length)),(38,.d (.bool false))],[((2,0),.own [.d (prD p)]),((10,0),.own [.d (scD false (innerP p s))])],H⟩
def RQ(a b e:Int)(H:List Ob):St:=⟨[(4,.d (.int .i64 a)),(5,.d (.int .i64 b)),(6,.d (.int .i64 e))],[],H⟩
theorem Py{ρ:Type}(p:GProc)(s:GScope)(hs2:s.Scalars.length≤1000)(hl:p.Cmds.length≤1000)(H:List Ob)(i:Nat)(hi:i<p.Cmds.length)(hc:CmdE p.Cmds[i])(hn:p.Cmds[i].Acts.length≤1000)(R:St→Option ρ)(κ:Ex×St→Option ρ):
  go P hints hint72 b72 FX.1 (SQ p s H i) (kLp R κ)=if(dI p (innerP p s) i).2=0 then R (SQ p s (H++[.box (.d (bS false p.Cmds[i]))]) (i+1:Nat))else κ (.ret,RQ (2+i) (dI p (innerP p s) i).1 (dI p (innerP p s) i).2 (H++[.box (.d (bS false p.Cmds[i]))])):=by
 have e1:p.Cmds[i]? =some p.Cmds[i]:=xG hi;have e2:(i:Int)<(p.Cmds.length:Int):=by omega
 have e3:(i:Int)≤(p.Cmds.length:Int):=by omega
 have e4:i≤p.Cmds.length:=by omega
 have w1:IntKind.i64.wrap ((i:Int)+1)=((i+1:Nat):Int):=aP (by omega)
 have w2:IntKind.i64.wrap (2+(i:Int))=2+(i:Int):=bt (by omega) (by omega)
 have hw:=fun κ=>abt (ρ:=ρ) p.Cmds[i] p (innerP p s) hs2 hc hn κ
 have hh:=fun κ=>Uu (ρ:=ρ) (p.Cmds.take i) (by simp;omega) p.Cmds[i] (H++[.box (.d (bS false p.Cmds[i]))]) H.length (by simp) κ
 simp only[bS,eS,eI,eB,iu,Ah]at hh
 have hd:headD 6 (List.map (bS false) (p.Cmds.take i))=true:=by cases p.Cmds.take i <;>rfl
 unfold SQ RQ
 by_cases h0:(ti p.Cmds[i] p (innerP p s)).2=0
 ·by_cases h1:p.Cmds[i].Name∈(p.Cmds.take i).map (·.Name)
  ·have hE:dI p (innerP p s) i=(0,7):=by unfold dI;rw[e1];simp only;rw[if_neg (fun q=>q h0),if_pos h1]
   simp only[decide_eq_true h1]at hh
   rw[hE,if_neg (by decide)]
   simp -implicitDefEqProofs [go_sem,e1,e2,e3,e4,w1,w2,hw,hh,hd,h0]
  ·have hE:dI p (innerP p s) i=(0,0):=by unfold dI;rw[e1];simp only;rw[if_neg (fun q=>q h0),if_neg h1]
   simp only[decide_eq_false h1]at hh
   rw[hE,if_pos rfl]
   simp -implicitDefEqProofs [go_sem,e1,e2,e3,e4,w1,w2,hw,hh,hd,h0]
 ·have hE:dI p (innerP p s) i=ti p.Cmds[i] p (innerP p s):=by unfold dI;rw[e1];simp only;rw[if_pos h0]
  rw[hE,if_neg h0]
  simp -implicitDefEqProofs [go_sem,e1,e2,w1,w2,hw,h0]
theorem Pz{ρ:Type}(p:GProc)(s:GScope)(H:List Ob)(R:St→Option ρ)(κ:Ex×St→Option ρ):
  go P hints hint72 b72 FX.1 (SQ p s H (p.Cmds.length:Nat)) (kLp R κ)=κ (.exit 0,XQ p s H):=by
 unfold SQ XQ
 simp -implicitDefEqProofs [go_sem]
theorem PA{ρ:Type}(p:GProc)(s:GScope)(hs2:s.Scalars.length≤1000)(hl:p.Cmds.length≤1000)(hE:ProcE p)(κ:Ex×St→Option ρ)(A:Option ρ)(B:Nat→Int→Int→Option ρ)(hA:∀H,κ (.exit 0,XQ p s H)=A)(hB:∀(i:Nat) b e H,κ (.ret,RQ (2+(i:Int)) b e H)=B i b e):∀(m i:Nat) (H:List Ob),p.Cmds.length - i=m→i≤p.Cmds.length→(∀k,k<i→(dI p (innerP p s) k).2=0)→
  cX P hints hint72 b72 0 (SQ p s H i) κ=(aw p.Cmds.length fun i=>(dI p (innerP p s) i).2).elim A fun q=>B q.1 (dI p (innerP p s) q.1).1 q.2:=by
 intro m
 induction m with
 |zero=>
  intro i H hn hi h0
  have:i=p.Cmds.length:=by omega
  subst this;rw[ap FX.2,Pz,dx h0,hA];rfl
 |succ m ih=>
  intro i H hn hi h0;have hlt:i<p.Cmds.length:=by omega
  have hq:=hE.c _ (List.getElem_mem hlt);rw[ap FX.2,Py p s hs2 hl H i hlt hq.1 hq.2]
  by_cases hf:(dI p (innerP p s) i).2=0
  ·rw[if_pos hf]
   exact ih (i+1) _ (by omega) (by omega) fun k hk=>by
    rcases Nat.lt_or_ge k i with q |q
    ·exact h0 k q
    ·rw[show k=i by omega];exact hf
  ·rw[if_neg hf,gy (f:=fun i=>(dI p (innerP p s) i).2) hlt hf h0,hB];rfl
theorem Uv{ρ:Type}(p:GProc)(s:GScope)(hs:s.Vars.length≤1000)(hs2:s.Scalars.length≤1000)(hl:p.Vars.length≤1000)(hl2:p.Cmds.length≤1000)(hE:ProcE p)(κ:KT ρ):
  cbK (call 72 [prD p,scD false s] []) κ=κ ([.d (.int .i64 (ej p s).1),.d (.int .i64 (ej p s).2.1),.d (.int .i64 (ej p s).2.2)],[]):=by
 refine(afk _ _ _ rfl).trans ?_
 have hw:=fun κ=>Lt (ρ:=ρ) p s hs hs2 hl κ
 unfold ej
 by_cases h1:tj p s=0
 ·cases hq:oe p s with
  |some q=>
   have h3:q.2≠0:=by
    unfold oe at hq
    cases hv:l8 p.Vars s.Scalars 4 with
    |some r=>
     rw[hv]at hq
     simp only[Option.some_or,xJ]at hq
     subst hq
     exact(bG (i:=r.1) (e:=r.2) hv).2.2.1
    |none=>
     rw[hv]at hq
     simp only[Option.none_or]at hq
     exact(bG (i:=q.1) (e:=q.2) hq).2.2.1
   simp only[hq,Option.elim_some]at hw
   simp -implicitDefEqProofs [go_sem,hw,h1,h3,yj]
  |none=>
   simp only[hq,Option.elim_none]at hw
   have hlp:=fun κ A B hA hB=>PA (ρ:=ρ) p s hs2 hl2 hE κ A B hA hB _ 0 [] rfl (Nat.zero_le _) (fun k hk=>by omega)
   simp only[SQ,XQ,RQ,Int.natCast_zero,innerP]at hlp
   simp -implicitDefEqProofs [go_sem,hw,h1,yj,afI,gY,fh,mkF]
   rw[hlp _ (κ ([.d (.int .i64 0),.d (.int .i64 0),.d (.int .i64 0)],[])) (fun i b e=>κ ([.d (.int .i64 (2+(i:Int))),.d (.int .i64 b),.d (.int .i64 e)],[]))]
   ·cases hf:aw p.Cmds.length fun i=>(dI p (innerP p s) i).2 with
    |none=>simp only[innerP]at hf;simp only[hf,Option.elim_none]
    |some q=>simp only[innerP]at hf;simp only[hf,Option.elim_some];rfl
   ·intro H
    simp -implicitDefEqProofs [go_sem]
    cases H <;>rfl
   ·intro i b e H
    simp -implicitDefEqProofs [go_sem]
    cases H <;>rfl
 ·simp -implicitDefEqProofs [go_sem,h1,yj]
theorem PB(n:Nat):hint40.mv.contains n=false:=rfl
theorem PC{ρ:Type}(f:D)(l:List (Nm×Bool))(nm:Nm)(a b:Int)(κ:KT ρ):cbK (call 70 [.map 1,.str nm,.int .i64 a,.int .i64 b] [.box (.d f),.map (dT eS eB l)]) κ=
  if dU false l nm=true then κ (zg (gK 7 a b 0),[.box (.d f),.map (dT eS eB l)])else κ ([],[.box (.d f),.map (dT eS eB (fd l nm true))]):=Ld f l [] nm a b rfl κ
theorem PD{ρ:Type}(f:D)(l:List (Nm×Bool))(ks:List Nm)(nm:Nm)(a b:Int)(κ:KT ρ):cbK (call 70 [.map 1,.str nm,.int .i64 a,.int .i64 b] [.box (.d f),.map (dT eS eB l),.sset ks]) κ=
  if dU false l nm=true then κ (zg (gK 7 a b 0),[.box (.d f),.map (dT eS eB l),.sset ks])else κ ([],[.box (.d f),.map (dT eS eB (fd l nm true)),.sset ks]):=Ld f l [.sset ks] nm a b rfl κ
attribute [go_sem] PC PD
abbrev hG(F:D)(t:List (Nm×Bool)):List Ob:=[.box (.d F),.map (dT eS eB t)]
def SG0(m:GModel)(F:D)(t:List (Nm×Bool))(i:Int):St:=
 ⟨[(1,.d (.map 1)),(2,.loc (.l 2 0) [] 0 0),(22,.d (.sl false (List.map ae m.Scalars))),(23,.d (.int .i64 m.Scalars.length)),(24,.d (.int .i64 i))],[((2,0),.own [.d (moD m)])],hG F t⟩
def XG0(m:GModel)(F:D)(t:List (Nm×Bool)):St:=
 ⟨[(1,.d (.map 1)),(2,.loc (.l 2 0) [] 0 0),(22,.d (.sl false (List.map ae m.Scalars))),(23,.d (.int .i64 m.Scalars.length)),(24,.d (.int .i64 m.Scalars.length)),(25,.d (.bool false))],[((2,0),.own [.d (moD m)])],hG F t⟩
theorem PE{ρ:Type}(m:GModel)(F:D)(t:List (Nm×Bool))(hl:m.Scalars.length≤1000)(i:Nat)(hi:i<m.Scalars.length)(R:St→Option ρ)(κ:Ex×St→Option ρ):
  go P hints hint40 b40 FP.1 (SG0 m F t i) (kLp R κ)=R (SG0 m F (fd t m.Scalars[i].Name true) (i+1:Nat)):=by
 have e1:m.Scalars[i]? =some m.Scalars[i]:=xG hi;have e2:(i:Int)<(m.Scalars.length:Int):=by omega
 have w1:IntKind.i64.wrap ((i:Int)+1)=((i+1:Nat):Int):=aP (by omega)
 unfold SG0
 simp -implicitDefEqProofs [go_sem,e1,e2,w1]
theorem PF{ρ:Type}(m:GModel)(F:D)(t:List (Nm×Bool))(R:St→Option ρ)(κ:Ex×St→Option ρ):
  go P hints hint40 b40 FP.1 (SG0 m F t (m.Scalars.length:Nat)) (kLp R κ)=κ (.exit 0,XG0 m F t):=by
 unfold SG0 XG0
 simp -implicitDefEqProofs [go_sem]
theorem PG{ρ:Type}(m:GModel)(F:D)(hl:m.Scalars.length≤1000)(κ:Ex×St→Option ρ):∀(n i:Nat),m.Scalars.length - i=n→i≤m.Scalars.length→
  cX P hints hint40 b40 0 (SG0 m F (tkn ((sN m).take i)) i) κ=κ (.exit 0,XG0 m F (tkn (sN m))):=by
 intro n
 induction n with
 |zero=>
  intro i hn hi
  have:i=m.Scalars.length:=by omega
  subst this;rw[ap FP.2,PF,List.take_of_length_le (by simp[sN])]
 |succ n ih=>
  intro i hn hi;have hlt:i<m.Scalars.length:=by omega
  have:=Gc (nm:=fun x:GScalar=>x.Name) hlt
  simp only[sN]at ih ⊢
  rw[ap FP.2,PE m F _ hl i hlt,this];exact ih (i+1) (by omega) (by omega)
theorem iR{N:Nat}{f:Nat→Flt}{i:Nat}(hi:i<N)(h0:(f i).1≠0)(h:∀k,k<i→(f k).1=0):orF N f=some (f i):=by
 induction N with
 |zero=>omega
 |succ N ih=>
  unfold orF at ih ⊢
  rw[List.range_succ,List.findSome?_append]
  rcases Nat.lt_or_ge i N with q |q
  ·rw[ih q];rfl
  ·have:i=N:=by omega
   subst this;rw[show(List.range i).findSome? (fun i=>if(f i).1=0 then none else some (f i))=none from List.findSome?_eq_none_iff.2 fun k hk=>by rw[if_pos (h k (List.mem_range.1 hk))],Option.none_or,List.findSome?_cons,if_neg h0]
theorem oh{N:Nat}{f:Nat→Flt}(h:∀k,k<N→(f k).1=0):orF N f=none:=List.findSome?_eq_none_iff.2 fun k hk=>by rw[if_pos (h k (List.mem_range.1 hk))]
def SG1(m:GModel)(F:D)(a b:Int)(t:List (Nm×Bool))(i:Int):St:=
 ⟨[(1,.d (.map 1)),(2,.loc (.l 2 0) [] 0 0),(4,.d (.int .i64 a)),(5,.d (.int .i64 b)),(41,.d (.sl false (List.map aq m.Vars))),(42,.d (.int .i64 m.Vars.length)),(43,.d (.int .i64 i))],[((2,0),.own [.d (moD m)])],hG F t⟩
def XG1(m:GModel)(F:D)(a b:Int)(t:List (Nm×Bool)):St:=
 ⟨[(1,.d (.map 1)),(2,.loc (.l 2 0) [] 0 0),(4,.d (.int .i64 a)),(5,.d (.int .i64 b)),(41,.d (.sl false (List.map aq m.Vars))),(42,.d (.int .i64 m.Vars.length)),(43,.d (.int .i64 m.Vars.length)),(44,.d (.bool false))],[((2,0),.own [.d (moD m)])],hG F t⟩
theorem PH{ρ:Type}(m:GModel)(F:D)(a b:Int)(t:List (Nm×Bool))(hl:m.Vars.length≤1000)(i:Nat)(hi:i<m.Vars.length)(R:St→Option ρ)(κ:Ex×St→Option ρ)(B:Int→Int→Option ρ)(hB:∀e j s t,s.H=hG F t→κ (.pan (gK e 2 j 0),s)=B e j):
  go P hints hint40 b40 FQ.1 (SG1 m F a b t i) (kLp R κ)=if(i:Int)=a∧b≠0 then B b i else if dU false t m.Vars[i].Name=true then B 7 i else R (SG1 m F a b (fd t m.Vars[i].Name true) (i+1:Nat)):=by
 have e1:m.Vars[i]? =some m.Vars[i]:=xG hi;have e2:(i:Int)<(m.Vars.length:Int):=by omega
 have w1:IntKind.i64.wrap ((i:Int)+1)=((i+1:Nat):Int):=aP (by omega)
 unfold SG1
 simp -implicitDefEqProofs [go_sem,e1,e2,w1,aN (PB _),hG]
 by_cases h1:(i:Int)=a
 ·subst h1
  by_cases h2:b=0
  ·by_cases h3:dU false t m.Vars[i].Name=true
   ·rw[if_pos rfl,if_pos h2,if_pos h3,if_neg (by simp[h2]),if_pos h3];exact hB _ _ _ t rfl
   ·rw[if_pos rfl,if_pos h2,if_neg h3,if_neg (by simp[h2]),if_neg h3]
  ·rw[if_pos rfl,if_neg h2,if_pos ⟨rfl,h2⟩];exact hB _ _ _ t rfl
 ·by_cases h3:dU false t m.Vars[i].Name=true
  ·rw[if_neg h1,if_pos h3,if_neg (fun q=>h1 q.1),if_pos h3];exact hB _ _ _ t rfl
  ·rw[if_neg h1,if_neg h3,if_neg (fun q=>h1 q.1),if_neg h3]
theorem PI{ρ:Type}(m:GModel)(F:D)(a b:Int)(t:List (Nm×Bool))(R:St→Option ρ)(κ:Ex×St→Option ρ):
  go P hints hint40 b40 FQ.1 (SG1 m F a b t (m.Vars.length:Nat)) (kLp R κ)=κ (.exit 2,XG1 m F a b t):=by
 unfold SG1 XG1
 simp -implicitDefEqProofs [go_sem]
theorem abw{m:GModel}{a b:Int}(hab:(a,b)=(l8 m.Vars m.Scalars 12:Option (Nat×Int)).elim (0,0) fun q=>((q.1:Int),q.2)){i:Nat}(hi:i<m.Vars.length)(h0:∀k,k<i→jh m.Vars m.Scalars 12 k=0):(jh m.Vars m.Scalars 12 i=0↔¬((i:Int)=a∧b≠0))∧(jh m.Vars m.Scalars 12 i≠0→jh m.Vars m.Scalars 12 i=b):=by
 cases hq:(l8 m.Vars m.Scalars 12:Option (Nat×Int))with
 |none=>
  rw[hq]at hab
  simp only[Option.elim_none,pJ]at hab
  obtain⟨rfl,rfl⟩:=hab
  have:=fT hq i hi
  exact⟨⟨fun _=>by simp,fun _=>this⟩,fun h=>absurd this h⟩
 |some q=>
  rw[hq]at hab
  simp only[Option.elim_some,pJ]at hab
  obtain⟨rfl,rfl⟩:=hab;obtain⟨q1,q2,q3,q4⟩:=bG (i:=q.1) (e:=q.2) hq
  rcases Nat.lt_trichotomy i q.1 with h |h |h
  ·have:=q4 i h
   exact⟨⟨fun _ c=>by omega,fun _=>this⟩,fun h=>absurd this h⟩
  ·subst h
   exact⟨⟨fun c=>absurd (q2▸c) q3,fun c=>absurd ⟨rfl,q3⟩ c⟩,fun _=>q2⟩
  ·exact absurd (h0 _ h) (by rw[q2];exact q3)
theorem PJ{ρ:Type}(m:GModel)(F:D)(a b:Int)(hab:(a,b)=(l8 m.Vars m.Scalars 12:Option (Nat×Int)).elim (0,0) fun q=>((q.1:Int),q.2))(hl:m.Vars.length≤1000)(κ:Ex×St→Option ρ)(B:Int→Int→Option ρ)(hB:∀e j s t,s.H=hG F t→κ (.pan (gK e 2 j 0),s)=B e j):∀(n i:Nat),m.Vars.length - i=n→i≤m.Vars.length→(∀k,k<i→(gvF m k).1=0)→
  cX P hints hint40 b40 1 (SG1 m F a b (tkn (sN m++(vN m).take i)) i) κ=(orF m.Vars.length (gvF m)).elim (κ (.exit 2,XG1 m F a b (tkn (sN m++vN m)))) fun f=>B f.1 f.2.2.1:=by
 intro n
 induction n with
 |zero=>
  intro i hn hi h0
  have:i=m.Vars.length:=by omega
  subst this;rw[ap FQ.2,PI,List.take_of_length_le (by simp[vN]),oh h0];rfl
 |succ n ih=>
  intro i hn hi h0;have hlt:i<m.Vars.length:=by omega
  have hf0:∀k,k<i→jh m.Vars m.Scalars 12 k=0:=fun k hk=>by
   have:=h0 k hk
   simp only[gvF,twF]at this
   by_cases h:jh m.Vars m.Scalars 12 k=0
   ·exact h
   ·rw[if_pos h]at this;exact absurd this h
  obtain⟨z1,z2⟩:=abw hab hlt hf0;have hnm:(vN m).getD i []=m.Vars[i].Name:=by simp[vN,hlt]
  have hst:fd (tkn (sN m++(vN m).take i)) m.Vars[i].Name true=tkn (sN m++(vN m).take (i+1)):=by
   rw[nU,xK,bn (show i<(vN m).length by simpa [vN]using hlt)]
   simp[vN]
  have hv:dU false (tkn (sN m++(vN m).take i)) m.Vars[i].Name=decide (m.Vars[i].Name∈sN m++(vN m).take i):=nT _ _;rw[ap FQ.2,PH m F a b _ hl i hlt _ κ B hB]
  by_cases hf:jh m.Vars m.Scalars 12 i=0
  ·rw[if_neg (z1.1 hf),hv]
   by_cases hm:m.Vars[i].Name∈sN m++(vN m).take i
   ·have hgv:gvF m i=(7,2,(i:Int),0):=by simp only[gvF,twF,hnm,hf];rw[if_neg (by simp),if_pos hm]
    rw[if_pos (decide_eq_true hm),iR hlt (by rw[hgv];show(7:Int)≠0;decide) h0,hgv];rfl
   ·have hgv:(gvF m i).1=0:=by simp only[gvF,twF,hnm,hf];rw[if_neg (by simp),if_neg hm]
    rw[if_neg (by rw[decide_eq_false hm];decide),hst]
    exact ih (i+1) (by omega) (by omega) fun k hk=>by
     rcases Nat.lt_or_ge k i with q |q
     ·exact h0 k q
     ·rw[show k=i by omega];exact hgv
  ·have hgv:gvF m i=(jh m.Vars m.Scalars 12 i,2,(i:Int),0):=by simp only[gvF,twF];rw[if_pos hf]
   have hc:(i:Int)=a∧b≠0:=Classical.not_not.1 fun c=>hf (z1.2 c)
   rw[if_pos hc,iR hlt (by rw[hgv];exact hf) h0,hgv]
   simp only[Option.elim_some,z2 hf]
def SG2(m:GModel)(F:D)(a b:Int)(t:List (Nm×Bool))(i:Int):St:=
 ⟨[(1,.d (.map 1)),(4,.d (.int .i64 a)),(5,.d (.int .i64 b)),(69,.d (.sl false (List.map ay m.Chans))),(70,.d (.int .i64 m.Chans.length)),(71,.d (.int .i64 i))],[],hG F t⟩
def XG2(m:GModel)(F:D)(a b:Int)(t:List (Nm×Bool)):St:=
 ⟨[(1,.d (.map 1)),(4,.d (.int .i64 a)),(5,.d (.int .i64 b)),(69,.d (.sl false (List.map ay m.Chans))),(70,.d (.int .i64 m.Chans.length)),(71,.d (.int .i64 m.Chans.length)),(72,.d (.bool false))],[],hG F t⟩
theorem PK{ρ:Type}(m:GModel)(F:D)(a b:Int)(t:List (Nm×Bool))(hl:m.Chans.length≤1000)(i:Nat)(hi:i<m.Chans.length)(R:St→Option ρ)(κ:Ex×St→Option ρ)(B:Int→Int→Option ρ)(hB:∀e j s t,s.H=hG F t→κ (.pan (gK e 3 j 0),s)=B e j):
  go P hints hint40 b40 FR.1 (SG2 m F a b t i) (kLp R κ)=if(i:Int)=a∧b≠0 then B b i else if dU false t m.Chans[i].Name=true then B 7 i else R (SG2 m F a b (fd t m.Chans[i].Name true) (i+1:Nat)):=by
 have e1:m.Chans[i]? =some m.Chans[i]:=xG hi;have e2:(i:Int)<(m.Chans.length:Int):=by omega
 have w1:IntKind.i64.wrap ((i:Int)+1)=((i+1:Nat):Int):=aP (by omega)
 unfold SG2
 simp -implicitDefEqProofs [go_sem,e1,e2,w1,aN (PB _),hG]
 by_cases h1:(i:Int)=a
 ·subst h1
  by_cases h2:b=0
  ·by_cases h3:dU false t m.Chans[i].Name=true
   ·rw[if_pos rfl,if_pos h2,if_pos h3,if_neg (by simp[h2]),if_pos h3];exact hB _ _ _ t rfl
   ·rw[if_pos rfl,if_pos h2,if_neg h3,if_neg (by simp[h2]),if_neg h3]
  ·rw[if_pos rfl,if_neg h2,if_pos ⟨rfl,h2⟩];exact hB _ _ _ t rfl
 ·by_cases h3:dU false t m.Chans[i].Name=true
  ·rw[if_neg h1,if_pos h3,if_neg (fun q=>h1 q.1),if_pos h3];exact hB _ _ _ t rfl
  ·rw[if_neg h1,if_neg h3,if_neg (fun q=>h1 q.1),if_neg h3]
theorem PL{ρ:Type}(m:GModel)(F:D)(a b:Int)(t:List (Nm×Bool))(R:St→Option ρ)(κ:Ex×St→Option ρ):
  go P hints hint40 b40 FR.1 (SG2 m F a b t (m.Chans.length:Nat)) (kLp R κ)=κ (.exit 4,XG2 m F a b t):=by
 unfold SG2 XG2
 simp -implicitDefEqProofs [go_sem]
theorem abx{m:GModel}{a b:Int}(hab:(a,b)=(lJ m.Chans m.Scalars:Option (Nat×Int)).elim (0,0) fun q=>((q.1:Int),q.2)){i:Nat}(hi:i<m.Chans.length)(h0:∀k,k<i→fq m.Chans m.Scalars k=0):(fq m.Chans m.Scalars i=0↔¬((i:Int)=a∧b≠0))∧(fq m.Chans m.Scalars i≠0→fq m.Chans m.Scalars i=b):=by
 cases hq:(lJ m.Chans m.Scalars:Option (Nat×Int))with
 |none=>
  rw[hq]at hab
  simp only[Option.elim_none,pJ]at hab
  obtain⟨rfl,rfl⟩:=hab
  have:=fT hq i hi
  exact⟨⟨fun _=>by simp,fun _=>this⟩,fun h=>absurd this h⟩
 |some q=>
  rw[hq]at hab
  simp only[Option.elim_some,pJ]at hab
  obtain⟨rfl,rfl⟩:=hab;obtain⟨q1,q2,q3,q4⟩:=bG (i:=q.1) (e:=q.2) hq
  rcases Nat.lt_trichotomy i q.1 with h |h |h
  ·have:=q4 i h
   exact⟨⟨fun _ c=>by omega,fun _=>this⟩,fun h=>absurd this h⟩
  ·subst h
   exact⟨⟨fun c=>absurd (q2▸c) q3,fun c=>absurd ⟨rfl,q3⟩ c⟩,fun _=>q2⟩
  ·exact absurd (h0 _ h) (by rw[q2];exact q3)
theorem PM{ρ:Type}(m:GModel)(F:D)(a b:Int)(hab:(a,b)=(lJ m.Chans m.Scalars:Option (Nat×Int)).elim (0,0) fun q=>((q.1:Int),q.2))(hl:m.Chans.length≤1000)(κ:Ex×St→Option ρ)(B:Int→Int→Option ρ)(hB:∀e j s t,s.H=hG F t→κ (.pan (gK e 3 j 0),s)=B e j):∀(n i:Nat),m.Chans.length - i=n→i≤m.Chans.length→(∀k,k<i→(gcF m k).1=0)→
  cX P hints hint40 b40 2 (SG2 m F a b (tkn (sN m++vN m++(cN m).take i)) i) κ=(orF m.Chans.length (gcF m)).elim (κ (.exit 4,XG2 m F a b (tkn (sN m++vN m++cN m)))) fun f=>B f.1 f.2.2.1:=by
 intro n
 induction n with
 |zero=>
  intro i hn hi h0
  have:i=m.Chans.length:=by omega
  subst this;rw[ap FR.2,PL,List.take_of_length_le (by simp[cN]),oh h0];rfl
 |succ n ih=>
  intro i hn hi h0;have hlt:i<m.Chans.length:=by omega
  have hf0:∀k,k<i→fq m.Chans m.Scalars k=0:=fun k hk=>by
   have:=h0 k hk
   simp only[gcF,twF]at this
   by_cases h:fq m.Chans m.Scalars k=0
   ·exact h
   ·rw[if_pos h]at this;exact absurd this h
  obtain⟨z1,z2⟩:=abx hab hlt hf0;have hnm:(cN m).getD i []=m.Chans[i].Name:=by simp[cN,hlt]
  have hst:fd (tkn (sN m++vN m++(cN m).take i)) m.Chans[i].Name true=tkn (sN m++vN m++(cN m).take (i+1)):=by
   rw[nU,xK,bn (show i<(cN m).length by simpa [cN]using hlt)]
   simp[cN]
  have hv:dU false (tkn (sN m++vN m++(cN m).take i)) m.Chans[i].Name=decide (m.Chans[i].Name∈sN m++vN m++(cN m).take i):=nT _ _;rw[ap FR.2,PK m F a b _ hl i hlt _ κ B hB]
  by_cases hf:fq m.Chans m.Scalars i=0
  ·rw[if_neg (z1.1 hf),hv]
   by_cases hm:m.Chans[i].Name∈sN m++vN m++(cN m).take i
   ·have hgv:gcF m i=(7,3,(i:Int),0):=by simp only[gcF,twF,hnm,hf];rw[if_neg (by simp),if_pos hm]
    rw[if_pos (decide_eq_true hm),iR hlt (by rw[hgv];show(7:Int)≠0;decide) h0,hgv];rfl
   ·have hgv:(gcF m i).1=0:=by simp only[gcF,twF,hnm,hf];rw[if_neg (by simp),if_neg hm]
    rw[if_neg (by rw[decide_eq_false hm];decide),hst]
    exact ih (i+1) (by omega) (by omega) fun k hk=>by
     rcases Nat.lt_or_ge k i with q |q
     ·exact h0 k q
     ·rw[show k=i by omega];exact hgv
  ·have hgv:gcF m i=(fq m.Chans m.Scalars i,3,(i:Int),0):=by simp only[gcF,twF];rw[if_pos hf]
   have hc:(i:Int)=a∧b≠0:=Classical.not_not.1 fun c=>hf (z1.2 c)
   rw[if_pos hc,iR hlt (by rw[hgv];exact hf) h0,hgv]
   simp only[Option.elim_some,z2 hf]
theorem gz{N:Nat}{f:Nat→Flt}{x:Flt}(h:orF N f=some x):∃i,i<N∧f i=x∧x.1≠0:=by
 obtain⟨i,hi,h⟩:=List.exists_of_findSome?_eq_some h
 refine⟨i,List.mem_range.1 hi,?_⟩
 by_cases h0:(f i).1=0
 ·simp[h0]at h
 ·simp only[h0,if_false,xJ]at h
  subst h
  exact⟨rfl,h0⟩
theorem Ib{ρ:Type}(m:GModel)(h:MoOk m)(F:D)(κ:KT ρ)(B:Flt→Option ρ)(hB:∀e a b c t,κ (zg (gK e a b c),hG F t)=B (e,a,b,c)):
  cbK (call 40 [moD m,.map 1] (hG F [])) κ=(rU m).elim (κ ([],hG F (tkn (sN m++vN m++cN m)))) B:=by
 refine(aeX _ _ _ rfl).trans ?_
 have hsc:=fun g=>Fb (ρ:=ρ) (by have:=h.sc;omega) (g:=g) (l:=m.Scalars)
 have hvs:=fun g=>Gd (ρ:=ρ) (n:=12) (l:=m.Vars) (s:=m.Scalars) h.v h.sc (g:=g)
 simp only[show((12:Nat):Int)=12 from rfl]at hvs
 have hcs:=fun g=>Ls (ρ:=ρ) (l:=m.Chans) (s:=m.Scalars) h.c h.sc (g:=g)
 have l0:=fun κ=>PG (ρ:=ρ) m F h.sc κ _ 0 rfl (Nat.zero_le _)
 simp only[SG0,XG0,List.take_zero,O5,Int.natCast_zero,hG]at l0
 unfold rU
 cases hq:km m.Scalars with
 |some q=>
  obtain⟨q1,q2,q3,q4⟩:=bG (i:=q.1) (e:=q.2) hq
  simp -implicitDefEqProofs [go_sem,hsc,hq,atE,q3,aN (PB _),hG]
  exact hB _ _ _ _ []
 |none=>
  simp -implicitDefEqProofs [go_sem,hsc,hq,atE,aN (PB _),hG,l0,hvs]
  have l1:=fun(a b:Int) hab κ B hB=>PJ (ρ:=ρ) m F a b hab h.v κ B hB _ 0 rfl (Nat.zero_le _) (fun k hk=>by omega)
  have l2:=fun(a b:Int) hab κ B hB=>PM (ρ:=ρ) m F a b hab h.c κ B hB _ 0 rfl (Nat.zero_le _) (fun k hk=>by omega)
  simp only[SG1,XG1,SG2,XG2,List.take_zero,Int.natCast_zero,hG,List.append_nil]at l1 l2
  have hp1:∀(s:St) (e j:Int) (t:List (Nm×Bool)) (rest:CL),s.H=hG F t→uH 2 (zb P hints hint40 b40 rest (kLv P false [] 2 κ)) (.pan (gK e 2 j 0),s)=B (e,2,j,0):=by
   intro s e j t rest hs;obtain⟨env,ct,H⟩:=s;simp only at hs;subst hs
   simp -implicitDefEqProofs [go_sem,hG]
   exact hB _ _ _ _ t
  have hp2:∀(s:St) (e j:Int) (t:List (Nm×Bool)),s.H=hG F t→uH 4 (kLv P false [] 2 κ) (.pan (gK e 3 j 0),s)=B (e,3,j,0):=by
   intro s e j t hs;obtain⟨env,ct,H⟩:=s;simp only at hs;subst hs
   simp -implicitDefEqProofs [go_sem,hG]
   exact hB _ _ _ _ t
  have l3:∀(a b:Int),((a,b)=(lJ m.Chans m.Scalars).elim (0,0) fun q=>((q.1:Int),q.2))→_:=fun a b hab=>l2 a b hab (uH 4 (kLv P false [] 2 κ)) (fun e j=>B (e,3,j,0)) fun e j s t hs=>hp2 s e j t hs
  have fin:∀(rest:CL) (a b:Int),((a,b)=(l8 m.Vars m.Scalars 12).elim (0,0) fun q=>((q.1:Int),q.2))→_:=fun rest a b hab=>l1 a b hab (uH 2 (zb P hints hint40 b40 rest (kLv P false [] 2 κ))) (fun e j=>B (e,2,j,0)) fun e j s t hs=>hp1 s e j t _ hs
  cases hv:(l8 m.Vars m.Scalars 12:Option (Nat×Int))with
  |none=>
   simp only[Option.elim_none];rw[fin _ 0 0 (by rw[hv];rfl)]
   cases hg:orF m.Vars.length (gvF m)with
   |some f=>
    obtain⟨i,hi,he,h0⟩:=gz hg;subst he;rfl
   |none=>
    simp -implicitDefEqProofs [go_sem,hcs,atE]
    cases hc:(lJ m.Chans m.Scalars:Option (Nat×Int))with
    |none=>
     simp only[Option.elim_none];rw[l3 0 0 (by rw[hc];rfl)]
     cases hg2:orF m.Chans.length (gcF m)with
     |some f=>
      obtain⟨i,hi,he,h0⟩:=gz hg2;subst he;rfl
     |none=>
      simp -implicitDefEqProofs [go_sem]
    |some q=>
     simp only[Option.elim_some];rw[l3 q.1 q.2 (by rw[hc];rfl)]
     cases hg2:orF m.Chans.length (gcF m)with
     |some f=>
      obtain⟨i,hi,he,h0⟩:=gz hg2;subst he;rfl
     |none=>
      simp -implicitDefEqProofs [go_sem]
  |some q=>
   simp only[Option.elim_some];rw[fin _ q.1 q.2 (by rw[hv];rfl)]
   cases hg:orF m.Vars.length (gvF m)with
   |some f=>
    obtain⟨i,hi,he,h0⟩:=gz hg;subst he;rfl
   |none=>
    simp -implicitDefEqProofs [go_sem,hcs,atE]
    cases hc:(lJ m.Chans m.Scalars:Option (Nat×Int))with
    |none=>
     simp only[Option.elim_none];rw[l3 0 0 (by rw[hc];rfl)]
     cases hg2:orF m.Chans.length (gcF m)with
     |some f=>
      obtain⟨i,hi,he,h0⟩:=gz hg2;subst he;rfl
     |none=>
      simp -implicitDefEqProofs [go_sem]
    |some q=>
     simp only[Option.elim_some];rw[l3 q.1 q.2 (by rw[hc];rfl)]
     cases hg2:orF m.Chans.length (gcF m)with
     |some f=>
      obtain⟨i,hi,he,h0⟩:=gz hg2;subst he;rfl
     |none=>
      simp -implicitDefEqProofs [go_sem]
end Go.Etx
namespace Go.Etx
open Go Go.Am Go.Proofs
set_option maxHeartbeats 4000000
set_option maxRecDepth 20000
section
variable{ρ:Type}
theorem fU{α:Type}{f:α→Int}{l:List α}{i:Nat}(hi:i<l.length):bq f (l.take (i+1))=bq f (l.take i)+f l[i]:=by
 rw[bn hi];simp only[bq,List.foldl_append,List.foldl_cons,List.foldl_nil]
theorem jj{α:Type}{f:α→Int}{l:List α}{b:Int}(hb:0≤b)(h:∀x∈l,0≤f x∧f x≤b):∀i,0≤bq f (l.take i)∧bq f (l.take i)≤b * l.length:=by
 intro i
 have key:∀(n:Nat),n≤l.length→0≤bq f (l.take n)∧bq f (l.take n)≤b * n:=by
  intro n
  induction n with
  |zero=>intro _;simp[bq]
  |succ n ih=>
   intro hn;rw[fU (by omega)]
   have:=ih (by omega)
   have h2:=h _ (List.getElem_mem (show n<l.length by omega))
   have:b * ((n+1:Nat):Int)=b * n+b:=by push_cast;rw[Int.mul_add];simp
   omega
 rcases Nat.le_total i l.length with h1 |h1
 ·have:=key i h1
  have h2:b * (i:Int)≤b * (l.length:Int):=Int.mul_le_mul_of_nonneg_left (by omega) hb
  omega
 ·rw[List.take_of_length_le h1]
  have:=key l.length (Nat.le_refl _)
  rwa [List.take_length]at this
theorem iS{τ:Type}{Φ:τ→(τ→Option ρ)→Option ρ}{a b:τ}{r:Option ρ}(h:dD Φ b=r)(e:a=b):dD Φ a=r:=e▸h
theorem iterC_all{τ:Type}{Φ:τ→(τ→Option ρ)→Option ρ}(N:Nat)(mk:Nat→τ)(fin:Option ρ)
  (hs:∀i k,i<N→Φ (mk i) k=k (mk (i+1))) (hf:∀k,Φ (mk N) k=fin):dD Φ (mk 0)=fin:=by
 rw[kU N mk (fun _=>none) fin (fun i k hi=>hs i k hi) hf,List.findSome?_eq_none_iff.2 fun _ _=>rfl];rfl
theorem DC{s:List GScalar}{k:Int}:0≤bK s k∧bK s k≤4:=by
 unfold bK;split
 ·split
  ·split <;>omega
  ·omega
 ·omega
theorem ib{m:GModel}{p:GProc}:0≤aK m p∧aK m p≤4:=by
 unfold aK
 have:= @DC m.Scalars p.Over
 split <;>omega
theorem oi{m:GModel}{v:GVar}:0≤bg m v∧bg m v≤4:=by
 unfold bg
 have:= @DC m.Scalars v.Over
 split <;>omega
theorem PN{c:GChan}:IntKind.i64.wrap (1+if 4<if c.Cap<0 then 0 else c.Cap then 4 else if c.Cap<0 then 0 else c.Cap)=gZ c:=by
 have e:(if 4<if c.Cap<0 then 0 else c.Cap then 4 else if c.Cap<0 then 0 else c.Cap)=min (max c.Cap 0) 4:=by
  by_cases h:c.Cap<0
  ·simp only[h,if_true];omega
  ·simp only[h,if_false];split <;>omega
 rw[e];unfold gZ;exact bt (by omega) (by omega)
theorem vX{c:GChan}:0≤gZ c∧gZ c≤5:=by unfold gZ;omega
def rW(m:GModel)(l:List GProc):Int:=l.foldl (fun n p=>IntKind.i64.wrap (n+IntKind.i64.wrap (aK m p * p.Cmds.length))) 0
theorem yk{m:GModel}{l:List GProc}{i:Nat}(hi:i<l.length):rW m (l.take (i+1))=IntKind.i64.wrap (rW m (l.take i)+IntKind.i64.wrap (aK m l[i] * l[i].Cmds.length)):=by
 rw[bn hi];simp only[rW,List.foldl_append,List.foldl_cons,List.foldl_nil]
theorem Ic{m:GModel}(h:MoOk m){g:Int→Int→Int→Option ρ}:iK m g=g (tm m) (rW m m.Procs) (tn m):=by
 have hc:=fun v g=>Lr (ρ:=ρ) (v:=v) h.sc (g:=g)
 have w1:∀{i n:Nat},i<n→n≤1000→IntKind.i64.wrap ((i:Int)+1)=((i+1:Nat):Int):=fun h1 h2=>aP (by omega)
 have b1:=fun i=>jj (f:=bg m) (l:=m.Vars) (b:=4) (by decide) (fun x _=>oi) i
 have b2:=fun i=>jj (f:=gZ) (l:=m.Chans) (b:=5) (by decide) (fun x _=>vX) i
 have b3:=fun i=>jj (f:=aK m) (l:=m.Procs) (b:=4) (by decide) (fun x _=>ib) i
 have b0:∀p∈m.Procs,0≤aK m p * (1+(p.Vars.length:Int))∧aK m p * (1+(p.Vars.length:Int))≤4004:=fun p hp=>by
  have h1:= @ib m p;have h2:=(h.p p hp).v
  refine⟨Int.mul_nonneg h1.1 (by omega),?_⟩
  calc aK m p * (1+(p.Vars.length:Int))≤4 * (1+(p.Vars.length:Int)):=Int.mul_le_mul_of_nonneg_right h1.2 (by omega)
   _≤4004:=by omega
 have b4:=fun i=>jj (f:=fun p:GProc=>aK m p * (1+(p.Vars.length:Int))) (l:=m.Procs) (b:=4004) (by decide) b0 i
 have hv:=h.v;have hcc:=h.c;have hn:=h.n;have t1:bq (bg m) (m.Vars.take m.Vars.length)=bq (bg m) m.Vars:=by rw[List.take_length]
 have t2:bq gZ (m.Chans.take m.Chans.length)=bq gZ m.Chans:=by rw[List.take_length]
 simp only[iK,iJ,mkF,hc,PN];refine iterC_all (τ:=Int×Int) m.Vars.length (fun i=>(bq (bg m) (m.Vars.take i),(i:Int))) _ (fun i k hi=> ?_) fun k=> ?_
 ·simp only[show(i:Int)<(m.Vars.length:Int)by omega,if_true,show(0:Int)≤(i:Int)by omega,xV,xG hi,xS,w1 hi hv,fU hi]
  have q1:=b1 i;have q2:= @oi m m.Vars[i];rw[show IntKind.i64.wrap (bq (bg m) (List.take i m.Vars)+if m.Vars[i].Over=0 then 1 else bK m.Scalars m.Vars[i].Over)=bq (bg m) (List.take i m.Vars)+bg m m.Vars[i]from bt (by unfold bg at q2;omega) (by unfold bg at q2;omega)]
 ·simp only[Int.lt_irrefl,if_false,t1]
  refine iS (iterC_all (τ:=Int×Int) m.Chans.length (fun i=>(bq (bg m) m.Vars+bq gZ (m.Chans.take i),(i:Int))) _ (fun i k hi=> ?_) fun k=> ?_) (by simp[bq])
  ·simp only[show(i:Int)<(m.Chans.length:Int)by omega,if_true,show(0:Int)≤(i:Int)by omega,xV,xG hi,xS,w1 hi hcc,fU hi]
   have q1:=b1 m.Vars.length;have q2:=b2 i;have q3:= @vX m.Chans[i];rw[t1]at q1
   rw[bt (by omega) (by omega),Int.add_assoc]
  ·simp only[Int.lt_irrefl,if_false,t2]
   refine iS (iterC_all (τ:=Int×Int×Int×Int) m.Procs.length (fun i=>(bq (aK m) (m.Procs.take i),rW m (m.Procs.take i),bq (bg m) m.Vars+bq gZ m.Chans+bq (fun p:GProc=>aK m p * (1+(p.Vars.length:Int))) (m.Procs.take i),(i:Int))) _ (fun i k hi=> ?_) fun k=> ?_) (by simp[bq,rW])
   ·have q0:= @ib m m.Procs[i]
    have q1:=b3 i;have q2:=b4 i;have q3:=b0 _ (List.getElem_mem hi);have q4:=b1 m.Vars.length;have q5:=b2 m.Chans.length;rw[t1]at q4
    rw[t2]at q5
    have q6:=(h.p _ (List.getElem_mem hi)).v;have e0:(if m.Procs[i].Over=0 then 1 else bK m.Scalars m.Procs[i].Over)=aK m m.Procs[i]:=rfl
    have e1:IntKind.i64.wrap (1+(m.Procs[i].Vars.length:Int))=1+(m.Procs[i].Vars.length:Int):=bt (by omega) (by omega)
    have e2:IntKind.i64.wrap (aK m m.Procs[i] * (1+(m.Procs[i].Vars.length:Int)))=aK m m.Procs[i] * (1+(m.Procs[i].Vars.length:Int)):=bt (by omega) (by omega)
    simp only[show(i:Int)<(m.Procs.length:Int)by omega,if_true,show(0:Int)≤(i:Int)by omega,xV,xG hi,xS,w1 hi hn,e0,e1,e2,fU hi,yk hi]
    rw[bt (show -9223372036854775808≤bq (aK m) (List.take i m.Procs)+aK m m.Procs[i]by omega) (by omega),bt (x:=bq (bg m) m.Vars+bq gZ m.Chans+bq (fun p:GProc=>aK m p * (1+(p.Vars.length:Int))) (m.Procs.take i)+aK m m.Procs[i] * (1+(m.Procs[i].Vars.length:Int))) (by omega) (by omega),Int.add_assoc]
   ·simp only[Int.lt_irrefl,if_false,List.take_length]
    rfl
end
attribute [-simp] List.map_append List.map_take List.map_drop List.map_set
theorem Fc(n:Nat):hint41.mv.contains n=false:=rfl
abbrev hP(F:D)(t:List (Nm×Bool))(ks:List Nm):List Ob:=[.box (.d F),.map (dT eS eB t),.sset ks]
def SU(m:GModel)(F:D)(t:List (Nm×Bool))(ks:List Nm)(i:Int):St:=
 ⟨[(1,.d (.map 1)),(2,.loc (.l 2 0) [] 0 0),(4,.d (.map 2)),(28,.d (.sl false (List.map (au false) m.Procs))),(29,.d (.int .i64 m.Procs.length)),(30,.d (.int .i64 i))],[((2,0),.own [.d (moD m)])],hP F t ks⟩
def XU(m:GModel)(F:D)(t:List (Nm×Bool))(ks:List Nm):St:=
 ⟨[(1,.d (.map 1)),(2,.loc (.l 2 0) [] 0 0),(4,.d (.map 2)),(28,.d (.sl false (List.map (au false) m.Procs))),(29,.d (.int .i64 m.Procs.length)),(30,.d (.int .i64 m.Procs.length)),(31,.d (.bool false))],[((2,0),.own [.d (moD m)])],hP F t ks⟩
theorem PO{ρ:Type}(m:GModel)(F:D)(t:List (Nm×Bool))(ks:List Nm)(hl:m.Procs.length≤1000)(i:Nat)(hi:i<m.Procs.length)(R:St→Option ρ)(κ:Ex×St→Option ρ):
  go P hints hint41 b41 FS.1 (SU m F t ks i) (kLp R κ)=R (SU m F t (m.Procs[i].Name::ks) (i+1:Nat)):=by
 have e1:m.Procs[i]? =some m.Procs[i]:=xG hi;have e2:(i:Int)<(m.Procs.length:Int):=by omega
 have w1:IntKind.i64.wrap ((i:Int)+1)=((i+1:Nat):Int):=aP (by omega)
 unfold SU
 simp -implicitDefEqProofs [go_sem,e1,e2,w1,hP]
theorem PP{ρ:Type}(m:GModel)(F:D)(t:List (Nm×Bool))(ks:List Nm)(R:St→Option ρ)(κ:Ex×St→Option ρ):
  go P hints hint41 b41 FS.1 (SU m F t ks (m.Procs.length:Nat)) (kLp R κ)=κ (.exit 2,XU m F t ks):=by
 unfold SU XU
 simp -implicitDefEqProofs [go_sem,hP]
theorem PQ{ρ:Type}(m:GModel)(F:D)(t:List (Nm×Bool))(ks:List Nm)(hl:m.Procs.length≤1000)(κ:Ex×St→Option ρ):∀(n i:Nat),m.Procs.length - i=n→i≤m.Procs.length→
  cX P hints hint41 b41 1 (SU m F t (((pN m).take i).reverse++ks) i) κ=κ (.exit 2,XU m F t ((pN m).reverse++ks)):=by
 intro n
 induction n with
 |zero=>
  intro i hn hi
  have:i=m.Procs.length:=by omega
  subst this;rw[ap FS.2,PP,List.take_of_length_le (by simp[pN])]
 |succ n ih=>
  intro i hn hi;have hlt:i<m.Procs.length:=by omega
  have hs:m.Procs[i].Name::(((pN m).take i).reverse++ks)=((pN m).take (i+1)).reverse++ks:=by
   rw[bn (show i<(pN m).length by simpa [pN]using hlt),List.reverse_append]
   simp only[pN,List.getElem_map,List.reverse_cons,List.reverse_nil,List.nil_append,List.cons_append]
  rw[ap FS.2,PO m F t _ hl i hlt,hs];exact ih (i+1) (by omega) (by omega)
def SY(m:GModel)(F:D)(t:List (Nm×Bool))(ks:List Nm)(i:Int)(l:List GVar)(k:Int):St:=
 ⟨[(1,.d (.map 1)),(2,.loc (.l 2 0) [] 0 0),(4,.d (.map 2)),(8,.d (.int .i64 i)),(39,.d (.sl false (List.map (au false) m.Procs))),(40,.d (.int .i64 m.Procs.length)),(41,.d (.int .i64 i)),(72,.d (.sl false (List.map aq l))),(73,.d (.int .i64 l.length)),(74,.d (.int .i64 k))],[((2,0),.own [.d (moD m)])],hP F t ks⟩
def XY(m:GModel)(F:D)(t:List (Nm×Bool))(ks:List Nm)(i:Int)(l:List GVar):St:=
 ⟨[(1,.d (.map 1)),(2,.loc (.l 2 0) [] 0 0),(4,.d (.map 2)),(8,.d (.int .i64 i)),(39,.d (.sl false (List.map (au false) m.Procs))),(40,.d (.int .i64 m.Procs.length)),(41,.d (.int .i64 i)),(72,.d (.sl false (List.map aq l))),(73,.d (.int .i64 l.length)),(74,.d (.int .i64 l.length)),(75,.d (.bool false))],[((2,0),.own [.d (moD m)])],hP F t ks⟩
theorem PR{ρ:Type}(m:GModel)(F:D)(t:List (Nm×Bool))(ks:List Nm)(i:Int)(l:List GVar)(hl:l.length≤1000)(k:Nat)(hk:k<l.length)(R:St→Option ρ)(κ:Ex×St→Option ρ)(B:Int→Option ρ)(hB:∀j s,s.H=hP F t ks→κ (.pan (gK 7 4 i j),s)=B j):
  go P hints hint41 b41 FT.1 (SY m F t ks i l k) (kLp R κ)=if l[k].Name∈ks then B (16+k)else R (SY m F t ks i l (k+1:Nat)):=by
 have e1:l[k]? =some l[k]:=xG hk;have e2:(k:Int)<(l.length:Int):=by omega
 have w1:IntKind.i64.wrap ((k:Int)+1)=((k+1:Nat):Int):=aP (by omega)
 have w2:IntKind.i64.wrap (16+(k:Int))=16+(k:Int):=bt (by omega) (by omega)
 unfold SY
 by_cases h:l[k].Name∈ks
 ·rw[if_pos h]
  simp -implicitDefEqProofs [go_sem,e1,e2,w1,w2,h,hP,aN (Fc _)]
  exact hB _ _ rfl
 ·rw[if_neg h]
  simp -implicitDefEqProofs [go_sem,e1,e2,w1,w2,h,hP,aN (Fc _)]
theorem PS{ρ:Type}(m:GModel)(F:D)(t:List (Nm×Bool))(ks:List Nm)(i:Int)(l:List GVar)(R:St→Option ρ)(κ:Ex×St→Option ρ):
  go P hints hint41 b41 FT.1 (SY m F t ks i l (l.length:Nat)) (kLp R κ)=κ (.exit 6,XY m F t ks i l):=by
 unfold SY XY
 simp -implicitDefEqProofs [go_sem,hP]
theorem PU{ρ:Type}(m:GModel)(F:D)(t:List (Nm×Bool))(ks:List Nm)(i:Int)(l:List GVar)(hl:l.length≤1000)(κ:Ex×St→Option ρ)(B:Int→Option ρ)(hB:∀j s,s.H=hP F t ks→κ (.pan (gK 7 4 i j),s)=B j):∀(n k:Nat),l.length - k=n→k≤l.length→(∀j,j<k→aV l (fun v=>if v.Name∈ks then 7 else 0) j=0)→
  cX P hints hint41 b41 2 (SY m F t ks i l k) κ=(aw l.length (aV l fun v=>if v.Name∈ks then 7 else 0)).elim (κ (.exit 6,XY m F t ks i l)) fun q=>B (16+q.1):=by
 intro n
 induction n with
 |zero=>
  intro k hn hk h0
  have:k=l.length:=by omega
  subst this;rw[ap FT.2,PS,dx h0];rfl
 |succ n ih=>
  intro k hn hk h0;have hlt:k<l.length:=by omega
  have hm:aV l (fun v=>if v.Name∈ks then(7:Int)else 0) k=if l[k].Name∈ks then 7 else 0:=by simp[aV,hlt]
  rw[ap FT.2,PR m F t ks i l hl k hlt _ κ B hB]
  by_cases hf:l[k].Name∈ks
  ·rw[if_pos hf]at hm ⊢
   rw[gy hlt (by rw[hm];decide) h0];rfl
  ·rw[if_neg hf]at hm ⊢
   exact ih (k+1) (by omega) (by omega) fun j hj=>by
    rcases Nat.lt_or_ge j k with q |q
    ·exact h0 j q
    ·rw[show j=k by omega];exact hm
def SZ(m:GModel)(F:D)(t:List (Nm×Bool))(ks:List Nm)(i:Int):St:=
 ⟨[(1,.d (.map 1)),(2,.loc (.l 2 0) [] 0 0),(4,.d (.map 2)),(39,.d (.sl false (List.map (au false) m.Procs))),(40,.d (.int .i64 m.Procs.length)),(41,.d (.int .i64 i))],[((2,0),.own [.d (moD m)])],hP F t ks⟩
def XZ(m:GModel)(F:D)(t:List (Nm×Bool))(ks:List Nm):St:=
 ⟨[(1,.d (.map 1)),(2,.loc (.l 2 0) [] 0 0),(4,.d (.map 2)),(39,.d (.sl false (List.map (au false) m.Procs))),(40,.d (.int .i64 m.Procs.length)),(41,.d (.int .i64 m.Procs.length)),(42,.d (.bool false))],[((2,0),.own [.d (moD m)])],hP F t ks⟩
theorem PV{ρ:Type}(m:GModel)(F:D)(t:List (Nm×Bool))(ks:List Nm)(R:St→Option ρ)(κ:Ex×St→Option ρ):
  go P hints hint41 b41 FU.1 (SZ m F t ks (m.Procs.length:Nat)) (kLp R κ)=κ (.exit 4,XZ m F t ks):=by
 unfold SZ XZ
 simp -implicitDefEqProofs [go_sem,hP]
structure MoE(m:GModel):Prop where
 p:∀p∈m.Procs,ProcE p
 q:∀p∈m.Props,∀x∈p.Expr,x.N≤9223372036854775807
theorem rX(m:GModel)(i:Nat):(bT m i).Vars=m.Vars∧(bT m i).Scalars=m.Scalars:=by
 unfold bT
 split <;>exact⟨rfl,rfl⟩
theorem PW{ρ:Type}(m:GModel)(h:MoOk m)(hE:MoE m)(F:D)(t:List (Nm×Bool))(ks:List Nm)(i:Nat)(hi:i<m.Procs.length)(R:St→Option ρ)(κ:Ex×St→Option ρ)(B:Flt→Option ρ)(hB:∀e j k s t,s.H=hP F t ks→κ (.pan (gK e 4 j k),s)=B (e,4,j,k)):
  go P hints hint41 b41 FU.1 (SZ m F t ks i) (kLp R κ)=if 6≤i then B (11,4,i,0)else if(ej m.Procs[i] (bT m i)).2.2≠0 then B ((ej m.Procs[i] (bT m i)).2.2,4,i,IntKind.i64.wrap (IntKind.i64.wrap (16 * (ej m.Procs[i] (bT m i)).1)+(ej m.Procs[i] (bT m i)).2.1))else if dU false t m.Procs[i].Name=true then B (7,4,i,0)else
   (aw m.Procs[i].Vars.length (aV m.Procs[i].Vars fun v=>if v.Name∈ks then 7 else 0)).elim (R (SZ m F (fd t m.Procs[i].Name true) ks (i+1:Nat))) fun q=>B (7,4,i,16+q.1):=by
 have hn:=h.n;have e1:m.Procs[i]? =some m.Procs[i]:=xG hi;have e2:(i:Int)<(m.Procs.length:Int):=by omega
 have w1:IntKind.i64.wrap ((i:Int)+1)=((i+1:Nat):Int):=aP (by omega)
 have hp:=h.p _ (List.getElem_mem hi);have hsc:=fun κ=>Pc (ρ:=ρ) m h i hi κ
 have hpw:=fun κ=>Uv (ρ:=ρ) m.Procs[i] (bT m i) (by rw[(rX m i).1];exact h.v) (by rw[(rX m i).2];exact h.sc) hp.v hp.n (hE.p _ (List.getElem_mem hi)) κ
 have hin:=fun t κ B hB=>PU (ρ:=ρ) m F t ks i m.Procs[i].Vars hp.v κ B hB _ 0 rfl (Nat.zero_le _) (fun k hk=>by omega)
 simp only[SY,XY,Int.natCast_zero,hP]at hin
 generalize hr:ej m.Procs[i] (bT m i)=r at hpw ⊢
 obtain⟨r1,r2,r3⟩:=r;unfold SZ
 by_cases h6:6≤i
 ·rw[if_pos h6]
  simp -implicitDefEqProofs [go_sem,e1,e2,w1,hP,h6,show(6:Int)≤(i:Int)by omega,aN (Fc _)]
  exact hB _ _ _ _ t rfl
 ·rw[if_neg h6]
  by_cases h3:r3=0
  ·subst h3
   simp -implicitDefEqProofs [go_sem,e1,e2,w1,hP,h6,show¬(6:Int)≤(i:Int)by omega,hsc,hpw,aN (Fc _)]
   by_cases h4:dU false t m.Procs[i].Name=true
   ·rw[if_pos h4,if_pos h4];exact hB _ _ _ _ t rfl
   ·rw[if_neg h4,if_neg h4,hin _ _ (fun j=>B (7,4,i,j)) fun j s hs=>by
     obtain⟨env,ct,H⟩:=s;simp only at hs;subst hs
     simp -implicitDefEqProofs [go_sem]
     exact hB _ _ _ _ _ rfl]
    simp -implicitDefEqProofs [go_sem,w1]
  ·rw[if_pos h3]
   simp -implicitDefEqProofs [go_sem,e1,e2,w1,hP,h6,show¬(6:Int)≤(i:Int)by omega,hsc,hpw,h3,aN (Fc _)]
   exact hB _ _ _ _ t rfl
theorem Uw{m:GModel}{tk ks:List Nm}(htk:tk=sN m++vN m++cN m)(hks:∀x,x∈ks↔x∈tk++pN m){i:Nat}(hi:i<m.Procs.length):gpF m i=if 6≤i then(11,4,(i:Int),0)else if(ej m.Procs[i] (bT m i)).2.2≠0 then((ej m.Procs[i] (bT m i)).2.2,4,(i:Int),IntKind.i64.wrap (IntKind.i64.wrap (16 * (ej m.Procs[i] (bT m i)).1)+(ej m.Procs[i] (bT m i)).2.1))else if dU false (tkn (tk++(pN m).take i)) m.Procs[i].Name=true then(7,4,(i:Int),0)else
   (aw m.Procs[i].Vars.length (aV m.Procs[i].Vars fun v=>if v.Name∈ks then 7 else 0)).elim (0,0,0,0) fun q=>(7,4,(i:Int),16+(q.1:Int)):=by
 subst htk;have e1:m.Procs[i]? =some m.Procs[i]:=xG hi;simp only[gpF,e1,nT,yD,Pi,hks]
theorem PX{ρ:Type}(m:GModel)(h:MoOk m)(hE:MoE m)(F:D)(tk:List Nm)(htk:tk=sN m++vN m++cN m)(ks:List Nm)(hks:∀x,x∈ks↔x∈tk++pN m)(κ:Ex×St→Option ρ)(B:Flt→Option ρ)(hB:∀e j k s t,s.H=hP F t ks→κ (.pan (gK e 4 j k),s)=B (e,4,j,k)):∀(n i:Nat),m.Procs.length - i=n→i≤m.Procs.length→(∀k,k<i→(gpF m k).1=0)→
  cX P hints hint41 b41 3 (SZ m F (tkn (tk++(pN m).take i)) ks i) κ=(orF m.Procs.length (gpF m)).elim (κ (.exit 4,XZ m F (tkn (tk++pN m)) ks)) B:=by
 intro n
 induction n with
 |zero=>
  intro i hn hi h0
  have:i=m.Procs.length:=by omega
  subst this;rw[ap FU.2,PV,List.take_of_length_le (by simp[pN]),oh h0];rfl
 |succ n ih=>
  intro i hn hi h0;have hlt:i<m.Procs.length:=by omega
  have hst:fd (tkn (tk++(pN m).take i)) m.Procs[i].Name true=tkn (tk++(pN m).take (i+1)):=by
   rw[nU,xK,bn (show i<(pN m).length by simpa [pN]using hlt)]
   simp[pN]
  have hg:=Uw htk hks hlt;rw[ap FU.2,PW m h hE F _ ks i hlt _ κ B hB,hst]
  have hgo:(gpF m i).1=0→cX P hints hint41 b41 3 (SZ m F (tkn (tk++(pN m).take (i+1))) ks (i+1:Nat)) κ=(orF m.Procs.length (gpF m)).elim (κ (.exit 4,XZ m F (tkn (tk++pN m)) ks)) B:=fun hz=>ih (i+1) (by omega) (by omega) fun k hk=>by
   rcases Nat.lt_or_ge k i with q |q
   ·exact h0 k q
   ·rw[show k=i by omega];exact hz
  by_cases c1:6≤i
  ·rw[if_pos c1]at hg ⊢
   rw[iR hlt (by rw[hg];show(11:Int)≠0;decide) h0,hg];rfl
  rw[if_neg c1]at hg ⊢
  by_cases c2:(ej m.Procs[i] (bT m i)).2.2≠0
  ·rw[if_pos c2]at hg ⊢
   rw[iR hlt (by rw[hg];exact c2) h0,hg];rfl
  rw[if_neg c2]at hg ⊢
  by_cases c3:dU false (tkn (tk++(pN m).take i)) m.Procs[i].Name=true
  ·rw[if_pos c3]at hg ⊢
   rw[iR hlt (by rw[hg];show(7:Int)≠0;decide) h0,hg];rfl
  rw[if_neg c3]at hg ⊢
  cases hq:aw m.Procs[i].Vars.length (aV m.Procs[i].Vars fun v=>if v.Name∈ks then 7 else 0)with
  |none=>
   rw[hq]at hg
   simp only[Option.elim_none]at hg ⊢
   exact hgo (by rw[hg])
  |some q=>
   rw[hq]at hg
   simp only[Option.elim_some]at hg ⊢
   rw[iR hlt (by rw[hg];show(7:Int)≠0;decide) h0,hg];rfl
theorem DD(n:Nat)(t:List (Nm×Bool)):((dT eS eB t).all fun e=>D.low n e.1&&T.low n e.2)=true:=by
 induction t with
 |nil=>rfl
 |cons a t ih=>
  show(_&&_)=true
  rw[xA]
  exact⟨rfl,ih⟩
theorem Ge(n:Nat)(e a b c:Int):D.low n (gK e a b c)=true:=rfl
theorem DE{ρ:Type}(m:GModel)(h:MoOk m)(hE:MoE m)(F:D)(hF:D.low 2 F=true)(κ:KT ρ)(B:Flt→Option ρ)(hB:∀e a b c t,κ (zg (gK e a b c),hG F t)=B (e,a,b,c)):
  cbK (call 41 [moD m,.map 1] (hG F (tkn (sN m++vN m++cN m)))) κ=(yg m).elim (κ ([],hG F (tkn (sN m++vN m++cN m++pN m)))) B:=by
 refine(aeY _ _ _ rfl).trans ?_
 have hpc:=fun g=>Ic (ρ:=ρ) h (g:=g)
 have hnm:=fun t ks κ=>PQ (ρ:=ρ) m F t ks h.n κ _ 0 rfl (Nat.zero_le _)
 simp only[SU,XU,List.take_zero,List.reverse_nil,List.nil_append,Int.natCast_zero,hP]at hnm
 simp -implicitDefEqProofs [go_sem,aN (Fc _),hG,hnm,hpc]
 have hks:∀x,x∈(pN m).reverse++List.map (fun x=>x.1) (tkn (sN m++vN m++cN m))↔x∈(sN m++vN m++cN m)++pN m:=fun x=>by
  rw[xD,List.mem_reverse,xD (s:=sN m++vN m++cN m)]
  have:=Lg (sN m++vN m++cN m) x
  constructor
  ·rintro(q |q)
   ·exact .inr q
   ·exact .inl (this.1 q)
  ·rintro(q |q)
   ·exact .inr (this.2 q)
   ·exact .inl q
 have hpr:=fun κ B hB=>PX (ρ:=ρ) m h hE F _ rfl _ hks κ B hB _ 0 rfl (Nat.zero_le _) (fun k hk=>by omega)
 simp only[SZ,XZ,List.take_zero,List.append_nil,Int.natCast_zero,hP,xK]at hpr
 rw[hpr _ B fun e j k s t hs=>by
  obtain⟨env,ct,H⟩:=s;simp only at hs;subst hs
  simp -implicitDefEqProofs [go_sem,hF,DD,Ge]
  exact hB _ _ _ _ t]
 unfold yg
 cases hq:orF m.Procs.length (gpF m)with
 |some q=>rfl
 |none=>
  simp -implicitDefEqProofs [go_sem,aN (Fc _),hpc,hF,DD,Ge]
  by_cases h1:12<tm m
  ·rw[if_pos h1,if_pos (.inl h1)];exact hB _ _ _ _ _
  ·by_cases h2:64<tn m
   ·rw[if_neg h1,if_pos h2,if_pos (.inr h2)];exact hB _ _ _ _ _
   ·rw[if_neg h1,if_neg h2,if_neg (fun q=>q.elim h1 h2)];rfl
end Go.Etx
namespace Go.Etx
open Go Go.Am Go.Proofs
set_option maxHeartbeats 4000000
set_option maxRecDepth 20000
attribute [-simp] List.map_append List.map_take List.map_drop List.map_set
theorem Fd(n:Nat):hint42.mv.contains n=false:=rfl
abbrev scQ(m:GModel):GScope:=⟨m.Scalars,m.Vars,m.Chans,m.Procs,[],0⟩
def SE(m:GModel)(F:D)(t:List (Nm×Bool))(i:Int):St:=
 ⟨[(1,.d (.map 1)),(4,.loc (.l 4 0) [] 0 0),(12,.d (.sl false (List.map (cu false) m.Props))),(13,.d (.int .i64 m.Props.length)),(14,.d (.int .i64 i))],[((4,0),.own [.d (scD false (scQ m))])],hG F t⟩
def XE(m:GModel)(F:D)(t:List (Nm×Bool)):St:=
 ⟨[(1,.d (.map 1)),(4,.loc (.l 4 0) [] 0 0),(12,.d (.sl false (List.map (cu false) m.Props))),(13,.d (.int .i64 m.Props.length)),(14,.d (.int .i64 m.Props.length)),(15,.d (.bool false))],[((4,0),.own [.d (scD false (scQ m))])],hG F t⟩
theorem PY{ρ:Type}(m:GModel)(F:D)(t:List (Nm×Bool))(R:St→Option ρ)(κ:Ex×St→Option ρ):
  go P hints hint42 b42 FV.1 (SE m F t (m.Props.length:Nat)) (kLp R κ)=κ (.exit 0,XE m F t):=by
 unfold SE XE
 simp -implicitDefEqProofs [go_sem,hG]
theorem PZ{ρ:Type}(m:GModel)(h:MoOk m)(hE:MoE m)(F:D)(t:List (Nm×Bool))(i:Nat)(hi:i<m.Props.length)(R:St→Option ρ)(κ:Ex×St→Option ρ)(B:Flt→Option ρ)(hB:∀e j s t,s.H=hG F t→κ (.pan (gK e 5 j 0),s)=B (e,5,j,0)):
  go P hints hint42 b42 FV.1 (SE m F t i) (kLp R κ)=if 8≤i then B (11,5,i,0)else if fS m.Props[i].Name=false then B (6,5,i,0)else if dU false t m.Props[i].Name=true then B (7,5,i,0)else
   if(dw m.Props[i].Expr (scQ m)).2≠0 then B ((dw m.Props[i].Expr (scQ m)).2,5,i,0)else if(dw m.Props[i].Expr (scQ m)).1≠1 then B (9,5,i,0)else R (SE m F (fd t m.Props[i].Name true) (i+1:Nat)):=by
 have hn:=h.q;have e1:m.Props[i]? =some m.Props[i]:=xG hi;have e2:(i:Int)<(m.Props.length:Int):=by omega
 have w1:IntKind.i64.wrap ((i:Int)+1)=((i+1:Nat):Int):=aP (by omega)
 have hk:=fun κ=>Gb (ρ:=ρ) false m.Props[i].Expr (scQ m) h.sc (hE.q _ (List.getElem_mem hi)) κ
 simp only[scQ,List.map_nil]at hk
 generalize hr:dw m.Props[i].Expr (scQ m)=r;simp only[scQ]at hr
 rw[hr]at hk
 obtain⟨r1,r2⟩:=r;unfold SE
 by_cases c1:8≤i
 ·rw[if_pos c1]
  simp -implicitDefEqProofs [go_sem,e1,e2,w1,hG,c1,show(8:Int)≤(i:Int)by omega,aN (Fd _)]
  exact hB _ _ _ t rfl
 rw[if_neg c1];have c1':¬(8:Int)≤(i:Int):=by omega
 by_cases c2:fS m.Props[i].Name=false
 ·rw[if_pos c2]
  simp -implicitDefEqProofs [go_sem,e1,e2,w1,hG,c1,c1',c2,fo,aN (Fd _)]
  exact hB _ _ _ t rfl
 rw[if_neg c2];have c2':fS m.Props[i].Name=true:=by simpa using c2
 by_cases c4:r2=0
 ·subst c4
  by_cases c5:r1=1
  ·subst c5
   simp -implicitDefEqProofs [go_sem,e1,e2,w1,hG,c1,c1',c2',fo,hk,aN (Fd _)]
   by_cases c3:dU false t m.Props[i].Name=true
   ·rw[if_pos c3,if_pos c3];exact hB _ _ _ t rfl
   ·rw[if_neg c3,if_neg c3]
  ·simp -implicitDefEqProofs [go_sem,e1,e2,w1,hG,c1,c1',c2',fo,hk,c5,aN (Fd _)]
   by_cases c3:dU false t m.Props[i].Name=true
   ·rw[if_pos c3,if_pos c3];exact hB _ _ _ t rfl
   ·rw[if_neg c3,if_neg c3];exact hB _ _ _ _ rfl
 ·simp -implicitDefEqProofs [go_sem,e1,e2,w1,hG,c1,c1',c2',fo,hk,c4,aN (Fd _)]
  by_cases c3:dU false t m.Props[i].Name=true
  ·rw[if_pos c3,if_pos c3];exact hB _ _ _ t rfl
  ·rw[if_neg c3,if_neg c3];exact hB _ _ _ _ rfl
theorem Lu{m:GModel}{tk:List Nm}(htk:tk=sN m++vN m++cN m++pN m){i:Nat}(hi:i<m.Props.length):iQ m i=if 8≤i then 11 else if fS m.Props[i].Name=false then 6 else if dU false (tkn (tk++(qN m).take i)) m.Props[i].Name=true then 7 else
   if(dw m.Props[i].Expr (scQ m)).2≠0 then(dw m.Props[i].Expr (scQ m)).2 else if(dw m.Props[i].Expr (scQ m)).1≠1 then 9 else 0:=by
 subst htk;have e1:m.Props[i]? =some m.Props[i]:=xG hi;simp only[iQ,e1,nT,yD]
theorem P0{ρ:Type}(m:GModel)(h:MoOk m)(hE:MoE m)(F:D)(tk:List Nm)(htk:tk=sN m++vN m++cN m++pN m)(κ:Ex×St→Option ρ)(B:Flt→Option ρ)(hB:∀e j s t,s.H=hG F t→κ (.pan (gK e 5 j 0),s)=B (e,5,j,0)):∀(n i:Nat),m.Props.length - i=n→i≤m.Props.length→(∀k,k<i→iQ m k=0)→
  cX P hints hint42 b42 0 (SE m F (tkn (tk++(qN m).take i)) i) κ=(nV m).elim (κ (.exit 0,XE m F (tkn (tk++qN m)))) B:=by
 intro n
 induction n with
 |zero=>
  intro i hn hi h0
  have:i=m.Props.length:=by omega
  subst this;rw[ap FV.2,PY,List.take_of_length_le (by simp[qN]),nV,oh h0];rfl
 |succ n ih=>
  intro i hn hi h0;have hlt:i<m.Props.length:=by omega
  have hst:fd (tkn (tk++(qN m).take i)) m.Props[i].Name true=tkn (tk++(qN m).take (i+1)):=by
   rw[nU,xK,bn (show i<(qN m).length by simpa [qN]using hlt)]
   simp[qN]
  have hg:=Lu htk hlt;have hbad:iQ m i≠0→nV m=some (iQ m i,5,(i:Int),0):=fun hz=>iR (f:=fun i=>((iQ m i,5,(i:Int),0):Flt)) hlt hz h0
  rw[ap FV.2,PZ m h hE F _ i hlt _ κ B hB,hst]
  by_cases c1:8≤i
  ·rw[if_pos c1]at hg ⊢
   rw[hbad (by rw[hg];decide),hg];rfl
  rw[if_neg c1]at hg ⊢
  by_cases c2:fS m.Props[i].Name=false
  ·rw[if_pos c2]at hg ⊢
   rw[hbad (by rw[hg];decide),hg];rfl
  rw[if_neg c2]at hg ⊢
  by_cases c3:dU false (tkn (tk++(qN m).take i)) m.Props[i].Name=true
  ·rw[if_pos c3]at hg ⊢
   rw[hbad (by rw[hg];decide),hg];rfl
  rw[if_neg c3]at hg ⊢
  by_cases c4:(dw m.Props[i].Expr (scQ m)).2≠0
  ·rw[if_pos c4]at hg ⊢
   rw[hbad (by rw[hg];exact c4),hg];rfl
  rw[if_neg c4]at hg ⊢
  by_cases c5:(dw m.Props[i].Expr (scQ m)).1≠1
  ·rw[if_pos c5]at hg ⊢
   rw[hbad (by rw[hg];decide),hg];rfl
  rw[if_neg c5]at hg ⊢
  exact ih (i+1) (by omega) (by omega) fun k hk=>by
   rcases Nat.lt_or_ge k i with q |q
   ·exact h0 k q
   ·rw[show k=i by omega];exact hg
theorem P1{ρ:Type}(m:GModel)(h:MoOk m)(hE:MoE m)(F:D)(κ:KT ρ)(B:Flt→Option ρ)(hB:∀e a b c t,κ (zg (gK e a b c),hG F t)=B (e,a,b,c)):
  cbK (call 42 [moD m,.map 1] (hG F (tkn (sN m++vN m++cN m++pN m)))) κ=(nV m).elim (κ ([],hG F (tkn (sN m++vN m++cN m++pN m++qN m)))) B:=by
 refine(aeZ _ _ _ rfl).trans ?_
 have hs:=fun κ=>Lm (ρ:=ρ) m h κ
 have hlp:=fun κ B hB=>P0 (ρ:=ρ) m h hE F _ rfl κ B hB _ 0 rfl (Nat.zero_le _) (fun k hk=>by omega)
 simp only[SE,XE,List.take_zero,List.append_nil,Int.natCast_zero,hG,xK]at hlp
 simp -implicitDefEqProofs [go_sem,hs,aN (Fd _),hG]
 simp only[scQ,scD,List.map_nil]at hlp
 rw[hlp _ B fun e j s t hs=>by
  obtain⟨env,ct,H⟩:=s;simp only at hs;subst hs
  simp -implicitDefEqProofs [go_sem]
  exact hB _ _ _ _ t]
 cases hq:nV m with
 |some q=>rfl
 |none=>
  simp -implicitDefEqProofs [go_sem,aN (Fd _)]
end Go.Etx
namespace Go.Am
open Go Go.Proofs
@[go_sem] def mkV{α:Type}(a b:α)(e:a=b:=by conv=>lhs;cbv):{b:α // a=b}:=⟨b,e⟩
section
variable{P:Program}{hints:FuncId→Hint}{ρ:Type}
def eQ:Code→List Oper | .seq (.region _ o _) _=>o.toList |_=>[]
def Lv:Code→Nat | .seq (.region i _ _) _=>i |_=>0
def tlC:Code→Code | .seq _ r=>r |_=>.skip
def Rz(l:List Oper):Option (Nat×List Oper):=match l with
 |o::l=>match o.op,o.dst,o.guard with
  | .call {callee:=.builtin .recover, .. },some t,none=>some (t,l)
  |_,_,_=>none
 |_=>none
def Lw:Code→Bool | .seq (.region _ _ false) _=>true |_=>false
noncomputable def kDf(P:Program)(own:Bool)(rs:List ResultVar)(n:Nat)(κ:List T×List Ob→Option ρ):Ex×St→Option ρ:=fun p=>match p.1 with
 | .normal=>(jo P own rs n (.ret,p.2)).bind κ
 | .ret=>(jo P own rs n (.ret,p.2)).bind κ
 |_=>none
@[congr] theorem Wo{own:Bool}{rs:List ResultVar}{n:Nat}{κ:List T×List Ob→Option ρ}{r r':Ex×St}(e:r=r'):kDf P own rs n κ r=kDf P own rs n κ r':=by rw[e]
@[go_sem] theorem ahf{own:Bool}{rs:List ResultVar}{n:Nat}{κ:List T×List Ob→Option ρ}{s:St}:kDf P own rs n κ (.normal,s)=(jo P own rs n (.ret,s)).bind κ:=rfl
theorem Lx{r:D}{g:FuncId}{h h':Hint}{own:Bool}{rs:List ResultVar}{ds:List D}{H:List Ob}{fn:Func}{c c':Code}{t:Nat}{l:List Oper}{L:List Lite}{q:CL}{κ:List T×List Ob→Option ρ}(hf:P.funcs[g]? =some fn)(hb:fn.body=some c)(hr:Lw c=true)(ht:Rz (eQ c)=some (t,l))(hl:l.map (eb (eQ c))=L)(hg:l.all (fb (eQ c))=true)
  (hc:tlC c=c') (hh:hints g=h) (hh':{h with nest:=true}=h') (ho:h.own=own) (hrs:fn.results.toList=rs) {ls:List Nat} (hi:h.live (Lv c)=ls) (hq:rC h' c'=some q) (hd:ds.length=fn.params.size+fn.nfree) (hk:aD fn.ntmps c=true) (hn:(fn.name== "runtime.NumGoroutine")=false):
  cbK (fm P hints r g ds H) κ=goL P kz h L ls {env:=(t,.d r)::(enter ds H).env,ct:=[],H} fun p=>go P hints h' c' q p.2 (kDf P own rs H.length κ):=by
 subst hc hh hh' ho hrs hi
 cases c with
 |seq a b=>
  cases a with
  |region i o dr=>
   cases dr with
   |true=>cases hr
   |false=>
    simp only[eQ,Lv,tlC]at *
    unfold Rz at ht
    split at ht
    ·rename_i o1 l1 ho
     split at ht
     ·rename_i t1 hop hdst hgu
      simp only[xJ,pJ]at ht
      obtain⟨rfl,rfl⟩:=ht;unfold cbK goL go;simp only[fm,hf,hb,xS,ho,hop,hdst,hgu,if_pos (And.intro hd (And.intro hk hn))];rw[←ho,gv _ _ hg,hl,xX];congr 1;funext s;rw[xy hq,xX];congr 1;funext ⟨e,s⟩;unfold kDf
      cases e <;>simp only[Ac] <;>rfl
     ·cases ht
    ·cases ht
  |_=>cases hr
 |_=>cases hr
def RA(l:List Oper):Option (Nat×List Oper):=match l.getLast? with
 |some o=>match o.op,o.dst,o.guard with
  | .defer {callee:=.value (.tmp x),args, .. },none,none=>if args.size=0 then some (x,l.dropLast)else none
  |_,_,_=>none
 |_=>none
noncomputable def Ly(P:Program)(hints:FuncId→Hint)(h:Hint)(nt:Nat)(g:FuncId)(cap:List D)(κ:Ex×St→Option ρ):Ex×St→Option ρ:=fun p=>(Gp p.1).bind fun r=>((aU (fm P hints r) {h with keep:=[]} nt g (canon false cap) {} p.2.wk).bind eH).bind fun y=>κ (.ret,p.2.fin none .dead y.2)
noncomputable def Idq(P:Program)(hints:FuncId→Hint)(h:Hint)(nt:Nat)(ls:List Nat)(B:Code)(q:CL)(s:St)(v:SV)(κ:Ex×St→Option ρ):Option ρ:=match v with
 | .d (.fn (.func g) [] cap)=>if cap.all D.pin=true then go P hints h B q (prune ls s) (Ly P hints h nt g cap κ)else none
 |_=>none
@[congr] theorem Ux{h:Hint}{nt:Nat}{ls:List Nat}{B:Code}{q:CL}{s s':St}{v v':SV}{κ:Ex×St→Option ρ}(e:s=s')(e2:v=v'):Idq P hints h nt ls B q s v κ=Idq P hints h nt ls B q s' v' κ:=by rw[e,e2]
@[go_sem] theorem adP{h:Hint}{nt:Nat}{ls:List Nat}{B:Code}{q:CL}{s:St}{g:FuncId}{cap:List D}{κ:Ex×St→Option ρ}:Idq P hints h nt ls B q s (.d (.fn (.func g) [] cap)) κ=if cap.all D.pin=true then go P hints h B q (prune ls s) (Ly P hints h nt g cap κ)else none:=rfl
section
variable{h:Hint}{nt:Nat}{g:FuncId}{cap:List D}{κ:Ex×St→Option ρ}{env:List (Nat×SV)}{ct:List ((Nat×Nat)×T)}{H:List Ob}{d:D}
@[go_sem] theorem afJ:Ly P hints h nt g cap κ (.pan d,⟨env,ct,H⟩)=((aU (fm P hints d) {h with keep:=[]} nt g (canon false cap) {} ⟨ct,H,[]⟩).bind eH).bind fun y=>κ (.ret,St.fin ⟨env,ct,H⟩ none .dead y.2):=rfl
@[go_sem] theorem afK:Ly P hints h nt g cap κ (.ret,⟨env,ct,H⟩)=((aU (fm P hints .nili) {h with keep:=[]} nt g (canon false cap) {} ⟨ct,H,[]⟩).bind eH).bind fun y=>κ (.ret,St.fin ⟨env,ct,H⟩ none .dead y.2):=rfl
end
theorem Uy{f:FuncId}{h:Hint}{B:Code}{la lb:List Nat}{c:Code}{nt:Nat}{s:St}{x:Nat}{l:List Oper}{L0 L1:List Lite}{q:CL}{κ:Ex×St→Option ρ}(hr:Lw c=true)(hr1:Lw (tlC c)=true)(e0:(eQ c).map (eb (eQ c))=L0)(g0:(eQ c).all (fb (eQ c))=true)
  (hx:RA (eQ (tlC c))=some (x,l)) (e1:l.map (eb (eQ (tlC c)))=L1) (g1:l.all (fb (eQ (tlC c)))=true) (hh:hints f=h) (hB:tlC (tlC c)=B) (hla:h.live (Lv c)=la) (hlb:h.live (Lv (tlC c))=lb) (hq:rC h B=some q):
  (H4 P hints f c nt s).bind κ=goL P (aX P hints) h L0 la s fun p=>(kP P (aX P hints) h L1 p.2).bind fun s=>Idq P hints h nt lb B q s (s.get x) κ:=by
 subst hh hB hla hlb
 cases c with
 |seq a b=>
  cases a with
  |region i o dr=>
   cases dr with
   |true=>cases hr
   |false=>
    cases b with
    |seq a b=>
     cases a with
     |region i1 o1 dr1=>
      cases dr1 with
      |true=>cases hr1
      |false=>
       simp only[eQ,Lv,tlC]at *
       unfold RA at hx
       split at hx
       ·rename_i o2 ho
        split at hx
        ·rename_i x1 args ats hop hdst hgu
         split at hx
         ·rename_i hz
          simp only[xJ,pJ]at hx
          obtain⟨rfl,rfl⟩:=hx;unfold goL;simp only[H4];rw[gv _ _ g0,e0,xX];congr 1;funext s1;simp only[ho,hop,hdst,hgu];rw[gv _ _ g1,e1,xX];congr 1;funext s2;unfold Idq;rw[AW];split
          ·rename_i g cap hv
           rw[hv]
           simp only
           by_cases hp:cap.all D.pin=true
           ·rw[if_pos ⟨hz,hp⟩,if_pos hp,xy hq]
            unfold go Ly;rw[xX];congr 1;funext ⟨e,s3⟩;simp only[xF,xX];rfl
           ·rw[if_neg (fun q=>hp q.2),if_neg hp];rfl
          ·rename_i hne
           split
           ·rename_i hv;exact absurd hv (hne _ _)
           ·rfl
         ·cases hx
        ·cases hx
       ·cases hx
     |_=>cases hr1
    |_=>cases hr1
  |_=>cases hr
 |_=>cases hr
@[go_sem] theorem aby{dst:Nat}{sl:Bool}{k:Wk}{t:TypeId}{x:D}:bm dst sl (.d (.iface t x)) k=some (.d (.iface t x),k):=rfl
theorem Uz{c:Bool}{t u:TypeId}{x:D}(h:eqV P c t (.d (.iface u x)) (.d .nili)=some false):cE P c .neq t (.d (.iface u x)) (.d .nili)=some (.bool true):=by
 show(eqV P c t _ _).map _=_
 rw[h];rfl
theorem P2{c:Bool}{t:TypeId}(h:eqV P c t (.d .nili) (.d .nili)=some true):cE P c .neq t (.d .nili) (.d .nili)=some (.bool false):=by
 show(eqV P c t _ _).map _=_
 rw[h];rfl
end
end Go.Am
namespace Go.Etx
open Go Go.Am Go.Proofs
set_option maxHeartbeats 4000000
set_option maxRecDepth 20000
attribute [-simp] List.map_append List.map_take List.map_drop List.map_set
noncomputable section
@[go_sem] def UA:=mkQ hint22 (tlC (tlC b22)) _
@[go_sem] def UB:=mkV ((eQ b22).map (eb (eQ b22))) _
@[go_sem] def UC:=mkV ((eQ (tlC b22)).dropLast.map (eb (eQ (tlC b22)))) _
@[go_sem] def UD:=mkQ {x9 with nest:=true} (tlC b39) _
@[go_sem] def l39:=mkV ((eQ b39).tail.map (eb (eQ b39))) _
abbrev zF:D:=.agg [.int .i64 0,.int .i64 0,.int .i64 0,.int .i64 0]
abbrev fF(f:Flt):D:=.agg [.int .i64 f.1,.int .i64 f.2.1,.int .i64 f.2.2.1,.int .i64 f.2.2.2]
abbrev afL:Hint:={x9 with nest:=true}
theorem RB{ρ:Type}(r:D)(H:List Ob)(κ:KT ρ):cbK (fm P hints r 39 [.ptr 0] H) κ=goL P kz x9 l39.1 [0,1] ⟨[(4,.d r),(0,.d (.ptr 0))],[],H⟩ fun p=>go P hints afL (tlC b39) UD.1 p.2 (kDf P false [] H.length κ):=
 Lx (P:=P) (L:=l39.1) (q:=UD.1) (t:=4) (l:=(eQ b39).tail) Tryz.func39 (by kernel_rfl) (by kernel_rfl) (by kernel_rfl) l39.2 (by kernel_rfl) rfl rfl rfl rfl (by kernel_rfl) (by kernel_rfl) UD.2 (by kernel_rfl) (by kernel_rfl) (by kernel_rfl)
@[go_sem] theorem n20{c:Bool}{u:TypeId}{x:D}:cE P c .neq 20 (.d (.iface u x)) (.d .nili)=some (.bool true):=Uz (by cases c <;>kernel_rfl)
@[go_sem] theorem aiX:cE P true .neq 20 (.d .nili) (.d .nili)=some (.bool false):=P2 (by kernel_rfl)
@[go_sem] theorem ahg{v:Value}:isConst (.const v)=true:=rfl
theorem abz{ρ:Type}(F:D)(t:List (Nm×Bool))(κ:KT ρ):cbK (fm P hints .nili 39 [.ptr 0] (hG F t)) κ=κ ([],hG F t):=by
 refine(RB _ _ _).trans ?_
 simp -implicitDefEqProofs [go_sem,hG]
theorem UE{ρ:Type}(t:List (Nm×Bool))(a b c e:Int)(κ:KT ρ):cbK (fm P hints (gK a b c e) 39 [.ptr 0] (hG zF t)) κ=κ ([],hG (fF (a,b,c,e)) t):=by
 refine(RB _ _ _).trans ?_
 simp -implicitDefEqProofs [go_sem,hG,gK]
theorem abA{ρ:Type}(ds:List D)(hd:ds.length=1)(κ:KT ρ):cbK (aX P hints 22 ds []) κ=goL P (aX P hints) hint22 UB.1 [1,2] (enter ds []) fun p=>(kP P (aX P hints) hint22 UC.1 p.2).bind fun s=>Idq P hints hint22 16 [1,2] (tlC (tlC b22)) UA.1 s (s.get 4) (kLv P false [.cell 2 73] 0 κ):=by
 unfold cbK;rw[H5 (P:=P) (hints:=hints) (fn:=Tryz.f22) (c:=b22) (by decide) rfl rfl Tryz.func22 (by kernel_rfl) hd (by kernel_rfl) (by kernel_rfl),xX]
 exact Uy (P:=P) (hints:=hints) (L0:=UB.1) (L1:=UC.1) (q:=UA.1) (x:=4) (l:=(eQ (tlC b22)).dropLast) (by kernel_rfl) (by kernel_rfl) UB.2 (by kernel_rfl) (by kernel_rfl) UC.2 (by kernel_rfl) rfl rfl rfl rfl UA.2
end
theorem Fe(n:Nat):hint22.mv.contains n=false:=rfl
theorem oj{ρ:Type}(t:List (Nm×Bool))(a b c e:Int)(κ:KT ρ):cb (fm P hints (gK a b c e) 39 [.ptr 0] [.box (.d zF),.map (dT eS eB t)]) κ=κ ([],hG (fF (a,b,c,e)) t):=UE t a b c e κ
theorem tp{ρ:Type}(F:D)(t:List (Nm×Bool))(κ:KT ρ):cb (fm P hints .nili 39 [.ptr 0] [.box (.d F),.map (dT eS eB t)]) κ=κ ([],hG F t):=abz F t κ
theorem P3{ρ:Type}(m:GModel)(h:MoOk m)(hE:MoE m)(κ:KT ρ):cbK (call 22 [moD m] []) κ=κ ([.d (fF ((lL m).getD (0,0,0,0)))],[]):=by
 refine(abA _ rfl _).trans ?_
 have h41:=fun κ B hB=>DE (ρ:=ρ) m h hE zF rfl κ B hB
 have h42:=fun κ B hB=>P1 (ρ:=ρ) m h hE zF κ B hB
 simp only[hG,xK]at h41 h42
 simp -implicitDefEqProofs [go_sem,aN (Fe _),show(D.ptr 0).pin=true from rfl]
 refine(Ib m h zF _ (fun f=>κ ([.d (fF f)],[])) fun e a b c t=> ?_).trans ?_
 ·simp -implicitDefEqProofs [go_sem,aN (Fe _),hG,oj,tp]
 unfold lL
 cases hq:rU m with
 |some f=>rfl
 |none=>
  simp -implicitDefEqProofs [go_sem,aN (Fe _),hG,oj,tp]
  refine(h41 _ (fun f=>κ ([.d (fF f)],[])) fun e a b c t=> ?_).trans ?_
  ·simp -implicitDefEqProofs [go_sem,aN (Fe _),hG,oj,tp]
  cases hq1:yg m with
  |some f=>rfl
  |none=>
   simp -implicitDefEqProofs [go_sem,aN (Fe _),hG,oj,tp]
   refine(h42 _ (fun f=>κ ([.d (fF f)],[])) fun e a b c t=> ?_).trans ?_
   ·simp -implicitDefEqProofs [go_sem,aN (Fe _),hG,oj,tp]
   cases hq2:nV m with
   |some f=>rfl
   |none=>
    simp -implicitDefEqProofs [go_sem,aN (Fe _),hG,oj,tp]
end Go.Etx
namespace Go.Etx
open Go Go.Am Go.Proofs
set_option maxHeartbeats 4000000
set_option maxRecDepth 20000
section
variable{ρ:Type}
theorem dk{τ:Type}{Φ:τ→(τ→Option ρ)→Option ρ}(N:Nat)(mk:Nat→τ)(ix:τ→Nat)(hix:∀i,ix (mk i)=i)(f:Nat→Int)(g:Nat→Int→Option ρ)(fin:Option ρ)
  (hs:∀i k,i<N→(∀j,j<i→f j=0)→Φ (mk i) k=if f i=0 then k (mk (i+1))else g i (f i)) (hf:(∀j,j<N→f j=0)→∀k,Φ (mk N) k=fin):dD Φ (mk 0)=(aw N f).elim fin fun p=>g p.1 p.2:=by
 refine Ai (fun v e=>e=((aw N f).elim fin fun p=>g p.1 p.2)∧∃i,i≤N∧v=mk i∧∀j,j<i→f j=0) (fun v=>N - ix v) ?_ ⟨rfl,0,Nat.zero_le _,rfl,fun j hj=>by omega⟩
 rintro v e k ⟨rfl,i,hi,rfl,h0⟩ hk
 rcases Nat.lt_or_ge i N with h |h
 ·rw[hs i k h h0]
  by_cases hz:f i=0
  ·rw[if_pos hz]
   exact hk _ _ ⟨rfl,i+1,h,rfl,fun j hj=>by
    rcases Nat.lt_or_ge j i with q |q
    ·exact h0 j q
    ·rw[show j=i by omega];exact hz⟩ (by rw[hix,hix];omega)
  ·rw[if_neg hz,gy h hz h0];rfl
 ·have:i=N:=by omega
  subst this;rw[hf h0,dx h0];rfl
theorem kn{α:Type}(l:List α)(nm:α→Nm)(i:Nat)(hi:i≤l.length)(hl:l.length≤1000000)(x:Nm)(A B:Option ρ):
  dD (fun(v:Int) (k:Int→Option ρ)=>if v<(i:Int)then if 0≤v then(l[v.toNat]?).bind fun y=>if nm y=x then A else k (IntKind.i64.wrap (v+1))else none else B) 0=if x∈(l.map nm).take i then A else B:=by
 have hx:=kU (ρ:=ρ) (Φ:=fun(v:Int) (k:Int→Option ρ)=>if v<(i:Int)then if 0≤v then(l[v.toNat]?).bind fun y=>if nm y=x then A else k (IntKind.i64.wrap (v+1))else none else B) i (fun j:Nat=>(j:Int)) (fun j=>(l[j]?).bind fun y=>if nm y=x then some A else none) B (fun j k hj=>by
  have hj2:j<l.length:=by omega
  simp only[show(j:Int)<(i:Int)by omega,if_true,show(0:Int)≤(j:Int)by omega,xV,xG hj2,xS]
  by_cases h:nm l[j]=x
  ·simp only[h,if_true]
  ·simp only[h,if_false,aP (show j<4611686018427387904 by omega)]) (fun k=>by simp only[Int.lt_irrefl,if_false])
 refine hx.trans ?_
 have key:∀n,n≤l.length→((List.range n).findSome? fun j=>(l[j]?).bind fun y=>if nm y=x then some A else none)=if x∈(l.map nm).take n then some A else none:=by
  intro n
  induction n with
  |zero=>intro _;simp
  |succ n ih=>
   intro hn;have hn2:n<(l.map nm).length:=by simp;omega
   rw[List.range_succ,List.findSome?_append,ih (by omega),bn hn2]
   by_cases h1:x∈(l.map nm).take n
   ·rw[if_pos h1,if_pos (List.mem_append.2 (.inl h1))];rfl
   ·rw[if_neg h1,List.findSome?_cons,xG (show n<l.length by omega),Option.none_or,xS]
    by_cases h2:nm l[n]=x
    ·rw[if_pos h2,if_pos (List.mem_append.2 (.inr (by simp[h2])))]
    ·rw[if_neg h2,if_neg (fun q=>(List.mem_append.1 q).elim h1 fun q=>h2 (by simpa using(List.mem_singleton.1 q).symm))];rfl
 rw[key i hi]
 split <;>rfl
theorem yl{k:Int}{s:List GScalar}(hs:s.length≤1000){g:Int→Option ρ}:qw s k g=g (bK s k):=by
 simp only[qw,qv,mkF]
 by_cases h1:k<1
 ·rw[if_pos h1,rV (.inl h1)]
 by_cases h2:(s.length:Int)<k
 ·rw[if_neg h1,if_pos h2,rV (.inr h2)]
 have hw:IntKind.i64.wrap (k - 1)=k - 1:=bt (by omega) (by omega)
 have hlt:(k - 1).toNat<s.length:=by omega
 simp only[h1,h2,if_false,hw,show 0≤k - 1 by omega,if_true,xG hlt,xS,DA (show 1≤k by omega) hlt]
 generalize s[(k - 1).toNat]=x
 by_cases h3:x.Size<1
 ·simp[h3,show¬(1≤x.Size)by omega]
 by_cases h4:4<x.Size
 ·simp[h3,h4,show¬(x.Size≤4)by omega]
 simp[h3,h4,show 1≤x.Size by omega,show x.Size≤4 by omega]
theorem DF{a b:Int}{g:Bool→Option ρ}:qy a b g=g (fp a b):=by
 simp only[qy,qx,mkF,fp]
 by_cases h1:-1048576≤a
 ·by_cases h2:a≤b
  ·by_cases h3:b≤1048576
   ·have hw:IntKind.i64.wrap (b - a)=b - a:=bt (by omega) (by omega)
    simp[h1,h2,h3,hw]
   ·simp[h1,h2,h3]
  ·simp[h1,h2]
 ·simp[h1]
theorem tq{α:Type}(most:Nat)(l:List α)(hl:l.length≤1000000)(nm:α→Nm)(f:α→Int)(g:Int→Int→Option ρ)(Φ:Int→(Int→Option ρ)→Option ρ)
  (hΦ:∀(i:Nat) (hi:i<l.length) (hm:i≤most) (k:Int→Option ρ),Φ (i:Int) k=if most≤i then g i 11 else if fS (nm l[i])=false then g i 6 else if nm l[i]∈(l.map nm).take i then g i 7 else if f l[i]=0 then k (IntKind.i64.wrap ((i:Int)+1))else g i (f l[i]))
  (hf:∀k,Φ (l.length:Int) k=g 0 0):dD Φ 0=atE (aw l.length (lI most (l.map nm) (aV l f))) g:=by
 refine dk (τ:=Int) l.length (fun i:Nat=>(i:Int)) Int.toNat (fun i=>rfl) (lI most (l.map nm) (aV l f)) (fun i e=>g i e) (g 0 0) (fun i k hi h0=> ?_) (fun _=>hf)
 have hm:i≤most:=Classical.byContradiction fun c=>by
  have:=h0 most (by omega)
  rw[yi (by omega),if_pos (Nat.le_refl _)]at this
  exact absurd this (by decide)
 rw[hΦ i hi hm,yi hi,aP (show i<4611686018427387904 by omega)]
 by_cases h1:most≤i
 ·simp[h1]
 by_cases h2:fS (nm l[i])=false
 ·simp[h1,h2]
 by_cases h3:nm l[i]∈(l.map nm).take i
 ·simp[h1,h2,h3]
 by_cases h4:f l[i]=0
 ·simp[h1,h2,h3,h4]
 ·simp[h1,h2,h3,h4]
theorem DG{l:List GScalar}(hl:l.length≤1000){g:Int→Int→Option ρ}:jB l g=atE (km l) g:=by
 simp only[jB,jA,mkF,ia];refine tq 2 l (by omega) (·.Name) Dw g _ (fun i hi hm k=> ?_) (fun k=> ?_)
 ·simp only[show(i:Int)<(l.length:Int)by omega,show(0:Int)≤(i:Int)by omega,if_true,xV,xG hi,xS,Dw,kn l (·.Name) i (by omega) (by omega)]
  by_cases h1:2≤i
  ·simp[h1,show(i:Int)=2 by omega]
  by_cases h3:l[i].Size<1
  ·simp[h1,show¬((i:Int)=2)by omega,h3,show¬(1≤l[i].Size)by omega]
  by_cases h4:4<l[i].Size
  ·simp[h1,show¬((i:Int)=2)by omega,h3,h4,show¬(l[i].Size≤4)by omega]
  simp[h1,show¬((i:Int)=2)by omega,h3,h4,show 1≤l[i].Size by omega,show l[i].Size≤4 by omega]
 ·simp
theorem BW{v:GVar}{s:List GScalar}(hs:s.length≤1000){g:Int→Option ρ}:iM v s g=g (Fa s v):=by
 simp only[iM,iL,mkF,yl hs,DF,Fa,jU]
 by_cases h1:v.Scalar=0
 ·simp only[h1,if_true,decide_true,Bool.true_or,Bool.true_and]
  by_cases h2:v.Over=0
  ·by_cases hn:fp v.Lo v.Hi=false
   ·simp[h2,hn]
   ·by_cases h3:v.Init<v.Lo
    ·simp[h2,hn,h3,show¬(v.Lo≤v.Init)by omega]
    ·by_cases h4:v.Hi<v.Init
     ·simp[h2,hn,h3,h4,show¬(v.Init≤v.Hi)by omega]
     ·simp[h2,hn,h3,h4,show v.Lo≤v.Init by omega,show v.Init≤v.Hi by omega]
  ·by_cases h5:bK s v.Over=0
   ·simp[h2,h5]
   ·by_cases hn:fp v.Lo v.Hi=false
    ·simp[h2,h5,hn]
    ·by_cases h3:v.Init<v.Lo
     ·simp[h2,h5,hn,h3,show¬(v.Lo≤v.Init)by omega]
     ·by_cases h4:v.Hi<v.Init
      ·simp[h2,h5,hn,h3,h4,show¬(v.Init≤v.Hi)by omega]
      ·simp[h2,h5,hn,h3,h4,show v.Lo≤v.Init by omega,show v.Init≤v.Hi by omega]
 ·by_cases h6:bK s v.Scalar=0
  ·simp[h1,h6]
  ·by_cases h2:v.Over=0
   ·by_cases h3:v.Init<0
    ·simp[h1,h2,h6,h3,show¬(0≤v.Init)by omega]
    ·by_cases h4:bK s v.Scalar<v.Init
     ·simp[h1,h2,h6,h3,h4,show¬(v.Init≤bK s v.Scalar)by omega]
     ·simp[h1,h2,h6,h3,h4,show 0≤v.Init by omega,show v.Init≤bK s v.Scalar by omega]
   ·by_cases h5:bK s v.Over=0
    ·simp[h1,h2,h6,h5]
    ·by_cases h3:v.Init<0
     ·simp[h1,h2,h6,h5,h3,show¬(0≤v.Init)by omega]
     ·by_cases h4:bK s v.Scalar<v.Init
      ·simp[h1,h2,h6,h5,h3,h4,show¬(v.Init≤bK s v.Scalar)by omega]
      ·simp[h1,h2,h6,h5,h3,h4,show 0≤v.Init by omega,show v.Init≤bK s v.Scalar by omega]
theorem ym{l:List GVar}{s:List GScalar}{n:Nat}(hl:l.length≤1000)(hs:s.length≤1000){g:Int→Int→Option ρ}:qA l s n g=atE (l8 l s n) g:=by
 simp only[qA,qz,mkF,ia,BW hs];refine tq n l (by omega) (·.Name) (Fa s) g _ (fun i hi hm k=> ?_) (fun k=> ?_)
 ·simp only[show(i:Int)<(l.length:Int)by omega,show(0:Int)≤(i:Int)by omega,if_true,xV,xG hi,xS,Int.ofNat_le,kn l (·.Name) i (by omega) (by omega)]
 ·simp
theorem Ie{l:List GChan}{s:List GScalar}(hl:l.length≤1000)(hs:s.length≤1000){g:Int→Int→Option ρ}:nj l s g=atE (lJ l s) g:=by
 simp only[nj,ni,mkF,ia,yl hs,DF];refine tq 4 l (by omega) (·.Name) (Ap s) g _ (fun i hi hm k=> ?_) (fun k=> ?_)
 ·simp only[show(i:Int)<(l.length:Int)by omega,show(0:Int)≤(i:Int)by omega,if_true,xV,xG hi,xS,kn l (·.Name) i (by omega) (by omega),Ap,jU]
  by_cases h1:4≤i
  ·simp[h1,show(i:Int)=4 by omega]
  simp only[h1,show¬((i:Int)=4)by omega,if_false]
  by_cases h0:l[i].Scalar=0
  ·by_cases h2:l[i].Cap<1
   ·simp[h0,h2,show¬(1≤l[i].Cap)by omega]
   by_cases h3:4<l[i].Cap
   ·simp[h0,h2,h3,show¬(l[i].Cap≤4)by omega]
   by_cases hn:fp l[i].Lo l[i].Hi=false
   ·simp[h0,h2,h3,hn,show 1≤l[i].Cap by omega,show l[i].Cap≤4 by omega]
   ·simp[h0,h2,h3,hn,show 1≤l[i].Cap by omega,show l[i].Cap≤4 by omega]
  ·by_cases h5:bK s l[i].Scalar=0
   ·simp[h0,h5]
   by_cases h2:l[i].Cap<1
   ·simp[h0,h5,h2,show¬(1≤l[i].Cap)by omega]
   by_cases h3:4<l[i].Cap
   ·simp[h0,h5,h2,h3,show¬(l[i].Cap≤4)by omega]
   simp[h0,h5,h2,h3,show 1≤l[i].Cap by omega,show l[i].Cap≤4 by omega]
 ·simp
end
section
variable{ρ:Type}
theorem Lz{e:List GNode}{s:GScope}(hN:∀x∈e,x.N≤9223372036854775807){g:Int→Int→Option ρ}:iz e s g=g (dw e s).1 (dw e s).2:=by
 rw[K7 hN];unfold dw;split
 ·rfl
 split
 ·rfl
 rename_i h1 h2;unfold BS
 by_cases h0:(eG s e []).1=0
 ·by_cases h3:1<(eG s e []).2.length
  ·simp[h0,h3]
  ·have:=(BT (s:=s) (e:=e) (st:=[]) (by simp) h0).2 h2
   obtain⟨a,ha⟩:∃a,(eG s e []).2=[a]:=List.length_eq_one_iff.1 (by omega)
   simp[h0,ha]
 ·simp[h0]
theorem BX{e:List GNode}{k:Int}{s:GScope}(hN:∀x∈e,x.N≤9223372036854775807){g:Int→Option ρ}:ye e k s g=g (dh e k s):=by
 simp only[ye,yd,mkF];rw[Lz hN];unfold dh
 by_cases h1:(dw e s).2=0 <;>by_cases h2:(dw e s).1=k <;>simp[h1,h2]
theorem If{l:List GVar}{n:Int}{s:GScope}{g:Int→Int→Option ρ}:nn l n s g=match bJ l n s with |none=>g 0 8 |some v=>if v.Over=0 then g (kOf v.Scalar) 0 else g 0 9:=by
 simp only[nn,nk,mkF,rS];rw[vV (e:=g 0 8) (fun _ _ _ _ _ _=>by simp)]
 cases bJ l n s with
 |none=>rfl
 |some v=>simp
theorem LC{a:GAct}{s:GScope}(h:ActE a){g:Int→Option ρ}:qC a s g=g (match bJ s.Vars a.To s with |none=>8 |some v=>if v.Over=0 then 9 else if dh a.Index (w64 (1+v.Over)) s=0 then dh a.Value (kOf v.Scalar) s else dh a.Index (w64 (1+v.Over)) s):=by
 simp only[qC,qB,mkF,rS,BX h.v,BX h.i];rw[vV (e:=g 8) (fun _ _ _ _ _ _=>by simp)]
 cases bJ s.Vars a.To s with
 |none=>rfl
 |some v=>by_cases h:v.Over=0 <;>by_cases h2:dh a.Index (w64 (1+v.Over)) s=0 <;>simp[h,h2]
theorem DH{n:Int}{s:GScope}{g:List UInt8→Int→Int→Int→Int→Bool→Bool→Option ρ}{e:Option ρ}(he:∀a b c d f h,g a b c d f h false=e):fX n s g=match lK n s with |some c=>g c.Name c.Scalar c.Cap c.Lo c.Hi c.Lossy true |none=>e:=by
 simp only[fX,fW,mkF,E4,lK,he]
 by_cases h0:n<0
 ·simp[h0,show¬(0≤n)by omega]
 by_cases h1:(s.Chans.length:Int)≤n
 ·simp[h0,h1,show 0≤n by omega,List.getElem?_eq_none (show s.Chans.length≤n.toNat by omega)]
 have hlt:n.toNat<s.Chans.length:=by omega
 simp only[h0,h1,if_false,show 0≤n by omega,if_true,xG hlt,xS]
 cases h2:eR s.Chans[n.toNat].Scalar s <;>simp
theorem P4{a:GAct}{s:GScope}{b:Bool}(h:ActE a){g:Int→Option ρ}:od a s b g=g (if talksP a=true∧b=true then 7 else H9 a s):=by
 simp only[od,s8,mkF,LC h,If,rS,BX h.v,talksP,H9]
 by_cases h2:a.Kind=2
 ·simp[h2]
  cases bJ s.Vars a.To s with
  |none=>rfl
  |some v=>by_cases h:v.Over=0 <;>by_cases h2:dh a.Index (w64 (1+v.Over)) s=0 <;>simp[h,h2]
 by_cases h3:a.Kind=3
 ·simp[h3]
  cases bJ s.Locals a.To s with
  |none=>simp
  |some v=>by_cases h:v.Over=0 <;>simp[h]
 by_cases h1:a.Kind=1
 ·simp[h1]
  cases bJ s.Vars a.To s with
  |none=>simp
  |some v=>by_cases h:v.Over=0 <;>simp[h]
 by_cases h4:a.Kind=4
 ·cases b with
  |true=>simp[h4]
  |false=>
   simp[h4];rw[DH (e:=g 8) (fun _ _ _ _ _ _=>by simp)]
   cases lK a.To s with
   |none=>rfl
   |some c=>simp
 by_cases h5:a.Kind=5
 ·cases b with
  |true=>simp[h5]
  |false=>
   simp[h5];rw[DH (e:=g 8) (fun _ _ _ _ _ _=>by simp)]
   cases lK a.To s with
   |none=>rfl
   |some c=>
    simp
    cases bJ s.Locals a.Local s with
    |none=>simp
    |some v=>by_cases h:v.Over=0 <;>by_cases h2:kOf v.Scalar=kOf c.Scalar <;>simp[h,h2]
 by_cases h6:a.Kind<1
 ·simp[h1,h2,h3,h4,h5,h6]
 ·simp[h1,h2,h3,h4,h5,h6,show 5<a.Kind by omega]
theorem LE{α:Type}{p:α→Bool}{l:List α}{i:Nat}(hi:i<l.length):(l.take (i+1)).any p=((l.take i).any p || p l[i]):=by
 rw[bn hi,List.any_append];simp
theorem P5{c:GCmd}{p:GProc}{s:GScope}(h:CmdE c)(hn:c.Acts.length≤1000){g:Int→Int→Option ρ}:nu c p s g=g (ti c p s).1 (ti c p s).2:=by
 have ha:=fun(a:GAct) (hm:a∈c.Acts) b g=>P4 (ρ:=ρ) (a:=a) (s:=s) (b:=b) (h.a a hm) (g:=g)
 have hloop:dD (ρ:=ρ)
   (fun(v:Bool×Int) k=>
    if v.snd< ↑c.Acts.length then
     if 0≤v.snd then
      c.Acts[v.snd.toNat]?.bind fun z=>
       od z s v.fst fun x=>
        if x=0 then
         if v.fst=true then k (true,IntKind.i64.wrap (v.snd+1))
         else
          if 0≤v.snd then
           c.Acts[v.snd.toNat]?.bind fun y=>
            if y.Kind=4 then k (true,IntKind.i64.wrap (v.snd+1))
            else
             if 0≤v.snd then
              c.Acts[v.snd.toNat]?.bind fun y=>
               k (decide (y.Kind=5),IntKind.i64.wrap (v.snd+1))
             else none
          else none
        else g (IntKind.i64.wrap (2+v.snd)) x
     else none
    else g 0 0)
   (false,0)=(aw c.Acts.length (gN c.Acts s)).elim (g 0 0) fun q=>g (2+q.1) q.2:=by
  refine iS (dk (τ:=Bool×Int) c.Acts.length (fun i:Nat=>((c.Acts.take i).any talksP,(i:Int))) (fun v=>v.2.toNat) (fun i=>rfl) (gN c.Acts s) (fun i e=>g (2+(i:Int)) e) (g 0 0) (fun i k hi h0=> ?_) (fun _ k=>by simp)) rfl
  have hm:=List.getElem_mem hi;have hA:gN c.Acts s i=if talksP c.Acts[i]=true∧(c.Acts.take i).any talksP=true then 7 else H9 c.Acts[i] s:=by simp only[gN,xG hi]
  have w2:IntKind.i64.wrap (2+(i:Int))=2+(i:Int):=bt (by omega) (by omega)
  simp only[show(i:Int)<(c.Acts.length:Int)by omega,show(0:Int)≤(i:Int)by omega,if_true,xV,xG hi,xS,ha _ hm,←hA,w2,aP (show i<4611686018427387904 by omega),LE hi]
  by_cases hz:gN c.Acts s i=0
  ·simp only[hz,if_true]
   cases hb:(c.Acts.take i).any talksP with
   |true=>simp
   |false=>
    by_cases k4:c.Acts[i].Kind=4
    ·simp[k4,talksP]
    ·by_cases k5:c.Acts[i].Kind=5 <;>simp[k4,k5,talksP]
  ·simp only[hz,if_false]
 simp only[nu,nq,mkF,ia,BX h.g];rw[hloop];unfold ti Aq
 by_cases h1:fS c.Name=false
 ·simp[h1]
 by_cases h2:c.From<0
 ·simp[h1,h2,show¬(0≤c.From)by omega]
 by_cases h3:p.Locs≤c.From
 ·simp[h1,h2,h3,show¬(c.From<p.Locs)by omega]
 by_cases h4:c.To<0
 ·simp[h1,h2,h3,h4,show¬(0≤c.To)by omega]
 by_cases h5:p.Locs≤c.To
 ·simp[h1,h2,h3,h4,h5,show¬(c.To<p.Locs)by omega]
 by_cases h6:6<c.Acts.length
 ·simp[h1,h2,h3,h4,h5,h6,show(6:Int)<(c.Acts.length:Int)by omega,show 0≤c.From by omega,show c.From<p.Locs by omega,show 0≤c.To by omega,show c.To<p.Locs by omega]
 have h1':fS c.Name=true:=by simpa using h1
 simp only[h1',h2,h3,h4,h5,h6,show¬(6:Int)<(c.Acts.length:Int)by omega,show 0≤c.From by omega,show c.From<p.Locs by omega,show 0≤c.To by omega,show c.To<p.Locs by omega,and_self,if_true,if_false,ne_eq,not_true_eq_false,reduceCtorEq]
 by_cases h7:0<c.Guard.length
 ·by_cases h8:dh c.Guard 1 s=0
  ·simp only[h7,h8,if_true,not_true_eq_false,and_false,if_false]
   cases aw c.Acts.length (gN c.Acts s) <;>rfl
  ·simp only[h7,h8,if_true,if_false,not_false_eq_true,and_self]
 ·simp only[h7,if_false,false_and]
  cases aw c.Acts.length (gN c.Acts s) <;>rfl
theorem LG{p:GProc}{s:GScope}(hs:s.Scalars.length≤1000)(hsv:s.Vars.length≤1000)(hv:p.Vars.length≤1000)(hc:p.Cmds.length≤1000)(hE:ProcE p){g:Int→Int→Int→Option ρ}:ny p s g=g (ej p s).1 (ej p s).2.1 (ej p s).2.2:=by
 have hcm:=fun(c:GCmd) (hm:c∈p.Cmds) s g=>P5 (ρ:=ρ) (c:=c) (p:=p) (s:=s) (hE.c c hm).1 (hE.c c hm).2 (g:=g)
 simp only[ny,nw,mkF,ia,ym hv hs];have hv4:=fun g=>ym (ρ:=ρ) (n:=4) (l:=p.Vars) (s:=s.Scalars) hv hs (g:=g)
 simp only[show((4:Nat):Int)=4 from rfl]at hv4
 rw[hv4];unfold ej tj
 by_cases h1:fS p.Name=false
 ·simp[h1]
 by_cases h2:p.Over<0
 ·simp[h1,h2]
 by_cases h3:(s.Scalars.length:Int)<p.Over
 ·simp[h1,h2,h3]
 by_cases h4:p.Locs<1
 ·simp[h1,h2,h3,h4]
 by_cases h5:12<p.Locs
 ·simp[h1,h2,h3,h4,h5]
 by_cases h6:12<p.Cmds.length
 ·simp[h1,h2,h3,h4,h5,h6,show(12:Int)<(p.Cmds.length:Int)by omega]
 have h1':fS p.Name=true:=by simpa using h1
 simp only[h1',h2,h3,h4,h5,h6,show¬(12:Int)<(p.Cmds.length:Int)by omega,if_false,or_self,ne_eq,not_true_eq_false,reduceCtorEq]
 unfold oe
 cases hq:(l8 p.Vars s.Scalars 4:Option (Nat×Int))with
 |some q=>
  obtain⟨q1,q2,q3,q4⟩:=bG (i:=q.1) (e:=q.2) hq;simp only[atE,Option.elim_some,q3,if_false,Option.some_or]
 |none=>
  simp only[atE,Option.elim_none,if_true,Option.none_or]
  refine(dk (τ:=Int) p.Vars.length (fun i:Nat=>(i:Int)) Int.toNat (fun i=>rfl) (aV p.Vars (dm s)) (fun i e=>g 1 i e) ((aw p.Cmds.length fun i=>(dI p (innerP p s) i).2).elim (g 0 0 0) fun q=>g (2+(q.1:Int)) (dI p (innerP p s) q.1).1 q.2) (fun i k hi h0=> ?_) (fun _ k=> ?_)).trans ?_
  ·have hm:aV p.Vars (dm s) i=dm s p.Vars[i]:=by simp only[aV,xG hi]
   simp only[show(i:Int)<(p.Vars.length:Int)by omega,show(0:Int)≤(i:Int)by omega,if_true,xV,xG hi,xS,kn s.Vars (·.Name) s.Vars.length (Nat.le_refl _) (by omega),hm,dm,aP (show i<4611686018427387904 by omega),List.take_of_length_le (show(s.Vars.map (·.Name)).length≤s.Vars.length by simp)]
   by_cases k1:p.Vars[i].Over=0
   ·by_cases k2:p.Vars[i].Name∈s.Vars.map (·.Name)
    ·simp only[k1,k2,if_true,ne_eq,not_true_eq_false,if_false,show¬((7:Int)=0)by decide]
    ·simp only[k1,k2,if_true,ne_eq,not_true_eq_false,if_false]
   ·simp only[k1,if_false,ne_eq,not_false_eq_true,if_true,show¬((9:Int)=0)by decide]
  ·simp only[Int.lt_irrefl,if_false]
   refine dk (τ:=Int) p.Cmds.length (fun i:Nat=>(i:Int)) Int.toNat (fun i=>rfl) (fun i=>(dI p (innerP p s) i).2) (fun i e=>g (2+(i:Int)) (dI p (innerP p s) i).1 e) (g 0 0 0) (fun i k hi h0=> ?_) (fun _ k=>by simp)
   have w2:IntKind.i64.wrap (2+(i:Int))=2+(i:Int):=bt (by omega) (by omega)
   have hA:dI p (innerP p s) i=if(ti p.Cmds[i] p (innerP p s)).2≠0 then ti p.Cmds[i] p (innerP p s)else if p.Cmds[i].Name∈(p.Cmds.take i).map (·.Name)then(0,7)else(0,0):=by simp only[dI,xG hi]
   have hmt:(p.Cmds.map (·.Name)).take i=(p.Cmds.take i).map (·.Name):=List.map_take.symm;simp only[show(i:Int)<(p.Cmds.length:Int)by omega,show(0:Int)≤(i:Int)by omega,if_true,xV,xG hi,xS,hcm _ (List.getElem_mem hi),kn p.Cmds (·.Name) i (by omega) (by omega),w2,aP (show i<4611686018427387904 by omega),hmt,←innerP.eq_1]
   rw[hA]
   by_cases k1:(ti p.Cmds[i] p (innerP p s)).2=0
   ·by_cases k2:p.Cmds[i].Name∈(p.Cmds.take i).map (·.Name)
    ·simp only[k1,k2,if_true,ne_eq,not_true_eq_false,if_false,show¬((7:Int)=0)by decide]
    ·simp only[k1,k2,if_true,ne_eq,not_true_eq_false,if_false]
   ·simp only[k1,if_false,ne_eq,not_false_eq_true,if_true]
  ·cases aw p.Vars.length (aV p.Vars (dm s))with
   |some q=>rfl
   |none=>
    simp only[Option.elim_none]
    cases aw p.Cmds.length fun i=>(dI p (innerP p s) i).2 <;>rfl
end
section
variable{ρ:Type}
theorem rY{l:List Nm}(hl:l.length≤1000000){x:Nm}{g:Bool→Option ρ}:ta l x g=g (decide (x∈l)):=by
 simp only[ta,s9,mkF]
 refine(kn l id l.length (Nat.le_refl _) hl x (g true) (g false)).trans ?_
 by_cases h:x∈l <;>simp[h]
theorem gd{α:Type}(l:List α)(nm:α→Nm)(acc:List Nm)(hl:acc.length+l.length≤1000000)(E:Int×List Nm→Option ρ):
  dD (fun(v:Int×List Nm) (k:Int×List Nm→Option ρ)=>if v.fst<(l.length:Int)then if 0≤v.fst then(l[v.fst.toNat]?).bind fun y=>if(v.snd.length+1) * 16≤140737488355328∧v.snd.length≤9223372036854775806 then k (IntKind.i64.wrap (v.fst+1),v.snd++[nm y])else none else none else E v) (0,acc)=E ((l.length:Int),acc++l.map nm):=by
 refine iS (iterC_all (τ:=Int×List Nm) l.length (fun i=>((i:Int),acc++(l.map nm).take i)) (E ((l.length:Int),acc++l.map nm)) (fun i k hi=> ?_) fun k=> ?_) (by simp)
 ·have e3:acc++(l.map nm).take i++[nm l[i]]=acc++(l.map nm).take (i+1):=by
   rw[bn (show i<(l.map nm).length by simpa using hi),xK];simp only[List.getElem_map]
  have hle:(acc++(l.map nm).take i).length≤1000000:=by simp;omega
  simp only[show(i:Int)<(l.length:Int)by omega,show(0:Int)≤(i:Int)by omega,if_true,xV,xG hi,xS,aP (show i<4611686018427387904 by omega),e3]
  rw[if_pos ⟨by omega,by omega⟩]
 ·simp only[Int.lt_irrefl,if_false]
  rw[List.take_of_length_le (by simp)]
theorem rZ{α:Type}(l:List α)(nm:α→Nm)(acc:List Nm)(n:Nat)(hn:n≤l.length)(hl:acc.length+l.length≤1000000)(E:Int×List Nm→Option ρ):
  dD (fun(v:Int×List Nm) (k:Int×List Nm→Option ρ)=>if v.fst<(l.length:Int)then if v.fst<(n:Int)then if 0≤v.fst then(l[v.fst.toNat]?).bind fun y=>if(v.snd.length+1) * 16≤140737488355328∧v.snd.length≤9223372036854775806 then k (IntKind.i64.wrap (v.fst+1),v.snd++[nm y])else none else none else E v else E v) (0,acc)=E ((n:Int),acc++(l.map nm).take n):=by
 refine iS (iterC_all (τ:=Int×List Nm) n (fun i=>((i:Int),acc++(l.map nm).take i)) (E ((n:Int),acc++(l.map nm).take n)) (fun i k hi=> ?_) fun k=> ?_) (by simp)
 ·have hi2:i<l.length:=by omega
  have e3:acc++(l.map nm).take i++[nm l[i]]=acc++(l.map nm).take (i+1):=by
   rw[bn (show i<(l.map nm).length by simpa using hi2),xK];simp only[List.getElem_map]
  have hle:(acc++(l.map nm).take i).length≤1000000:=by simp;omega
  simp only[show(i:Int)<(l.length:Int)by omega,show(i:Int)<(n:Int)by omega,show(0:Int)≤(i:Int)by omega,if_true,xV,xG hi2,xS,aP (show i<4611686018427387904 by omega),e3]
  rw[if_pos ⟨by omega,by omega⟩]
 ·simp only[Int.lt_irrefl,if_false,ite_self]
theorem As{τ:Type}{Φ:τ→(τ→Option ρ)→Option ρ}{v:τ}{e:Option ρ}(h:∀k,Φ v k=e):dD Φ v=e:=iterC_all (τ:=τ) 0 (fun _=>v) e (fun i k hi=>by omega) h
theorem Gf{E:List Nm→Option ρ}{acc:List Nm}:dD (fun(v:Int×List Nm) (k:Int×List Nm→Option ρ)=>E v.snd) (0,acc)=E acc:=As fun _=>rfl
theorem UF{m:GModel}(h:MoOk m){i:Nat}(hi:i≤m.Vars.length){g:List Nm→Option ρ}:cR m 2 i g=g (sN m++(vN m).take i):=by
 have h1:=h.sc;have h2:=h.v;simp only[cR,eP,mkF,Int.reduceLT,if_true,if_false,ite_self,Gf]
 refine(gd m.Scalars (·.Name) _ (by simp;omega) _).trans ?_
 simp only
 refine(rZ m.Vars (·.Name) _ i hi (by simp;omega) _).trans ?_
 rfl
theorem UG{m:GModel}(h:MoOk m){i:Nat}(hi:i≤m.Chans.length){g:List Nm→Option ρ}:cR m 3 i g=g (sN m++vN m++(cN m).take i):=by
 have h1:=h.sc;have h2:=h.v;have h3:=h.c;simp only[cR,eP,mkF,Int.reduceLT,if_true,if_false,ite_self,Gf]
 refine(gd m.Scalars (·.Name) _ (by simp;omega) _).trans ?_
 simp only
 refine(gd m.Vars (·.Name) _ (by simp;omega) _).trans ?_
 simp only
 refine(rZ m.Chans (·.Name) _ i hi (by simp;omega) _).trans ?_
 rfl
theorem UH{m:GModel}(h:MoOk m){i:Nat}(hi:i≤m.Procs.length){g:List Nm→Option ρ}:cR m 4 i g=g (sN m++vN m++cN m++(pN m).take i):=by
 have h1:=h.sc;have h2:=h.v;have h3:=h.c;have h4:=h.n;simp only[cR,eP,mkF,Int.reduceLT,if_true,if_false,ite_self,Gf]
 refine(gd m.Scalars (·.Name) _ (by simp;omega) _).trans ?_
 simp only
 refine(gd m.Vars (·.Name) _ (by simp;omega) _).trans ?_
 simp only
 refine(gd m.Chans (·.Name) _ (by simp;omega) _).trans ?_
 simp only
 refine(rZ m.Procs (·.Name) _ i hi (by simp;omega) _).trans ?_
 rfl
theorem LH{m:GModel}(h:MoOk m){i:Nat}(hi:i≤m.Props.length){g:List Nm→Option ρ}:cR m 5 i g=g (sN m++vN m++cN m++pN m++(qN m).take i):=by
 have h1:=h.sc;have h2:=h.v;have h3:=h.c;have h4:=h.n;have h5:=h.q;simp only[cR,eP,mkF,Int.reduceLT,if_true,if_false,ite_self,Gf]
 refine(gd m.Scalars (·.Name) _ (by simp;omega) _).trans ?_
 simp only
 refine(gd m.Vars (·.Name) _ (by simp;omega) _).trans ?_
 simp only
 refine(gd m.Chans (·.Name) _ (by simp;omega) _).trans ?_
 simp only
 refine(gd m.Procs (·.Name) _ (by simp;omega) _).trans ?_
 simp only
 refine(rZ m.Props (·.Name) _ i hi (by simp;omega) _).trans ?_
 rfl
end
section
variable{ρ:Type}
theorem Ig{m:GModel}{i:Nat}(hi:i<m.Procs.length){g:List GVar→Int→Option ρ}:nA m i g=g m.Procs[i].Vars m.Procs[i].Over:=by
 simp only[nA,nz,mkF];simp only[show¬((i:Int)<0)by omega,show¬((m.Procs.length:Int)≤(i:Int))by omega,if_false,show(0:Int)≤(i:Int)by omega,if_true,xV,xG hi,xS]
theorem Ih{α:Type}{most n:Nat}{l:List α}{nm:α→Nm}{f:α→Int}{j:Nat}(h:j<n)(hj:j<l.length):lI most ((l.take n).map nm) (aV (l.take n) f) j=lI most (l.map nm) (aV l f) j:=by
 have h1:j<(l.take n).length:=by simp;omega
 rw[yi h1,yi hj,List.getElem_take,List.map_take,List.take_take,Nat.min_eq_left (by omega)]
theorem yn{α:Type}{most:Nat}{l:List α}{nm:α→Nm}{f:α→Int}{i:Nat}(hi:i<l.length)(h0:∀j,j<i→lI most (l.map nm) (aV l f) j=0):
  aw (l.take (i+1)).length (lI most ((l.take (i+1)).map nm) (aV (l.take (i+1)) f))=if lI most (l.map nm) (aV l f) i=0 then none else some (i,lI most (l.map nm) (aV l f) i):=by
 have hlen:(l.take (i+1)).length=i+1:=by simp;omega
 rw[hlen,Dv (g:=lI most (l.map nm) (aV l f)) fun j hj=>Ih hj (by omega)]
 by_cases hz:lI most (l.map nm) (aV l f) i=0
 ·rw[if_pos hz]
  exact dx fun k hk=>by
   rcases Nat.lt_or_ge k i with q |q
   ·exact h0 k q
   ·rw[show k=i by omega];exact hz
 ·rw[if_neg hz]
  exact gy (by omega) hz h0
theorem RD{e:Int}{x:Nm}{l:List Nm}(h:twF e x l=0):e=0:=by
 unfold twF at h
 by_cases h1:e=0
 ·exact h1
 ·rw[if_pos h1]at h;exact h
theorem tv{n:Nat}{p:Int}{f:Nat→Flt}(hf:∀i,f i=((f i).1,p,(i:Int),0)):(aw n fun i=>(f i).1).map (fun q=>(q.2,p,(q.1:Int),(0:Int)))=orF n f:=by
 cases hq:aw n fun i=>(f i).1 with
 |none=>rw[oh (fT hq)];rfl
 |some q=>
  obtain⟨q1,q2,q3,q4⟩:=bG (i:=q.1) (e:=q.2) hq;rw[iR q1 (by rw[q2];exact q3) q4,hf q.1,q2];rfl
theorem LI{m:GModel}(h:MoOk m){g:Int→Int→Int→Option ρ}:qE m g=(rU m).elim (g 0 0 0) fun f=>g f.1 f.2.1 f.2.2.1:=by
 have hsc:=h.sc;have hv:=h.v;have hc:=h.c;have hvs:=fun(i:Nat) g=>ym (ρ:=ρ) (n:=12) (l:=m.Vars.take (i+1)) (s:=m.Scalars) (by simp;omega) hsc (g:=g)
 have hcs:=fun(i:Nat) g=>Ie (ρ:=ρ) (l:=m.Chans.take (i+1)) (s:=m.Scalars) (by simp;omega) hsc (g:=g)
 simp only[show((12:Nat):Int)=12 from rfl]at hvs
 simp only[qE,qD,mkF,DG hsc];unfold rU
 cases hq:(km m.Scalars:Option (Nat×Int))with
 |some q=>
  obtain⟨q1,q2,q3,q4⟩:=bG (i:=q.1) (e:=q.2) hq;simp only[atE,Option.elim_some,q3,if_false,xQ,Option.some_or]
 |none=>
  simp only[atE,Option.elim_none,if_true,Option.map_none,Option.none_or]
  refine(dk (τ:=Int) m.Vars.length (fun i:Nat=>(i:Int)) Int.toNat (fun i=>rfl) (fun i=>(gvF m i).1) (fun i e=>g e 2 i) ((aw m.Chans.length fun i=>(gcF m i).1).elim (g 0 0 0) fun q=>g q.2 3 q.1) (fun i k hi h0=> ?_) (fun _ k=> ?_)).trans ?_
  ·have w1:IntKind.i64.wrap ((i:Int)+1)=((i+1:Nat):Int):=aP (by omega)
   have hd:headD 6 (List.map aq (m.Vars.take (i+1)))=true:=by cases m.Vars.take (i+1) <;>rfl
   have hf:=yn (most:=12) (nm:=fun v:GVar=>v.Name) (f:=Fa m.Scalars) hi fun j hj=>RD (h0 j hj)
   have hf2:(l8 (m.Vars.take (i+1)) m.Scalars 12:Option (Nat×Int))=if jh m.Vars m.Scalars 12 i=0 then none else some (i,jh m.Vars m.Scalars 12 i):=hf
   have hnm:(vN m).getD i []=m.Vars[i].Name:=by simp[vN,hi]
   have hle:(sN m++(vN m).take i).length≤1000000:=by simp[sN,vN];omega
   have hg:(gvF m i).1=twF (jh m.Vars m.Scalars 12 i) m.Vars[i].Name (sN m++(vN m).take i):=by simp only[gvF,hnm]
   simp only[show(i:Int)<(m.Vars.length:Int)by omega,if_true,w1,show(0:Int)≤((i+1:Nat):Int)by omega,show(0:Int)≤(i:Int)by omega,xV,hd,and_true,show((i+1:Nat):Int)≤(m.Vars.length:Int)by omega,hvs,hf2,xG hi,xS,UF h (Nat.le_of_lt hi),rY hle]
   rw[hg];unfold twF
   by_cases hz:jh m.Vars m.Scalars 12 i=0
   ·by_cases hm:m.Vars[i].Name∈sN m++(vN m).take i
    ·simp only[atE,hz,hm,if_true,Option.elim_none,decide_true,ne_eq,not_true_eq_false,if_false,show¬((7:Int)=0)by decide]
    ·simp only[atE,hz,hm,if_true,Option.elim_none,decide_false,ne_eq,not_true_eq_false,if_false,reduceCtorEq]
   ·simp only[atE,hz,if_false,Option.elim_some,ne_eq,not_false_eq_true,if_true]
  ·simp only[Int.lt_irrefl,if_false]
   refine dk (τ:=Int) m.Chans.length (fun i:Nat=>(i:Int)) Int.toNat (fun i=>rfl) (fun i=>(gcF m i).1) (fun i e=>g e 3 i) (g 0 0 0) (fun i k hi h0=> ?_) (fun _ k=>by simp)
   have w1:IntKind.i64.wrap ((i:Int)+1)=((i+1:Nat):Int):=aP (by omega)
   have hd:headD 6 (List.map ay (m.Chans.take (i+1)))=true:=by cases m.Chans.take (i+1) <;>rfl
   have hf:=yn (most:=4) (nm:=fun v:GChan=>v.Name) (f:=Ap m.Scalars) hi fun j hj=>RD (h0 j hj)
   have hf2:(lJ (m.Chans.take (i+1)) m.Scalars:Option (Nat×Int))=if fq m.Chans m.Scalars i=0 then none else some (i,fq m.Chans m.Scalars i):=hf
   have hnm:(cN m).getD i []=m.Chans[i].Name:=by simp[cN,hi]
   have hle:(sN m++vN m++(cN m).take i).length≤1000000:=by simp[sN,vN,cN];omega
   have hg:(gcF m i).1=twF (fq m.Chans m.Scalars i) m.Chans[i].Name (sN m++vN m++(cN m).take i):=by simp only[gcF,hnm]
   simp only[show(i:Int)<(m.Chans.length:Int)by omega,if_true,w1,show(0:Int)≤((i+1:Nat):Int)by omega,show(0:Int)≤(i:Int)by omega,xV,hd,and_true,show((i+1:Nat):Int)≤(m.Chans.length:Int)by omega,hcs,hf2,xG hi,xS,UG h (Nat.le_of_lt hi),rY hle]
   rw[hg];unfold twF
   by_cases hz:fq m.Chans m.Scalars i=0
   ·by_cases hm:m.Chans[i].Name∈sN m++vN m++(cN m).take i
    ·simp only[atE,hz,hm,if_true,Option.elim_none,decide_true,ne_eq,not_true_eq_false,if_false,show¬((7:Int)=0)by decide]
    ·simp only[atE,hz,hm,if_true,Option.elim_none,decide_false,ne_eq,not_true_eq_false,if_false,reduceCtorEq]
   ·simp only[atE,hz,if_false,Option.elim_some,ne_eq,not_false_eq_true,if_true]
  ·rw[←tv (p:=2) (f:=gvF m) fun i=>rfl,←tv (p:=3) (f:=gcF m) fun i=>rfl]
   cases aw m.Vars.length fun i=>(gvF m i).1 with
   |some q=>rfl
   |none=>cases aw m.Chans.length fun i=>(gcF m i).1 <;>rfl
theorem abB{m:GModel}{i:Nat}(h:(gpF m i).1=0):gpF m i=(0,0,0,0):=by
 unfold gpF at h ⊢
 cases hp:m.Procs[i]? with
 |none=>rfl
 |some p=>
  rw[hp]at h
  simp only at h ⊢
  by_cases c1:6≤i
  ·rw[if_pos c1]at h;exact absurd h (by show¬(11:Int)=0;decide)
  rw[if_neg c1]at h ⊢
  by_cases c2:(ej p (bT m i)).2.2≠0
  ·rw[if_pos c2]at h;exact absurd h c2
  rw[if_neg c2]at h ⊢
  by_cases c3:p.Name∈sN m++vN m++cN m++(pN m).take i
  ·rw[if_pos c3]at h;exact absurd h (by show¬(7:Int)=0;decide)
  rw[if_neg c3]at h ⊢
  cases hd:Pi m p with
  |none=>rfl
  |some q=>rw[hd]at h;exact absurd h (by show¬(7:Int)=0;decide)
theorem DI{m:GModel}(h:MoOk m)(hE:MoE m){i:Nat}(hi:i<m.Procs.length)(h6:i≤6){g:Int→Int→Int→Int→Option ρ}:jK m i g=g (gpF m i).1 (gpF m i).2.1 (gpF m i).2.2.1 (gpF m i).2.2.2:=by
 have hsc:=h.sc;have hv:=h.v;have hc:=h.c;have hn:=h.n;have hp:=h.p _ (List.getElem_mem hi);have hpv:=hp.v;have e1:m.Procs[i]? =some m.Procs[i]:=xG hi;have hpr:=fun g=>LG (ρ:=ρ) (p:=m.Procs[i]) (s:=bT m i) (by rw[(rX m i).2];exact hsc) (by rw[(rX m i).1];exact hv) hp.v hp.n (hE.p _ (List.getElem_mem hi)) (g:=g)
 have hsp:bT m i=⟨m.Scalars,m.Vars,m.Chans,m.Procs,m.Procs[i].Vars,m.Procs[i].Over⟩:=by simp only[bT,e1]
 have l4:(sN m++vN m++cN m++(pN m).take i).length≤1000000:=by simp[sN,vN,cN,pN];omega
 have l5:(sN m++vN m++cN m++pN m++(qN m).take 0).length≤1000000:=by simp[sN,vN,cN,pN];omega
 have a5:=fun g=>LH (ρ:=ρ) h (i:=0) (Nat.zero_le _) (g:=g)
 simp only[Int.natCast_zero]at a5
 simp only[jK,jJ,mkF];simp only[gpF,e1]
 by_cases c1:6≤i
 ·have:i=6:=by omega
  subst this
  simp
 rw[if_neg c1];simp only[show¬((i:Int)=6)by omega,if_false,show(0:Int)≤(i:Int)by omega,if_true,xV,e1,xS,Ig hi,←hsp,hpr,UH h (Nat.le_of_lt hi),rY l4,a5,rY l5]
 by_cases c2:(ej m.Procs[i] (bT m i)).2.2=0
 ·simp only[c2,if_true,ne_eq,not_true_eq_false,if_false]
  by_cases c3:m.Procs[i].Name∈sN m++vN m++cN m++(pN m).take i
  ·simp only[c3,decide_true,if_true]
  ·simp only[c3,decide_false,if_false,reduceCtorEq]
   refine(dk (τ:=Int) m.Procs[i].Vars.length (fun i:Nat=>(i:Int)) Int.toNat (fun i=>rfl) (aV m.Procs[i].Vars fun v=>if v.Name∈sN m++vN m++cN m++pN m then 7 else 0) (fun k e=>g e 4 i (16+(k:Int))) (g 0 0 0 0) (fun k κ hk h0=> ?_) (fun _ k=>by simp)).trans ?_
   ·have w1:IntKind.i64.wrap ((k:Int)+1)=((k+1:Nat):Int):=aP (by omega)
    have w2:IntKind.i64.wrap (16+(k:Int))=16+(k:Int):=bt (by omega) (by omega)
    have hm:aV m.Procs[i].Vars (fun v=>if v.Name∈sN m++vN m++cN m++pN m then(7:Int)else 0) k=if m.Procs[i].Vars[k].Name∈sN m++vN m++cN m++pN m then 7 else 0:=by simp only[aV,xG hk]
    simp only[hm,show(k:Int)<(m.Procs[i].Vars.length:Int)by omega,show(0:Int)≤(k:Int)by omega,if_true,xV,xG hk,xS,w1,w2,List.take_zero,List.append_nil]
    by_cases c4:m.Procs[i].Vars[k].Name∈sN m++vN m++cN m++pN m
    ·simp only[c4,decide_true,if_true,show¬((7:Int)=0)by decide,if_false]
    ·simp only[c4,decide_false,if_false,if_true,reduceCtorEq]
   ·unfold Pi
    cases hd:aw m.Procs[i].Vars.length (aV m.Procs[i].Vars fun v=>if v.Name∈sN m++vN m++cN m++pN m then(7:Int)else 0)with
    |none=>rfl
    |some q=>
     obtain⟨q1,q2,q3,q4⟩:=bG (i:=q.1) (e:=q.2) hd
     have:q.2=7:=by
      rw[←q2];simp only[aV,xG q1]at q2 ⊢
      by_cases c4:m.Procs[i].Vars[q.1].Name∈sN m++vN m++cN m++pN m
      ·rw[if_pos c4]
      ·rw[if_neg c4]at q2;exact absurd q2.symm q3
     simp only[Option.elim_some,this]
 ·simp only[c2,if_false,ne_eq,not_false_eq_true,if_true]
theorem LJ{m:GModel}(h:MoOk m)(hE:MoE m){i:Nat}(hi:i<m.Props.length)(h8:i≤8){g:Int→Option ρ}:dG m i g=g (iQ m i):=by
 have hsc:=h.sc;have hv:=h.v;have hc:=h.c;have hn:=h.n;have hq:=h.q;have e1:m.Props[i]? =some m.Props[i]:=xG hi;have l5:(sN m++vN m++cN m++pN m++(qN m).take i).length≤1000000:=by simp[sN,vN,cN,pN,qN];omega
 simp only[dG,fj,mkF];simp only[iQ,e1]
 by_cases c1:8≤i
 ·have:i=8:=by omega
  subst this
  simp
 rw[if_neg c1];simp only[show¬((i:Int)=8)by omega,if_false,show(0:Int)≤(i:Int)by omega,if_true,xV,e1,xS,ia,LH h (Nat.le_of_lt hi),rY l5,Lz (hE.q _ (List.getElem_mem hi))]
 by_cases c2:fS m.Props[i].Name=false
 ·simp only[c2,if_true]
 have c2':fS m.Props[i].Name=true:=by simpa using c2
 by_cases c3:m.Props[i].Name∈sN m++vN m++cN m++pN m++(qN m).take i
 ·simp only[c2',c3,decide_true,if_true,if_false,reduceCtorEq]
 by_cases c4:(dw m.Props[i].Expr ⟨m.Scalars,m.Vars,m.Chans,m.Procs,[],0⟩).2=0
 ·by_cases c5:(dw m.Props[i].Expr ⟨m.Scalars,m.Vars,m.Chans,m.Procs,[],0⟩).1=1
  ·simp only[c2',c3,c4,c5,decide_false,if_true,if_false,ne_eq,not_true_eq_false,reduceCtorEq]
  ·simp only[c2',c3,c4,c5,decide_false,if_true,if_false,ne_eq,not_true_eq_false,not_false_eq_true,reduceCtorEq]
 ·simp only[c2',c3,c4,decide_false,if_true,if_false,ne_eq,not_false_eq_true,reduceCtorEq]
end
section
variable{ρ:Type}
theorem Ff{m:GModel}(h:MoOk m){g:Int→Int→Int→Option ρ}:lD m g=g (tm m) (rW m m.Procs) (tn m):=by
 have w1:∀{i n:Nat},i<n→n≤1000→IntKind.i64.wrap ((i:Int)+1)=((i+1:Nat):Int):=fun h1 h2=>aP (by omega)
 have b1:=fun i=>jj (f:=bg m) (l:=m.Vars) (b:=4) (by decide) (fun x _=>oi) i
 have b2:=fun i=>jj (f:=gZ) (l:=m.Chans) (b:=5) (by decide) (fun x _=>vX) i
 have b3:=fun i=>jj (f:=aK m) (l:=m.Procs) (b:=4) (by decide) (fun x _=>ib) i
 have b0:∀p∈m.Procs,0≤aK m p * (1+(p.Vars.length:Int))∧aK m p * (1+(p.Vars.length:Int))≤4004:=fun p hp=>by
  have h1:= @ib m p;have h2:=(h.p p hp).v
  refine⟨Int.mul_nonneg h1.1 (by omega),?_⟩
  calc aK m p * (1+(p.Vars.length:Int))≤4 * (1+(p.Vars.length:Int)):=Int.mul_le_mul_of_nonneg_right h1.2 (by omega)
   _≤4004:=by omega
 have b4:=fun i=>jj (f:=fun p:GProc=>aK m p * (1+(p.Vars.length:Int))) (l:=m.Procs) (b:=4004) (by decide) b0 i
 have hv:=h.v;have hcc:=h.c;have hn:=h.n;have t1:bq (bg m) (m.Vars.take m.Vars.length)=bq (bg m) m.Vars:=by rw[List.take_length]
 have t2:bq gZ (m.Chans.take m.Chans.length)=bq gZ m.Chans:=by rw[List.take_length]
 simp only[lD,lC,uy,nB,uz,nC,mkF,yl h.sc];refine iterC_all (τ:=Int×Int) m.Vars.length (fun i=>(bq (bg m) (m.Vars.take i),(i:Int))) _ (fun i k hi=> ?_) fun k=> ?_
 ·simp only[show(i:Int)<(m.Vars.length:Int)by omega,if_true,show(0:Int)≤(i:Int)by omega,xV,xG hi,xS,w1 hi hv,fU hi]
  have q1:=b1 i;have q2:= @oi m m.Vars[i]
  by_cases hz:m.Vars[i].Over=0
  ·have hcn:bg m m.Vars[i]=1:=by unfold bg;rw[if_pos hz]
   rw[if_pos hz,hcn,bt (by omega) (by omega)]
  ·have hcn:bg m m.Vars[i]=bK m.Scalars m.Vars[i].Over:=by unfold bg;rw[if_neg hz]
   rw[hcn]at q2
   rw[if_neg hz,hcn,bt (by omega) (by omega)]
 ·simp only[Int.lt_irrefl,if_false,t1]
  refine iS (iterC_all (τ:=Int×Int) m.Chans.length (fun i=>(bq (bg m) m.Vars+bq gZ (m.Chans.take i),(i:Int))) _ (fun i k hi=> ?_) fun k=> ?_) (by simp[bq])
  ·simp only[show(i:Int)<(m.Chans.length:Int)by omega,if_true,show(0:Int)≤(i:Int)by omega,xV,xG hi,xS,w1 hi hcc,fU hi]
   have q1:=b1 m.Vars.length;have q2:=b2 i;have q3:= @vX m.Chans[i];rw[t1]at q1
   have hcap:(if 4<if m.Chans[i].Cap<0 then 0 else m.Chans[i].Cap then 4 else if m.Chans[i].Cap<0 then 0 else m.Chans[i].Cap)=gZ m.Chans[i] - 1:=by
    unfold gZ
    by_cases hz:m.Chans[i].Cap<0
    ·simp only[hz,if_true];omega
    ·simp only[hz,if_false];split <;>omega
   rw[hcap,bt (x:=bq (bg m) m.Vars+bq gZ (List.take i m.Chans)+1) (by omega) (by omega),bt (by omega) (by omega)]
   congr 2
   omega
  ·simp only[Int.lt_irrefl,if_false,t2]
   refine iS (iterC_all (τ:=Int×Int×Int×Int) m.Procs.length (fun i=>(bq (aK m) (m.Procs.take i),rW m (m.Procs.take i),bq (bg m) m.Vars+bq gZ m.Chans+bq (fun p:GProc=>aK m p * (1+(p.Vars.length:Int))) (m.Procs.take i),(i:Int))) _ (fun i k hi=> ?_) fun k=> ?_) (by simp[bq,rW])
   ·have q0:= @ib m m.Procs[i]
    have q1:=b3 i;have q2:=b4 i;have q3:=b0 _ (List.getElem_mem hi);have q4:=b1 m.Vars.length;have q5:=b2 m.Chans.length;rw[t1]at q4
    rw[t2]at q5
    have q6:=(h.p _ (List.getElem_mem hi)).v;have e1:IntKind.i64.wrap (1+(m.Procs[i].Vars.length:Int))=1+(m.Procs[i].Vars.length:Int):=bt (by omega) (by omega)
    have e2:IntKind.i64.wrap (aK m m.Procs[i] * (1+(m.Procs[i].Vars.length:Int)))=aK m m.Procs[i] * (1+(m.Procs[i].Vars.length:Int)):=bt (by omega) (by omega)
    have e3:IntKind.i64.wrap (bq (aK m) (List.take i m.Procs)+aK m m.Procs[i])=bq (aK m) (List.take i m.Procs)+aK m m.Procs[i]:=bt (by omega) (by omega)
    have e4:IntKind.i64.wrap (bq (bg m) m.Vars+bq gZ m.Chans+bq (fun p:GProc=>aK m p * (1+(p.Vars.length:Int))) (m.Procs.take i)+aK m m.Procs[i] * (1+(m.Procs[i].Vars.length:Int)))=bq (bg m) m.Vars+bq gZ m.Chans+bq (fun p:GProc=>aK m p * (1+(p.Vars.length:Int))) (m.Procs.take i)+aK m m.Procs[i] * (1+(m.Procs[i].Vars.length:Int)):=bt (by omega) (by omega)
    simp only[show(i:Int)<(m.Procs.length:Int)by omega,if_true,show(0:Int)≤(i:Int)by omega,xV,xG hi,xS,w1 hi hn,e1,fU hi,yk hi]
    by_cases hz:m.Procs[i].Over=0
    ·have hin:aK m m.Procs[i]=1:=by unfold aK;rw[if_pos hz]
     rw[hin]at e2 e3 e4
     rw[if_pos hz,hin,e2,e3,e4,Int.add_assoc (bq (bg m) m.Vars+bq gZ m.Chans)]
    ·have hin:aK m m.Procs[i]=bK m.Scalars m.Procs[i].Over:=by unfold aK;rw[if_neg hz]
     rw[hin]at e2 e3 e4
     rw[if_neg hz,hin,e2,e3,e4,Int.add_assoc (bq (bg m) m.Vars+bq gZ m.Chans)]
   ·simp only[Int.lt_irrefl,if_false,List.take_length]
    rfl
theorem Fg{N:Nat}{F:Nat→Flt}{Φ:Int×Flt→(Int×Flt→Option ρ)→Option ρ}{A:Option ρ}{G:Flt→Option ρ}
  (h0:∀i k,i<N→(∀j,j<i→(F j).1=0)→Φ ((i:Int),0,0,0,0) k=k (((i+1:Nat):Int),F i)) (hN:∀k,Φ ((N:Int),0,0,0,0) k=A) (he:∀(i:Nat) f k,f.1≠0→i≤N→Φ ((i:Int),f) k=G f) (hF:∀i,(F i).1=0→F i=(0,0,0,0)):
  dD Φ (0,0,0,0,0)=(orF N F).elim A G:=by
 refine Ai (fun v e=>(∃i:Nat,i≤N∧v=((i:Int),0,0,0,0)∧(∀j,j<i→(F j).1=0)∧e=(orF N F).elim A G)∨(∃(i:Nat) (f:Flt),i≤N∧v=((i:Int),f)∧f.1≠0∧e=G f)) (fun v=>N - v.1.toNat) ?_ (.inl ⟨0,Nat.zero_le _,rfl,fun j hj=>by omega,rfl⟩)
 rintro v e k (⟨i,hi,rfl,hz,rfl⟩ |⟨i,f,hi,rfl,hf,rfl⟩) hk
 ·rcases Nat.lt_or_ge i N with q |q
  ·rw[h0 i k q hz]
   have hμ:N - ((((i+1:Nat):Int),F i).1).toNat<N - (((i:Int),((0,0,0,0):Flt)).1).toNat:=by simp;omega
   by_cases hc:(F i).1=0
   ·refine hk _ _ (.inl ⟨i+1,q,by rw[hF i hc],fun j hj=> ?_,rfl⟩) hμ
    rcases Nat.lt_or_ge j i with r |r
    ·exact hz j r
    ·rw[show j=i by omega];exact hc
   ·exact hk _ _ (.inr ⟨i+1,F i,q,rfl,hc,by rw[iR q hc hz];rfl⟩) hμ
  ·have:i=N:=by omega
   subst this;rw[hN,oh hz];rfl
 ·exact he i f k hf hi
theorem Ii{Φ:Int×Flt→(Int×Flt→Option ρ)→Option ρ}{f:Flt}{e:Option ρ}(h:∀k,Φ (0,f) k=e):dD Φ (0,f)=e:=As h
theorem LK{m:GModel}{f:Flt}(h:rU m=some f):f.1≠0∧f.2.2.2=0:=by
 unfold rU at h
 cases hq:(km m.Scalars:Option (Nat×Int))with
 |some q=>
  rw[hq]at h
  simp only[xQ,Option.some_or,xJ]at h
  subst h
  exact⟨(bG (i:=q.1) (e:=q.2) hq).2.2.1,rfl⟩
 |none=>
  rw[hq]at h
  simp only[Option.map_none,Option.none_or]at h
  cases hv:orF m.Vars.length (gvF m)with
  |some x=>
   rw[hv]at h
   simp only[Option.some_or,xJ]at h
   subst h;obtain⟨i,hi,he,h0⟩:=gz hv
   exact⟨h0,by rw[←he];rfl⟩
  |none=>
   rw[hv]at h
   simp only[Option.none_or]at h
   obtain⟨i,hi,he,h0⟩:=gz h
   exact⟨h0,by rw[←he];rfl⟩
theorem Ij{m:GModel}(h:MoOk m)(hE:MoE m){g:Int→Int→Int→Int→Option ρ}:nL m g=g ((lL m).getD (0,0,0,0)).1 ((lL m).getD (0,0,0,0)).2.1 ((lL m).getD (0,0,0,0)).2.2.1 ((lL m).getD (0,0,0,0)).2.2.2:=by
 have hn:=h.n;have hq:=h.q;simp only[nL,nK,mkF,LI h,Ff h];unfold lL
 cases hg:rU m with
 |some f=>
  obtain⟨f1,f2⟩:=LK hg;simp only[Option.elim_some,Option.some_or,Option.getD_some]
  refine(Ii (f:=(f.1,f.2.1,f.2.2.1,0)) fun k=> ?_)
  simp only[f1,if_false,ite_self,f2]
 |none=>
  simp only[Option.elim_none,Option.none_or]
  have hprop:dD (ρ:=ρ) (fun(v:Int) k=>if v<(m.Props.length:Int)then dG m v fun x=>if x=0 then k (IntKind.i64.wrap (v+1))else g x 5 v 0 else g 0 0 0 0) 0=(aw m.Props.length (iQ m)).elim (g 0 0 0 0) fun q=>g q.2 5 q.1 0:=by
   refine dk (τ:=Int) m.Props.length (fun i:Nat=>(i:Int)) Int.toNat (fun i=>rfl) (iQ m) (fun i e=>g e 5 i 0) (g 0 0 0 0) (fun i k hi h0=> ?_) (fun _ k=>by simp)
   have h8:i≤8:=Classical.byContradiction fun c=>by
    have:=h0 8 (by omega)
    unfold iQ at this;rw[xG (show 8<m.Props.length by omega)]at this
    simp at this
   simp only[show(i:Int)<(m.Props.length:Int)by omega,if_true,LJ h hE hi h8,aP (show i<4611686018427387904 by omega)]
  refine(Fg (N:=m.Procs.length) (F:=gpF m) (A:=if 12<tm m then g 11 4 m.Procs.length 0 else if 64<tn m then g 11 4 m.Procs.length 0 else(aw m.Props.length (iQ m)).elim (g 0 0 0 0) fun q=>g q.2 5 q.1 0) (G:=fun f=>g f.1 f.2.1 f.2.2.1 f.2.2.2) (fun i k hi h0=> ?_) (fun k=> ?_) (fun i f k hf hi=> ?_) (fun i=>abB)).trans ?_
  ·have h6:i≤6:=Classical.byContradiction fun c=>by
    have:=h0 6 (by omega)
    unfold gpF at this;rw[xG (show 6<m.Procs.length by omega)]at this
    simp at this
   simp only[show(i:Int)<(m.Procs.length:Int)by omega,if_true,DI h hE hi h6,aP (show i<4611686018427387904 by omega)]
  ·simp only[Int.lt_irrefl,if_false,if_true,hprop]
  ·simp only[hf,if_false,ite_self]
  ·unfold yg nV
   cases hp:orF m.Procs.length (gpF m)with
   |some f=>rfl
   |none=>
    simp only[Option.elim_none,Option.none_or]
    by_cases c1:12<tm m
    ·rw[if_pos c1,if_pos (.inl c1)];rfl
    by_cases c2:64<tn m
    ·rw[if_neg c1,if_pos c2,if_pos (.inr c2)];rfl
    rw[if_neg c1,if_neg c2,if_neg (fun q=>q.elim c1 c2),Option.none_or,←tv (p:=5) (f:=fun i=>(iQ m i,5,(i:Int),0)) fun i=>rfl]
    cases aw m.Props.length fun i=>iQ m i <;>rfl
theorem P6{m:GModel}(h:MoOk m)(hE:MoE m){g:Bool→Option ρ}:tg m g=g (decide (((lL m).getD (0,0,0,0)).1=0)):=by
 simp only[tg,td,mkF,Ij h hE]
end
end Go.Etx
namespace Go.Etq
open Go Go.Am Go.Etx Go.Tr7
open Go.Lib (indexByte countByte)
set_option maxHeartbeats 4000000
set_option maxRecDepth 20000
section
variable{ρ:Type}
def bM(c:UInt8):List UInt8→List UInt8×List UInt8×Bool
 | []=>([],[],false)
 |x::r=>if x=c then([],r,true)else(x::(bM c r).1,(bM c r).2.1,(bM c r).2.2)
theorem BY{c:UInt8}:∀{s:List UInt8},c∉s→bM c s=(s,[],false)
 | [],_=>rfl
 |x::r,h=>by
  simp only[xY,not_or]at h
  rw[bM,if_neg (fun e=>h.1 e.symm),BY h.2]
theorem r9{c:UInt8}{b:List UInt8}:∀{a:List UInt8},c∉a→bM c (a++c::b)=(a,b,true)
 | [],_=>by rw[List.nil_append,bM,if_pos rfl]
 |x::r,h=>by
  simp only[xY,not_or]at h
  rw[List.cons_append,bM,if_neg (fun e=>h.1 e.symm),r9 h.2]
theorem yp{c:UInt8}:∀{s:List UInt8},c∉s→indexByte s c=-1
 | [],_=>rfl
 |x::r,h=>by
  simp only[xY,not_or]at h
  rw[indexByte,yp h.2,if_neg (by simpa using fun e=>h.1 e.symm)]
  rfl
theorem sd{c:UInt8}{b:List UInt8}:∀{a:List UInt8},c∉a→indexByte (a++c::b) c=a.length
 | [],_=>by rw[List.nil_append,indexByte,if_pos (by simp)];rfl
 |x::r,h=>by
  simp only[xY,not_or]at h
  rw[List.cons_append,indexByte,sd h.2,if_neg (by simpa using fun e=>h.1 e.symm),if_neg (by simp),xZ]
  omega
theorem ol(c:UInt8)(s:List UInt8):c∉s∨∃a b,s=a++c::b∧c∉a:=by
 by_cases h:c∈s
 ·obtain⟨a,b,h1,h2⟩:=List.append_of_mem h |>.imp fun a h=>h.imp fun b h=>(⟨h,trivial⟩:_∧True)
  exact .inr (by
   clear h1
   induction s with
   |nil=>cases h
   |cons x r ih=>
    by_cases hx:x=c
    ·exact⟨[],r,by rw[hx];rfl,by simp⟩
    ·have:c∈r:=by
      rcases List.mem_cons.1 h with h |h
      ·exact absurd h.symm hx
      ·exact h
     obtain⟨a,b,e,hn⟩:=ih this
     exact⟨x::a,b,by rw[e];rfl,by simp[hn];exact fun e=>hx e.symm⟩)
 ·exact .inl h
theorem yq(c:UInt8)(s:List UInt8):(bM c s).1.length+(bM c s).2.1.length≤s.length:=by
 induction s with
 |nil=>simp[bM]
 |cons x r ih=>
  rw[bM];split
  ·simp
  ·simp only[xZ];omega
theorem BZ{a b:List UInt8}{c:UInt8}:(a++c::b).take a.length=a:=by simp
theorem B0{a b:List UInt8}{c:UInt8}:(a++c::b).drop (a.length+1)=b:=by
 rw[show a.length+1=a.length+1 from rfl,←List.drop_drop,List.drop_left];rfl
theorem DJ(s:List UInt8)(hs:s.length≤1073741824)(κ:List UInt8→List UInt8→Bool→Option ρ):fP s κ=κ (bM 10 s).1 (bM 10 s).2.1 (bM 10 s).2.2:=by
 simp only[fP,fO,mkF]
 by_cases h1:[10]=s
 ·subst h1
  rw[if_pos rfl,if_pos (by simp)]
  simp[bM]
 ·rw[if_neg h1]
  rcases ol 10 s with h |⟨a,b,rfl,h⟩
  ·rw[yp h,if_neg (by omega),BY h]
  ·simp only[xP,xZ]at hs
   have hl:(a++10::b).length=a.length+(b.length+1):=by simp
   rw[sd h,r9 h,hl,if_pos (by omega),if_pos (by omega),if_pos (by omega),aP (by omega),if_pos (by omega),if_pos (by omega),xV,xV,BZ,B0,show a.length+(b.length+1) - (a.length+1)=b.length by omega,List.take_length]
theorem LL(s:List UInt8)(hs:s.length≤1073741824)(κ:List UInt8→List UInt8→Bool→Option ρ):fR s κ=κ (bM 47 s).1 (bM 47 s).2.1 (bM 47 s).2.2:=by
 simp only[fR,fQ,mkF]
 by_cases h1:[47]=s
 ·subst h1
  rw[if_pos rfl,if_pos (by simp)]
  simp[bM]
 ·rw[if_neg h1]
  rcases ol 47 s with h |⟨a,b,rfl,h⟩
  ·rw[yp h,if_neg (by omega),BY h]
  ·simp only[xP,xZ]at hs
   have hl:(a++47::b).length=a.length+(b.length+1):=by simp
   rw[sd h,r9 h,hl,if_pos (by omega),if_pos (by omega),if_pos (by omega),aP (by omega),if_pos (by omega),if_pos (by omega),xV,xV,BZ,B0,show a.length+(b.length+1) - (a.length+1)=b.length by omega,List.take_length]
def cV(c:UInt8):List UInt8→List (List UInt8)
 | []=>[[]]
 |x::r=>if x=c then []::cV c r else match cV c r with
  |p::q=>(x::p)::q
  | []=>[[x]]
theorem ko{c:UInt8}:∀{s:List UInt8},c∉s→cV c s=[s]
 | [],_=>rfl
 |x::r,h=>by
  simp only[xY,not_or]at h
  rw[cV,if_neg (fun e=>h.1 e.symm),ko h.2]
theorem nW{c:UInt8}{b:List UInt8}:∀{a:List UInt8},c∉a→cV c (a++c::b)=a::cV c b
 | [],_=>by rw[List.nil_append,cV,if_pos rfl]
 |x::r,h=>by
  simp only[xY,not_or]at h
  rw[List.cons_append,cV,if_neg (fun e=>h.1 e.symm),nW h.2]
theorem At{c:UInt8}{Q:List UInt8→Prop}(h0:∀s,c∉s→Q s)(h1:∀a b,c∉a→Q b→Q (a++c::b))(s:List UInt8):Q s:=by
 have:∀n (s:List UInt8),s.length<n→Q s:=by
  intro n
  induction n with
  |zero=>intro s h;omega
  |succ n ih=>
   intro s hs
   rcases ol c s with h |⟨a,b,rfl,h⟩
   ·exact h0 s h
   ·exact h1 a b h (ih b (by simp only[xP,xZ]at hs;omega))
 exact this (s.length+1) s (by omega)
theorem Au(c:UInt8)(s:List UInt8):(cV c s).length=s.count c+1:=by
 refine At (c:=c) (Q:=fun s=>(cV c s).length=s.count c+1) (fun s h=> ?_) (fun a b h ih=> ?_) s
 ·rw[ko h,List.count_eq_zero_of_not_mem h];rfl
 ·rw[nW h,xZ,ih,List.count_append,List.count_eq_zero_of_not_mem h,List.count_cons_self];omega
theorem Ik(c:UInt8)(s:List UInt8):∀y∈cV c s,y.length≤s.length:=by
 refine At (c:=c) (Q:=fun s=>∀y∈cV c s,y.length≤s.length) (fun s h=> ?_) (fun a b h ih=> ?_) s
 ·rw[ko h];intro y hy;rw[List.mem_singleton.1 hy];exact Nat.le_refl _
 ·rw[nW h]
  intro y hy;simp only[xP,xZ]
  rcases List.mem_cons.1 hy with rfl |hy
  ·omega
  ·have:=ih y hy;omega
theorem Fh(c:UInt8)(s:List UInt8):∃f r,cV c s=f::r:=by
 have:=Au c s
 cases h:cV c s with
 |nil=>rw[h]at this;simp at this
 |cons f r=>exact⟨f,r,rfl⟩
theorem B1{α:Type}{d:List α}{m:Nat}{z y:α}:(d++List.replicate (m+1) z).set d.length y=(d++[y])++List.replicate m z:=by
 rw[List.set_append_right _ _ (Nat.le_refl _),Nat.sub_self,List.replicate_succ,List.set_cons_zero,xK];rfl
theorem B2{α:Type}{d:List α}{m:Nat}{z:α}:(d++List.replicate (m+1) z)[d.length]? =some z:=by
 rw[xN (Nat.le_refl _),Nat.sub_self,List.replicate_succ];rfl
theorem LM(s:List UInt8)(hs:s.length≤1073741824)(g:List (List UInt8)→Option ρ):eF s g=g (cV 32 s):=by
 simp only[eF,eE,mkF];have hc:s.count 32≤s.length:=List.count_le_length;have hn:∃n:Nat,n=s.count 32:=⟨_,rfl⟩
 obtain⟨n,hn⟩:=hn
 have hw:(if IntKind.i64.wrap ((s.length:Int)+1)<IntKind.i64.wrap ((countByte s 32:Int)+1)then IntKind.i64.wrap ((s.length:Int)+1)else IntKind.i64.wrap ((countByte s 32:Int)+1))=((n+1:Nat):Int):=by
  unfold countByte;rw[←hn]at hc ⊢
  rw[aP (by omega),aP (by omega),if_neg (by omega)]
 simp only[hw];have hmax:max ((n+1:Nat):Int) 0=((n+1:Nat):Int):=by omega
 have hp:IntKind.i64.wrap (((n+1:Nat):Int) - 1)=(n:Int):=by rw[aa6 (by omega) (by omega)];rfl
 simp only[hmax,hp];rw[if_pos (by omega),xV]
 refine(ir (fun v:List UInt8×Int×List (List UInt8)=>∃(d:List (List UInt8)) (m:Nat),v.2.1=(d.length:Int)∧v.2.2=d++List.replicate (m+1) []∧d.length+m=n∧v.1.count 32=m∧d++cV 32 v.1=cV 32 s∧v.1.length≤s.length) (fun _=>g (cV 32 s)) (fun v=>v.1.length) (fun v k hI hk=> ?_) (v:=(s,0,List.replicate (n+1) [])) ⟨[],n,rfl,rfl,by simp,hn.symm,rfl,Nat.le_refl _⟩)
 obtain⟨s',i,a⟩:=v;obtain⟨d,m,h1,h2,h3,h4,h5,h6⟩:=hI;simp only at h1 h2 h4 h5 h6 hk ⊢
 subst h1;subst h2
 by_cases hm:m=0
 ·subst hm
  have hno:(32:UInt8)∉s':=by
   intro hx
   have:=List.count_pos_iff.2 hx
   omega
  have hl:(d++List.replicate (0+1) ([]:List UInt8)).length=d.length+1:=by simp
  rw[if_neg (by omega),if_pos (by omega),xV,B2,xS,aP (by omega),if_pos (by omega),if_pos (by omega),xV,hl,if_pos rfl,B1,List.replicate_zero,List.append_nil,←h5,ko hno]
 ·obtain⟨m',rfl⟩:∃m',m=m'+1:=⟨m - 1,by omega⟩
  rw[if_pos (by omega)]
  rcases ol 32 s' with hx |⟨a,b,rfl,hx⟩
  ·rw[List.count_eq_zero_of_not_mem hx]at h4;omega
  ·rw[List.count_append,List.count_eq_zero_of_not_mem hx,List.count_cons_self]at h4
   rw[nW hx]at h5
   simp only[xP,xZ]at h6
   have go:k (b,((d.length+1:Nat):Int),(d++[a])++List.replicate (m'+1) [])=g (cV 32 s):=
    hk _ ⟨d++[a],m',by simp,rfl,by simp;omega,by simp only;omega,by rw[←h5];simp,by simp only;omega⟩ (by simp only[xP,xZ];omega)
   by_cases h7:[32]=a++32::b
   ·have ha:a=[]∧b=[]:=by
     cases a with
     |nil=>exact⟨rfl,by simpa using h7.symm⟩
     |cons x r=>simp at h7
    obtain⟨rfl,rfl⟩:=ha;rw[if_pos h7,if_pos (by omega),xV,B2,xS,if_pos (by simp),aP (by omega),B1]
    exact go
   ·have hl:(a++32::b).length=a.length+(b.length+1):=by simp
    rw[if_neg h7,sd hx,if_neg (by omega),bt (x:=(a.length:Int)) (by omega) (by omega),hl,if_pos (by omega),if_pos (by omega),if_pos (by omega),xV,B2,xS,aP (k:=a.length) (by omega),if_pos (by omega),if_pos (by omega),xV,xV,B0,BZ,aP (by omega),B1,show a.length+(b.length+1) - (a.length+1)=b.length by omega,List.take_length]
    exact go
def qI(y:List UInt8):Option Etx.GStep:=if(bM 47 y).2.2=true∧(l9 (bM 47 y).1).2=true∧(l9 (bM 47 y).2.1).2=true then some ⟨(l9 (bM 47 y).1).1,(l9 (bM 47 y).2.1).1⟩else none
def pf:List (List UInt8)→Option (List Etx.GStep)
 | []=>some []
 |y::r=>(qI y).bind fun z=>(pf r).map (z::·)
def gL(w s:List UInt8):Option (List Etx.GStep):=match cV 32 s with
 |f::r=>if f=w then pf r else none
 | []=>none
def ans(o:Option (List Etx.GStep))(g:List Etx.GStep→Bool→Option ρ):Option ρ:=match o with
 |some l=>g l true
 |none=>g [] false
theorem LN{y:List UInt8}{r:List (List UInt8)}{out:List Etx.GStep}{g:List Etx.GStep→Bool→Option ρ}:ans ((pf (y::r)).map (out++·)) g=match qI y with
  |some z=>ans ((pf r).map ((out++[z])++·)) g
  |none=>g [] false:=by
 rw[pf]
 cases qI y with
 |none=>rfl
 |some z=>
  simp only[xS]
  cases pf r with
  |none=>rfl
  |some l=>simp[ans]
theorem LO{y:List UInt8}{x:Option ρ}{h:Etx.GStep→Option ρ}:(if(bM 47 y).2.2=false then x else if(l9 (bM 47 y).1).2=false then x else if(l9 (bM 47 y).2.1).2=false then x else h ⟨(l9 (bM 47 y).1).1,(l9 (bM 47 y).2.1).1⟩)=match qI y with
  |some z=>h z
  |none=>x:=by
 unfold qI
 cases(bM 47 y).2.2 <;>cases(l9 (bM 47 y).1).2 <;>cases(l9 (bM 47 y).2.1).2 <;>simp
theorem DK(w s:List UInt8)(hs:s.length≤1000000)(g:List Etx.GStep→Bool→Option ρ):jS w s g=ans (gL w s) g:=by
 simp only[jS,jR,mkF];rw[LM s (by omega)]
 have hl:=Au 32 s;have hc:s.count 32≤s.length:=List.count_le_length;have hm:=Ik 32 s;unfold gL;obtain⟨f,r,e⟩:=Fh 32 s;rw[e]at hl hm ⊢
 simp only[yE,xS,xZ,List.tail_cons,Nat.add_sub_cancel,List.take_length]at hl ⊢
 by_cases hf:f=w
 ·rw[if_pos hf,if_pos hf,if_pos (by omega)]
  refine(ir (fun v:Int×List Etx.GStep=>∃j:Nat,v.1=j∧j≤r.length∧v.2.length≤j) (fun v=>ans ((pf (r.drop v.1.toNat)).map (v.2++·)) g) (fun v=>(r.length - v.1).toNat) (fun v k hI hk=> ?_) (v:=(0,[])) ⟨0,rfl,by omega,by simp⟩).trans ?_
  ·obtain⟨i,out⟩:=v
   obtain⟨j,h1,h2,h3⟩:=hI;simp only at h1 h2 h3 hk ⊢
   subst h1
   by_cases hj:j<r.length
   ·rw[if_pos (by omega),if_pos (by omega),xV,xG hj,xS]
    have hy:=hm r[j] (by simp)
    rw[LL _ (by omega)]
    have hcl:=yq 47 r[j];have ho:(out.length+1) * 16≤140737488355328∧out.length≤9223372036854775806:=by omega
    rw[if_pos (by omega),if_pos (by omega),if_pos ho,←List.getElem_cons_drop hj,LN]
    rw[LO (h:=fun z=>k (IntKind.i64.wrap ((j:Int)+1),out++[z]))]
    cases qI r[j]with
    |none=>rfl
    |some z=>
     simp only
     rw[aP (by omega),hk _ ⟨j+1,rfl,by omega,by simp;omega⟩ (by simp only;omega)]
     simp only[xV]
   ·rw[if_neg (by omega),xV,List.drop_of_length_le (by omega)]
    simp[pf,ans]
  ·show ans ((pf r).map ([]++·)) g=ans (pf r) g
   cases pf r <;>rfl
 ·rw[if_neg hf,if_neg hf];rfl
def wS:List UInt8:=[115,116,101,109]
def wL:List UInt8:=[108,111,111,112]
def tw(s:List UInt8):List Etx.GStep×List Etx.GStep×Int×Int:=
 if(20000:Int)<s.length then([],[],0,5)else
 if(bM 10 s).2.2=false then([],[],0,4)else
 match gL wS (bM 10 s).1 with
 |none=>([],[],0,3)
 |some a=>
  if(bM 10 (bM 10 s).2.1).2.2=false then([],[],1,4)else
  match gL wL (bM 10 (bM 10 s).2.1).1 with
  |none=>([],[],1,3)
  |some b=>if(bM 10 (bM 10 s).2.1).2.1=[]then(a,b,0,0)else([],[],2,5)
def at4(g:List Etx.GStep→List Etx.GStep→Int→Int→Option ρ)(x:List Etx.GStep×List Etx.GStep×Int×Int):Option ρ:=g x.1 x.2.1 x.2.2.1 x.2.2.2
theorem Parse_eq(s:List UInt8)(g:List Etx.GStep→List Etx.GStep→Int→Int→Option ρ):eg s g=at4 g (tw s):=by
 simp only[eg,jT,mkF];unfold tw
 by_cases hs:(20000:Int)<s.length
 ·rw[if_pos hs,if_pos hs];rfl
 ·rw[if_neg hs,if_neg hs,DJ s (by omega)]
  have h1:=yq 10 s
  by_cases h2:(bM 10 s).2.2=false
  ·rw[if_pos h2,if_pos h2];rfl
  ·rw[if_neg h2,if_neg h2,DK _ _ (by omega)]
   show ans (gL wS (bM 10 s).1) _=_
   cases gL wS (bM 10 s).1 with
   |none=>rfl
   |some a=>
    simp only[ans];rw[if_neg (by simp),DJ _ (by omega)]
    have h3:=yq 10 (bM 10 s).2.1
    by_cases h4:(bM 10 (bM 10 s).2.1).2.2=false
    ·rw[if_pos h4,if_pos h4];rfl
    ·rw[if_neg h4,if_neg h4,DK _ _ (by omega)]
     show ans (gL wL (bM 10 (bM 10 s).2.1).1) _=_
     cases gL wL (bM 10 (bM 10 s).2.1).1 with
     |none=>rfl
     |some b=>
      simp only[ans];rw[if_neg (by simp)]
      by_cases h5:(bM 10 (bM 10 s).2.1).2.1=[]
      ·rw[if_pos h5,if_pos h5];rfl
      ·rw[if_neg h5,if_neg h5];rfl
end
end Go.Etq
namespace Go.Etq
open Go Go.Am Go.Etx Go.Tr7
set_option maxRecDepth 20000
def tlZ(n:Nat):List UInt8:=(List.replicate n (((0:Int),(0:Int)))).flatMap FJ
theorem RF:tlZ 0=[]:=rfl
theorem LP(n:Nat):tlZ (n+1)=32::([48,47,48]++tlZ n):=by
 have h:FJ ((0:Int),(0:Int))=[32,48,47,48]:=by
  show 32::(zd 0++47::zd 0)=_;rw[show zd 0=[48]by decide]
  rfl
 simp only[tlZ,List.replicate_succ,List.flatMap_cons,h];rfl
theorem headF_z(w:List UInt8)(n:Nat):headF w (List.replicate n ((0:Int),(0:Int)))=w++tlZ n:=rfl
theorem tlZ_len(n:Nat):(tlZ n).length=4 * n:=by
 induction n with
 |zero=>rfl
 |succ n ih=>rw[LP];simp[ih];omega
theorem UI(n:Nat):(10:UInt8)∉tlZ n:=by
 induction n with
 |zero=>simp[RF]
 |succ n ih=>rw[LP];simp[ih]
theorem P7(n:Nat):∀{a:List UInt8},(32:UInt8)∉a→cV 32 (a++tlZ n)=a::List.replicate n [48,47,48]:=by
 induction n with
 |zero=>intro a ha;rw[RF,List.append_nil,ko ha];rfl
 |succ n ih=>
  intro a ha;rw[LP,nW ha,ih (by decide)]
  rfl
theorem P8:qI [48,47,48]=some ⟨0,0⟩:=by decide
theorem afM(n:Nat):pf (List.replicate n [48,47,48])=some (List.replicate n ⟨0,0⟩):=by
 induction n with
 |zero=>rfl
 |succ n ih=>
  simp only[List.replicate_succ,pf,P8,ih];rfl
def textZ(n:Nat):List UInt8:=headF wS []++10::(headF wL (List.replicate n ((0:Int),(0:Int)))++[10])
theorem textZ_len(n:Nat):(textZ n).length=10+4 * n:=by
 unfold textZ;rw[headF_z];simp[tlZ_len,headF,wS,wL];omega
theorem parse_z{n:Nat}(hn:10+4 * n≤20000):tw (textZ n)=([],List.replicate n ⟨0,0⟩,0,0):=by
 have h1:gL wS wS=some []:=by
  simp only[gL,ko (show(32:UInt8)∉wS by decide)]
  rfl
 have h2:gL wL (wL++tlZ n)=some (List.replicate n ⟨0,0⟩):=by
  simp only[gL,P7 n (show(32:UInt8)∉wL by decide)]
  simp only[if_true,afM]
 have hno:(10:UInt8)∉wL++tlZ n:=fun h=>(List.mem_append.1 h).elim (by decide) (UI n)
 have hl:=textZ_len n;unfold tw;rw[if_neg (by rw[hl];omega)]
 have c1:bM 10 (textZ n)=(wS,wL++tlZ n++[10],true):=r9 (a:=wS) (by decide)
 rw[c1];simp only[Bool.true_eq_false,if_false,h1];rw[r9 (b:=[]) hno];simp only[Bool.true_eq_false,if_false,h2,if_true]
theorem parse_zl{n:Nat}(hn:20000<10+4 * n):tw (textZ n)=([],[],0,5):=by
 unfold tw;rw[if_pos (by rw[textZ_len];omega)]
end Go.Etq
namespace Go.Etx
open Go Go.Am Go.Proofs
set_option maxHeartbeats 4000000
set_option maxRecDepth 20000
attribute [-simp] List.map_append List.map_take List.map_drop List.map_set
abbrev why(m:GModel):Int:=((lL m).getD (0,0,0,0)).1
theorem LQ{ρ:Type}(m:GModel)(h:MoOk m)(hE:MoE m)(l:List GStep)(κ:KT ρ):cbK (call 13 [moD m,.agg [.sl false (List.map cf l),.sl false []]] []) κ=κ ([.d (.sl false []),.d (.sl false []),.d (.int .i64 (if why m=0 then 8 else 2))],[]):=by
 refine(aeO _ _ _ rfl).trans ?_
 have hc:=fun κ=>P3 (ρ:=ρ) m h hE κ
 by_cases hw:why m=0
 ·rw[if_pos hw]
  simp only[why]at hw
  simp -implicitDefEqProofs [go_sem,hc,hw]
 ·rw[if_neg hw]
  simp only[why]at hw
  simp -implicitDefEqProofs [go_sem,hc,hw]
theorem LR{ρ:Type}(m:GModel)(h:MoOk m)(hE:MoE m)(l:List GStep)(κ:KT ρ):cbK (call 8 [moD m,.agg [.sl false (List.map cf l),.sl false []]] []) κ=κ ([.d (.int .i64 (if why m=0 then 8 else 2))],[]):=by
 refine(ge8 _ _ _ rfl).trans ?_
 have hc:=fun κ=>LQ (ρ:=ρ) m h hE l κ
 simp -implicitDefEqProofs [go_sem,hc]
def yr(c:GCmd)(i:Nat):Bool:=match c.Acts[i]? with |some a=>decide (a.Index.length≤60)&&decide (a.Value.length≤60) |none=>true
def tz(c:GCmd):Bool:=decide (c.Name.length≤60)&&decide (c.Guard.length≤60)&&decide (c.Acts.length≤12)&&decide (∀i,i<c.Acts.length→yr c i=true)
def yt(p:GProc)(i:Nat):Bool:=match p.Cmds[i]? with |some c=>tz c |none=>true
def yu(m:GModel)(i:Nat):Bool:=match m.Procs[i]? with |some p=>decide (p.Vars.length≤10)&&decide (p.Cmds.length≤16)&&decide (∀i,i<p.Cmds.length→yt p i=true) |none=>true
def tA(m:GModel)(i:Nat):Bool:=match m.Props[i]? with |some p=>decide (p.Expr.length≤60) |none=>true
def yw(m:GModel):Bool:=decide (m.Scalars.length≤8)&&decide (m.Vars.length≤20)&&decide (m.Chans.length≤8)&&decide (m.Procs.length≤10)&&decide (m.Props.length≤16)&&decide (∀i,i<m.Procs.length→yu m i=true)&&decide (∀i,i<m.Props.length→tA m i=true)
theorem UJ{ρ:Type}{c:GCmd}{g:Bool→Option ρ}:nN c g=g (tz c):=by
 simp only[nN,nM,mkF];unfold tz
 by_cases h1:60<c.Name.length
 ·simp[h1,show(60:Int)<(c.Name.length:Int)by omega,show¬(c.Name.length≤60)by omega]
 by_cases h2:60<c.Guard.length
 ·simp[h1,h2,show¬(60:Int)<(c.Name.length:Int)by omega,show(60:Int)<(c.Guard.length:Int)by omega,show¬(c.Guard.length≤60)by omega]
 by_cases h3:12<c.Acts.length
 ·simp[h1,h2,h3,show¬(60:Int)<(c.Name.length:Int)by omega,show¬(60:Int)<(c.Guard.length:Int)by omega,show(12:Int)<(c.Acts.length:Int)by omega,show¬(c.Acts.length≤12)by omega]
 simp only[show¬(60:Int)<(c.Name.length:Int)by omega,show¬(60:Int)<(c.Guard.length:Int)by omega,show¬(12:Int)<(c.Acts.length:Int)by omega,show c.Name.length≤60 by omega,show c.Guard.length≤60 by omega,show c.Acts.length≤12 by omega,if_false,decide_true,Bool.true_and]
 refine(Go.Am.iterC_all (τ:=Int) c.Acts.length (fun i:Nat=>(i:Int)) (yr c) (g false) (g true) (fun i k hi=> ?_) (fun k=>by simp)).trans ?_
 ·simp only[show(i:Int)<(c.Acts.length:Int)by omega,show(0:Int)≤(i:Int)by omega,if_true,xV,xG hi,xS,yr,aP (show i<4611686018427387904 by omega)]
  by_cases k1:60<c.Acts[i].Index.length
  ·simp[show(60:Int)<(c.Acts[i].Index.length:Int)by omega,show¬(c.Acts[i].Index.length≤60)by omega]
  by_cases k2:60<c.Acts[i].Value.length
  ·simp[show¬(60:Int)<(c.Acts[i].Index.length:Int)by omega,show(c.Acts[i].Index.length≤60)by omega,show(60:Int)<(c.Acts[i].Value.length:Int)by omega,show¬(c.Acts[i].Value.length≤60)by omega]
  simp[show¬(60:Int)<(c.Acts[i].Index.length:Int)by omega,show(c.Acts[i].Index.length≤60)by omega,show¬(60:Int)<(c.Acts[i].Value.length:Int)by omega,show(c.Acts[i].Value.length≤60)by omega]
 ·by_cases hA:∀i,i<c.Acts.length→yr c i=true
  ·rw[if_pos hA,decide_eq_true hA]
  ·rw[if_neg hA,decide_eq_false hA]
theorem LS{ρ:Type}{m:GModel}{g:Bool→Option ρ}:nQ m g=g (yw m):=by
 simp only[nQ,nP,mkF,UJ];unfold yw
 by_cases h1:8<m.Scalars.length
 ·simp[show(8:Int)<(m.Scalars.length:Int)by omega,show¬(m.Scalars.length≤8)by omega]
 by_cases h2:20<m.Vars.length
 ·simp[show¬(8:Int)<(m.Scalars.length:Int)by omega,show(20:Int)<(m.Vars.length:Int)by omega,show¬(m.Vars.length≤20)by omega]
 by_cases h3:8<m.Chans.length
 ·simp[show¬(8:Int)<(m.Scalars.length:Int)by omega,show¬(20:Int)<(m.Vars.length:Int)by omega,show(8:Int)<(m.Chans.length:Int)by omega,show¬(m.Chans.length≤8)by omega]
 by_cases h4:10<m.Procs.length
 ·simp[show¬(8:Int)<(m.Scalars.length:Int)by omega,show¬(20:Int)<(m.Vars.length:Int)by omega,show¬(8:Int)<(m.Chans.length:Int)by omega,show(10:Int)<(m.Procs.length:Int)by omega,show¬(m.Procs.length≤10)by omega]
 by_cases h5:16<m.Props.length
 ·simp[show¬(8:Int)<(m.Scalars.length:Int)by omega,show¬(20:Int)<(m.Vars.length:Int)by omega,show¬(8:Int)<(m.Chans.length:Int)by omega,show¬(10:Int)<(m.Procs.length:Int)by omega,show(16:Int)<(m.Props.length:Int)by omega,show¬(m.Props.length≤16)by omega]
 simp only[show¬(8:Int)<(m.Scalars.length:Int)by omega,show¬(20:Int)<(m.Vars.length:Int)by omega,show¬(8:Int)<(m.Chans.length:Int)by omega,show¬(10:Int)<(m.Procs.length:Int)by omega,show¬(16:Int)<(m.Props.length:Int)by omega,show m.Scalars.length≤8 by omega,show m.Vars.length≤20 by omega,show m.Chans.length≤8 by omega,show m.Procs.length≤10 by omega,show m.Props.length≤16 by omega,if_false,decide_true,Bool.true_and]
 have hR:dD (ρ:=ρ) (fun(v:Int) k=>if v<(m.Props.length:Int)then if 0≤v then(m.Props[v.toNat]?).bind fun y=>if 60<(y.Expr.length:Int)then g false else k (IntKind.i64.wrap (v+1))else none else g true) 0=if ∀i,i<m.Props.length→tA m i=true then g true else g false:=by
  refine Go.Am.iterC_all (τ:=Int) m.Props.length (fun i:Nat=>(i:Int)) (tA m) (g false) (g true) (fun i k hi=> ?_) (fun k=>by simp)
  simp only[show(i:Int)<(m.Props.length:Int)by omega,show(0:Int)≤(i:Int)by omega,if_true,xV,xG hi,xS,tA,aP (show i<4611686018427387904 by omega)]
  by_cases k1:60<m.Props[i].Expr.length
  ·simp[show(60:Int)<(m.Props[i].Expr.length:Int)by omega,show¬(m.Props[i].Expr.length≤60)by omega]
  ·simp[show¬(60:Int)<(m.Props[i].Expr.length:Int)by omega,show(m.Props[i].Expr.length≤60)by omega]
 rw[hR]
 refine(Go.Am.iterC_all (τ:=Int) m.Procs.length (fun i:Nat=>(i:Int)) (yu m) (g false) (if ∀i,i<m.Props.length→tA m i=true then g true else g false) (fun i k hi=> ?_) (fun k=>by simp)).trans ?_
 ·simp only[show(i:Int)<(m.Procs.length:Int)by omega,show(0:Int)≤(i:Int)by omega,if_true,xV,xG hi,xS,yu,aP (show i<4611686018427387904 by omega)]
  by_cases k1:10<m.Procs[i].Vars.length
  ·simp[show(10:Int)<(m.Procs[i].Vars.length:Int)by omega,show¬(m.Procs[i].Vars.length≤10)by omega]
  by_cases k2:16<m.Procs[i].Cmds.length
  ·simp[show¬(10:Int)<(m.Procs[i].Vars.length:Int)by omega,show(16:Int)<(m.Procs[i].Cmds.length:Int)by omega,show¬(m.Procs[i].Cmds.length≤16)by omega]
  simp only[show¬(10:Int)<(m.Procs[i].Vars.length:Int)by omega,show¬(16:Int)<(m.Procs[i].Cmds.length:Int)by omega,if_false,show m.Procs[i].Vars.length≤10 by omega,show m.Procs[i].Cmds.length≤16 by omega,decide_true,Bool.true_and]
  refine(Go.Am.iterC_all (τ:=Int) m.Procs[i].Cmds.length (fun i:Nat=>(i:Int)) (yt m.Procs[i]) (g false) (k ((i+1:Nat):Int)) (fun j k' hj=> ?_) (fun k'=>by simp)).trans ?_
  ·simp only[show(j:Int)<(m.Procs[i].Cmds.length:Int)by omega,show(0:Int)≤(j:Int)by omega,if_true,xV,xG hj,xS,yt,aP (show j<4611686018427387904 by omega)]
   cases tz m.Procs[i].Cmds[j] <;>simp
  ·by_cases hA:∀j,j<m.Procs[i].Cmds.length→yt m.Procs[i] j=true
   ·rw[if_pos hA,decide_eq_true hA,if_pos rfl]
   ·rw[if_neg hA,decide_eq_false hA,if_neg (by decide)]
 ·by_cases hA:∀i,i<m.Procs.length→yu m i=true
  ·rw[if_pos hA,decide_eq_true hA,Bool.true_and]
   by_cases hB:∀i,i<m.Props.length→tA m i=true
   ·rw[if_pos hB,decide_eq_true hB]
   ·rw[if_neg hB,decide_eq_false hB]
  ·rw[if_neg hA,decide_eq_false hA,Bool.false_and]
theorem LT{m:GModel}(h:yw m=true):MoOk m∧∀p∈m.Procs,∀c∈p.Cmds,c.Acts.length≤1000:=by
 simp only[yw,xA,yD]at h
 obtain⟨⟨⟨⟨⟨⟨h1,h2⟩,h3⟩,h4⟩,h5⟩,h6⟩,h7⟩:=h
 have hp:∀p∈m.Procs,p.Vars.length≤10∧p.Cmds.length≤16∧∀c∈p.Cmds,tz c=true:=fun p hp=>by
  obtain⟨i,hi,rfl⟩:=List.getElem_of_mem hp
  have:=h6 i hi
  simp only[yu,xG hi,xA,yD]at this
  refine⟨this.1.1,this.1.2,fun c hc=> ?_⟩
  obtain⟨j,hj,rfl⟩:=List.getElem_of_mem hc;have h8:=this.2 j hj
  simpa only[yt,xG hj]using h8
 have hc:∀p∈m.Procs,∀c∈p.Cmds,c.Name.length≤60∧c.Guard.length≤60∧c.Acts.length≤12∧∀a∈c.Acts,a.Index.length≤60∧a.Value.length≤60:=fun p h0 c h8=>by
  have:=(hp p h0).2.2 c h8
  simp only[tz,xA,yD]at this
  refine⟨this.1.1.1,this.1.1.2,this.1.2,fun a ha=> ?_⟩
  obtain⟨i,hi,rfl⟩:=List.getElem_of_mem ha;have h9:=this.2 i hi
  simpa only[yr,xG hi,xA,yD]using h9
 refine⟨⟨by omega,by omega,by omega,by omega,by omega,fun p h0=>⟨by have:=(hp p h0).1;omega,by have:=(hp p h0).2.1;omega,fun c h8=> ?_⟩⟩,fun p h0 c h8=>by have:=(hc p h0 c h8).2.2.1;omega⟩
 obtain⟨q1,q2,q3,q4⟩:=hc p h0 c h8
 exact⟨by omega,by omega,fun a ha=>by have:=q4 a ha;omega⟩
end Go.Etx
namespace Go.Am
open Go
variable{P:Program}{hints:FuncId→Hint}
def Aw(P:Program)(hint:FuncId→Hint)(c:ak)(n:Nat)(f:FuncId)(ds:List D)(H:List Ob):Option (List T×List Ob):=
 if YB≤f then pO P c hint n (f - YB) ds H else
 match (hint f).ext with
 |some F=>(F ds).bind fun rs=>if aQ rs=true then none else some (rs,H)
 |none=>
 (P.funcs[f]?).bind fun fn=>fn.body.bind fun cd=>
  if ds.length=fn.params.size+fn.nfree∧aD fn.ntmps cd=true∧(fn.name== "runtime.NumGoroutine")=false then
   if(hint f).rcv=true then(yU P c hint n f cd fn.ntmps (enter ds H)).bind (cJ P (hint f).own fn H.length)
   else if(decide ((hint f).nilt≠0)&&cK ds)=true then
    wh H.length (Ft (hint f) ds) ((aB P c (hint f) n cd (jm true H)).bind (cJ P (hint f).own fn H.length)) ((aB P c (hint f) n cd (jm false H)).bind (cJ P (hint f).own fn H.length))
   else(aB P c (hint f) n cd (enter ds H)).bind (cJ P (hint f).own fn H.length)
  else if ds.length+1=fn.params.size+fn.nfree∧aD fn.ntmps cd=true∧(fn.name== "runtime.NumGoroutine")=false then
   (Fs H).bind fun es=>(aB P c (hint f) n cd (pM es ds)).bind (cJ P (hint f).own fn 0)
  else none
theorem Fi{c c':ak}(ih:cB c c'){n m:Nat}(hn:n≤m){f:FuncId}{ds:List D}{H:List Ob}{r:List T×List Ob}(e:Aw P hints c n f ds H=some r):Aw P hints c' m f ds H=some r:=by
 unfold Aw at e ⊢
 by_cases hy:YB≤f
 ·rw[if_pos hy]at e ⊢
  exact uh ih hn e
 rw[if_neg hy]at e ⊢
 split at e
 ·exact e
 simp only[xB]at e ⊢
 obtain⟨fn,h1,cd,h2,e⟩:=e
 refine⟨fn,h1,cd,h2,?_⟩
 split at e
 ·rename_i hh
  rw[if_pos hh]
  by_cases hr:(hints f).rcv=true
  ·rw[if_pos hr]at e ⊢
   simp only[xB]at e ⊢
   obtain⟨x,e1,e2⟩:=e
   exact⟨x,zW ih hn e1,e2⟩
  rw[if_neg hr]at e ⊢
  by_cases hnil:(decide ((hints f).nilt≠0)&&cK ds)=true
  ·rw[if_pos hnil]at e ⊢
   obtain⟨t1,t2,H1,H2,ht,q1,q2,l1,l2,m1,m2,rfl⟩:=pP e;simp only[xB]at q1 q2
   obtain⟨x,e1,e2⟩:=q1;obtain⟨y,e3,e4⟩:=q2;show wh H.length (Ft (hints f) ds) ((aB P c' (hints f) m cd (jm true H)).bind (cJ P (hints f).own fn H.length)) ((aB P c' (hints f) m cd (jm false H)).bind (cJ P (hints f).own fn H.length))=_;rw[az ih hn cd _ _ e1,az ih hn cd _ _ e3,xS,xS,e2,e4];exact B8 ht l1 l2 m1 m2
  rw[if_neg hnil]at e ⊢
  simp only[xB]at e ⊢
  obtain⟨x,e1,e2⟩:=e
  exact⟨x,az ih hn cd _ _ e1,e2⟩
 ·rename_i hh
  rw[if_neg hh]
  split at e
  ·rename_i h3
   rw[if_pos h3];simp only[xB]at e ⊢
   obtain⟨es,e0,x,e1,e2⟩:=e
   exact⟨es,e0,x,az ih hn cd _ _ e1,e2⟩
  ·cases e
abbrev Memo:=List (FuncId×List D×List T)
def LU:Memo→FuncId→List D→Option (List T)
 | [],_,_=>none
 |e::K,f,ds=>if(Nat.beq e.1 f&&D.beqs e.2.1 ds)=true then some e.2.2 else LU K f ds
def Ax(P:Program)(hint:FuncId→Hint)(K:Memo):Nat→ak
 |0,_,_,_=>none
 |n+1,f,ds,H=>match H with
  | []=>match LU K f ds with
   |some rs=>some (rs,[])
   |none=>Aw P hint (Ax P hint K n) n f ds []
  |o::r=>Aw P hint (Ax P hint K n) n f ds (o::r)
def Memo.OK(P:Program)(hint:FuncId→Hint):Memo→Prop
 | []=>True
 |e::K=>aX P hint e.1 e.2.1 []=some (e.2.2,[])∧Memo.OK P hint K
theorem Gg:∀(K:Memo),K.OK P hints→∃n,∀f ds rs,LU K f ds=some rs→aR P hints n f ds []=some (rs,[])
 | [],_=>⟨0,fun _ _ _ h=>by cases h⟩
 |e::K,h=>by
  obtain⟨n,hn⟩:=Gg K h.2;obtain⟨m,hm⟩:=cx.1 h.1
  refine⟨max n m,fun f ds rs q=> ?_⟩
  unfold LU at q
  split at q
  ·rename_i hh
   simp only[xA,xJ]at hh q
   obtain⟨h1,h2⟩:=hh;have h1:=Nat.eq_of_beq_eq_true h1;have h2:=D.beqs_eq _ _ h2;subst h1;subst h2;subst q;exact aM (Nat.le_max_right _ _) _ _ _ _ hm
  ·exact aM (Nat.le_max_left _ _) _ _ _ _ (hn f ds rs q)
theorem DL{K:Memo}{N:Nat}(h:∀f ds rs,LU K f ds=some rs→aR P hints N f ds []=some (rs,[])):∀n,cB (Ax P hints K n) (aR P hints (N+n))
 |0=>fun f ds H r e=>by cases e
 |n+1=>fun f ds H r e=>by
  have ih:=DL h n
  have key:∀H,Aw P hints (Ax P hints K n) n f ds H=some r→aR P hints (N+(n+1)) f ds H=some r:=fun H e=>
   Fi (c':=aR P hints (N+n)) ih (Nat.le_add_left n N) e
  cases H with
  |nil=>
   simp only[Ax]at e
   split at e
   ·rename_i rs hm
    simp only[xJ]at e
    subst e;exact aM (Nat.le_add_right N (n+1)) _ _ _ _ (h f ds rs hm)
   ·exact key _ e
  |cons o H=>exact key _ e
theorem ce{f:FuncId}{ds:List D}{H:List Ob}{r:List T×List Ob}(K:Memo)(hK:K.OK P hints)(n:Nat)(e:Ax P hints K n f ds H=some r):aX P hints f ds H=some r:=by
 obtain⟨N,hN⟩:=Gg K hK;exact cx.2 ⟨N+n,DL hN n f ds H r e⟩
end Go.Am
namespace Go.Etx
open Go Go.Am Go.Proofs
set_option maxRecDepth 20000
def m0:FuncId×List D×List T:=(72,[.agg [.str [80],.int .i64 (0),.int .i64 (2),.sl true [],.sl true [.agg [.str [103,111],.int .i64 (0),.int .i64 (1),.sl true [],.sl true [],.bool false],.agg [.str [98,97,99,107],.int .i64 (1),.int .i64 (0),.sl true [],.sl true [],.bool false]]],.agg [.sl true [],.sl true [],.sl true [],.sl true [.agg [.str [80],.int .i64 (0),.int .i64 (2),.sl true [],.sl true [.agg [.str [103,111],.int .i64 (0),.int .i64 (1),.sl true [],.sl true [],.bool false],.agg [.str [98,97,99,107],.int .i64 (1),.int .i64 (0),.sl true [],.sl true [],.bool false]]]],.sl true [],.int .i64 (0)]],[.d (.int .i64 (0)),.d (.int .i64 (0)),.d (.int .i64 (0))])
theorem M0:call m0.1 m0.2.1 []=some (m0.2.2,[]):=ce [] trivial 60 (by kernel_rfl)
def m1:FuncId×List D×List T:=(22,[.agg [.sl true [],.sl true [],.sl true [],.sl true [.agg [.str [80],.int .i64 (0),.int .i64 (2),.sl true [],.sl true [.agg [.str [103,111],.int .i64 (0),.int .i64 (1),.sl true [],.sl true [],.bool false],.agg [.str [98,97,99,107],.int .i64 (1),.int .i64 (0),.sl true [],.sl true [],.bool false]]]],.sl true [.agg [.str [112],.sl true [.agg [.int .i64 (7),.int .i64 (1)],.agg [.int .i64 (1),.int .i64 (1)],.agg [.int .i64 (14),.int .i64 (0)]]]]]],[.d (.agg [.int .i64 (0),.int .i64 (0),.int .i64 (0),.int .i64 (0)])])
theorem M1:call m1.1 m1.2.1 []=some (m1.2.2,[]):=ce [m0] ⟨M0,trivial⟩ 60 (by kernel_rfl)
def m2:FuncId×List D×List T:=(79,[.agg [.sl true [],.sl true [],.sl true [],.sl true [.agg [.str [80],.int .i64 (0),.int .i64 (2),.sl true [],.sl true [.agg [.str [103,111],.int .i64 (0),.int .i64 (1),.sl true [],.sl true [],.bool false],.agg [.str [98,97,99,107],.int .i64 (1),.int .i64 (0),.sl true [],.sl true [],.bool false]]]],.sl true [.agg [.str [112],.sl true [.agg [.int .i64 (7),.int .i64 (1)],.agg [.int .i64 (1),.int .i64 (1)],.agg [.int .i64 (14),.int .i64 (0)]]]]],.sl true [.int .i64 (0)]],[.d (.sl false [.agg [.int .i64 (0),.int .i64 (0),.sl false [.int .i64 (1)]]])])
theorem M2:call m2.1 m2.2.1 []=some (m2.2.2,[]):=ce [m1] ⟨M1,trivial⟩ 60 (by kernel_rfl)
def m3:FuncId×List D×List T:=(79,[.agg [.sl true [],.sl true [],.sl true [],.sl true [.agg [.str [80],.int .i64 (0),.int .i64 (2),.sl true [],.sl true [.agg [.str [103,111],.int .i64 (0),.int .i64 (1),.sl true [],.sl true [],.bool false],.agg [.str [98,97,99,107],.int .i64 (1),.int .i64 (0),.sl true [],.sl true [],.bool false]]]],.sl true [.agg [.str [112],.sl true [.agg [.int .i64 (7),.int .i64 (1)],.agg [.int .i64 (1),.int .i64 (1)],.agg [.int .i64 (14),.int .i64 (0)]]]]],.sl true [.int .i64 (1)]],[.d (.sl false [.agg [.int .i64 (1),.int .i64 (0),.sl false [.int .i64 (0)]]])])
theorem M3:call m3.1 m3.2.1 []=some (m3.2.2,[]):=ce [m1] ⟨M1,trivial⟩ 60 (by kernel_rfl)
def m4:FuncId×List D×List T:=(13,[.agg [.sl true [],.sl true [],.sl true [],.sl true [.agg [.str [80],.int .i64 (0),.int .i64 (2),.sl true [],.sl true [.agg [.str [103,111],.int .i64 (0),.int .i64 (1),.sl true [],.sl true [],.bool false],.agg [.str [98,97,99,107],.int .i64 (1),.int .i64 (0),.sl true [],.sl true [],.bool false]]]],.sl true [.agg [.str [112],.sl true [.agg [.int .i64 (7),.int .i64 (1)],.agg [.int .i64 (1),.int .i64 (1)],.agg [.int .i64 (14),.int .i64 (0)]]]]],.agg [.sl true [],.sl true [.agg [.int .i64 (0),.int .i64 (0)],.agg [.int .i64 (1),.int .i64 (0)]]]],[.d (.sl false []),.d (.sl false [.sl false [.int .i64 (0)],.sl false [.int .i64 (1)]]),.d (.int .i64 (0))])
theorem M4:call m4.1 m4.2.1 []=some (m4.2.2,[]):=ce [m1,m2,m3] ⟨M1,M2,M3,trivial⟩ 60 (by kernel_rfl)
def m5:FuncId×List D×List T:=(38,[.agg [.sl true [],.sl true [],.sl true [],.sl true [.agg [.str [80],.int .i64 (0),.int .i64 (2),.sl true [],.sl true [.agg [.str [103,111],.int .i64 (0),.int .i64 (1),.sl true [],.sl true [],.bool false],.agg [.str [98,97,99,107],.int .i64 (1),.int .i64 (0),.sl true [],.sl true [],.bool false]]]],.sl true [.agg [.str [112],.sl true [.agg [.int .i64 (7),.int .i64 (1)],.agg [.int .i64 (1),.int .i64 (1)],.agg [.int .i64 (14),.int .i64 (0)]]]]],.sl true [.int .i64 (0)]],[.d (.int .u64 (0)),.d (.int .i64 (0))])
theorem M5:call m5.1 m5.2.1 []=some (m5.2.2,[]):=ce [m1] ⟨M1,trivial⟩ 60 (by kernel_rfl)
def m6:FuncId×List D×List T:=(38,[.agg [.sl true [],.sl true [],.sl true [],.sl true [.agg [.str [80],.int .i64 (0),.int .i64 (2),.sl true [],.sl true [.agg [.str [103,111],.int .i64 (0),.int .i64 (1),.sl true [],.sl true [],.bool false],.agg [.str [98,97,99,107],.int .i64 (1),.int .i64 (0),.sl true [],.sl true [],.bool false]]]],.sl true [.agg [.str [112],.sl true [.agg [.int .i64 (7),.int .i64 (1)],.agg [.int .i64 (1),.int .i64 (1)],.agg [.int .i64 (14),.int .i64 (0)]]]]],.sl true [.int .i64 (1)]],[.d (.int .u64 (1)),.d (.int .i64 (0))])
theorem M6:call m6.1 m6.2.1 []=some (m6.2.2,[]):=ce [m1] ⟨M1,trivial⟩ 60 (by kernel_rfl)
def m7:FuncId×List D×List T:=(72,[.agg [.str [80],.int .i64 (0),.int .i64 (2),.sl false [],.sl false [.agg [.str [103,111],.int .i64 (0),.int .i64 (1),.sl false [],.sl false [],.bool false],.agg [.str [98,97,99,107],.int .i64 (1),.int .i64 (0),.sl false [],.sl false [],.bool false]]],.agg [.sl false [],.sl false [],.sl false [],.sl false [.agg [.str [80],.int .i64 (0),.int .i64 (2),.sl false [],.sl false [.agg [.str [103,111],.int .i64 (0),.int .i64 (1),.sl false [],.sl false [],.bool false],.agg [.str [98,97,99,107],.int .i64 (1),.int .i64 (0),.sl false [],.sl false [],.bool false]]]],.sl false [],.int .i64 (0)]],[.d (.int .i64 (0)),.d (.int .i64 (0)),.d (.int .i64 (0))])
theorem M7:call m7.1 m7.2.1 []=some (m7.2.2,[]):=ce [] trivial 60 (by kernel_rfl)
def m8:FuncId×List D×List T:=(22,[.agg [.sl false [],.sl false [],.sl false [],.sl false [.agg [.str [80],.int .i64 (0),.int .i64 (2),.sl false [],.sl false [.agg [.str [103,111],.int .i64 (0),.int .i64 (1),.sl false [],.sl false [],.bool false],.agg [.str [98,97,99,107],.int .i64 (1),.int .i64 (0),.sl false [],.sl false [],.bool false]]]],.sl false [.agg [.str [112],.sl false [.agg [.int .i64 (7),.int .i64 (1)],.agg [.int .i64 (1),.int .i64 (1)],.agg [.int .i64 (14),.int .i64 (0)]]]]]],[.d (.agg [.int .i64 (0),.int .i64 (0),.int .i64 (0),.int .i64 (0)])])
theorem M8:call m8.1 m8.2.1 []=some (m8.2.2,[]):=ce [m7] ⟨M7,trivial⟩ 60 (by kernel_rfl)
def m9:FuncId×List D×List T:=(79,[.agg [.sl false [],.sl false [],.sl false [],.sl false [.agg [.str [80],.int .i64 (0),.int .i64 (2),.sl false [],.sl false [.agg [.str [103,111],.int .i64 (0),.int .i64 (1),.sl false [],.sl false [],.bool false],.agg [.str [98,97,99,107],.int .i64 (1),.int .i64 (0),.sl false [],.sl false [],.bool false]]]],.sl false [.agg [.str [112],.sl false [.agg [.int .i64 (7),.int .i64 (1)],.agg [.int .i64 (1),.int .i64 (1)],.agg [.int .i64 (14),.int .i64 (0)]]]]],.sl false [.int .i64 (0)]],[.d (.sl false [.agg [.int .i64 (0),.int .i64 (0),.sl false [.int .i64 (1)]]])])
theorem M9:call m9.1 m9.2.1 []=some (m9.2.2,[]):=ce [m8] ⟨M8,trivial⟩ 60 (by kernel_rfl)
def m10:FuncId×List D×List T:=(13,[.agg [.sl true [],.sl true [],.sl true [],.sl true [.agg [.str [80],.int .i64 (0),.int .i64 (2),.sl true [],.sl true [.agg [.str [103,111],.int .i64 (0),.int .i64 (1),.sl true [],.sl true [],.bool false],.agg [.str [98,97,99,107],.int .i64 (1),.int .i64 (0),.sl true [],.sl true [],.bool false]]]],.sl true [.agg [.str [112],.sl true [.agg [.int .i64 (7),.int .i64 (1)],.agg [.int .i64 (1),.int .i64 (1)],.agg [.int .i64 (14),.int .i64 (0)]]]]],.agg [.sl true [],.sl true [.agg [.int .i64 (0),.int .i64 (0)]]]],[.d (.sl false []),.d (.sl false []),.d (.int .i64 (18))])
theorem M10:call m10.1 m10.2.1 []=some (m10.2.2,[]):=ce [m1,m2] ⟨M1,M2,trivial⟩ 60 (by kernel_rfl)
def m11:FuncId×List D×List T:=(5,[],[.d (.bool true)])
theorem M11:call m11.1 m11.2.1 []=some (m11.2.2,[]):=ce [m4,m5,m6,m8,m9,m10] ⟨M4,M5,M6,M8,M9,M10,trivial⟩ 60 (by kernel_rfl)
theorem zh:call 5 [] []=some ([.d (.bool true)],[]):=M11
@[go_sem] theorem MB{ρ:Type}(κ:List T×List Ob→Option ρ):cbK (call 5 [] []) κ=κ ([.d (.bool true)],[]):=by rw[zh];rfl
set_option maxHeartbeats 4000000
attribute [-simp] List.map_append List.map_take List.map_drop List.map_set
theorem DM{ρ:Type}(m:GModel)(hE:∀p∈m.Procs,∀c∈p.Cmds,CmdE c)(hQ:∀p∈m.Props,∀x∈p.Expr,x.N≤9223372036854775807)(l:List GStep)(k:Int)(h0:0≤k)(h1:k≤255)(κ:KT ρ):cbK (call 3 [moD m,.sl false (List.map cf l),.int .u8 k] []) κ=κ ([.d (.bool true)],[]):=by
 refine(ge3 _ _ _ rfl).trans ?_
 have hL:=fun g=>LS (ρ:=ρ) (m:=m) (g:=g)
 by_cases hl:yw m=true
 ·obtain⟨hM,hN⟩:=LT hl
  have hME:MoE m:=⟨fun p hp=>⟨fun c hc=>⟨hE p hp c hc,hN p hp c hc⟩⟩,hQ⟩
  have ht:=fun κ=>LR (ρ:=ρ) m hM hME l κ
  have hm:=fun g=>P6 (ρ:=ρ) hM hME (g:=g)
  by_cases h40:40<(l.length:Int)
  ·simp -implicitDefEqProofs [go_sem,hL,hl,h40]
  ·obtain⟨n,hn1,hn2,hk⟩:∃n:Nat,4996≤n∧n≤5003∧IntKind.i64.wrap (4996+IntKind.i64.wrap (k.tmod 8))=(n:Int):=by
    have hm:k.tmod 8=k % 8:=by rw[Int.tmod_eq_emod_of_nonneg h0]
    refine⟨4996+(k % 8).toNat,by omega,by omega,?_⟩
    rw[hm,bt (x:=k % 8) (by omega) (by omega),bt (by omega) (by omega)]
    omega
   obtain⟨Z,hZ⟩:∃Z:List GStep,Z=List.replicate n ⟨0,0⟩:=⟨_,rfl⟩
   have hZl:Z.length=n:=by rw[hZ];simp
   have hZt:List.replicate Z.length (T.d (D.agg [D.int IntKind.i64 0,D.int IntKind.i64 0]))=tl cf Z:=by rw[hZl,hZ];simp[tl,cf,eI]
   rw[←hZl]at hk
   have hn3:Z.length≤5003:=by omega
   have hZm:List.map (fun z:GStep=>(z.Cmd,z.Way)) Z=List.replicate n ((0:Int),(0:Int)):=by rw[hZ];simp
   have hh:(Tr7.headF [108,111,111,112] (List.replicate n ((0:Int),(0:Int)))).length=4+4 * n:=by rw[Etq.headF_z,xP,Etq.tlZ_len];rfl
   obtain⟨S,hS⟩:∃S,S=Etq.textZ n:=⟨_,rfl⟩
   have hSl:S.length=10+4 * n:=by rw[hS,Etq.textZ_len]
   have hk2:Tr7.okF [108,111,111,112] (List.replicate n ((0:Int),(0:Int)))=true:=by
    unfold Tr7.okF;rw[hh];simp only[xA,yD,List.length_replicate]
    refine⟨⟨?_,by omega⟩,by omega⟩
    rw[List.all_eq_true];intro x hx;rw[List.eq_of_mem_replicate hx]
    decide
   have hk1:Tr7.okF [115,116,101,109] []=true:=by decide
   have hT:∀κ:KT ρ,cbK (aX P hints 6 [D.agg [D.sl true [],D.sl true (List.map cf Z)]] []) κ=κ ([.d (.str S)],[]):=by
    intro κ
    refine((rR (ρ:=ρ) ⟨[],Z⟩).2 true κ _ rfl).trans ?_
    simp only[rR,mkF,hZm,List.map_nil,hk1,hk2,if_true,hh];rw[if_pos (by rw[show(Tr7.headF [115,116,101,109] []).length=4 from rfl];omega),hS]
    rfl
   by_cases hbig:20000<10+4 * n
   ·have hP:∀g:List GStep→List GStep→Int→Int→Option ρ,eg S g=g [] [] 0 5:=fun g=>by rw[Etq.Parse_eq,hS,Etq.parse_zl hbig];rfl
    have hS2:(20000:Int)<(S.length:Int):=by omega
    have hS3:¬(S.length:Int)≤20000:=by omega
    simp -implicitDefEqProofs [go_sem,hL,hl,h40,ht,hm,hk,hZt,hT,hP,hS2,hS3,show 16 * (Z.length:Int)≤281474976710656 by omega,show(Z.length:Int)≤9223372036854775807 by omega]
    by_cases hw:why m=0
    ·simp[hw]
    ·simp[hw]
   ·have hP:∀g:List GStep→List GStep→Int→Int→Option ρ,eg S g=g [] Z 0 0:=fun g=>by rw[Etq.Parse_eq,hS,Etq.parse_z (by omega),hZ];rfl
    have hS2:¬(20000:Int)<(S.length:Int):=by omega
    have hS3:(S.length:Int)≤20000:=by omega
    simp -implicitDefEqProofs [go_sem,hL,hl,h40,ht,hm,hk,hZt,hT,hP,hS2,hS3,show 16 * (Z.length:Int)≤281474976710656 by omega,show(Z.length:Int)≤9223372036854775807 by omega]
    by_cases hw:why m=0
    ·simp[hw]
    ·simp[hw]
 ·rw[Bool.not_eq_true]at hl
  simp -implicitDefEqProofs [go_sem,hL,hl]
theorem LV{α:Type}(o:Option α):cbK o some=o:=by unfold cbK;cases o <;>rfl
end Go.Etx
