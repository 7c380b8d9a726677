/- A part of the proof: texts of mine, merged by a program (wip/dev/merge.py). -/
import Derived.Test.YteeabnledfmpjaaGreatDoorFn8
set_option linter.unusedSimpArgs false
set_option linter.unusedVariables false
namespace Go.Etx
open Go Go.Am Go.Proofs
set_option maxHeartbeats 4000000
set_option maxRecDepth 20000
section
attribute [-simp] List.map_append List.map_take List.map_drop List.map_set
theorem HG{ρ:Type}{p:az}{s:au}{g:Int->U ρ}:sE p s g=g (vG p s):=by
 simp only[sE,sD,mkF,lg,vG]
 by_cases a:mV p.Name=false
 .simp[a]
 by_cases b:p.aH<0
 .simp[a,b]
 by_cases h3:(s.aa.length:Int)<p.aH
 .simp[a,b,h3]
 grind
def SL(s:au)(l:J aB)(H:J Ob)(i:Int):St:=
 ⟨[(3,.loc (.l 3 0) [] 0 0),(23,.d (.sl false (List.map dH l))),(24,.d (.int .i64 l.length)),(25,.d (.int .i64 i))],[((3,0),.own [.d (scD false s)])],H⟩
def XL(s:au)(l:J aB)(H:J Ob):St:=
 ⟨[(3,.loc (.l 3 0) [] 0 0),(23,.d (.sl false (List.map dH l))),(24,.d (.int .i64 l.length)),(25,.d (.int .i64 l.length)),(26,.d (.bool false))],[((3,0),.own [.d (scD false s)])],H⟩
theorem aas{ρ:Type}(s:au)(hs:s.aq.length<=1000)(l:J aB)(hl:l.length<=1000)(H:J Ob)(i:Nat)(hi:i<l.length)(R:St->U ρ)(κ:Ex×St->U ρ):
  go P hints o8 T3 Lu.1 (SL s l H i) (kLp R κ)=if iE s l[i]=0 then R (SL s l (H++[.box (.d (dH l[i]))]) (i+1:Nat))else κ (.ret,⟨[(4,.d (.int .i64 i)),(5,.d (.int .i64 (iE s l[i])))],[],H++[.box (.d (dH l[i]))]⟩):=by
 have e:l[i]? =some l[i]:=xG hi;have g:(i:Int)<(l.length:Int):=by omega
 have f:IntKind.i64.wrap ((i:Int)+1)=((i+1:Nat):Int):=eM (by omega)
 have b:=λκ=>af0 (ρ:=ρ) s.aq hs l[i] (H++[.box (.d (dH l[i]))]) H.length (by simp) κ
 simp only[dH,eS,eI]at b
 unfold SL
 by_cases a:l[i].aH=0
 .simp only[dH,eS,eI,a]at b
  by_cases d:l[i].Name∈s.aq.map (·.Name)
  .have c:iE s l[i]=7:=by unfold iE;rw[if_neg (λq=>q a),if_pos d]
   rw[c,if_neg (by decide)]
   simp only[decide_eq_true d]at b
   simp -implicitDefEqProofs [go_sem,e,g,f,b,a]
  .have c:iE s l[i]=0:=by unfold iE;rw[if_neg (λq=>q a),if_neg d]
   rw[c,if_pos rfl];simp only[decide_eq_false d]at b
   simp -implicitDefEqProofs [go_sem,e,g,f,b,a]
 .have c:iE s l[i]=9:=by unfold iE;rw[if_pos a]
  rw[c,if_neg (by decide)]
  simp -implicitDefEqProofs [go_sem,e,g,f,a]
theorem aat{ρ:Type}(s:au)(l:J aB)(H:J Ob)(R:St->U ρ)(κ:Ex×St->U ρ):
  go P hints o8 T3 Lu.1 (SL s l H (l.length:Nat)) (kLp R κ)=κ (.exit 0,XL s l H):=by
 unfold SL XL
 simp -implicitDefEqProofs [go_sem]
theorem aau{ρ:Type}(s:au)(hs:s.aq.length<=1000)(l:J aB)(hl:l.length<=1000)(κ:Ex×St->U ρ)(A:U ρ)(B:Nat->Int->U ρ)(n:∀H,κ (.exit 0,XL s l H)=A)(h:∀i e H,κ (.ret,⟨[(4,.d (.int .i64 (i:Nat))),(5,.d (.int .i64 e))],[],H⟩)=B i e):∀(m i:Nat) (H:J Ob),l.length - i=m->i<=l.length->(∀k,k<i->eX l (iE s) k=0)->
  dG P hints o8 T3 0 (SL s l H i) κ=(dN l.length (eX l (iE s))).elim A λq=>B q.1 q.2:=by
 intro m
 induction m with
 |zero=>
  intro i H f j b
  have:i=l.length:=by omega
  subst this;rw[ap Lu.2,aat,iW b,n];rfl
 |succ m g=>
  intro i H f j b;have a:i<l.length:=by omega
  have d:eX l (iE s) i=iE s l[i]:=by simp[eX,a]
  rw[ap Lu.2,aas s hs l hl H i a]
  by_cases c:iE s l[i]=0
  .rw[if_pos c]
   exact g (i+1) _ (by omega) (by omega) λk hk=>by
    grind
  .rw[if_neg c,mB a (by rw[d];exact c) b,d,h];rfl
theorem Y4{ρ:Type}(p:az)(s:au)(hs:s.aq.length<=1000)(d:s.aa.length<=1000)(hl:p.aq.length<=1000)(κ:KT ρ):
  cbK (call 172 [prD p,scD false s] []) κ=(pu p s).elim (κ ([.d (.int .i64 0),.d (.int .i64 0)],[])) λq=>κ ([.d (.int .i64 q.1),.d (.int .i64 q.2)],[]):=by
 refine(am5 _ _ _ rfl).trans ?_
 have c:=λg=>Rs (ρ:=ρ) (n:=4) hl d (g:=g)
 simp only[show((4:Nat):Int)=4 from rfl]at c
 unfold pu
 cases b:qK p.aq s.aa 4 with
 |some q=>
  obtain⟨j,l,h3,h4⟩:=fo (i:=q.1) (e:=q.2) b
  simp -implicitDefEqProofs [go_sem,c,b,atE,h3]
 |none=>
  have a:=λκ A B f h=>aau (ρ:=ρ) s hs p.aq hl κ A B f h _ 0 [] rfl (eD _) (λk hk=>by omega)
  simp only[SL,XL,ez]at a
  simp -implicitDefEqProofs [go_sem,c,b,atE]
  rw[a _ (κ ([.d (.int .i64 0),.d (.int .i64 0)],[])) (λi e=>κ ([.d (.int .i64 i),.d (.int .i64 e)],[]))]
  .intro H
   simp -implicitDefEqProofs [go_sem]
   grind
  .intro i e H
   simp -implicitDefEqProofs [go_sem]
   grind
theorem avw:hint142.nvAt 33=1099511627776:=rfl
structure ProcE(p:az):Prop where
 c:∀c∈p.aO,CmdE c/\c.aM.length<=1000
def SQ(p:az)(s:au)(H:J Ob)(i:Int):St:=
 ⟨[(2,.loc (.l 2 0) [] 0 0),(10,.loc (.l 10 0) [] 0 0),(35,.d (.sl false (List.map (fQ false) p.aO))),(36,.d (.int .i64 p.aO.length)),(37,.d (.int .i64 i))],[((2,0),.own [.d (prD p)]),((10,0),.own [.d (scD false (innerP p s))])],H⟩
def XQ(p:az)(s:au)(H:J Ob):St:=
 ⟨[(2,.loc (.l 2 0) [] 0 0),(10,.loc (.l 10 0) [] 0 0),(35,.d (.sl false (List.map (fQ false) p.aO))),(36,.d (.int .i64 p.aO.length)),(37,.d (.int .i64 p.aO.length)),(38,.d (.bool false))],[((2,0),.own [.d (prD p)]),((10,0),.own [.d (scD false (innerP p s))])],H⟩
def RQ(a b e:Int)(H:J Ob):St:=⟨[(4,.d (.int .i64 a)),(5,.d (.int .i64 b)),(6,.d (.int .i64 e))],[],H⟩
theorem aav{ρ:Type}(p:az)(s:au)(j:s.aa.length<=1000)(hl:p.aO.length<=1000)(H:J Ob)(i:Nat)(hi:i<p.aO.length)(hc:CmdE p.aO[i])(hn:p.aO[i].aM.length<=1000)(R:St->U ρ)(κ:Ex×St->U ρ):
  go P hints hint142 T0 Ls.1 (SQ p s H i) (kLp R κ)=if(iJ p (innerP p s) i).2=0 then R (SQ p s (H++[.box (.d (fQ false p.aO[i]))]) (i+1:Nat))else κ (.ret,RQ (2+i) (iJ p (innerP p s) i).1 (iJ p (innerP p s) i).2 (H++[.box (.d (fQ false p.aO[i]))])):=by
 have b:p.aO[i]? =some p.aO[i]:=xG hi;have k:(i:Int)<(p.aO.length:Int):=by omega
 have n:(i:Int)<=(p.aO.length:Int):=by omega
 have m:i<=p.aO.length:=by omega
 have f:IntKind.i64.wrap ((i:Int)+1)=((i+1:Nat):Int):=eM (by omega)
 have g:IntKind.i64.wrap (2+(i:Int))=2+(i:Int):=dC (by omega) (by omega)
 have h:=λκ=>aqK (ρ:=ρ) p.aO[i] p (innerP p s) j hc hn κ
 have c:=λκ=>af1 (ρ:=ρ) (p.aO.take i) (by simp;omega) p.aO[i] (H++[.box (.d (fQ false p.aO[i]))]) H.length (by simp) κ
 simp only[fQ,eS,eI,eB,nT,Jt]at c
 have l:headD 6 (List.map (fQ false) (p.aO.take i))=true:=by cases p.aO.take i <;>rfl
 unfold SQ RQ
 by_cases a:(Ac p.aO[i] p (innerP p s)).2=0
 .by_cases e:p.aO[i].Name∈(p.aO.take i).map (·.Name)
  .have d:iJ p (innerP p s) i=(0,7):=by unfold iJ;rw[b];simp only;rw[if_neg (λq=>q a),if_pos e]
   simp only[decide_eq_true e]at c
   rw[d,if_neg (by decide)]
   simp -implicitDefEqProofs [go_sem,b,k,n,m,f,g,h,c,l,a]
  .have d:iJ p (innerP p s) i=(0,0):=by unfold iJ;rw[b];simp only;rw[if_neg (λq=>q a),if_neg e]
   simp only[decide_eq_false e]at c
   rw[d,if_pos rfl]
   simp -implicitDefEqProofs [go_sem,b,k,n,m,f,g,h,c,l,a]
 .have d:iJ p (innerP p s) i=Ac p.aO[i] p (innerP p s):=by unfold iJ;rw[b];simp only;rw[if_pos a]
  rw[d,if_neg a]
  simp -implicitDefEqProofs [go_sem,b,k,f,g,h,a]
theorem aaw{ρ:Type}(p:az)(s:au)(H:J Ob)(R:St->U ρ)(κ:Ex×St->U ρ):
  go P hints hint142 T0 Ls.1 (SQ p s H (p.aO.length:Nat)) (kLp R κ)=κ (.exit 0,XQ p s H):=by
 unfold SQ XQ
 simp -implicitDefEqProofs [go_sem]
theorem aax{ρ:Type}(p:az)(s:au)(d:s.aa.length<=1000)(hl:p.aO.length<=1000)(t:ProcE p)(κ:Ex×St->U ρ)(A:U ρ)(B:Nat->Int->Int->U ρ)(r:∀H,κ (.exit 0,XQ p s H)=A)(n:∀(i:Nat) b e H,κ (.ret,RQ (2+(i:Int)) b e H)=B i b e):∀(m i:Nat) (H:J Ob),p.aO.length - i=m->i<=p.aO.length->(∀k,k<i->(iJ p (innerP p s) k).2=0)->
  dG P hints hint142 T0 0 (SQ p s H i) κ=(dN p.aO.length λi=>(iJ p (innerP p s) i).2).elim A λq=>B q.1 (iJ p (innerP p s) q.1).1 q.2:=by
 intro m
 induction m with
 |zero=>
  intro i H j o c
  have:i=p.aO.length:=by omega
  subst this;rw[ap Ls.2,aaw,iW c,r];rfl
 |succ m l=>
  intro i H j o c;have a:i<p.aO.length:=by omega
  have h:=t.c _ (eO a);rw[ap Ls.2,aav p s d hl H i a h.1 h.2]
  by_cases g:(iJ p (innerP p s) i).2=0
  .rw[if_pos g]
   exact l (i+1) _ (by omega) (by omega) λk hk=>by
    grind
  .rw[if_neg g,mB (f:=λi=>(iJ p (innerP p s) i).2) a g c,n];rfl
theorem af2{ρ:Type}(p:az)(s:au)(hs:s.aq.length<=1000)(d:s.aa.length<=1000)(hl:p.aq.length<=1000)(j:p.aO.length<=1000)(n:ProcE p)(κ:KT ρ):
  cbK (call 142 [prD p,scD false s] []) κ=κ ([.d (.int .i64 (jh p s).1),.d (.int .i64 (jh p s).2.1),.d (.int .i64 (jh p s).2.2)],[]):=by
 refine(alS _ _ _ rfl).trans ?_
 have f:=λκ=>Y4 (ρ:=ρ) p s hs d hl κ
 unfold jh
 by_cases h:vG p s=0
 .cases a:pu p s with
  |some q=>
   have h3:q.2≠0:=by
    unfold pu at a
    cases g:qK p.aq s.aa 4 with
    |some r=>
     rw[g]at a
     simp only[Option.some_or,xJ]at a
     subst a
     exact(fo (i:=r.1) (e:=r.2) g).2.2.1
    |none=>
     rw[g]at a
     simp only[m8]at a
     exact(fo (i:=q.1) (e:=q.2) a).2.2.1
   simp only[a,oM]at f
   simp -implicitDefEqProofs [go_sem,f,h,h3,HG]
  |none=>
   simp only[a,kF]at f
   have c:=λκ A B m l=>aax (ρ:=ρ) p s d j n κ A B m l _ 0 [] rfl (eD _) (λk hk=>by omega)
   simp only[SQ,XQ,RQ,ez,innerP]at c
   simp -implicitDefEqProofs [go_sem,f,h,HG,avw,nz,kX,mkF]
   rw[c _ (κ ([.d (.int .i64 0),.d (.int .i64 0),.d (.int .i64 0)],[])) (λi b e=>κ ([.d (.int .i64 (2+(i:Int))),.d (.int .i64 b),.d (.int .i64 e)],[]))]
   .cases o:dN p.aO.length λi=>(iJ p (innerP p s) i).2 with
    |none=>grind [innerP]
    |some q=>grind [innerP]
   .intro H
    simp -implicitDefEqProofs [go_sem]
    grind
   .intro i b e H
    simp -implicitDefEqProofs [go_sem]
    grind
 .simp -implicitDefEqProofs [go_sem,h,HG]
theorem Rt(n:Nat):hint110.mv.contains n=false:=rfl
theorem aay{ρ:Type}(f:D)(l:J (Nm×Bool))(nm:Nm)(a b:Int)(κ:KT ρ):cbK (call 140 [.map 1,.str nm,.int .i64 a,.int .i64 b] [.box (.d f),.map (jw eS eB l)]) κ=
  if kC false l nm=true then κ (Iy (mU 7 a b 0),[.box (.d f),.map (jw eS eB l)])else κ ([],[.box (.d f),.map (jw eS eB (kS l nm true))]):=YQ f l [] nm a b rfl κ
theorem aaz{ρ:Type}(f:D)(l:J (Nm×Bool))(ks:J Nm)(nm:Nm)(a b:Int)(κ:KT ρ):cbK (call 140 [.map 1,.str nm,.int .i64 a,.int .i64 b] [.box (.d f),.map (jw eS eB l),.sset ks]) κ=
  if kC false l nm=true then κ (Iy (mU 7 a b 0),[.box (.d f),.map (jw eS eB l),.sset ks])else κ ([],[.box (.d f),.map (jw eS eB (kS l nm true)),.sset ks]):=YQ f l [.sset ks] nm a b rfl κ
attribute [go_sem] aay aaz
abbrev hG(F:D)(t:J (Nm×Bool)):J Ob:=[.box (.d F),.map (jw eS eB t)]
def SG0(m:ae)(F:D)(t:J (Nm×Bool))(i:Int):St:=
 ⟨[(1,.d (.map 1)),(2,.loc (.l 2 0) [] 0 0),(22,.d (.sl false (List.map dz m.aa))),(23,.d (.int .i64 m.aa.length)),(24,.d (.int .i64 i))],[((2,0),.own [.d (moD m)])],hG F t⟩
def XG0(m:ae)(F:D)(t:J (Nm×Bool)):St:=
 ⟨[(1,.d (.map 1)),(2,.loc (.l 2 0) [] 0 0),(22,.d (.sl false (List.map dz m.aa))),(23,.d (.int .i64 m.aa.length)),(24,.d (.int .i64 m.aa.length)),(25,.d (.bool false))],[((2,0),.own [.d (moD m)])],hG F t⟩
theorem aaA{ρ:Type}(m:ae)(F:D)(t:J (Nm×Bool))(hl:m.aa.length<=1000)(i:Nat)(hi:i<m.aa.length)(R:St->U ρ)(κ:Ex×St->U ρ):
  go P hints hint110 wP Lk.1 (SG0 m F t i) (kLp R κ)=R (SG0 m F (kS t m.aa[i].Name true) (i+1:Nat)):=by
 have a:m.aa[i]? =some m.aa[i]:=xG hi;have c:(i:Int)<(m.aa.length:Int):=by omega
 have b:IntKind.i64.wrap ((i:Int)+1)=((i+1:Nat):Int):=eM (by omega)
 unfold SG0
 simp -implicitDefEqProofs [go_sem,a,c,b]
theorem aaB{ρ:Type}(m:ae)(F:D)(t:J (Nm×Bool))(R:St->U ρ)(κ:Ex×St->U ρ):
  go P hints hint110 wP Lk.1 (SG0 m F t (m.aa.length:Nat)) (kLp R κ)=κ (.exit 0,XG0 m F t):=by
 unfold SG0 XG0
 simp -implicitDefEqProofs [go_sem]
theorem aaC{ρ:Type}(m:ae)(F:D)(hl:m.aa.length<=1000)(κ:Ex×St->U ρ):∀(n i:Nat),m.aa.length - i=n->i<=m.aa.length->
  dG P hints hint110 wP 0 (SG0 m F (tkn ((sN m).take i)) i) κ=κ (.exit 0,XG0 m F (tkn (sN m))):=by
 intro n
 induction n with
 |zero=>
  intro i d c
  have:i=m.aa.length:=by omega
  subst this;rw[ap Lk.2,aaB,gr (by simp[sN])]
 |succ n b=>
  intro i d c;have a:i<m.aa.length:=by omega
  have:=Rr (nm:=λx:aw=>x.Name) a
  simp only[sN]at b |-
  rw[ap Lk.2,aaA m F _ hl i a,this]
  grind
theorem ou{N:Nat}{f:Nat->Flt}{i:Nat}(hi:i<N)(h0:(f i).1≠0)(h:∀k,k<i->(f k).1=0):orF N f=some (f i):=by
 induction N with
 |zero=>omega
 |succ N a=>
  grind [orF,List.range_succ]
theorem wF{N:Nat}{f:Nat->Flt}(h:∀k,k<N->(f k).1=0):orF N f=none:=List.findSome?_eq_none_iff.2 λk hk=>by grind
def SG1(m:ae)(F:D)(a b:Int)(t:J (Nm×Bool))(i:Int):St:=
 ⟨[(1,.d (.map 1)),(2,.loc (.l 2 0) [] 0 0),(4,.d (.int .i64 a)),(5,.d (.int .i64 b)),(41,.d (.sl false (List.map dH m.aq))),(42,.d (.int .i64 m.aq.length)),(43,.d (.int .i64 i))],[((2,0),.own [.d (moD m)])],hG F t⟩
def XG1(m:ae)(F:D)(a b:Int)(t:J (Nm×Bool)):St:=
 ⟨[(1,.d (.map 1)),(2,.loc (.l 2 0) [] 0 0),(4,.d (.int .i64 a)),(5,.d (.int .i64 b)),(41,.d (.sl false (List.map dH m.aq))),(42,.d (.int .i64 m.aq.length)),(43,.d (.int .i64 m.aq.length)),(44,.d (.bool false))],[((2,0),.own [.d (moD m)])],hG F t⟩
theorem aaD{ρ:Type}(m:ae)(F:D)(a b:Int)(t:J (Nm×Bool))(hl:m.aq.length<=1000)(i:Nat)(hi:i<m.aq.length)(R:St->U ρ)(κ:Ex×St->U ρ)(B:Int->Int->U ρ)(h:∀e j s t,s.H=hG F t->κ (.cO (mU e 2 j 0),s)=B e j):
  go P hints hint110 wP Ll.1 (SG1 m F a b t i) (kLp R κ)=if(i:Int)=a/\b≠0 then B b i else if kC false t m.aq[i].Name=true then B 7 i else R (SG1 m F a b (kS t m.aq[i].Name true) (i+1:Nat)):=by
 have d:m.aq[i]? =some m.aq[i]:=xG hi;have f:(i:Int)<(m.aq.length:Int):=by omega
 have c:IntKind.i64.wrap ((i:Int)+1)=((i+1:Nat):Int):=eM (by omega)
 unfold SG1
 simp -implicitDefEqProofs [go_sem,d,f,c,eC (Rt _),hG]
 by_cases g:(i:Int)=a
 .grind
 grind
theorem aaE{ρ:Type}(m:ae)(F:D)(a b:Int)(t:J (Nm×Bool))(R:St->U ρ)(κ:Ex×St->U ρ):
  go P hints hint110 wP Ll.1 (SG1 m F a b t (m.aq.length:Nat)) (kLp R κ)=κ (.exit 2,XG1 m F a b t):=by
 unfold SG1 XG1
 simp -implicitDefEqProofs [go_sem]
theorem aqN{m:ae}{a b:Int}(c:(a,b)=(qK m.aq m.aa 12:U (Nat×Int)).elim (0,0) λq=>((q.1:Int),q.2)){i:Nat}(hi:i<m.aq.length)(h0:∀k,k<i->tP m.aq m.aa 12 k=0):(tP m.aq m.aa 12 i=0↔¬((i:Int)=a/\b≠0))/\(tP m.aq m.aa 12 i≠0->tP m.aq m.aa 12 i=b):=by
 cases d:(qK m.aq m.aa 12:U (Nat×Int))with
 |none=>
  rw[d]at c
  simp only[kF,pJ]at c
  obtain⟨rfl,rfl⟩:=c
  have:=gV d i hi
  grind
 |some q=>
  rw[d]at c
  simp only[oM,pJ]at c
  obtain⟨rfl,rfl⟩:=c;obtain⟨f,g,q3,q4⟩:=fo (i:=q.1) (e:=q.2) d
  grind
theorem aaF{ρ:Type}(m:ae)(F:D)(a b:Int)(v:(a,b)=(qK m.aq m.aa 12:U (Nat×Int)).elim (0,0) λq=>((q.1:Int),q.2))(hl:m.aq.length<=1000)(κ:Ex×St->U ρ)(B:Int->Int->U ρ)(A:∀e j s t,s.H=hG F t->κ (.cO (mU e 2 j 0),s)=B e j):∀(n i:Nat),m.aq.length - i=n->i<=m.aq.length->(∀k,k<i->(gvF m k).1=0)->
  dG P hints hint110 wP 1 (SG1 m F a b (tkn (sN m++(vN m).take i)) i) κ=(orF m.aq.length (gvF m)).elim (κ (.exit 2,XG1 m F a b (tkn (sN m++vN m)))) λf=>B f.1 f.2.2.1:=by
 intro n
 induction n with
 |zero=>
  intro i x E o
  have:i=m.aq.length:=by omega
  subst this;rw[ap Ll.2,aaE,gr (by simp[vN]),wF o];rfl
 |succ n y=>
  intro i x E o;have g:i<m.aq.length:=by omega
  have r:∀k,k<i->tP m.aq m.aa 12 k=0:=λk hk=>by
   grind [gvF,twF]
  obtain⟨w,G⟩:=aqN v g r;have l:(vN m).getD i []=m.aq[i].Name:=by simp[vN,g]
  have p:kS (tkn (sN m++(vN m).take i)) m.aq[i].Name true=tkn (sN m++(vN m).take (i+1)):=by
   rw[vE,xK,er (show i<(vN m).length by grind [vN])]
   simp[vN]
  have z:kC false (tkn (sN m++(vN m).take i)) m.aq[i].Name=decide (m.aq[i].Name∈sN m++(vN m).take i):=vD _ _;rw[ap Ll.2,aaD m F a b _ hl i g _ κ B A]
  by_cases h:tP m.aq m.aa 12 i=0
  .rw[if_neg (w.1 h),z]
   by_cases u:m.aq[i].Name∈sN m++(vN m).take i
   .have d:gvF m i=(7,2,(i:Int),0):=by simp only[gvF,twF,l,h];rw[if_neg (by simp),if_pos u]
    rw[if_pos (decide_eq_true u),ou g (by grind) o,d];rfl
   .have d:(gvF m i).1=0:=by simp only[gvF,twF,l,h];rw[if_neg (by simp),if_neg u]
    rw[if_neg (by grind),p]
    exact y (i+1) (by omega) (by omega) λk hk=>by
     grind
  .have d:gvF m i=(tP m.aq m.aa 12 i,2,(i:Int),0):=by simp only[gvF,twF];rw[if_pos h]
   have C:(i:Int)=a/\b≠0:=Classical.not_not.1 λc=>h (w.2 c)
   rw[if_pos C,ou g (by rw[d];exact h) o,d]
   grind
def SG2(m:ae)(F:D)(a b:Int)(t:J (Nm×Bool))(i:Int):St:=
 ⟨[(1,.d (.map 1)),(4,.d (.int .i64 a)),(5,.d (.int .i64 b)),(69,.d (.sl false (List.map dM m.ah))),(70,.d (.int .i64 m.ah.length)),(71,.d (.int .i64 i))],[],hG F t⟩
def XG2(m:ae)(F:D)(a b:Int)(t:J (Nm×Bool)):St:=
 ⟨[(1,.d (.map 1)),(4,.d (.int .i64 a)),(5,.d (.int .i64 b)),(69,.d (.sl false (List.map dM m.ah))),(70,.d (.int .i64 m.ah.length)),(71,.d (.int .i64 m.ah.length)),(72,.d (.bool false))],[],hG F t⟩
theorem aaG{ρ:Type}(m:ae)(F:D)(a b:Int)(t:J (Nm×Bool))(hl:m.ah.length<=1000)(i:Nat)(hi:i<m.ah.length)(R:St->U ρ)(κ:Ex×St->U ρ)(B:Int->Int->U ρ)(h:∀e j s t,s.H=hG F t->κ (.cO (mU e 3 j 0),s)=B e j):
  go P hints hint110 wP Lm.1 (SG2 m F a b t i) (kLp R κ)=if(i:Int)=a/\b≠0 then B b i else if kC false t m.ah[i].Name=true then B 7 i else R (SG2 m F a b (kS t m.ah[i].Name true) (i+1:Nat)):=by
 have d:m.ah[i]? =some m.ah[i]:=xG hi;have f:(i:Int)<(m.ah.length:Int):=by omega
 have c:IntKind.i64.wrap ((i:Int)+1)=((i+1:Nat):Int):=eM (by omega)
 unfold SG2
 simp -implicitDefEqProofs [go_sem,d,f,c,eC (Rt _),hG]
 by_cases g:(i:Int)=a
 .grind
 grind
theorem aaH{ρ:Type}(m:ae)(F:D)(a b:Int)(t:J (Nm×Bool))(R:St->U ρ)(κ:Ex×St->U ρ):
  go P hints hint110 wP Lm.1 (SG2 m F a b t (m.ah.length:Nat)) (kLp R κ)=κ (.exit 4,XG2 m F a b t):=by
 unfold SG2 XG2
 simp -implicitDefEqProofs [go_sem]
theorem aqO{m:ae}{a b:Int}(c:(a,b)=(sW m.ah m.aa:U (Nat×Int)).elim (0,0) λq=>((q.1:Int),q.2)){i:Nat}(hi:i<m.ah.length)(h0:∀k,k<i->mW m.ah m.aa k=0):(mW m.ah m.aa i=0↔¬((i:Int)=a/\b≠0))/\(mW m.ah m.aa i≠0->mW m.ah m.aa i=b):=by
 cases d:(sW m.ah m.aa:U (Nat×Int))with
 |none=>
  rw[d]at c
  simp only[kF,pJ]at c
  obtain⟨rfl,rfl⟩:=c
  have:=gV d i hi
  grind
 |some q=>
  rw[d]at c
  simp only[oM,pJ]at c
  obtain⟨rfl,rfl⟩:=c;obtain⟨f,g,q3,q4⟩:=fo (i:=q.1) (e:=q.2) d
  grind
theorem aaI{ρ:Type}(m:ae)(F:D)(a b:Int)(v:(a,b)=(sW m.ah m.aa:U (Nat×Int)).elim (0,0) λq=>((q.1:Int),q.2))(hl:m.ah.length<=1000)(κ:Ex×St->U ρ)(B:Int->Int->U ρ)(A:∀e j s t,s.H=hG F t->κ (.cO (mU e 3 j 0),s)=B e j):∀(n i:Nat),m.ah.length - i=n->i<=m.ah.length->(∀k,k<i->(gcF m k).1=0)->
  dG P hints hint110 wP 2 (SG2 m F a b (tkn (sN m++vN m++(cN m).take i)) i) κ=(orF m.ah.length (gcF m)).elim (κ (.exit 4,XG2 m F a b (tkn (sN m++vN m++cN m)))) λf=>B f.1 f.2.2.1:=by
 intro n
 induction n with
 |zero=>
  intro i x E o
  have:i=m.ah.length:=by omega
  subst this;rw[ap Lm.2,aaH,gr (by simp[cN]),wF o];rfl
 |succ n y=>
  intro i x E o;have g:i<m.ah.length:=by omega
  have r:∀k,k<i->mW m.ah m.aa k=0:=λk hk=>by
   grind [gcF,twF]
  obtain⟨w,G⟩:=aqO v g r;have l:(cN m).getD i []=m.ah[i].Name:=by simp[cN,g]
  have p:kS (tkn (sN m++vN m++(cN m).take i)) m.ah[i].Name true=tkn (sN m++vN m++(cN m).take (i+1)):=by
   rw[vE,xK,er (show i<(cN m).length by grind [cN])]
   simp[cN]
  have z:kC false (tkn (sN m++vN m++(cN m).take i)) m.ah[i].Name=decide (m.ah[i].Name∈sN m++vN m++(cN m).take i):=vD _ _;rw[ap Lm.2,aaG m F a b _ hl i g _ κ B A]
  by_cases h:mW m.ah m.aa i=0
  .rw[if_neg (w.1 h),z]
   by_cases u:m.ah[i].Name∈sN m++vN m++(cN m).take i
   .have d:gcF m i=(7,3,(i:Int),0):=by simp only[gcF,twF,l,h];rw[if_neg (by simp),if_pos u]
    rw[if_pos (decide_eq_true u),ou g (by grind) o,d];rfl
   .have d:(gcF m i).1=0:=by simp only[gcF,twF,l,h];rw[if_neg (by simp),if_neg u]
    rw[if_neg (by grind),p]
    exact y (i+1) (by omega) (by omega) λk hk=>by
     grind
  .have d:gcF m i=(mW m.ah m.aa i,3,(i:Int),0):=by simp only[gcF,twF];rw[if_pos h]
   have C:(i:Int)=a/\b≠0:=Classical.not_not.1 λc=>h (w.2 c)
   rw[if_pos C,ou g (by rw[d];exact h) o,d]
   grind
theorem mD{N:Nat}{f:Nat->Flt}{x:Flt}(h:orF N f=some x):∃i,i<N/\f i=x/\x.1≠0:=by
 obtain⟨i,b,h⟩:=List.exists_of_findSome?_eq_some h
 refine⟨i,List.mem_range.1 b,?_⟩
 by_cases a:(f i).1=0
 .simp[a]at h
 grind
theorem UD{ρ:Type}(m:ae)(h:cC m)(F:D)(κ:KT ρ)(B:Flt->U ρ)(u:∀e a b c t,κ (Iy (mU e a b c),hG F t)=B (e,a,b,c)):
  cbK (call 110 [moD m,.map 1] (hG F [])) κ=(vJ m).elim (κ ([],hG F (tkn (sN m++vN m++cN m)))) B:=by
 refine(akO _ _ _ rfl).trans ?_
 have A:=λg=>Qf (ρ:=ρ) (by have:=h.sc;omega) (g:=g) (l:=m.aa)
 have v:=λg=>Rs (ρ:=ρ) (n:=12) (l:=m.aq) (s:=m.aa) h.v h.sc (g:=g)
 simp only[show((12:Nat):Int)=12 from rfl]at v
 have z:=λg=>Y3 (ρ:=ρ) (l:=m.ah) (s:=m.aa) h.c h.sc (g:=g)
 have N:=λκ=>aaC (ρ:=ρ) m F h.sc κ _ 0 rfl (eD _)
 simp only[SG0,XG0,jr,X_,ez,hG]at N
 unfold vJ
 cases L:qJ m.aa with
 |some q=>
  obtain⟨R,S,q3,q4⟩:=fo (i:=q.1) (e:=q.2) L
  simp -implicitDefEqProofs [go_sem,A,L,atE,q3,eC (Rt _),hG]
  exact u _ _ _ _ []
 |none=>
  simp -implicitDefEqProofs [go_sem,A,L,atE,eC (Rt _),hG,N,v]
  have O:=λ(a b:Int) o κ B u=>aaF (ρ:=ρ) m F a b o h.v κ B u _ 0 rfl (eD _) (λk hk=>by omega)
  have Q:=λ(a b:Int) o κ B u=>aaI (ρ:=ρ) m F a b o h.c κ B u _ 0 rfl (eD _) (λk hk=>by omega)
  simp only[SG1,XG1,SG2,XG2,jr,ez,hG,gf]at O Q
  have G:∀(s:St) (e j:Int) (t:J (Nm×Bool)) (d:CL),s.H=hG F t->Cn 2 (Hp P hints hint110 wP d (kLv P false [] 2 κ)) (.cO (mU e 2 j 0),s)=B (e,2,j,0):=by
   intro s e j t d hs;obtain⟨env,ct,H⟩:=s;simp only at hs;subst hs
   simp -implicitDefEqProofs [go_sem,hG]
   exact u _ _ _ _ t
  have K:∀(s:St) (e j:Int) (t:J (Nm×Bool)),s.H=hG F t->Cn 4 (kLv P false [] 2 κ) (.cO (mU e 3 j 0),s)=B (e,3,j,0):=by
   intro s e j t hs;obtain⟨env,ct,H⟩:=s;simp only at hs;subst hs
   simp -implicitDefEqProofs [go_sem,hG]
   exact u _ _ _ _ t
  have E:∀(a b:Int),((a,b)=(sW m.ah m.aa).elim (0,0) λq=>((q.1:Int),q.2))->_:=λa b o=>Q a b o (Cn 4 (kLv P false [] 2 κ)) (λe j=>B (e,3,j,0)) λe j s t hs=>K s e j t hs
  have C:∀(d:CL) (a b:Int),((a,b)=(qK m.aq m.aa 12).elim (0,0) λq=>((q.1:Int),q.2))->_:=λd a b o=>O a b o (Cn 2 (Hp P hints hint110 wP d (kLv P false [] 2 κ))) (λe j=>B (e,2,j,0)) λe j s t hs=>G s e j t _ hs
  cases M:(qK m.aq m.aa 12:U (Nat×Int))with
  |none=>
   simp only[kF];rw[C _ 0 0 (by rw[M];rfl)]
   cases I:orF m.aq.length (gvF m)with
   |some f=>
    obtain⟨i,w,r,x⟩:=mD I;subst r;rfl
   |none=>
    simp -implicitDefEqProofs [go_sem,z,atE]
    cases y:(sW m.ah m.aa:U (Nat×Int))with
    |none=>
     simp only[kF];rw[E 0 0 (by rw[y];rfl)]
     cases p:orF m.ah.length (gcF m)with
     |some f=>
      obtain⟨i,w,r,x⟩:=mD p;subst r;rfl
     |none=>
      simp -implicitDefEqProofs [go_sem]
    |some q=>
     simp only[oM];rw[E q.1 q.2 (by rw[y];rfl)]
     cases p:orF m.ah.length (gcF m)with
     |some f=>
      obtain⟨i,w,r,x⟩:=mD p;subst r;rfl
     |none=>
      simp -implicitDefEqProofs [go_sem]
  |some q=>
   simp only[oM];rw[C _ q.1 q.2 (by rw[M];rfl)]
   cases I:orF m.aq.length (gvF m)with
   |some f=>
    obtain⟨i,w,r,x⟩:=mD I;subst r;rfl
   |none=>
    simp -implicitDefEqProofs [go_sem,z,atE]
    cases y:(sW m.ah m.aa:U (Nat×Int))with
    |none=>
     simp only[kF];rw[E 0 0 (by rw[y];rfl)]
     cases p:orF m.ah.length (gcF m)with
     |some f=>
      obtain⟨i,w,r,x⟩:=mD p;subst r;rfl
     |none=>
      simp -implicitDefEqProofs [go_sem]
    |some q=>
     simp only[oM];rw[E q.1 q.2 (by rw[y];rfl)]
     cases p:orF m.ah.length (gcF m)with
     |some f=>
      obtain⟨i,w,r,x⟩:=mD p;subst r;rfl
     |none=>
      simp -implicitDefEqProofs [go_sem]
end
section
variable{ρ:Type}
theorem lJ{a:Type}{f:a->Int}{l:J a}{i:Nat}(hi:i<l.length):gQ f (l.take (i+1))=gQ f (l.take i)+f l[i]:=by
 grind [er,gQ]
theorem px{d:Type}{f:d->Int}{l:J d}{b:Int}(hb:0<=b)(h:∀x∈l,0<=f x/\f x<=b):∀i,0<=gQ f (l.take i)/\gQ f (l.take i)<=b * l.length:=by
 intro i
 have a:∀(n:Nat),n<=l.length->0<=gQ f (l.take n)/\gQ f (l.take n)<=b * n:=by
  intro n
  induction n with
  |zero=>grind [gQ]
  |succ n g=>
   intro e;rw[lJ (by omega)]
   grind
 obtain c |c:=Nat.le_total i l.length
 .have:=a i c
  have j:b * (i:Int)<=b * (l.length:Int):=Int.mul_le_mul_of_nonneg_left (by omega) hb
  omega
 grind
theorem ov{τ:Type}{Φ:τ->(τ->U ρ)->U ρ}{a b:τ}{r:U ρ}(h:im Φ b=r)(e:a=b):im Φ a=r:=e▸h
theorem iterC_all{τ:Type}{Φ:τ->(τ->U ρ)->U ρ}(N:Nat)(mk:Nat->τ)(a:U ρ)
  (hs:∀i k,i<N->Φ (mk i) k=k (mk (i+1))) (hf:∀k,Φ (mk N) k=a):im Φ (mk 0)=a:=by
 rw[nU N mk (λ_=>none) a (λi k b=>hs i k b) hf,List.findSome?_eq_none_iff.2 λ_ _=>rfl];rfl
theorem jX{s:J aw}{k:Int}:0<=iI s k/\iI s k<=4:=by
 unfold iI;split
 .split
  .split <;>omega
  .omega
 .omega
theorem nK{m:ae}{p:az}:0<=eT m p/\eT m p<=4:=by
 unfold eT
 have:= @jX m.aa p.aH
 grind
theorem iF{m:ae}{v:aB}:0<=dO m v/\dO m v<=4:=by
 unfold dO
 have:= @jX m.aa v.aH
 grind
theorem aaJ{c:aD}:IntKind.i64.wrap (1+if 4<if c.bm<0 then 0 else c.bm then 4 else if c.bm<0 then 0 else c.bm)=sX c:=by
 grind [sX,dC]
theorem Ru{c:aD}:0<=sX c/\sX c<=5:=by unfold sX;omega
def Bz(m:ae)(l:J az):Int:=l.foldl (λn p=>IntKind.i64.wrap (n+IntKind.i64.wrap (eT m p * p.aO.length))) 0
theorem HH{m:ae}{l:J az}{i:Nat}(hi:i<l.length):Bz m (l.take (i+1))=IntKind.i64.wrap (Bz m (l.take i)+IntKind.i64.wrap (eT m l[i] * l[i].aO.length)):=by
 grind [er,Bz]
theorem UE{m:ae}(h:cC m){g:Int->Int->Int->U ρ}:oh m g=g (vH m) (Bz m m.ak) (vI m):=by
 have t:=λv g=>By (ρ:=ρ) (v:=v) h.sc (g:=g)
 have j:∀{i n:Nat},i<n->n<=1000->IntKind.i64.wrap ((i:Int)+1)=((i+1:Nat):Int):=λc z=>eM (by omega)
 have e:=λi=>px (f:=dO m) (l:=m.aq) (b:=4) (by decide) (λx _=>iF) i
 have A:=λi=>px (f:=sX) (l:=m.ah) (b:=5) (by decide) (λx _=>Ru) i
 have b3:=λi=>px (f:=eT m) (l:=m.ak) (b:=4) (by decide) (λx _=>nK) i
 have d:∀p∈m.ak,0<=eT m p * (1+(p.aq.length:Int))/\eT m p * (1+(p.aq.length:Int))<=4004:=λp C=>by
  have c:= @nK m p;have z:=(h.p p C).v
  refine⟨Int.mul_nonneg c.1 (by omega),?_⟩
  calc eT m p * (1+(p.aq.length:Int))<=4 * (1+(p.aq.length:Int)):=Int.mul_le_mul_of_nonneg_right c.2 (by omega)
   _<=4004:=by omega
 have b4:=λi=>px (f:=λp:az=>eT m p * (1+(p.aq.length:Int))) (l:=m.ak) (b:=4004) (by decide) d i
 have r:=h.v;have y:=h.c;have q:=h.n;have t1:gQ (dO m) (m.aq.take m.aq.length)=gQ (dO m) m.aq:=by rw[hJ]
 have o:gQ sX (m.ah.take m.ah.length)=gQ sX m.ah:=by rw[hJ]
 simp only[oh,og,mkF,t,aaJ];refine iterC_all (τ:=Int×Int) m.aq.length (λi=>(gQ (dO m) (m.aq.take i),(i:Int))) _ (λi k a=> ?_) λk=> ?_
 .simp only[show(i:Int)<(m.aq.length:Int)by omega,if_true,show(0:Int)<=(i:Int)by omega,xV,xG a,xS,j a r,lJ a]
  have u:=e i;have w:= @iF m m.aq[i];rw[show IntKind.i64.wrap (gQ (dO m) (List.take i m.aq)+if m.aq[i].aH=0 then 1 else iI m.aa m.aq[i].aH)=gQ (dO m) (List.take i m.aq)+dO m m.aq[i]from dC (by grind [dO]) (by grind [dO])]
 .simp only[oQ,if_false,t1]
  refine ov (iterC_all (τ:=Int×Int) m.ah.length (λi=>(gQ (dO m) m.aq+gQ sX (m.ah.take i),(i:Int))) _ (λi k a=> ?_) λk=> ?_) (by simp[gQ])
  .grind [lJ,dC]
  .simp only[oQ,if_false,o]
   refine ov (iterC_all (τ:=Int×Int×Int×Int) m.ak.length (λi=>(gQ (eT m) (m.ak.take i),Bz m (m.ak.take i),gQ (dO m) m.aq+gQ sX m.ah+gQ (λp:az=>eT m p * (1+(p.aq.length:Int))) (m.ak.take i),(i:Int))) _ (λi k a=> ?_) λk=> ?_) (by simp[gQ,Bz])
   .have E:= @nK m m.ak[i]
    have u:=b3 i;have w:=b4 i;have q3:=d _ (eO a);have q4:=e m.aq.length;have q5:=A m.ah.length;rw[t1]at q4
    rw[o]at q5
    have q6:=(h.p _ (eO a)).v;have B:(if m.ak[i].aH=0 then 1 else iI m.aa m.ak[i].aH)=eT m m.ak[i]:=rfl
    have s:IntKind.i64.wrap (1+(m.ak[i].aq.length:Int))=1+(m.ak[i].aq.length:Int):=dC (by omega) (by omega)
    have D:IntKind.i64.wrap (eT m m.ak[i] * (1+(m.ak[i].aq.length:Int)))=eT m m.ak[i] * (1+(m.ak[i].aq.length:Int)):=dC (by omega) (by omega)
    simp only[show(i:Int)<(m.ak.length:Int)by omega,if_true,show(0:Int)<=(i:Int)by omega,xV,xG a,xS,j a q,B,s,D,lJ a,HH a]
    grind [dC]
   .simp only[oQ,if_false,hJ]
    rfl
end
section
attribute [-simp] List.map_append List.map_take List.map_drop List.map_set
theorem HI(n:Nat):hint111.mv.contains n=false:=rfl
abbrev hP(F:D)(t:J (Nm×Bool))(ks:J Nm):J Ob:=[.box (.d F),.map (jw eS eB t),.sset ks]
def SU(m:ae)(F:D)(t:J (Nm×Bool))(ks:J Nm)(i:Int):St:=
 ⟨[(1,.d (.map 1)),(2,.loc (.l 2 0) [] 0 0),(4,.d (.map 2)),(28,.d (.sl false (List.map (dI false) m.ak))),(29,.d (.int .i64 m.ak.length)),(30,.d (.int .i64 i))],[((2,0),.own [.d (moD m)])],hP F t ks⟩
def XU(m:ae)(F:D)(t:J (Nm×Bool))(ks:J Nm):St:=
 ⟨[(1,.d (.map 1)),(2,.loc (.l 2 0) [] 0 0),(4,.d (.map 2)),(28,.d (.sl false (List.map (dI false) m.ak))),(29,.d (.int .i64 m.ak.length)),(30,.d (.int .i64 m.ak.length)),(31,.d (.bool false))],[((2,0),.own [.d (moD m)])],hP F t ks⟩
theorem aaK{ρ:Type}(m:ae)(F:D)(t:J (Nm×Bool))(ks:J Nm)(hl:m.ak.length<=1000)(i:Nat)(hi:i<m.ak.length)(R:St->U ρ)(κ:Ex×St->U ρ):
  go P hints hint111 zr Ln.1 (SU m F t ks i) (kLp R κ)=R (SU m F t (m.ak[i].Name::ks) (i+1:Nat)):=by
 have a:m.ak[i]? =some m.ak[i]:=xG hi;have c:(i:Int)<(m.ak.length:Int):=by omega
 have b:IntKind.i64.wrap ((i:Int)+1)=((i+1:Nat):Int):=eM (by omega)
 unfold SU
 simp -implicitDefEqProofs [go_sem,a,c,b,hP]
theorem aaL{ρ:Type}(m:ae)(F:D)(t:J (Nm×Bool))(ks:J Nm)(R:St->U ρ)(κ:Ex×St->U ρ):
  go P hints hint111 zr Ln.1 (SU m F t ks (m.ak.length:Nat)) (kLp R κ)=κ (.exit 2,XU m F t ks):=by
 unfold SU XU
 simp -implicitDefEqProofs [go_sem,hP]
theorem aaM{ρ:Type}(m:ae)(F:D)(t:J (Nm×Bool))(ks:J Nm)(hl:m.ak.length<=1000)(κ:Ex×St->U ρ):∀(n i:Nat),m.ak.length - i=n->i<=m.ak.length->
  dG P hints hint111 zr 1 (SU m F t (((pN m).take i).reverse++ks) i) κ=κ (.exit 2,XU m F t ((pN m).reverse++ks)):=by
 intro n
 induction n with
 |zero=>
  intro i b c
  have:i=m.ak.length:=by omega
  subst this;rw[ap Ln.2,aaL,gr (by simp[pN])]
 |succ n d=>
  intro i b c;have a:i<m.ak.length:=by omega
  have hs:m.ak[i].Name::(((pN m).take i).reverse++ks)=((pN m).take (i+1)).reverse++ks:=by
   rw[er (show i<(pN m).length by grind [pN]),List.reverse_append]
   simp only[pN,List.getElem_map,List.reverse_cons,List.reverse_nil,gD,lN]
  rw[ap Ln.2,aaK m F t _ hl i a,hs]
  grind
def SY(m:ae)(F:D)(t:J (Nm×Bool))(ks:J Nm)(i:Int)(l:J aB)(k:Int):St:=
 ⟨[(1,.d (.map 1)),(2,.loc (.l 2 0) [] 0 0),(4,.d (.map 2)),(8,.d (.int .i64 i)),(39,.d (.sl false (List.map (dI false) m.ak))),(40,.d (.int .i64 m.ak.length)),(41,.d (.int .i64 i)),(72,.d (.sl false (List.map dH l))),(73,.d (.int .i64 l.length)),(74,.d (.int .i64 k))],[((2,0),.own [.d (moD m)])],hP F t ks⟩
def XY(m:ae)(F:D)(t:J (Nm×Bool))(ks:J Nm)(i:Int)(l:J aB):St:=
 ⟨[(1,.d (.map 1)),(2,.loc (.l 2 0) [] 0 0),(4,.d (.map 2)),(8,.d (.int .i64 i)),(39,.d (.sl false (List.map (dI false) m.ak))),(40,.d (.int .i64 m.ak.length)),(41,.d (.int .i64 i)),(72,.d (.sl false (List.map dH l))),(73,.d (.int .i64 l.length)),(74,.d (.int .i64 l.length)),(75,.d (.bool false))],[((2,0),.own [.d (moD m)])],hP F t ks⟩
theorem aaN{ρ:Type}(m:ae)(F:D)(t:J (Nm×Bool))(ks:J Nm)(i:Int)(l:J aB)(hl:l.length<=1000)(k:Nat)(hk:k<l.length)(R:St->U ρ)(κ:Ex×St->U ρ)(B:Int->U ρ)(e:∀j s,s.H=hP F t ks->κ (.cO (mU 7 4 i j),s)=B j):
  go P hints hint111 zr Lp.1 (SY m F t ks i l k) (kLp R κ)=if l[k].Name∈ks then B (16+k)else R (SY m F t ks i l (k+1:Nat)):=by
 have c:l[k]? =some l[k]:=xG hk;have d:(k:Int)<(l.length:Int):=by omega
 have a:IntKind.i64.wrap ((k:Int)+1)=((k+1:Nat):Int):=eM (by omega)
 have b:IntKind.i64.wrap (16+(k:Int))=16+(k:Int):=dC (by omega) (by omega)
 unfold SY
 by_cases h:l[k].Name∈ks
 .rw[if_pos h]
  simp -implicitDefEqProofs [go_sem,c,d,a,b,h,hP,eC (HI _)]
  grind
 .rw[if_neg h]
  simp -implicitDefEqProofs [go_sem,c,d,a,b,h,hP,eC (HI _)]
theorem aaO{ρ:Type}(m:ae)(F:D)(t:J (Nm×Bool))(ks:J Nm)(i:Int)(l:J aB)(R:St->U ρ)(κ:Ex×St->U ρ):
  go P hints hint111 zr Lp.1 (SY m F t ks i l (l.length:Nat)) (kLp R κ)=κ (.exit 6,XY m F t ks i l):=by
 unfold SY XY
 simp -implicitDefEqProofs [go_sem,hP]
theorem aaP{ρ:Type}(m:ae)(F:D)(t:J (Nm×Bool))(ks:J Nm)(i:Int)(l:J aB)(hl:l.length<=1000)(κ:Ex×St->U ρ)(B:Int->U ρ)(g:∀j s,s.H=hP F t ks->κ (.cO (mU 7 4 i j),s)=B j):∀(n k:Nat),l.length - k=n->k<=l.length->(∀j,j<k->eX l (λv=>if v.Name∈ks then 7 else 0) j=0)->
  dG P hints hint111 zr 2 (SY m F t ks i l k) κ=(dN l.length (eX l λv=>if v.Name∈ks then 7 else 0)).elim (κ (.exit 6,XY m F t ks i l)) λq=>B (16+q.1):=by
 intro n
 induction n with
 |zero=>
  intro k e hk b
  have:k=l.length:=by omega
  subst this;rw[ap Lp.2,aaO,iW b];rfl
 |succ n f=>
  intro k e hk b;have a:k<l.length:=by omega
  have c:eX l (λv=>if v.Name∈ks then(7:Int)else 0) k=if l[k].Name∈ks then 7 else 0:=by simp[eX,a]
  rw[ap Lp.2,aaN m F t ks i l hl k a _ κ B g]
  by_cases d:l[k].Name∈ks
  .rw[if_pos d]at c |-
   rw[mB a (by rw[c];decide) b];rfl
  .rw[if_neg d]at c |-
   exact f (k+1) (by omega) (by omega) λj h=>by
    grind
def SZ(m:ae)(F:D)(t:J (Nm×Bool))(ks:J Nm)(i:Int):St:=
 ⟨[(1,.d (.map 1)),(2,.loc (.l 2 0) [] 0 0),(4,.d (.map 2)),(39,.d (.sl false (List.map (dI false) m.ak))),(40,.d (.int .i64 m.ak.length)),(41,.d (.int .i64 i))],[((2,0),.own [.d (moD m)])],hP F t ks⟩
def XZ(m:ae)(F:D)(t:J (Nm×Bool))(ks:J Nm):St:=
 ⟨[(1,.d (.map 1)),(2,.loc (.l 2 0) [] 0 0),(4,.d (.map 2)),(39,.d (.sl false (List.map (dI false) m.ak))),(40,.d (.int .i64 m.ak.length)),(41,.d (.int .i64 m.ak.length)),(42,.d (.bool false))],[((2,0),.own [.d (moD m)])],hP F t ks⟩
theorem aaQ{ρ:Type}(m:ae)(F:D)(t:J (Nm×Bool))(ks:J Nm)(R:St->U ρ)(κ:Ex×St->U ρ):
  go P hints hint111 zr Lq.1 (SZ m F t ks (m.ak.length:Nat)) (kLp R κ)=κ (.exit 4,XZ m F t ks):=by
 unfold SZ XZ
 simp -implicitDefEqProofs [go_sem,hP]
structure MoE(m:ae):Prop where
 p:∀p∈m.ak,ProcE p
 q:∀p∈m.aL,∀x∈p.Expr,x.N<=9223372036854775807
theorem BA(m:ae)(i:Nat):(eQ m i).aq=m.aq/\(eQ m i).aa=m.aa:=by
 grind [eQ]
theorem aaR{ρ:Type}(m:ae)(h:cC m)(p:MoE m)(F:D)(t:J (Nm×Bool))(ks:J Nm)(i:Nat)(hi:i<m.ak.length)(R:St->U ρ)(κ:Ex×St->U ρ)(B:Flt->U ρ)(n:∀e j k s t,s.H=hP F t ks->κ (.cO (mU e 4 j k),s)=B (e,4,j,k)):
  go P hints hint111 zr Lq.1 (SZ m F t ks i) (kLp R κ)=if 6<=i then B (11,4,i,0)else if(jh m.ak[i] (eQ m i)).2.2≠0 then B ((jh m.ak[i] (eQ m i)).2.2,4,i,IntKind.i64.wrap (IntKind.i64.wrap (16 * (jh m.ak[i] (eQ m i)).1)+(jh m.ak[i] (eQ m i)).2.1))else if kC false t m.ak[i].Name=true then B (7,4,i,0)else
   (dN m.ak[i].aq.length (eX m.ak[i].aq λv=>if v.Name∈ks then 7 else 0)).elim (R (SZ m F (kS t m.ak[i].Name true) ks (i+1:Nat))) λq=>B (7,4,i,16+q.1):=by
 have w:=h.n;have f:m.ak[i]? =some m.ak[i]:=xG hi;have l:(i:Int)<(m.ak.length:Int):=by omega
 have d:IntKind.i64.wrap ((i:Int)+1)=((i+1:Nat):Int):=eM (by omega)
 have g:=h.p _ (eO hi);have c:=λκ=>Z? (ρ:=ρ) m h i hi κ
 have a:=λκ=>af2 (ρ:=ρ) m.ak[i] (eQ m i) (by rw[(BA m i).1];exact h.v) (by rw[(BA m i).2];exact h.sc) g.v g.n (p.p _ (eO hi)) κ
 have b:=λt κ B n=>aaP (ρ:=ρ) m F t ks i m.ak[i].aq g.v κ B n _ 0 rfl (eD _) (λk hk=>by omega)
 simp only[SY,XY,ez,hP]at b
 generalize x:jh m.ak[i] (eQ m i)=r at a |-
 obtain⟨u,y,o⟩:=r;unfold SZ
 by_cases h6:6<=i
 .rw[if_pos h6]
  simp -implicitDefEqProofs [go_sem,f,l,d,hP,h6,show(6:Int)<=(i:Int)by omega,eC (HI _)]
  grind
 .rw[if_neg h6]
  by_cases h3:o=0
  .subst h3
   simp -implicitDefEqProofs [go_sem,f,l,d,hP,h6,show¬(6:Int)<=(i:Int)by omega,c,a,eC (HI _)]
   by_cases h4:kC false t m.ak[i].Name=true
   .grind
   .rw[if_neg h4,if_neg h4,b _ _ (λj=>B (7,4,i,j)) λj s hs=>by
     obtain⟨env,ct,H⟩:=s;simp only at hs;subst hs
     simp -implicitDefEqProofs [go_sem]
     grind]
    simp -implicitDefEqProofs [go_sem,d]
  .rw[if_pos h3]
   simp -implicitDefEqProofs [go_sem,f,l,d,hP,h6,show¬(6:Int)<=(i:Int)by omega,c,a,h3,eC (HI _)]
   grind
theorem af3{m:ae}{a ks:J Nm}(b:a=sN m++vN m++cN m)(c:∀x,x∈ks↔x∈a++pN m){i:Nat}(hi:i<m.ak.length):gpF m i=if 6<=i then(11,4,(i:Int),0)else if(jh m.ak[i] (eQ m i)).2.2≠0 then((jh m.ak[i] (eQ m i)).2.2,4,(i:Int),IntKind.i64.wrap (IntKind.i64.wrap (16 * (jh m.ak[i] (eQ m i)).1)+(jh m.ak[i] (eQ m i)).2.1))else if kC false (tkn (a++(pN m).take i)) m.ak[i].Name=true then(7,4,(i:Int),0)else
   (dN m.ak[i].aq.length (eX m.ak[i].aq λv=>if v.Name∈ks then 7 else 0)).elim (0,0,0,0) λq=>(7,4,(i:Int),16+(q.1:Int)):=by
 grind [gpF,vD,aae]
theorem aaS{ρ:Type}(m:ae)(h:cC m)(C:MoE m)(F:D)(c:J Nm)(f:c=sN m++vN m++cN m)(ks:J Nm)(l:∀x,x∈ks↔x∈c++pN m)(κ:Ex×St->U ρ)(B:Flt->U ρ)(z:∀e j k s t,s.H=hP F t ks->κ (.cO (mU e 4 j k),s)=B (e,4,j,k)):∀(n i:Nat),m.ak.length - i=n->i<=m.ak.length->(∀k,k<i->(gpF m k).1=0)->
  dG P hints hint111 zr 3 (SZ m F (tkn (c++(pN m).take i)) ks i) κ=(orF m.ak.length (gpF m)).elim (κ (.exit 4,XZ m F (tkn (c++pN m)) ks)) B:=by
 intro n
 induction n with
 |zero=>
  intro i w A d
  have:i=m.ak.length:=by omega
  subst this;rw[ap Lq.2,aaQ,gr (by simp[pN]),wF d];rfl
 |succ n y=>
  intro i w A d;have a:i<m.ak.length:=by omega
  have g:kS (tkn (c++(pN m).take i)) m.ak[i].Name true=tkn (c++(pN m).take (i+1)):=by
   rw[vE,xK,er (show i<(pN m).length by grind [pN])]
   simp[pN]
  have b:=af3 f l a;rw[ap Lq.2,aaR m h C F _ ks i a _ κ B z,g]
  have E:(gpF m i).1=0->dG P hints hint111 zr 3 (SZ m F (tkn (c++(pN m).take (i+1))) ks (i+1:Nat)) κ=(orF m.ak.length (gpF m)).elim (κ (.exit 4,XZ m F (tkn (c++pN m)) ks)) B:=λG=>y (i+1) (by omega) (by omega) λk hk=>by
   grind
  by_cases r:6<=i
  .rw[if_pos r]at b |-
   rw[ou a (by grind) d,b];rfl
  rw[if_neg r]at b |-
  by_cases o:(jh m.ak[i] (eQ m i)).2.2≠0
  .rw[if_pos o]at b |-
   rw[ou a (by rw[b];exact o) d,b];rfl
  rw[if_neg o]at b |-
  by_cases p:kC false (tkn (c++(pN m).take i)) m.ak[i].Name=true
  .rw[if_pos p]at b |-
   rw[ou a (by grind) d,b];rfl
  rw[if_neg p]at b |-
  cases u:dN m.ak[i].aq.length (eX m.ak[i].aq λv=>if v.Name∈ks then 7 else 0)with
  |none=>
   grind
  |some q=>
   rw[u]at b
   simp only[oM]at b |-
   rw[ou a (by grind) d,b];rfl
theorem N5(n:Nat)(t:J (Nm×Bool)):((jw eS eB t).all λe=>D.low n e.1&&T.low n e.2)=true:=by
 induction t with
 |nil=>rfl
 |cons a t b=>
  show(_&&_)=true
  rw[xA]
  exact⟨rfl,b⟩
theorem Rv(n:Nat)(e a b c:Int):D.low n (mU e a b c)=true:=rfl
theorem N6{ρ:Type}(m:ae)(h:cC m)(u:MoE m)(F:D)(hF:D.low 2 F=true)(κ:KT ρ)(B:Flt->U ρ)(i:∀e a b c t,κ (Iy (mU e a b c),hG F t)=B (e,a,b,c)):
  cbK (call 111 [moD m,.map 1] (hG F (tkn (sN m++vN m++cN m)))) κ=(Ad m).elim (κ ([],hG F (tkn (sN m++vN m++cN m++pN m)))) B:=by
 refine(akQ _ _ _ rfl).trans ?_
 have f:=λg=>UE (ρ:=ρ) h (g:=g)
 have d:=λt r κ=>aaM (ρ:=ρ) m F t r h.n κ _ 0 rfl (eD _)
 simp only[SU,XU,jr,List.reverse_nil,gD,ez,hP]at d
 simp -implicitDefEqProofs [go_sem,eC (HI _),hG,d,f]
 have o:∀x,x∈(pN m).reverse++List.map (λx=>x.1) (tkn (sN m++vN m++cN m))↔x∈(sN m++vN m++cN m)++pN m:=λx=>by
  grind [YT]
 have l:=λκ B i=>aaS (ρ:=ρ) m h u F _ rfl _ o κ B i _ 0 rfl (eD _) (λk hk=>by omega)
 simp only[SZ,XZ,jr,gf,ez,hP,xK]at l
 rw[l _ B λe j k s t hs=>by
  obtain⟨env,ct,H⟩:=s;simp only at hs;subst hs
  simp -implicitDefEqProofs [go_sem,hF,N5,Rv]
  exact i _ _ _ _ t]
 unfold Ad
 cases v:orF m.ak.length (gpF m)with
 |some q=>rfl
 |none=>
  simp -implicitDefEqProofs [go_sem,eC (HI _),f,hF,N5,Rv]
  by_cases n:12<vH m
  .rw[if_pos n,if_pos (.inl n)];exact i _ _ _ _ _
  .by_cases p:64<vI m
   .rw[if_neg n,if_pos p,if_pos (.inr p)];exact i _ _ _ _ _
   grind
theorem HJ(n:Nat):hint112.mv.contains n=false:=rfl
abbrev scQ(m:ae):au:=⟨m.aa,m.aq,m.ah,m.ak,[],0⟩
def SE(m:ae)(F:D)(t:J (Nm×Bool))(i:Int):St:=
 ⟨[(1,.d (.map 1)),(4,.loc (.l 4 0) [] 0 0),(12,.d (.sl false (List.map (e9 false) m.aL))),(13,.d (.int .i64 m.aL.length)),(14,.d (.int .i64 i))],[((4,0),.own [.d (scD false (scQ m))])],hG F t⟩
def XE(m:ae)(F:D)(t:J (Nm×Bool)):St:=
 ⟨[(1,.d (.map 1)),(4,.loc (.l 4 0) [] 0 0),(12,.d (.sl false (List.map (e9 false) m.aL))),(13,.d (.int .i64 m.aL.length)),(14,.d (.int .i64 m.aL.length)),(15,.d (.bool false))],[((4,0),.own [.d (scD false (scQ m))])],hG F t⟩
theorem aaT{ρ:Type}(m:ae)(F:D)(t:J (Nm×Bool))(R:St->U ρ)(κ:Ex×St->U ρ):
  go P hints hint112 TZ Lr.1 (SE m F t (m.aL.length:Nat)) (kLp R κ)=κ (.exit 0,XE m F t):=by
 unfold SE XE
 simp -implicitDefEqProofs [go_sem,hG]
theorem aaU{ρ:Type}(m:ae)(h:cC m)(v:MoE m)(F:D)(t:J (Nm×Bool))(i:Nat)(hi:i<m.aL.length)(R:St->U ρ)(κ:Ex×St->U ρ)(B:Flt->U ρ)(x:∀e j s t,s.H=hG F t->κ (.cO (mU e 5 j 0),s)=B (e,5,j,0)):
  go P hints hint112 TZ Lr.1 (SE m F t i) (kLp R κ)=if 8<=i then B (11,5,i,0)else if mV m.aL[i].Name=false then B (6,5,i,0)else if kC false t m.aL[i].Name=true then B (7,5,i,0)else
   if(kZ m.aL[i].Expr (scQ m)).2≠0 then B ((kZ m.aL[i].Expr (scQ m)).2,5,i,0)else if(kZ m.aL[i].Expr (scQ m)).1≠1 then B (9,5,i,0)else R (SE m F (kS t m.aL[i].Name true) (i+1:Nat)):=by
 have w:=h.q;have f:m.aL[i]? =some m.aL[i]:=xG hi;have g:(i:Int)<(m.aL.length:Int):=by omega
 have d:IntKind.i64.wrap ((i:Int)+1)=((i+1:Nat):Int):=eM (by omega)
 have hk:=λκ=>Rq (ρ:=ρ) false m.aL[i].Expr (scQ m) h.sc (v.q _ (eO hi)) κ
 simp only[scQ,ir]at hk
 generalize o:kZ m.aL[i].Expr (scQ m)=r;simp only[scQ]at o
 rw[o]at hk
 obtain⟨q,u⟩:=r;unfold SE
 by_cases c:8<=i
 .rw[if_pos c]
  simp -implicitDefEqProofs [go_sem,f,g,d,hG,c,show(8:Int)<=(i:Int)by omega,eC (HJ _)]
  grind
 rw[if_neg c];have a:¬(8:Int)<=(i:Int):=by omega
 by_cases k:mV m.aL[i].Name=false
 .rw[if_pos k]
  simp -implicitDefEqProofs [go_sem,f,g,d,hG,c,a,k,lg,eC (HJ _)]
  grind
 rw[if_neg k];have b:mV m.aL[i].Name=true:=by simpa using k
 by_cases n:u=0
 .subst n
  by_cases l:q=1
  .subst l
   simp -implicitDefEqProofs [go_sem,f,g,d,hG,c,a,b,lg,hk,eC (HJ _)]
   by_cases p:kC false t m.aL[i].Name=true
   .grind
   grind
  .simp -implicitDefEqProofs [go_sem,f,g,d,hG,c,a,b,lg,hk,l,eC (HJ _)]
   by_cases p:kC false t m.aL[i].Name=true
   .grind
   grind
 .simp -implicitDefEqProofs [go_sem,f,g,d,hG,c,a,b,lg,hk,n,eC (HJ _)]
  by_cases p:kC false t m.aL[i].Name=true
  .grind
  grind
theorem Y5{m:ae}{a:J Nm}(b:a=sN m++vN m++cN m++pN m){i:Nat}(hi:i<m.aL.length):ot m i=if 8<=i then 11 else if mV m.aL[i].Name=false then 6 else if kC false (tkn (a++(qN m).take i)) m.aL[i].Name=true then 7 else
   if(kZ m.aL[i].Expr (scQ m)).2≠0 then(kZ m.aL[i].Expr (scQ m)).2 else if(kZ m.aL[i].Expr (scQ m)).1≠1 then 9 else 0:=by
 grind [ot,vD]
theorem aaV{ρ:Type}(m:ae)(h:cC m)(A:MoE m)(F:D)(b:J Nm)(g:b=sN m++vN m++cN m++pN m)(κ:Ex×St->U ρ)(B:Flt->U ρ)(u:∀e j s t,s.H=hG F t->κ (.cO (mU e 5 j 0),s)=B (e,5,j,0)):∀(n i:Nat),m.aL.length - i=n->i<=m.aL.length->(∀k,k<i->ot m k=0)->
  dG P hints hint112 TZ 0 (SE m F (tkn (b++(qN m).take i)) i) κ=(sY m).elim (κ (.exit 0,XE m F (tkn (b++qN m)))) B:=by
 intro n
 induction n with
 |zero=>
  intro i q v d
  have:i=m.aL.length:=by omega
  subst this;rw[ap Lr.2,aaT,gr (by simp[qN]),sY,wF d];rfl
 |succ n r=>
  intro i q v d;have a:i<m.aL.length:=by omega
  have l:kS (tkn (b++(qN m).take i)) m.aL[i].Name true=tkn (b++(qN m).take (i+1)):=by
   rw[vE,xK,er (show i<(qN m).length by grind [qN])]
   simp[qN]
  have c:=Y5 g a;have o:ot m i≠0->sY m=some (ot m i,5,(i:Int),0):=λy=>ou (f:=λi=>((ot m i,5,(i:Int),0):Flt)) a y d
  rw[ap Lr.2,aaU m h A F _ i a _ κ B u,l]
  by_cases x:8<=i
  .simp_all
  rw[if_neg x]at c |-
  by_cases C:mV m.aL[i].Name=false
  .simp_all
  rw[if_neg C]at c |-
  by_cases w:kC false (tkn (b++(qN m).take i)) m.aL[i].Name=true
  .simp_all
  rw[if_neg w]at c |-
  by_cases z:(kZ m.aL[i].Expr (scQ m)).2≠0
  .grind
  rw[if_neg z]at c |-
  by_cases p:(kZ m.aL[i].Expr (scQ m)).1≠1
  .simp_all
  rw[if_neg p]at c |-
  exact r (i+1) (by omega) (by omega) λk hk=>by
   grind
theorem aaW{ρ:Type}(m:ae)(h:cC m)(g:MoE m)(F:D)(κ:KT ρ)(B:Flt->U ρ)(f:∀e a b c t,κ (Iy (mU e a b c),hG F t)=B (e,a,b,c)):
  cbK (call 112 [moD m,.map 1] (hG F (tkn (sN m++vN m++cN m++pN m)))) κ=(sY m).elim (κ ([],hG F (tkn (sN m++vN m++cN m++pN m++qN m)))) B:=by
 refine(akS _ _ _ rfl).trans ?_
 have hs:=λκ=>YZ (ρ:=ρ) m h κ
 have d:=λκ B f=>aaV (ρ:=ρ) m h g F _ rfl κ B f _ 0 rfl (eD _) (λk hk=>by omega)
 simp only[SE,XE,jr,gf,ez,hG,xK]at d
 simp -implicitDefEqProofs [go_sem,hs,eC (HJ _),hG]
 simp only[scQ,scD,ir]at d
 rw[d _ B λe j s t hs=>by
  obtain⟨env,ct,H⟩:=s;simp only at hs;subst hs
  simp -implicitDefEqProofs [go_sem]
  exact f _ _ _ _ t]
 cases i:sY m with
 |some q=>rfl
 |none=>
  simp -implicitDefEqProofs [go_sem,eC (HJ _)]
end
end Go.Etx
namespace Go.Am
open Go Go.Proofs
@[go_sem] def mkV{c:Type}(a b:c)(e:a=b:=by conv=>lhs;cbv):{b:c // a=b}:=⟨b,e⟩
section
variable{P:Pz}{hints:FuncId->Hint}{ρ:Type}
def kA:Code->J Qz | .seq (.region _ o _) _=>o.toList |_=>[]
def Y6:Code->Nat | .seq (.region i _ _) _=>i |_=>0
def tlC:Code->Code | .seq _ r=>r |_=>.skip
def adR(l:J Qz):U (Nat×J Qz):=match l with
 |o::l=>match o.op,o.dst,o.guard with
  | .call {callee:=.builtin .recover, .. },some t,none=>some (t,l)
  |_,_,_=>none
 |_=>none
def Y7:Code->Bool | .seq (.region _ _ false) _=>true |_=>false
noncomputable def kDf(P:Pz)(own:Bool)(rs:J ResultVar)(n:Nat)(κ:J T×J Ob->U ρ):Ex×St->U ρ:=λp=>match p.1 with
 |.normal|.ret=>(pK P own rs n (.ret,p.2)).bind κ
 |_=>none
@[congr] theorem aiX{own:Bool}{rs:J ResultVar}{n:Nat}{κ:J T×J Ob->U ρ}{r a:Ex×St}(e:r=a):kDf P own rs n κ r=kDf P own rs n κ a:=by rw[e]
@[go_sem] theorem axC{own:Bool}{rs:J ResultVar}{n:Nat}{κ:J T×J Ob->U ρ}{s:St}:kDf P own rs n κ (.normal,s)=(pK P own rs n (.ret,s)).bind κ:=rfl
theorem Y8{r:D}{g:FuncId}{h m:Hint}{own:Bool}{rs:J ResultVar}{ds:J D}{H:J Ob}{fn:Func}{c c':Code}{t:Nat}{l:J Qz}{L:J dd}{q:CL}{κ:J T×J Ob->U ρ}(hf:P.funcs[g]? =some fn)(hb:fn.body=some c)(hr:Y7 c=true)(ht:adR (kA c)=some (t,l))(hl:l.map (jH (kA c))=L)(u:l.all (j8 (kA c))=true)
  (hc:tlC c=c') (w:hints g=h) (n:{h with nest:=true}=m) (ho:h.own=own) (j:fn.results.toList=rs) {ls:J Nat} (hi:h.live (Y6 c)=ls) (v:qx m c'=some q) (hd:ds.length=fn.params.size+fn.nfree) (hk:ef fn.ntmps c=true) (hn:(fn.name== "runtime.NumGoroutine")=false):
  cbK (lf P hints r g ds H) κ=goL P rl h L ls {env:=(t,.d r)::(enter ds H).env,ct:=[],H} λp=>go P hints m c' q p.2 (kDf P own rs H.length κ):=by
 subst hc w n ho j hi
 cases c with
 |seq a b=>
  cases a with
  |region i o x=>
   cases x with
   |true=>cases hr
   |false=>
    simp only[kA,Y6,tlC]at *
    unfold adR at ht
    split at ht
    .rename_i y z ho
     split at ht
     .rename_i t1 k d f
      simp only[xJ,pJ]at ht
      obtain⟨rfl,rfl⟩:=ht;unfold cbK goL go;simp only[lf,hf,hb,xS,ho,k,d,f,if_pos (And.intro hd (And.intro hk hn))];rw[<-ho,mu _ _ u,hl,xX];congr 1;funext s;rw[uv v,xX];congr 1;funext ⟨e,s⟩;unfold kDf
      cases e <;>simp only[Jl] <;>rfl
     .cases ht
    .cases ht
  |_=>cases hr
 |_=>cases hr
def adS(l:J Qz):U (Nat×J Qz):=match l.getLast? with
 |some o=>match o.op,o.dst,o.guard with
  | .defer {callee:=.value (.tmp x),args, .. },none,none=>if args.size=0 then some (x,l.dropLast)else none
  |_,_,_=>none
 |_=>none
noncomputable def Y9(P:Pz)(hints:FuncId->Hint)(h:Hint)(nt:Nat)(g:FuncId)(cap:J D)(κ:Ex×St->U ρ):Ex×St->U ρ:=λp=>(Sp p.1).bind λr=>((fg (lf P hints r) {h with aV:=[]} nt g (canon false cap) {} p.2.wk).bind jP).bind λy=>κ (.ret,p.2.fin none .dead y.2)
noncomputable def UF(P:Pz)(hints:FuncId->Hint)(h:Hint)(nt:Nat)(ls:J Nat)(B:Code)(q:CL)(s:St)(v:SV)(κ:Ex×St->U ρ):U ρ:=match v with
 | .d (.fn (.func g) [] cap)=>if cap.all D.pin=true then go P hints h B q (prune ls s) (Y9 P hints h nt g cap κ)else none
 |_=>none
@[congr] theorem af4{h:Hint}{nt:Nat}{ls:J Nat}{B:Code}{q:CL}{s s':St}{v a:SV}{κ:Ex×St->U ρ}(e:s=s')(b:v=a):UF P hints h nt ls B q s v κ=UF P hints h nt ls B q s' a κ:=by rw[e,b]
@[go_sem] theorem atq{h:Hint}{nt:Nat}{ls:J Nat}{B:Code}{q:CL}{s:St}{g:FuncId}{cap:J D}{κ:Ex×St->U ρ}:UF P hints h nt ls B q s (.d (.fn (.func g) [] cap)) κ=if cap.all D.pin=true then go P hints h B q (prune ls s) (Y9 P hints h nt g cap κ)else none:=rfl
section
variable{h:Hint}{nt:Nat}{g:FuncId}{cap:J D}{κ:Ex×St->U ρ}{env:J (Nat×SV)}{ct:J ((Nat×Nat)×T)}{H:J Ob}{d:D}
@[go_sem] theorem avx:Y9 P hints h nt g cap κ (.cO d,⟨env,ct,H⟩)=((fg (lf P hints d) {h with aV:=[]} nt g (canon false cap) {} ⟨ct,H,[]⟩).bind jP).bind λy=>κ (.ret,St.fin ⟨env,ct,H⟩ none .dead y.2):=rfl
@[go_sem] theorem avy:Y9 P hints h nt g cap κ (.ret,⟨env,ct,H⟩)=((fg (lf P hints .bW) {h with aV:=[]} nt g (canon false cap) {} ⟨ct,H,[]⟩).bind jP).bind λy=>κ (.ret,St.fin ⟨env,ct,H⟩ none .dead y.2):=rfl
end
theorem af5{f:FuncId}{h:Hint}{B:Code}{u w:J Nat}{c:Code}{nt:Nat}{s:St}{x:Nat}{l:J Qz}{L0 L1:J dd}{q:CL}{κ:Ex×St->U ρ}(hr:Y7 c=true)(d:Y7 (tlC c)=true)(F:(kA c).map (jH (kA c))=L0)(y:(kA c).all (j8 (kA c))=true)
  (hx:adS (kA (tlC c))=some (x,l)) (e1:l.map (jH (kA (tlC c)))=L1) (A:l.all (j8 (kA (tlC c)))=true) (I:hints f=h) (H:tlC (tlC c)=B) (n:h.live (Y6 c)=u) (m:h.live (Y6 (tlC c))=w) (G:qx h B=some q):
  (Uy P hints f c nt s).bind κ=goL P (eG P hints) h L0 u s λp=>(rO P (eG P hints) h L1 p.2).bind λs=>UF P hints h nt w B q s (s.get x) κ:=by
 subst I H n m
 cases c with
 |seq a b=>
  cases a with
  |region i o K=>
   cases K with
   |true=>cases hr
   |false=>
    cases b with
    |seq a b=>
     cases a with
     |region N O r=>
      cases r with
      |true=>cases d
      |false=>
       simp only[kA,Y6,tlC]at *
       unfold adS at hx
       split at hx
       .rename_i L E
        split at hx
        .rename_i Q t R k e j
         split at hx
         .rename_i C
          simp only[xJ,pJ]at hx
          obtain⟨rfl,rfl⟩:=hx;unfold goL;simp only[Uy];rw[mu _ _ y,F,xX];congr 1;funext M;simp only[E,k,e,j];rw[mu _ _ A,e1,xX];congr 1;funext S;unfold UF;rw[J9];split
          .rename_i g cap z
           rw[z]
           simp only
           by_cases v:cap.all D.pin=true
           .rw[if_pos ⟨C,v⟩,if_pos v,uv G]
            unfold go Y9
            grind [xF]
           grind
          grind
         .cases hx
        .cases hx
       .cases hx
     |_=>cases d
    |_=>cases d
  |_=>cases hr
 |_=>cases hr
@[go_sem] theorem aqP{dst:Nat}{sl:Bool}{k:Wk}{t:TypeId}{x:D}:fb dst sl (.d (.iface t x)) k=some (.d (.iface t x),k):=rfl
theorem af6{c:Bool}{t u:TypeId}{x:D}(h:eqV P c t (.d (.iface u x)) (.d .bW)=some false):gO P c .neq t (.d (.iface u x)) (.d .bW)=some (.bool true):=by
 show(eqV P c t _ _).map _=_
 rw[h];rfl
theorem aaX{c:Bool}{t:TypeId}(h:eqV P c t (.d .bW) (.d .bW)=some true):gO P c .neq t (.d .bW) (.d .bW)=some (.bool false):=by
 show(eqV P c t _ _).map _=_
 rw[h];rfl
end
end Go.Am
namespace Go.Etx
open Go Go.Am Go.Proofs
set_option maxHeartbeats 4000000
set_option maxRecDepth 20000
section
attribute [-simp] List.map_append List.map_take List.map_drop List.map_set
noncomputable section
@[go_sem] def af7:=mkQ hint81 (tlC (tlC b81)) _
@[go_sem] def af8:=mkV ((kA b81).map (jH (kA b81))) _
@[go_sem] def af9:=mkV ((kA (tlC b81)).dropLast.map (jH (kA (tlC b81)))) _
@[go_sem] def Za:=mkQ {A3 with nest:=true} (tlC Xm) _
@[go_sem] def l39:=mkV ((kA Xm).tail.map (jH (kA Xm))) _
abbrev zF:D:=.agg [.int .i64 0,.int .i64 0,.int .i64 0,.int .i64 0]
abbrev fF(f:Flt):D:=.agg [.int .i64 f.1,.int .i64 f.2.1,.int .i64 f.2.2.1,.int .i64 f.2.2.2]
abbrev avz:Hint:={A3 with nest:=true}
theorem adT{ρ:Type}(r:D)(H:J Ob)(κ:KT ρ):cbK (lf P hints r 109 [.ptr 0] H) κ=goL P rl A3 l39.1 [0,1] ⟨[(4,.d r),(0,.d (.ptr 0))],[],H⟩ λp=>go P hints avz (tlC Xm) Za.1 p.2 (kDf P false [] H.length κ):=
 Y8 (P:=P) (L:=l39.1) (q:=Za.1) (t:=4) (l:=(kA Xm).tail) Tryz.func109 (by kernel_rfl) (by kernel_rfl) (by kernel_rfl) l39.2 (by kernel_rfl) rfl rfl rfl rfl (by kernel_rfl) (by kernel_rfl) Za.2 (by kernel_rfl) (by kernel_rfl) (by kernel_rfl)
@[go_sem] theorem n20{c:Bool}{u:TypeId}{x:D}:gO P c .neq 20 (.d (.iface u x)) (.d .bW)=some (.bool true):=af6 (by cases c <;>kernel_rfl)
@[go_sem] theorem aAI:gO P true .neq 20 (.d .bW) (.d .bW)=some (.bool false):=aaX (by kernel_rfl)
@[go_sem] theorem axD{v:Vz}:isConst (.const v)=true:=rfl
theorem aqQ{ρ:Type}(F:D)(t:J (Nm×Bool))(κ:KT ρ):cbK (lf P hints .bW 109 [.ptr 0] (hG F t)) κ=κ ([],hG F t):=by
 refine(adT _ _ _).trans ?_
 simp -implicitDefEqProofs [go_sem,hG]
theorem aga{ρ:Type}(t:J (Nm×Bool))(a b c e:Int)(κ:KT ρ):cbK (lf P hints (mU a b c e) 109 [.ptr 0] (hG zF t)) κ=κ ([],hG (fF (a,b,c,e)) t):=by
 refine(adT _ _ _).trans ?_
 simp -implicitDefEqProofs [go_sem,hG,mU]
theorem aqR{ρ:Type}(ds:J D)(hd:ds.length=1)(κ:KT ρ):cbK (eG P hints 81 ds []) κ=goL P (eG P hints) hint81 af8.1 [1,2] (enter ds []) λp=>(rO P (eG P hints) hint81 af9.1 p.2).bind λs=>UF P hints hint81 16 [1,2] (tlC (tlC b81)) af7.1 s (s.get 4) (kLv P false [.cell 2 61] 0 κ):=by
 unfold cbK;rw[Uz (P:=P) (hints:=hints) (fn:=Tryz.f81) (c:=b81) (by decide) rfl rfl Tryz.func81 (by kernel_rfl) hd (by kernel_rfl) (by kernel_rfl),xX]
 exact af5 (P:=P) (hints:=hints) (L0:=af8.1) (L1:=af9.1) (q:=af7.1) (x:=4) (l:=(kA (tlC b81)).dropLast) (by kernel_rfl) (by kernel_rfl) af8.2 (by kernel_rfl) (by kernel_rfl) af9.2 (by kernel_rfl) rfl rfl rfl rfl af7.2
end
theorem Qg(n:Nat):hint81.mv.contains n=false:=rfl
theorem wG{ρ:Type}(t:J (Nm×Bool))(a b c e:Int)(κ:KT ρ):cb (lf P hints (mU a b c e) 109 [.ptr 0] [.box (.d zF),.map (jw eS eB t)]) κ=κ ([],hG (fF (a,b,c,e)) t):=aga t a b c e κ
theorem CM{ρ:Type}(F:D)(t:J (Nm×Bool))(κ:KT ρ):cb (lf P hints .bW 109 [.ptr 0] [.box (.d F),.map (jw eS eB t)]) κ=κ ([],hG F t):=aqQ F t κ
theorem Rw{ρ:Type}(m:ae)(h:cC m)(i:MoE m)(κ:KT ρ):cbK (call 81 [moD m] []) κ=κ ([.d (fF ((ij m).getD (0,0,0,0)))],[]):=by
 refine(aqR _ rfl _).trans ?_
 have h41:=λκ B g=>N6 (ρ:=ρ) m h i zF rfl κ B g
 have d:=λκ B g=>aaW (ρ:=ρ) m h i zF κ B g
 simp only[hG,xK]at h41 d
 simp -implicitDefEqProofs [go_sem,eC (Qg _),show(D.ptr 0).pin=true from rfl]
 refine(UD m h zF _ (λf=>κ ([.d (fF f)],[])) λe a b c t=> ?_).trans ?_
 .simp -implicitDefEqProofs [go_sem,eC (Qg _),hG,wG,CM]
 unfold ij
 cases l:vJ m with
 |some f=>rfl
 |none=>
  simp -implicitDefEqProofs [go_sem,eC (Qg _),hG,wG,CM]
  refine(h41 _ (λf=>κ ([.d (fF f)],[])) λe a b c t=> ?_).trans ?_
  .simp -implicitDefEqProofs [go_sem,eC (Qg _),hG,wG,CM]
  cases k:Ad m with
  |some f=>rfl
  |none=>
   simp -implicitDefEqProofs [go_sem,eC (Qg _),hG,wG,CM]
   refine(d _ (λf=>κ ([.d (fF f)],[])) λe a b c t=> ?_).trans ?_
   .simp -implicitDefEqProofs [go_sem,eC (Qg _),hG,wG,CM]
   cases j:sY m with
   |some f=>rfl
   |none=>
    simp -implicitDefEqProofs [go_sem,eC (Qg _),hG,wG,CM]
end
section
variable{ρ:Type}
theorem iK{τ:Type}{Φ:τ->(τ->U ρ)->U ρ}(N:Nat)(mk:Nat->τ)(c:τ->Nat)(l:∀i,c (mk i)=i)(f:Nat->Int)(g:Nat->Int->U ρ)(a:U ρ)
  (hs:∀i k,i<N->(∀j,j<i->f j=0)->Φ (mk i) k=if f i=0 then k (mk (i+1))else g i (f i)) (hf:(∀j,j<N->f j=0)->∀k,Φ (mk N) k=a):im Φ (mk 0)=(dN N f).elim a λp=>g p.1 p.2:=by
 refine Ju (λv e=>e=((dN N f).elim a λp=>g p.1 p.2)/\∃i,i<=N/\v=mk i/\∀j,j<i->f j=0) (λv=>N - c v) ?_ ⟨rfl,0,eD _,rfl,λj m=>by omega⟩
 rintro v e k ⟨rfl,i,n,rfl,d⟩ hk
 obtain h |h:=gF i N
 .rw[hs i k h d]
  by_cases b:f i=0
  .rw[if_pos b]
   exact hk _ _ ⟨rfl,i+1,h,rfl,λj m=>by
    grind⟩ (by grind)
  .rw[if_neg b,mB h b d];rfl
 grind [iW]
theorem qL{a:Type}(l:J a)(nm:a->Nm)(i:Nat)(hi:i<=l.length)(hl:l.length<=1000000)(x:Nm)(A B:U ρ):
  im (λ(v:Int) (k:Int->U ρ)=>if v<(i:Int)then if 0<=v then(l[v.toNat]?).bind λy=>if nm y=x then A else k (IntKind.i64.wrap (v+1))else none else B) 0=if x∈(l.map nm).take i then A else B:=by
 have c:=nU (ρ:=ρ) (Φ:=λ(v:Int) (k:Int->U ρ)=>if v<(i:Int)then if 0<=v then(l[v.toNat]?).bind λy=>if nm y=x then A else k (IntKind.i64.wrap (v+1))else none else B) i (λj:Nat=>(j:Int)) (λj=>(l[j]?).bind λy=>if nm y=x then some A else none) B (λj k d=>by
  grind [eM]) (λk=>by grind)
 refine c.trans ?_
 have b:∀n,n<=l.length->((List.range n).findSome? λj=>(l[j]?).bind λy=>if nm y=x then some A else none)=if x∈(l.map nm).take n then some A else none:=by
  intro n
  induction n with
  |zero=>intro _;simp
  |succ n e=>
   grind [List.range_succ,er]
 grind
theorem vK{k:Int}{s:J aw}(hs:s.length<=1000){g:Int->U ρ}:zE s k g=g (iI s k):=by
 simp only[zE,zD,mkF]
 by_cases b:k<1
 .grind [mC]
 by_cases c:(s.length:Int)<k
 .grind [mC]
 have d:IntKind.i64.wrap (k - 1)=k - 1:=dC (by omega) (by omega)
 have a:(k - 1).toNat<s.length:=by omega
 simp only[b,c,if_false,d,show 0<=k - 1 by omega,if_true,xG a,xS,Bx (show 1<=k by omega) a]
 grind
theorem N7{a b:Int}{g:Bool->U ρ}:zH a b g=g (pq a b):=by
 grind [zH,zG,mkF,pq,dC]
theorem CN{d:Type}(most:Nat)(l:J d)(hl:l.length<=1000000)(nm:d->Nm)(f:d->Int)(g:Int->Int->U ρ)(Φ:Int->(Int->U ρ)->U ρ)
  (a:∀(i:Nat) (hi:i<l.length) (h:i<=most) (k:Int->U ρ),Φ (i:Int) k=if most<=i then g i 11 else if mV (nm l[i])=false then g i 6 else if nm l[i]∈(l.map nm).take i then g i 7 else if f l[i]=0 then k (IntKind.i64.wrap ((i:Int)+1))else g i (f l[i]))
  (hf:∀k,Φ (l.length:Int) k=g 0 0):im Φ 0=atE (dN l.length (qI most (l.map nm) (eX l f))) g:=by
 refine iK (τ:=Int) l.length (λi:Nat=>(i:Int)) Int.toNat (λi=>rfl) (qI most (l.map nm) (eX l f)) (λi e=>g i e) (g 0 0) (λi k hi m=> ?_) (λ_=>hf)
 have h:i<=most:=oL λc=>by
  grind [LO]
 rw[a i hi h,LO hi,eM (show i<4611686018427387904 by omega)]
 by_cases b:most<=i
 .simp[b]
 by_cases j:mV (nm l[i])=false
 .simp[b,j]
 by_cases h3:nm l[i]∈(l.map nm).take i
 .simp[b,j,h3]
 grind
theorem N8{l:J aw}(hl:l.length<=1000){g:Int->Int->U ρ}:pW l g=atE (qJ l) g:=by
 simp only[pW,pU,mkF,nJ];refine CN 2 l (by omega) (·.Name) JA g _ (λi a b k=> ?_) (λk=> ?_)
 .simp only[show(i:Int)<(l.length:Int)by omega,show(0:Int)<=(i:Int)by omega,if_true,xV,xG a,xS,JA,qL l (·.Name) i (by omega) (by omega)]
  by_cases c:2<=i
  .grind
  by_cases h3:l[i].cS<1
  .grind
  by_cases h4:4<l[i].cS
  .grind
  grind
 .simp
theorem LP{v:aB}{s:J aw}(hs:s.length<=1000){g:Int->U ρ}:oj v s g=g (Bw s v):=by
 simp only[oj,oi,mkF,vK hs,N7,Bw,lI]
 by_cases a:v.aC=0
 .grind
 grind
theorem HK{l:J aB}{s:J aw}{n:Nat}(hl:l.length<=1000)(hs:s.length<=1000){g:Int->Int->U ρ}:zJ l s n g=atE (qK l s n) g:=by
 simp only[zJ,zI,mkF,nJ,LP hs];refine CN n l (by omega) (·.Name) (Bw s) g _ (λi a b k=> ?_) (λk=> ?_)
 .simp only[show(i:Int)<(l.length:Int)by omega,show(0:Int)<=(i:Int)by omega,if_true,xV,xG a,xS,Int.ofNat_le,qL l (·.Name) i (by omega) (by omega)]
 .simp
theorem UG{l:J aD}{s:J aw}(hl:l.length<=1000)(hs:s.length<=1000){g:Int->Int->U ρ}:u5 l s g=atE (sW l s) g:=by
 simp only[u5,u0,mkF,nJ,vK hs,N7];refine CN 4 l (by omega) (·.Name) (tO s) g _ (λi a c k=> ?_) (λk=> ?_)
 .simp only[show(i:Int)<(l.length:Int)by omega,show(0:Int)<=(i:Int)by omega,if_true,xV,xG a,xS,qL l (·.Name) i (by omega) (by omega),tO,lI]
  by_cases b:4<=i
  .grind
  grind
 .simp
theorem Zb{e:J aF}{s:au}(a:∀x∈e,x.N<=9223372036854775807){g:Int->Int->U ρ}:nX e s g=g (kZ e s).1 (kZ e s).2:=by
 grind [YM,kZ,NT,LK,yI]
theorem LQ{e:J aF}{k:Int}{s:au}(a:∀x∈e,x.N<=9223372036854775807){g:Int->U ρ}:HA e k s g=g (iZ e k s):=by
 grind [HA,Hz,mkF,Zb,iZ]
theorem UH{l:J aB}{n:Int}{s:au}{g:Int->Int->U ρ}:u7 l n s g=match iU l n s with |none=>g 0 8 |some v=>if v.aH=0 then g (kOf v.aC) 0 else g 0 9:=by
 simp only[u7,u6,mkF,Bu];rw[FV (e:=g 0 8) (λ_ _ _ _ _ _=>by simp)]
 grind
theorem Zc{a:aP}{s:au}(h:ActE a){g:Int->U ρ}:zL a s g=g (match iU s.aq a.To s with |none=>8 |some v=>if v.aH=0 then 9 else if iZ a.Index (w64 (1+v.aH)) s=0 then iZ a.Value (kOf v.aC) s else iZ a.Index (w64 (1+v.aH)) s):=by
 simp only[zL,zK,mkF,Bu,LQ h.v,LQ h.i];rw[FV (e:=g 8) (λ_ _ _ _ _ _=>by simp)]
 grind
theorem N9{n:Int}{s:au}{g:J UInt8->Int->Int->Int->Int->Bool->Bool->U ρ}{e:U ρ}(i:∀a b c d f h,g a b c d f h false=e):lU n s g=match vF n s with |some c=>g c.Name c.aC c.bm c.Lo c.Hi c.Lossy true |none=>e:=by
 grind [lU,lT,mkF,P8,vF]
theorem aaY{a:aP}{s:au}{b:Bool}(h:ActE a){g:Int->U ρ}:wA a s b g=g (if talksP a=true/\b=true then 7 else D5 a s):=by
 simp only[wA,CE,mkF,Zc h,UH,Bu,LQ h.v,talksP,D5]
 by_cases f:a.Kind=2
 .grind
 by_cases h3:a.Kind=3
 .grind
 by_cases d:a.Kind=1
 .grind
 by_cases h4:a.Kind=4
 .cases b with
  |true=>simp[h4]
  |false=>
   simp[h4];rw[N9 (e:=g 8) (λ_ _ _ _ _ _=>by simp)]
   grind
 by_cases h5:a.Kind=5
 .cases b with
  |true=>simp[h5]
  |false=>
   simp[h5];rw[N9 (e:=g 8) (λ_ _ _ _ _ _=>by simp)]
   cases vF a.To s with
   |none=>rfl
   |some c=>
    grind
 grind
theorem Zd{a:Type}{p:a->Bool}{l:J a}{i:Nat}(hi:i<l.length):(l.take (i+1)).any p=((l.take i).any p || p l[i]):=by
 grind [er]
theorem aaZ{c:aK}{p:az}{s:au}(h:CmdE c)(hn:c.aM.length<=1000){g:Int->Int->U ρ}:vb c p s g=g (Ac c p s).1 (Ac c p s).2:=by
 have o:=λ(a:aP) (j:a∈c.aM) b g=>aaY (ρ:=ρ) (a:=a) (s:=s) (b:=b) (h.a a j) (g:=g)
 have d:im (ρ:=ρ)
   (λ(v:Bool×Int) k=>
    if v.snd< ↑c.aM.length then
     if 0<=v.snd then
      c.aM[v.snd.toNat]?.bind λz=>
       wA z s v.fst λx=>
        if x=0 then
         if v.fst=true then k (true,IntKind.i64.wrap (v.snd+1))
         else
          if 0<=v.snd then
           c.aM[v.snd.toNat]?.bind λy=>
            if y.Kind=4 then k (true,IntKind.i64.wrap (v.snd+1))
            else
             if 0<=v.snd then
              c.aM[v.snd.toNat]?.bind λy=>
               k (decide (y.Kind=5),IntKind.i64.wrap (v.snd+1))
             else none
          else none
        else g (IntKind.i64.wrap (2+v.snd)) x
     else none
    else g 0 0)
   (false,0)=(dN c.aM.length (lw c.aM s)).elim (g 0 0) λq=>g (2+q.1) q.2:=by
  refine ov (iK (τ:=Bool×Int) c.aM.length (λi:Nat=>((c.aM.take i).any talksP,(i:Int))) (λv=>v.2.toNat) (λi=>rfl) (lw c.aM s) (λi e=>g (2+(i:Int)) e) (g 0 0) (λi k f w=> ?_) (λ_ k=>by simp)) rfl
  have j:=eO f;have r:lw c.aM s i=if talksP c.aM[i]=true/\(c.aM.take i).any talksP=true then 7 else D5 c.aM[i] s:=by simp only[lw,xG f]
  have n:IntKind.i64.wrap (2+(i:Int))=2+(i:Int):=dC (by omega) (by omega)
  simp only[show(i:Int)<(c.aM.length:Int)by omega,show(0:Int)<=(i:Int)by omega,if_true,xV,xG f,xS,o _ j,<-r,n,eM (show i<4611686018427387904 by omega),Zd f]
  by_cases A:lw c.aM s i=0
  .grind [talksP]
  .grind
 simp only[vb,u9,mkF,nJ,LQ h.g];rw[d];unfold Ac DQ
 by_cases m:mV c.Name=false
 .simp[m]
 by_cases t:c.dk<0
 .grind
 by_cases h3:p.bE<=c.dk
 .grind
 by_cases h4:c.To<0
 .grind
 by_cases h5:p.bE<=c.To
 .grind
 by_cases h6:6<c.aM.length
 .grind
 have l:mV c.Name=true:=by simpa using m
 simp only[l,t,h3,h4,h5,h6,show¬(6:Int)<(c.aM.length:Int)by omega,show 0<=c.dk by omega,show c.dk<p.bE by omega,show 0<=c.To by omega,show c.To<p.bE by omega,and_self,if_true,if_false,ne_eq,not_true_eq_false,reduceCtorEq]
 by_cases h7:0<c.Guard.length
 .by_cases u:iZ c.Guard 1 s=0
  .simp only[h7,u,if_true,not_true_eq_false,and_false,if_false]
   cases dN c.aM.length (lw c.aM s) <;>rfl
  grind
 .simp only[h7,if_false,false_and]
  cases dN c.aM.length (lw c.aM s) <;>rfl
theorem Ze{p:az}{s:au}(hs:s.aa.length<=1000)(y:s.aq.length<=1000)(hv:p.aq.length<=1000)(hc:p.aO.length<=1000)(r:ProcE p){g:Int->Int->Int->U ρ}:vd p s g=g (jh p s).1 (jh p s).2.1 (jh p s).2.2:=by
 have m:=λ(c:aK) (f:c∈p.aO) s g=>aaZ (ρ:=ρ) (c:=c) (p:=p) (s:=s) (r.c c f).1 (r.c c f).2 (g:=g)
 simp only[vd,vc,mkF,nJ,HK hv hs];have b:=λg=>HK (ρ:=ρ) (n:=4) (l:=p.aq) (s:=s.aa) hv hs (g:=g)
 simp only[show((4:Nat):Int)=4 from rfl]at b
 rw[b];unfold jh vG
 by_cases d:mV p.Name=false
 .simp[d]
 by_cases o:p.aH<0
 .simp[d,o]
 by_cases h3:(s.aa.length:Int)<p.aH
 .simp[d,o,h3]
 by_cases h4:p.bE<1
 .grind
 by_cases h5:12<p.bE
 .grind
 by_cases h6:12<p.aO.length
 .grind
 have j:mV p.Name=true:=by simpa using d
 simp only[j,o,h3,h4,h5,h6,show¬(12:Int)<(p.aO.length:Int)by omega,if_false,or_self,ne_eq,not_true_eq_false,reduceCtorEq]
 unfold pu
 cases v:(qK p.aq s.aa 4:U (Nat×Int))with
 |some q=>
  obtain⟨z,A,q3,q4⟩:=fo (i:=q.1) (e:=q.2) v
  grind [atE]
 |none=>
  simp only[atE,kF,if_true,m8]
  refine(iK (τ:=Int) p.aq.length (λi:Nat=>(i:Int)) Int.toNat (λi=>rfl) (eX p.aq (iE s)) (λi e=>g 1 i e) ((dN p.aO.length λi=>(iJ p (innerP p s) i).2).elim (g 0 0 0) λq=>g (2+(q.1:Int)) (iJ p (innerP p s) q.1).1 q.2) (λi k a u=> ?_) (λ_ k=> ?_)).trans ?_
  .have f:eX p.aq (iE s) i=iE s p.aq[i]:=by simp only[eX,xG a]
   simp only[show(i:Int)<(p.aq.length:Int)by omega,show(0:Int)<=(i:Int)by omega,if_true,xV,xG a,xS,qL s.aq (·.Name) s.aq.length (dB _) (by omega),f,iE,eM (show i<4611686018427387904 by omega),gr (show(s.aq.map (·.Name)).length<=s.aq.length by simp)]
   by_cases w:p.aq[i].aH=0
   .grind
   grind
  .simp only[oQ,if_false]
   refine iK (τ:=Int) p.aO.length (λi:Nat=>(i:Int)) Int.toNat (λi=>rfl) (λi=>(iJ p (innerP p s) i).2) (λi e=>g (2+(i:Int)) (iJ p (innerP p s) i).1 e) (g 0 0 0) (λi k a u=> ?_) (λ_ k=>by simp)
   have t:IntKind.i64.wrap (2+(i:Int))=2+(i:Int):=dC (by omega) (by omega)
   have x:iJ p (innerP p s) i=if(Ac p.aO[i] p (innerP p s)).2≠0 then Ac p.aO[i] p (innerP p s)else if p.aO[i].Name∈(p.aO.take i).map (·.Name)then(0,7)else(0,0):=by simp only[iJ,xG a]
   have h:(p.aO.map (·.Name)).take i=(p.aO.take i).map (·.Name):=List.map_take.symm;simp only[show(i:Int)<(p.aO.length:Int)by omega,show(0:Int)<=(i:Int)by omega,if_true,xV,xG a,xS,m _ (eO a),qL p.aO (·.Name) i (by omega) (by omega),t,eM (show i<4611686018427387904 by omega),h,<-innerP.eq_1]
   rw[x]
   by_cases w:(Ac p.aO[i] p (innerP p s)).2=0
   .grind
   grind
  .cases dN p.aq.length (eX p.aq (iE s))with
   |some q=>rfl
   |none=>
    simp only[kF]
    cases dN p.aO.length λi=>(iJ p (innerP p s) i).2 <;>rfl
theorem BB{l:J Nm}(hl:l.length<=1000000){x:Nm}{g:Bool->U ρ}:CG l x g=g (decide (x∈l)):=by
 simp only[CG,CF,mkF]
 refine(qL l id l.length (dB _) hl x (g true) (g false)).trans ?_
 by_cases h:x∈l <;>simp[h]
theorem md{a:Type}(l:J a)(nm:a->Nm)(acc:J Nm)(hl:acc.length+l.length<=1000000)(E:Int×J Nm->U ρ):
  im (λ(v:Int×J Nm) (k:Int×J Nm->U ρ)=>if v.fst<(l.length:Int)then if 0<=v.fst then(l[v.fst.toNat]?).bind λy=>if(v.snd.length+1) * 16<=140737488355328/\v.snd.length<=9223372036854775806 then k (IntKind.i64.wrap (v.fst+1),v.snd++[nm y])else none else none else E v) (0,acc)=E ((l.length:Int),acc++l.map nm):=by
 refine ov (iterC_all (τ:=Int×J Nm) l.length (λi=>((i:Int),acc++(l.map nm).take i)) (E ((l.length:Int),acc++l.map nm)) (λi k b=> ?_) λk=> ?_) (by simp)
 .grind [er,xG,eM]
 grind [gr]
theorem BC{a:Type}(l:J a)(nm:a->Nm)(acc:J Nm)(n:Nat)(hn:n<=l.length)(hl:acc.length+l.length<=1000000)(E:Int×J Nm->U ρ):
  im (λ(v:Int×J Nm) (k:Int×J Nm->U ρ)=>if v.fst<(l.length:Int)then if v.fst<(n:Int)then if 0<=v.fst then(l[v.fst.toNat]?).bind λy=>if(v.snd.length+1) * 16<=140737488355328/\v.snd.length<=9223372036854775806 then k (IntKind.i64.wrap (v.fst+1),v.snd++[nm y])else none else none else E v else E v) (0,acc)=E ((n:Int),acc++(l.map nm).take n):=by
 refine ov (iterC_all (τ:=Int×J Nm) n (λi=>((i:Int),acc++(l.map nm).take i)) (E ((n:Int),acc++(l.map nm).take n)) (λi k b=> ?_) λk=> ?_) (by simp)
 .grind [er,xG,eM]
 grind
theorem JC{τ:Type}{Φ:τ->(τ->U ρ)->U ρ}{v:τ}{e:U ρ}(h:∀k,Φ v k=e):im Φ v=e:=iterC_all (τ:=τ) 0 (λ_=>v) e (λi k hi=>by omega) h
theorem Rx{E:J Nm->U ρ}{acc:J Nm}:im (λ(v:Int×J Nm) (k:Int×J Nm->U ρ)=>E v.snd) (0,acc)=E acc:=JC λ_=>rfl
theorem agb{m:ae}(h:cC m){i:Nat}(hi:i<=m.aq.length){g:J Nm->U ρ}:ia m 2 i g=g (sN m++(vN m).take i):=by
 have a:=h.sc;have b:=h.v;simp only[ia,kz,mkF,Int.reduceLT,if_true,if_false,ite_self,Rx]
 refine(md m.aa (·.Name) _ (by simp;omega) _).trans ?_
 simp only
 refine(BC m.aq (·.Name) _ i hi (by simp;omega) _).trans ?_
 rfl
theorem agc{m:ae}(h:cC m){i:Nat}(hi:i<=m.ah.length){g:J Nm->U ρ}:ia m 3 i g=g (sN m++vN m++(cN m).take i):=by
 have a:=h.sc;have b:=h.v;have h3:=h.c;simp only[ia,kz,mkF,Int.reduceLT,if_true,if_false,ite_self,Rx]
 refine(md m.aa (·.Name) _ (by simp;omega) _).trans ?_
 simp only
 refine(md m.aq (·.Name) _ (by simp;omega) _).trans ?_
 simp only
 refine(BC m.ah (·.Name) _ i hi (by simp;omega) _).trans ?_
 rfl
theorem agd{m:ae}(h:cC m){i:Nat}(hi:i<=m.ak.length){g:J Nm->U ρ}:ia m 4 i g=g (sN m++vN m++cN m++(pN m).take i):=by
 have a:=h.sc;have b:=h.v;have h3:=h.c;have h4:=h.n;simp only[ia,kz,mkF,Int.reduceLT,if_true,if_false,ite_self,Rx]
 refine(md m.aa (·.Name) _ (by simp;omega) _).trans ?_
 simp only
 refine(md m.aq (·.Name) _ (by simp;omega) _).trans ?_
 simp only
 refine(md m.ah (·.Name) _ (by simp;omega) _).trans ?_
 simp only
 refine(BC m.ak (·.Name) _ i hi (by simp;omega) _).trans ?_
 rfl
theorem Zf{m:ae}(h:cC m){i:Nat}(hi:i<=m.aL.length){g:J Nm->U ρ}:ia m 5 i g=g (sN m++vN m++cN m++pN m++(qN m).take i):=by
 have a:=h.sc;have b:=h.v;have h3:=h.c;have h4:=h.n;have h5:=h.q;simp only[ia,kz,mkF,Int.reduceLT,if_true,if_false,ite_self,Rx]
 refine(md m.aa (·.Name) _ (by simp;omega) _).trans ?_
 simp only
 refine(md m.aq (·.Name) _ (by simp;omega) _).trans ?_
 simp only
 refine(md m.ah (·.Name) _ (by simp;omega) _).trans ?_
 simp only
 refine(md m.ak (·.Name) _ (by simp;omega) _).trans ?_
 simp only
 refine(BC m.aL (·.Name) _ i hi (by simp;omega) _).trans ?_
 rfl
theorem UI{m:ae}{i:Nat}(hi:i<m.ak.length){g:J aB->Int->U ρ}:vf m i g=g m.ak[i].aq m.ak[i].aH:=by
 grind [vf,ve,mkF]
theorem UJ{a:Type}{most n:Nat}{l:J a}{nm:a->Nm}{f:a->Int}{j:Nat}(h:j<n)(b:j<l.length):qI most ((l.take n).map nm) (eX (l.take n) f) j=qI most (l.map nm) (eX l f) j:=by
 grind [LO,F2]
theorem HL{a:Type}{most:Nat}{l:J a}{nm:a->Nm}{f:a->Int}{i:Nat}(hi:i<l.length)(h0:∀j,j<i->qI most (l.map nm) (eX l f) j=0):
  dN (l.take (i+1)).length (qI most ((l.take (i+1)).map nm) (eX (l.take (i+1)) f))=if qI most (l.map nm) (eX l f) i=0 then none else some (i,qI most (l.map nm) (eX l f) i):=by
 grind [UJ,iW,mB]
theorem adU{e:Int}{x:Nm}{l:J Nm}(h:twF e x l=0):e=0:=by
 grind [twF]
theorem CP{n:Nat}{p:Int}{f:Nat->Flt}(hf:∀i,f i=((f i).1,p,(i:Int),0)):(dN n λi=>(f i).1).map (λq=>(q.2,p,(q.1:Int),(0:Int)))=orF n f:=by
 cases a:dN n λi=>(f i).1 with
 |none=>rw[wF (gV a)];rfl
 |some q=>
  obtain⟨c,b,q3,q4⟩:=fo (i:=q.1) (e:=q.2) a;rw[ou c (by rw[b];exact q3) q4,hf q.1,b];rfl
theorem Zg{m:ae}(h:cC m){g:Int->Int->Int->U ρ}:zN m g=(vJ m).elim (g 0 0 0) λf=>g f.1 f.2.1 f.2.2.1:=by
 have c:=h.sc;have C:=h.v;have D:=h.c;have r:=λ(i:Nat) g=>HK (ρ:=ρ) (n:=12) (l:=m.aq.take (i+1)) (s:=m.aa) (by simp;omega) c (g:=g)
 have u:=λ(i:Nat) g=>UG (ρ:=ρ) (l:=m.ah.take (i+1)) (s:=m.aa) (by simp;omega) c (g:=g)
 simp only[show((12:Nat):Int)=12 from rfl]at r
 simp only[zN,zM,mkF,N8 c];unfold vJ
 cases A:(qJ m.aa:U (Nat×Int))with
 |some q=>
  obtain⟨E,F,q3,q4⟩:=fo (i:=q.1) (e:=q.2) A
  grind [atE]
 |none=>
  simp only[atE,kF,if_true,Option.map_none,m8]
  refine(iK (τ:=Int) m.aq.length (λi:Nat=>(i:Int)) Int.toNat (λi=>rfl) (λi=>(gvF m i).1) (λi e=>g e 2 i) ((dN m.ah.length λi=>(gcF m i).1).elim (g 0 0 0) λq=>g q.2 3 q.1) (λi k a t=> ?_) (λ_ k=> ?_)).trans ?_
  .have x:IntKind.i64.wrap ((i:Int)+1)=((i+1:Nat):Int):=eM (by omega)
   have y:headD 6 (List.map dH (m.aq.take (i+1)))=true:=by cases m.aq.take (i+1) <;>rfl
   have w:=HL (most:=12) (nm:=λv:aB=>v.Name) (f:=Bw m.aa) a λj z=>adU (t j z)
   have d:(qK (m.aq.take (i+1)) m.aa 12:U (Nat×Int))=if tP m.aq m.aa 12 i=0 then none else some (i,tP m.aq m.aa 12 i):=w
   have b:(vN m).getD i []=m.aq[i].Name:=by simp[vN,a]
   have o:(sN m++(vN m).take i).length<=1000000:=by simp[sN,vN];omega
   have B:(gvF m i).1=twF (tP m.aq m.aa 12 i) m.aq[i].Name (sN m++(vN m).take i):=by simp only[gvF,b]
   simp only[show(i:Int)<(m.aq.length:Int)by omega,if_true,x,show(0:Int)<=((i+1:Nat):Int)by omega,show(0:Int)<=(i:Int)by omega,xV,y,and_true,show((i+1:Nat):Int)<=(m.aq.length:Int)by omega,r,d,xG a,xS,agb h (lR a),BB o]
   grind [twF,atE]
  .simp only[oQ,if_false]
   refine iK (τ:=Int) m.ah.length (λi:Nat=>(i:Int)) Int.toNat (λi=>rfl) (λi=>(gcF m i).1) (λi e=>g e 3 i) (g 0 0 0) (λi k a t=> ?_) (λ_ k=>by simp)
   have x:IntKind.i64.wrap ((i:Int)+1)=((i+1:Nat):Int):=eM (by omega)
   have y:headD 6 (List.map dM (m.ah.take (i+1)))=true:=by cases m.ah.take (i+1) <;>rfl
   have w:=HL (most:=4) (nm:=λv:aD=>v.Name) (f:=tO m.aa) a λj z=>adU (t j z)
   have d:(sW (m.ah.take (i+1)) m.aa:U (Nat×Int))=if mW m.ah m.aa i=0 then none else some (i,mW m.ah m.aa i):=w
   have b:(cN m).getD i []=m.ah[i].Name:=by simp[cN,a]
   have o:(sN m++vN m++(cN m).take i).length<=1000000:=by simp[sN,vN,cN];omega
   have B:(gcF m i).1=twF (mW m.ah m.aa i) m.ah[i].Name (sN m++vN m++(cN m).take i):=by simp only[gcF,b]
   simp only[show(i:Int)<(m.ah.length:Int)by omega,if_true,x,show(0:Int)<=((i+1:Nat):Int)by omega,show(0:Int)<=(i:Int)by omega,xV,y,and_true,show((i+1:Nat):Int)<=(m.ah.length:Int)by omega,u,d,xG a,xS,agc h (lR a),BB o]
   grind [twF,atE]
  .rw[<-CP (p:=2) (f:=gvF m) λi=>rfl,<-CP (p:=3) (f:=gcF m) λi=>rfl]
   cases dN m.aq.length λi=>(gvF m i).1 with
   |some q=>rfl
   |none=>cases dN m.ah.length λi=>(gcF m i).1 <;>rfl
theorem aqS{m:ae}{i:Nat}(h:(gpF m i).1=0):gpF m i=(0,0,0,0):=by
 unfold gpF at h |-
 cases b:m.ak[i]? with
 |none=>rfl
 |some p=>
  rw[b]at h
  simp only at h |-
  by_cases d:6<=i
  .grind
  rw[if_neg d]at h |-
  by_cases c:(jh p (eQ m i)).2.2≠0
  .grind
  rw[if_neg c]at h |-
  by_cases a:p.Name∈sN m++vN m++cN m++(pN m).take i
  .grind
  rw[if_neg a]at h |-
  cases e:aae m p with
  |none=>rfl
  |some q=>grind
theorem Oa{m:ae}(h:cC m)(x:MoE m){i:Nat}(hi:i<m.ak.length)(h6:i<=6){g:Int->Int->Int->Int->U ρ}:qf m i g=g (gpF m i).1 (gpF m i).2.1 (gpF m i).2.2.1 (gpF m i).2.2.2:=by
 have y:=h.sc;have E:=h.v;have G:=h.c;have C:=h.n;have c:=h.p _ (eO hi);have w:=c.v;have a:m.ak[i]? =some m.ak[i]:=xG hi;have b:=λg=>Ze (ρ:=ρ) (p:=m.ak[i]) (s:=eQ m i) (by grind [BA]) (by grind [BA]) c.v c.n (x.p _ (eO hi)) (g:=g)
 have d:eQ m i=⟨m.aa,m.aq,m.ah,m.ak,m.ak[i].aq,m.ak[i].aH⟩:=by simp only[eQ,a]
 have r:(sN m++vN m++cN m++(pN m).take i).length<=1000000:=by simp[sN,vN,cN,pN];omega
 have l:(sN m++vN m++cN m++pN m++(qN m).take 0).length<=1000000:=by simp[sN,vN,cN,pN];omega
 have f:=λg=>Zf (ρ:=ρ) h (i:=0) (eD _) (g:=g)
 simp only[ez]at f
 simp only[qf,qe,mkF];simp only[gpF,a]
 by_cases A:6<=i
 .grind
 rw[if_neg A];simp only[show¬((i:Int)=6)by omega,if_false,show(0:Int)<=(i:Int)by omega,if_true,xV,a,xS,UI hi,<-d,b,agd h (lR hi),BB r,f,BB l]
 by_cases t:(jh m.ak[i] (eQ m i)).2.2=0
 .simp only[t,if_true,ne_eq,not_true_eq_false,if_false]
  by_cases z:m.ak[i].Name∈sN m++vN m++cN m++(pN m).take i
  .grind
  .simp only[z,decide_false,if_false,reduceCtorEq]
   refine(iK (τ:=Int) m.ak[i].aq.length (λi:Nat=>(i:Int)) Int.toNat (λi=>rfl) (eX m.ak[i].aq λv=>if v.Name∈sN m++vN m++cN m++pN m then 7 else 0) (λk e=>g e 4 i (16+(k:Int))) (g 0 0 0 0) (λk κ hk B=> ?_) (λ_ k=>by simp)).trans ?_
   .have j:IntKind.i64.wrap ((k:Int)+1)=((k+1:Nat):Int):=eM (by omega)
    have n:IntKind.i64.wrap (16+(k:Int))=16+(k:Int):=dC (by omega) (by omega)
    have u:eX m.ak[i].aq (λv=>if v.Name∈sN m++vN m++cN m++pN m then(7:Int)else 0) k=if m.ak[i].aq[k].Name∈sN m++vN m++cN m++pN m then 7 else 0:=by simp only[eX,xG hk]
    simp only[u,show(k:Int)<(m.ak[i].aq.length:Int)by omega,show(0:Int)<=(k:Int)by omega,if_true,xV,xG hk,xS,j,n,jr,gf]
    grind
   .unfold aae
    cases o:dN m.ak[i].aq.length (eX m.ak[i].aq λv=>if v.Name∈sN m++vN m++cN m++pN m then(7:Int)else 0)with
    |none=>rfl
    |some q=>
     obtain⟨D,F,q3,q4⟩:=fo (i:=q.1) (e:=q.2) o
     grind [eX]
 grind
theorem Zh{m:ae}(h:cC m)(c:MoE m){i:Nat}(hi:i<m.aL.length)(n:i<=8){g:Int->U ρ}:je m i g=g (ot m i):=by
 have d:=h.sc;have k:=h.v;have l:=h.c;have j:=h.n;have f:=h.q;have a:m.aL[i]? =some m.aL[i]:=xG hi;have b:(sN m++vN m++cN m++pN m++(qN m).take i).length<=1000000:=by simp[sN,vN,cN,pN,qN];omega
 simp only[je,kY,mkF];simp only[ot,a]
 by_cases e:8<=i
 .grind
 rw[if_neg e];simp only[show¬((i:Int)=8)by omega,if_false,show(0:Int)<=(i:Int)by omega,if_true,xV,a,xS,nJ,Zf h (lR hi),BB b,Zb (c.q _ (eO hi))]
 by_cases o:mV m.aL[i].Name=false
 .grind
 grind
theorem Qh{m:ae}(h:cC m){g:Int->Int->Int->U ρ}:sK m g=g (vH m) (Bz m m.ak) (vI m):=by
 have j:∀{i n:Nat},i<n->n<=1000->IntKind.i64.wrap ((i:Int)+1)=((i+1:Nat):Int):=λc t=>eM (by omega)
 have r:=λi=>px (f:=dO m) (l:=m.aq) (b:=4) (by decide) (λx _=>iF) i
 have u:=λi=>px (f:=sX) (l:=m.ah) (b:=5) (by decide) (λx _=>Ru) i
 have b3:=λi=>px (f:=eT m) (l:=m.ak) (b:=4) (by decide) (λx _=>nK) i
 have e:∀p∈m.ak,0<=eT m p * (1+(p.aq.length:Int))/\eT m p * (1+(p.aq.length:Int))<=4004:=λp v=>by
  have c:= @nK m p;have t:=(h.p p v).v
  refine⟨Int.mul_nonneg c.1 (by omega),?_⟩
  calc eT m p * (1+(p.aq.length:Int))<=4 * (1+(p.aq.length:Int)):=Int.mul_le_mul_of_nonneg_right c.2 (by omega)
   _<=4004:=by omega
 have b4:=λi=>px (f:=λp:az=>eT m p * (1+(p.aq.length:Int))) (l:=m.ak) (b:=4004) (by decide) e i
 have y:=h.v;have d:=h.c;have q:=h.n;have t1:gQ (dO m) (m.aq.take m.aq.length)=gQ (dO m) m.aq:=by rw[hJ]
 have o:gQ sX (m.ah.take m.ah.length)=gQ sX m.ah:=by rw[hJ]
 simp only[sK,sJ,pj,ph,DM,vg,mkF,vK h.sc];refine iterC_all (τ:=Int×Int) m.aq.length (λi=>(gQ (dO m) (m.aq.take i),(i:Int))) _ (λi k a=> ?_) λk=> ?_
 .grind [lJ,dO,dC]
 .simp only[oQ,if_false,t1]
  refine ov (iterC_all (τ:=Int×Int) m.ah.length (λi=>(gQ (dO m) m.aq+gQ sX (m.ah.take i),(i:Int))) _ (λi k a=> ?_) λk=> ?_) (by simp[gQ])
  .simp only[show(i:Int)<(m.ah.length:Int)by omega,if_true,show(0:Int)<=(i:Int)by omega,xV,xG a,xS,j a d,lJ a]
   grind [sX,dC]
  .simp only[oQ,if_false,o]
   refine ov (iterC_all (τ:=Int×Int×Int×Int) m.ak.length (λi=>(gQ (eT m) (m.ak.take i),Bz m (m.ak.take i),gQ (dO m) m.aq+gQ sX m.ah+gQ (λp:az=>eT m p * (1+(p.aq.length:Int))) (m.ak.take i),(i:Int))) _ (λi k a=> ?_) λk=> ?_) (by simp[gQ,Bz])
   .have w:= @nK m m.ak[i]
    have B:=b3 i;have C:=b4 i;have q3:=e _ (eO a);have q4:=r m.aq.length;have q5:=u m.ah.length;rw[t1]at q4
    rw[o]at q5
    have q6:=(h.p _ (eO a)).v;have s:IntKind.i64.wrap (1+(m.ak[i].aq.length:Int))=1+(m.ak[i].aq.length:Int):=dC (by omega) (by omega)
    have E:IntKind.i64.wrap (eT m m.ak[i] * (1+(m.ak[i].aq.length:Int)))=eT m m.ak[i] * (1+(m.ak[i].aq.length:Int)):=dC (by omega) (by omega)
    have z:IntKind.i64.wrap (gQ (eT m) (List.take i m.ak)+eT m m.ak[i])=gQ (eT m) (List.take i m.ak)+eT m m.ak[i]:=dC (by omega) (by omega)
    have D:IntKind.i64.wrap (gQ (dO m) m.aq+gQ sX m.ah+gQ (λp:az=>eT m p * (1+(p.aq.length:Int))) (m.ak.take i)+eT m m.ak[i] * (1+(m.ak[i].aq.length:Int)))=gQ (dO m) m.aq+gQ sX m.ah+gQ (λp:az=>eT m p * (1+(p.aq.length:Int))) (m.ak.take i)+eT m m.ak[i] * (1+(m.ak[i].aq.length:Int)):=dC (by omega) (by omega)
    simp only[show(i:Int)<(m.ak.length:Int)by omega,if_true,show(0:Int)<=(i:Int)by omega,xV,xG a,xS,j a q,s,lJ a,HH a]
    by_cases A:m.ak[i].aH=0
    .grind [eT]
    grind [eT]
   .simp only[oQ,if_false,hJ]
    rfl
theorem Qi{N:Nat}{F:Nat->Flt}{Φ:Int×Flt->(Int×Flt->U ρ)->U ρ}{A:U ρ}{G:Flt->U ρ}
  (h0:∀i k,i<N->(∀j,j<i->(F j).1=0)->Φ ((i:Int),0,0,0,0) k=k (((i+1:Nat):Int),F i)) (l:∀k,Φ ((N:Int),0,0,0,0) k=A) (h:∀(i:Nat) f k,f.1≠0->i<=N->Φ ((i:Int),f) k=G f) (hF:∀i,(F i).1=0->F i=(0,0,0,0)):
  im Φ (0,0,0,0,0)=(orF N F).elim A G:=by
 refine Ju (λv e=>(∃i:Nat,i<=N/\v=((i:Int),0,0,0,0)/\(∀j,j<i->(F j).1=0)/\e=(orF N F).elim A G)\/(∃(i:Nat) (f:Flt),i<=N/\v=((i:Int),f)/\f.1≠0/\e=G f)) (λv=>N - v.1.toNat) ?_ (.inl ⟨0,eD _,rfl,λj g=>by omega,rfl⟩)
 rintro v e k (⟨i,d,rfl,b,rfl⟩ |⟨i,f,d,rfl,m,rfl⟩) hk
 .obtain q |q:=gF i N
  .rw[h0 i k q b]
   have a:N - ((((i+1:Nat):Int),F i).1).toNat<N - (((i:Int),((0,0,0,0):Flt)).1).toNat:=by simp;omega
   by_cases c:(F i).1=0
   .refine hk _ _ (.inl ⟨i+1,q,by rw[hF i c],λj g=> ?_,rfl⟩) a
    obtain r |r:=gF j i
    .exact b j r
    grind
   .exact hk _ _ (.inr ⟨i+1,F i,q,rfl,c,by grind [ou]⟩) a
  grind [wF]
 grind
theorem UK{Φ:Int×Flt->(Int×Flt->U ρ)->U ρ}{f:Flt}{e:U ρ}(h:∀k,Φ (0,f) k=e):im Φ (0,f)=e:=JC h
theorem Zi{m:ae}{f:Flt}(h:vJ m=some f):f.1≠0/\f.2.2.2=0:=by
 unfold vJ at h
 cases c:(qJ m.aa:U (Nat×Int))with
 |some q=>
  rw[c]at h
  simp only[xQ,Option.some_or,xJ]at h
  subst h
  exact⟨(fo (i:=q.1) (e:=q.2) c).2.2.1,rfl⟩
 |none=>
  rw[c]at h
  simp only[Option.map_none,m8]at h
  cases a:orF m.aq.length (gvF m)with
  |some x=>
   rw[a]at h
   simp only[Option.some_or,xJ]at h
   subst h;obtain⟨i,g,d,b⟩:=mD a
   exact⟨b,by rw[<-d];rfl⟩
  |none=>
   rw[a]at h
   simp only[m8]at h
   obtain⟨i,g,d,b⟩:=mD h
   exact⟨b,by rw[<-d];rfl⟩
theorem CQ{m:ae}(h:cC m)(r:MoE m){g:Int->Int->Int->Int->U ρ}:vt m g=g ((ij m).getD (0,0,0,0)).1 ((ij m).getD (0,0,0,0)).2.1 ((ij m).getD (0,0,0,0)).2.2.1 ((ij m).getD (0,0,0,0)).2.2.2:=by
 have u:=h.n;have s:=h.q;simp only[vt,vq,mkF,Zg h,Qh h];unfold ij
 cases n:vJ m with
 |some f=>
  obtain⟨w,t⟩:=Zi n;simp only[oM,Option.some_or,gC]
  simp_all [UK]
 |none=>
  simp only[kF,m8]
  have b:im (ρ:=ρ) (λ(v:Int) k=>if v<(m.aL.length:Int)then je m v λx=>if x=0 then k (IntKind.i64.wrap (v+1))else g x 5 v 0 else g 0 0 0 0) 0=(dN m.aL.length (ot m)).elim (g 0 0 0 0) λq=>g q.2 5 q.1 0:=by
   refine iK (τ:=Int) m.aL.length (λi:Nat=>(i:Int)) Int.toNat (λi=>rfl) (ot m) (λi e=>g e 5 i 0) (g 0 0 0 0) (λi k a l=> ?_) (λ_ k=>by simp)
   have o:i<=8:=oL λc=>by
    grind [ot]
   simp only[show(i:Int)<(m.aL.length:Int)by omega,if_true,Zh h r a o,eM (show i<4611686018427387904 by omega)]
  refine(Qi (N:=m.ak.length) (F:=gpF m) (A:=if 12<vH m then g 11 4 m.ak.length 0 else if 64<vI m then g 11 4 m.ak.length 0 else(dN m.aL.length (ot m)).elim (g 0 0 0 0) λq=>g q.2 5 q.1 0) (G:=λf=>g f.1 f.2.1 f.2.2.1 f.2.2.2) (λi k a l=> ?_) (λk=> ?_) (λi f k y a=> ?_) (λi=>aqS)).trans ?_
  .have h6:i<=6:=oL λc=>by
    grind [gpF]
   grind [Oa,eM]
  .grind
  .grind
  .unfold Ad sY
   cases z:orF m.ak.length (gpF m)with
   |some f=>rfl
   |none=>
    simp only[kF,m8]
    by_cases d:12<vH m
    .grind
    by_cases j:64<vI m
    .grind
    rw[if_neg d,if_neg j,if_neg (λq=>q.elim d j),m8,<-CP (p:=5) (f:=λi=>(ot m i,5,(i:Int),0)) λi=>rfl]
    cases dN m.aL.length λi=>ot m i <;>rfl
theorem Ry{m:ae}(h:cC m)(a:MoE m){g:Bool->U ρ}:CJ m g=g (decide (((ij m).getD (0,0,0,0)).1=0)):=by
 grind [CJ,CH,mkF,CQ]
end
end Go.Etx
namespace Go.Am
open Go
attribute [go_sem] E?
section
variable{P:Pz}
theorem UL{xs:J Int}:t6 (tl eI xs)=some (List.map eI xs):=by
 induction xs with
 |nil=>rfl
 |cons x r a=>simp only[tl,eJ,t6,eI,D.flat,if_true]at a |-;rw[a];rfl
theorem plainT_tl{xs:J Int}:fS (tl eI xs)=true:=by
 induction xs with
 |nil=>rfl
 |cons x r a=>exact a
theorem HN{xs:J Int}:dW 1 (tl eI xs)=true:=eP λx=>rfl
theorem UM{r:aj}{p:dP}{off:Nat}{xs es:J Int}{c:T}{k:Wk}(a:k.get r=some c)(ha:c.at p=some (.own (tl eI es)))(hf:off+xs.length<=es.length):
  lx r p off (List.map eI xs) k=if xs=[]then some k else(c.put p (.own (tl eI (es.take off++xs++es.drop (off+xs.length))))).bind (k.set r):=by
 unfold lx
 by_cases h:xs=[]
 .subst h;rfl
 rw[if_neg h,if_neg (by simpa using h),a,xS,ha,xS]
 simp only
 rw[if_pos ⟨by simpa [tl]using hf,HN,plainT_tl,by simp[eI,D.nc]⟩]
 simp only[tl,pE,F2,OW,lO,j3,vY]
theorem BD{t u:TypeId}(hu:elemOf P t=some u)(hc:P.cellsOf u=1){r:aj}{p:dP}{off len:Nat}{xs es:J Int}{c:T}{b:SV}{k:Wk}(hb:qp b k=some (tl eI xs))(e:k.get r=some c)(ha:c.at p=some (.own (tl eI es)))(hf:off+Nat.min xs.length len<=es.length):
  nP P t (.aG r p off len) b k=(if xs.take (Nat.min xs.length len)=[]then some k else(c.put p (.own (tl eI (es.take off++xs.take (Nat.min xs.length len)++es.drop (off+Nat.min xs.length len))))).bind (k.set r)).map λk'=>(.d (.int .i64 ((Nat.min xs.length len:Nat):Int)),k'):=by
 obtain⟨n,a⟩:∃n,n=Nat.min xs.length len:=⟨_,rfl⟩
 have f:n<=xs.length:=a▸Nat.min_le_left _ _;rw[<-a]at hf |-
 have d:(xs.take n).length=n:=by rw[yR];omega
 have:=UM (xs:=xs.take n) e ha (by rw[d];exact hf)
 simp only[nP,hu,hb,UL,xS,if_pos (And.intro hc HN),lO,<-a];rw[<-F2,this,d]
theorem UN{b:Bool}{xs:J Int}{k:Wk}:qp (.clip b (List.map eI xs)) k=some (tl eI xs):=by simp[qp,tl,j3,vY]
theorem FX{b:Bool}{xs:J Int}{k:Wk}:qp (.d (.sl b (List.map eI xs))) k=some (tl eI xs):=by simp[qp,tl,j3,vY]
end
end Go.Am
namespace Go.Etx
open Go Go.Am Go.Proofs
set_option maxHeartbeats 4000000
set_option maxRecDepth 20000
section
attribute [-simp] List.map_append List.map_take List.map_drop List.map_set
abbrev oJ(m:ae):D:=.agg [.sl false (List.map dz m.aa),.sl false (List.map dH m.aq),.sl false (List.map dM m.ah),.sl false (List.map (dI false) m.ak),.sl false (List.map (e9 false) m.aL)]
@[go_sem] theorem aiY{call:dF}{h:Hint}{dst o:Nat}{xs:J SV}{k:Wk}:Nx P call h dst (.d (.yld o)) xs k=(gS (h.nvAt dst) xs k {}).bind λp=>(gy call h dst (1099511627776+o) (canon p.2.2.sn p.1) p.2.2 p.2.1).bind jP:=rfl
def BE(s:J aw)(k:Int):Int:=
 if 1<=k then match s[(k - 1).toNat]? with |some x=>if 1<=x.cS/\x.cS<=4 then x.cS else 0 |none=>0 else 0
theorem aa0{ρ:Type}(m:ae)(hs:m.aa.length<=1000)(p:az)(κ:KT ρ):cbK (call 152 [oJ m,dI false p] []) κ=κ ([.d (.int .i64 (BE m.aa p.aH))],[]):=by
 refine(amg _ _ _ rfl).trans ?_
 simp -implicitDefEqProofs [go_sem]
 unfold BE
 by_cases a:p.aH<1
 .grind
 by_cases b:(m.aa.length:Int)<p.aH
 .simp only[a,b,if_true,if_false,lL (show m.aa.length<=(p.aH - 1).toNat by omega),ite_self]
 have c:IntKind.i64.wrap (p.aH - 1)=p.aH - 1:=dC (by omega) (by omega)
 have d:=xG (show(p.aH - 1).toNat<m.aa.length by omega)
 simp only[a,b,if_false,c,show 0<=p.aH - 1 by omega,if_true,d,xS,show 1<=p.aH by omega]
 by_cases h3:m.aa[(p.aH - 1).toNat].cS<1
 .grind
 by_cases h4:4<m.aa[(p.aH - 1).toNat].cS
 .grind
 grind
@[go_sem] theorem age{g i:FuncId}{ps d:J Nat}{a b h b':Code}{e j:J (Nat×SV)}{c c':J ((Nat×Nat)×T)}{r f:J Ob}:ec (.frame g ps a b e c::r) (.frame i d h b' j c'::f)=ec r f:=rfl
def Af{ρ:Type}(m:ae)(F:J aE->Ob)(l:J aE):Prop:=l.length<=100000->∀(i:Nat) (y:Int),i<m.ak.length->∀κ:KT ρ,cbK (call 1099511627777 [.agg [.int .i64 (i:Int),.int .i64 y]] [.box (.d (oJ m)),F l]) κ=κ ([.d (.bool true)],[.box (.d (oJ m)),F (l++[⟨(i:Int),y⟩])])
section
variable{ρ:Type}(m:ae)(hs:m.aa.length<=1000)(g:FuncId)(ps:J Nat)(a b:Code)(E:J aE->J (Nat×SV))(C:J aE->J ((Nat×Nat)×T))
abbrev FR(g:FuncId)(ps:J Nat)(a b:Code)(E:J aE->J (Nat×SV))(C:J aE->J ((Nat×Nat)×T))(l:J aE):Ob:=.frame g ps a b (E l) (C l)
def SIg(i:Nat)(F:Ob):St:=⟨[(0,.d (.yld 1)),(1,.d (.ptr 0)),(7,.d (.sl false (List.map (dI false) m.ak))),(8,.d (.int .i64 m.ak.length)),(9,.d (.int .i64 i))],[],[.box (.d (oJ m)),F]⟩
def SJg(i k:Nat)(n:Int)(F:Ob):St:=⟨[(0,.d (.yld 1)),(1,.d (.ptr 0)),(3,.d (.int .i64 i)),(7,.d (.sl false (List.map (dI false) m.ak))),(8,.d (.int .i64 m.ak.length)),(9,.d (.int .i64 i)),(26,.d (.int .i64 n)),(27,.d (.int .i64 k))],[],[.box (.d (oJ m)),F]⟩
theorem agf(i k:Nat)(hi:i<m.ak.length)(n:Int)(hk:(k:Int)<n)(hn:n<=4)(l:J aE)(hl:l.length<=100000)(d:∀l,Af (ρ:=ρ) m (FR g ps a b E C) l)(κ:Ex×St->U ρ):
  dG P hints ja D2 0 (SJg m i k n (FR g ps a b E C l)) κ=dG P hints ja D2 0 (SJg m i (k+1) n (FR g ps a b E C (l++[⟨(i:Int),(k:Int)+1⟩]))) κ:=by
 refine(ap XF.2).trans ?_
 have e:IntKind.i64.wrap ((k:Int)+1)=(k:Int)+1:=dC (by omega) (by omega)
 have c:=λy κ=>d l hl i y hi κ
 simp only[FR]at c
 simp -implicitDefEqProofs [go_sem,SJg,hk,c,e]
def XJg(i k:Nat)(n:Int)(F:Ob):St:=⟨[(0,.d (.yld 1)),(1,.d (.ptr 0)),(3,.d (.int .i64 i)),(7,.d (.sl false (List.map (dI false) m.ak))),(8,.d (.int .i64 m.ak.length)),(9,.d (.int .i64 i)),(26,.d (.int .i64 n)),(27,.d (.int .i64 k)),(28,.d (.bool false))],[],[.box (.d (oJ m)),F]⟩
theorem agh(i k:Nat)(n:Int)(hk:¬(k:Int)<n)(F:Ob)(κ:Ex×St->U ρ):
  dG P hints ja D2 0 (SJg m i k n F) κ=κ (.exit 2,XJg m i k n F):=by
 refine(ap XF.2).trans ?_
 simp -implicitDefEqProofs [go_sem,SJg,XJg,hk]
def elQ(i k:Nat):Nat->List aE
 |0=>[]
 |n+1=>⟨(i:Int),(k:Int)+1⟩::elQ i (k+1) n
theorem Qj(c:∀l,Af (ρ:=ρ) m (FR g ps a b E C) l)(i:Nat)(hi:i<m.ak.length)(n:Int)(hn:n<=4)(κ:Ex×St->U ρ):∀(d k:Nat) (l:J aE),(n - k).toNat=d->(k:Int)<=n\/k=0->l.length+d<=100000->dG P hints ja D2 0 (SJg m i k n (FR g ps a b E C l)) κ=κ (.exit 2,XJg m i (k+d) n (FR g ps a b E C (l++elQ i k d)))
 |0,k,l,e,hk,_=>by
  grind [agh,elQ]
 |d+1,k,l,e,hk,f=>by
  rw[agf m g ps a b E C i k hi n (by omega) hn l (by omega) c,Qj c i hi n hn κ d (k+1) _ (by omega) (by omega) (by simp;omega),xK,show k+1+d=k+(d+1)by omega]
  rfl
def ofQ(i:Nat)(p:az):J aE:=(if p.aH=0 then [⟨(i:Int),0⟩]else [])++elQ i 0 (BE m.aa p.aH).toNat
theorem BG{s:J aw}{k:Int}:0<=BE s k/\BE s k<=4:=by
 unfold BE;split
 .split
  .split <;>omega
  .omega
 .omega
theorem Rz{i:Nat}:∀{k n:Nat},(elQ i k n).length=n
 |k,0=>rfl
 |k,n+1=>by simp[elQ,Rz (k:=k+1)]
theorem Zj{i:Nat}{p:az}:(ofQ m i p).length<=5:=by
 have:= @BG m.aa p.aH
 grind [ofQ,Rz]
theorem agi(hs:m.aa.length<=1000)(hn:m.ak.length<=1000)(l:J aE)(hb:l.length+5<=100000)(f:∀l,Af (ρ:=ρ) m (FR g ps a b E C) l)(κ:Ex×St->U ρ)(i:Nat)(hi:i<m.ak.length):dG P hints ja D2 1 (SIg m i (FR g ps a b E C l)) κ=dG P hints ja D2 1 (SIg m (i+1) (FR g ps a b E C (l++ofQ m i m.ak[i]))) κ:=by
 refine(ap XG.2).trans ?_
 have n:m.ak[i]? =some m.ak[i]:=xG hi;have j:(i:Int)<(m.ak.length:Int):=by omega
 have k:IntKind.i64.wrap ((i:Int)+1)=(i:Int)+1:=dC (by omega) (by omega)
 have e:=λκ=>aa0 (ρ:=ρ) m hs m.ak[i] κ
 simp only[go_sem]at e
 have d:=λy κ=>f l (by omega) i y hi κ
 simp only[FR]at d
 have o:= @BG m.aa m.ak[i].aH;have h:=λ(κ:Ex×St->U ρ)=>Qj (ρ:=ρ) m g ps a b E C f i hi (BE m.aa m.ak[i].aH) BG.2 κ _ 0 l rfl (.inr rfl) (by omega)
 have c:=λ(y:Int) (κ:Ex×St->U ρ)=>Qj (ρ:=ρ) m g ps a b E C f i hi (BE m.aa m.ak[i].aH) BG.2 κ _ 0 (l++[⟨(i:Int),y⟩]) rfl (.inr rfl) (by simp;omega)
 simp only[SJg,XJg,FR,ez]at h c
 simp -implicitDefEqProofs [go_sem,SIg,j,n,d,e,h,c,k]
 grind [ofQ]
def XIg(i:Nat)(F:Ob):St:=⟨[(0,.d (.yld 1)),(1,.d (.ptr 0)),(7,.d (.sl false (List.map (dI false) m.ak))),(8,.d (.int .i64 m.ak.length)),(9,.d (.int .i64 i)),(10,.d (.bool false))],[],[.box (.d (oJ m)),F]⟩
theorem agj(i:Nat)(hi:¬i<m.ak.length)(F:Ob)(κ:Ex×St->U ρ):dG P hints ja D2 1 (SIg m i F) κ=κ (.exit 0,XIg m i F):=by
 refine(ap XG.2).trans ?_
 have a:¬(i:Int)<(m.ak.length:Int):=by omega
 simp -implicitDefEqProofs [go_sem,SIg,XIg,a]
def HP(i:Nat):Nat->List aE
 |0=>[]
 |n+1=>(match m.ak[i]? with |some p=>ofQ m i p |none=>[])++HP (i+1) n
theorem Zk(hs:m.aa.length<=1000)(hn:m.ak.length<=1000)(e:∀l,Af (ρ:=ρ) m (FR g ps a b E C) l)(κ:Ex×St->U ρ):∀(d i:Nat) (l:J aE),i+d=m.ak.length->l.length+5 * d<=100000->dG P hints ja D2 1 (SIg m i (FR g ps a b E C l)) κ=κ (.exit 0,XIg m m.ak.length (FR g ps a b E C (l++HP m i d)))
 |0,i,l,f,_=>by
  grind [agj,HP]
 |d+1,i,l,f,j=>by
  have c:i<m.ak.length:=by omega
  have h:= @Zj m i m.ak[i];rw[agi m g ps a b E C hs hn l (by omega) e κ i c,Zk hs hn e κ d (i+1) _ (by omega) (by grind),HP,xG c,xK]
def jM:J aE:=HP m 0 m.ak.length
theorem Oc(hs:m.aa.length<=1000)(hn:m.ak.length<=1000)(d:∀l,Af (ρ:=ρ) m (FR g ps a b E C) l)(κ:KT ρ):cbK (call 151 [.yld 1,.ptr 0] [.box (.d (oJ m)),FR g ps a b E C []]) κ=κ ([],[.box (.d (oJ m)),FR g ps a b E C (jM m)]):=by
 refine(amd _ _ _ rfl).trans ?_
 have c:=λ(κ:Ex×St->U ρ)=>Zk (ρ:=ρ) m g ps a b E C hs hn d κ m.ak.length 0 [] (by omega) (by simp;omega)
 simp only[SIg,XIg,FR,ez,gD]at c
 simp -implicitDefEqProofs [go_sem,c,jM]
end
def Qk(call:dF)(h:Hint)(ps:J Nat)(a b:Code)(s:St):SV->U (Ex×St)
 | .d (.fn (.func g) first cap)=>
  if YB<=g then none else
  (call g (first++[.yld s.H.length]++cap) (s.H++[.frame h.self ps a b (s.env.map λp=>(p.1,p.2.loose)) s.ct])).bind λ(d,c)=>
   match d,c[s.H.length]? with
   | [],some (.frame _ _ _ _ env ct)=>if c.length=s.H.length+1 then some (.normal,{env,ct,H:=c.set s.H.length .lock})else none
   |_,_=>none
 |_=>none
@[go_sem] theorem aiZ{call:dF}{h:Hint}{f:Oz}{ps:J Nat}{a b:Code}{s:St}:kJ call h f ps a b s=if h.nest=true then none else Qk call h ps a b s (s.val f):=rfl
def HQ(n:Nat)(q:J T×J Ob):U (Ex×St):=
 match q.1,q.2[n]? with
 | [],some (.frame _ _ _ _ env ct)=>if q.2.length=n+1 then some (.normal,{env,ct,H:=q.2.set n .lock})else none
 |_,_=>none
@[go_sem] theorem ai0{call:dF}{h:Hint}{ps:J Nat}{a b:Code}{s:St}{g:FuncId}{first cap:J D}(c:g<1099511627776):Qk call h ps a b s (.d (.fn (.func g) first cap))=cb (call g (first++[.yld s.H.length]++cap) (s.H++[.frame h.self ps a b (s.env.map λp=>(p.1,p.2.loose)) s.ct])) (HQ s.H.length):=by
 simp only[Qk,if_neg (show¬YB<=g from Nat.not_le.2 c)];rfl
attribute [go_sem] SV.loose
section
variable{ρ:Type}
noncomputable def kRb(o g p:Nat)(x y:Code)(W:J Nat)(env:J (Nat×SV))(n:Nat)(κ:KT ρ):Ex×St->U ρ:=λr=>match r.1 with
 | .normal=>match r.2.H[o]? with
  |some .lock=>κ ([.d (.bool true)],lu n [] (r.2.H.set o (.frame g [p] x y (((env.map (·.1)).filter λt=> !W.contains t).map λt=>(t,(r.2.get t).loose)) (pick r.2.ct (jQ (SV.cg ((((env.map (·.1)).filter λt=> !W.contains t).map λt=>(t,(r.2.get t).loose)).map (·.2))))))))
  |_=>none
 |_=>none
noncomputable def kRa(o g p:Nat)(x y:Code)(W:J Nat)(env:J (Nat×SV))(n:Nat)(h:Hint)(cy:CL)(κ:KT ρ):Ex×St->U ρ:=λr=>match r.1 with
 | .normal=>go P hints h y cy r.2 (kRb o g p x y W env n κ)
 |_=>none
@[congr] theorem ai1{o g p:Nat}{x y:Code}{W:J Nat}{env:J (Nat×SV)}{n:Nat}{h:Hint}{cy:CL}{κ:KT ρ}{r a:Ex×St}(e:r=a):kRa o g p x y W env n h cy κ r=kRa o g p x y W env n h cy κ a:=by rw[e]
@[go_sem] theorem axE{o g p:Nat}{x y:Code}{W:J Nat}{env:J (Nat×SV)}{n:Nat}{h:Hint}{cy:CL}{κ:KT ρ}{s:St}:kRa o g p x y W env n h cy κ (.normal,s)=go P hints h y cy s (kRb o g p x y W env n κ):=rfl
theorem Od{o g p:Nat}{x y:Code}{W:J Nat}{env:J (Nat×SV)}{n:Nat}{κ:KT ρ}{s:St}(hl:s.H[o]? =some .lock):kRb o g p x y W env n κ (.normal,s)=κ ([.d (.bool true)],lu n [] (s.H.set o (.frame g [p] x y (((env.map (·.1)).filter λt=> !W.contains t).map λt=>(t,(s.get t).loose)) (pick s.ct (jQ (SV.cg ((((env.map (·.1)).filter λt=> !W.contains t).map λt=>(t,(s.get t).loose)).map (·.2)))))))):=by
 simp only[kRb,hl]
theorem Oe{o g p:Nat}{x y:Code}{env:J (Nat×SV)}{ct:J ((Nat×Nat)×T)}{d:D}{H:J Ob}{W:J Nat}{cx cy:CL}(a:H[o]? =some (.frame g [p] x y env ct))(hx:qx {hints g with nest:=true} x=some cx)(b:qx {hints g with nest:=true} y=some cy)(hw:p::kB x++kB y=W)(κ:KT ρ):
  cbK (call (1099511627776+o) [d] H) κ=go P hints {hints g with nest:=true} x cx ⟨(p,.d d)::env,ct,H.set o .lock⟩ (kRa o g p x y W env H.length {hints g with nest:=true} cy κ):=by
 show cbK (eG P hints (YB+o) [d] H) κ=_;rw[NI];unfold Hn;simp only[a,uv hx,uv b,hw];unfold go cbK;rw[xX];congr 1;funext r;obtain⟨e,s⟩:=r
 cases e <;>try rfl
 simp only[kRa,go];rw[xX];congr 1
 grind [kRb]
end
def rb:Code->Option (Operand×Array Nat×Code×Code)
 | .rangeFunc f ps a b=>some (f,ps,a,b)
 | .seq a b=>(rb a).or (rb b)
 |.block _ a|.scope a=>rb a
 | .cond _ a b=>(rb a).or (rb b)
 | .loop a=>rb a
 |_=>none
@[go_sem] def mkU{c:Type}(a b:c)(e:a=b:=by conv=>lhs;cbv):{b:c // a=b}:=⟨b,e⟩
@[go_sem] noncomputable def JD:=mkU (((rb L!).map λx=>x.2.2.1).getD .skip) _
@[go_sem] noncomputable def JE:=mkU (((rb L!).map λx=>x.2.2.2).getD .skip) _
@[go_sem] noncomputable def adV:=mkQ {hint150 with nest:=true} JD.1 _
@[go_sem] noncomputable def adW:=mkQ {hint150 with nest:=true} JE.1 _
@[go_sem] noncomputable def aqT:=mkU (7::kB JD.1++kB JE.1) _
def Zl(l:J aE):J (Nat×SV):=if l=[]then [(2,.loc (.l 2 0) [] 0 0),(6,.d (.fn (.func 151) [] [.ptr 0])),(7,.dead)]else [(2,.loc (.l 2 0) [] 0 0),(6,.dead)]
def Zm(l:J aE):J ((Nat×Nat)×T):=[((2,0),.own [.own (tl gU l)])]
theorem avA{ρ:Type}(m:ae)(l:J aE):Af (ρ:=ρ) m (FR 150 [7] JD.1 JE.1 Zl Zm) l:=by
 intro f x y e κ;have d:∀env ct,([.box (.d (oJ m)),.frame 150 [7] JD.1 JE.1 env ct]:J Ob)[1]? =some (.frame 150 [7] JD.1 JE.1 env ct):=λ_ _=>rfl
 refine(Oe (o:=1) (cx:=adV.1) (cy:=adW.1) (W:=aqT.1) (d _ _) adV.2 adW.2 aqT.2 κ).trans ?_
 by_cases h:l=[]
 .subst h
  simp -implicitDefEqProofs [go_sem,show hints 150=hint150 from rfl,Od,FR,Zl,Zm]
  simp[tl,gU,eI]
 .have c:(l.length+1) * 16<=140737488355328:=by omega
  have a:l.length+1<=9223372036854775807:=by omega
  have b:l.length<=9223372036854775806:=by omega
  simp -implicitDefEqProofs [go_sem,show hints 150=hint150 from rfl,Od,FR,Zl,Zm,h,c,a,b]
theorem Zn{ρ:Type}(m:ae)(hs:m.aa.length<=1000)(hn:m.ak.length<=1000)(κ:KT ρ):cbK (call 150 [.aJ,.fn (.func 151) [] [.ptr 0]] [.box (.d (oJ m))]) κ=κ ([.d (.sl false (List.map gU (jM m)))],[.box (.d (oJ m))]):=by
 have a:=λκ=>Oc (ρ:=ρ) m 150 [7] JD.1 JE.1 Zl Zm hs hn (λl=>avA m l) κ
 simp only[FR,Zl,Zm,if_true,iY]at a
 simp only[go_sem]at a
 refine(amb _ _ _ rfl).trans ?_
 simp -implicitDefEqProofs [go_sem,show hint150.nest=false from rfl,show hint150.self=150 from rfl]
 refine(a _).trans ?_
 by_cases h:jM m=[]
 .simp -implicitDefEqProofs [go_sem,HQ,h]
 .simp -implicitDefEqProofs [go_sem,HQ,h]
theorem UO{ρ:Type}(m:ae)(hs:m.aa.length<=1000)(hn:m.ak.length<=1000)(κ:KT ρ):cbK (call 115 [.fn (.func 151) [] [.ptr 0]] [.box (.d (oJ m))]) κ=κ ([.d (.sl false (List.map gU (jM m)))],[.box (.d (oJ m))]):=by
 refine(ak0 _ _ _ rfl).trans ?_
 have a:=λκ=>Zn (ρ:=ρ) m hs hn κ
 simp -implicitDefEqProofs [go_sem,a,show hint115.nvAt 4=1099511627776 from rfl]
theorem RA{ρ:Type}(m:ae)(hs:m.aa.length<=1000)(hn:m.ak.length<=1000)(κ:KT ρ):cbK (call 83 [oJ m] []) κ=κ ([.d (.sl false (List.map gU (jM m)))],[]):=by
 refine(avc _ _ _ rfl).trans ?_
 have a:=λκ=>UO (ρ:=ρ) m hs hn κ
 simp -implicitDefEqProofs [go_sem,adf,a]
def hn84:Hint:={hint84 with nest:=true}
@[go_sem] theorem aqU:hn84.nv=hint84.nv:=rfl
@[go_sem] theorem aqV:hn84.cB=hint84.cB:=rfl
@[go_sem] theorem aqW:hn84.lits=hint84.lits:=rfl
theorem UP{ρ:Type}{o g p:Nat}{x y:Code}{env:J (Nat×SV)}{ct:J ((Nat×Nat)×T)}{d:D}{H:J Ob}{W:J Nat}{cx cy:CL}{h:Hint}(c:{hints g with nest:=true}=h)(a:H[o]? =some (.frame g [p] x y env ct))(hx:qx h x=some cx)(b:qx h y=some cy)(hw:p::kB x++kB y=W)(κ:KT ρ):
  cbK (call (1099511627776+o) [d] H) κ=go P hints h x cx ⟨(p,.d d)::env,ct,H.set o .lock⟩ (kRa o g p x y W env H.length h cy κ):=by
 grind [Oe]
@[go_sem] noncomputable def JF:=mkU (((rb b84).map λx=>x.2.2.1).getD .skip) _
@[go_sem] noncomputable def vM:=mkU (((rb b84).map λx=>x.2.2.2).getD .skip) _
@[go_sem] noncomputable def adX:=mkQ hn84 JF.1 _
@[go_sem] noncomputable def adY:=mkQ hn84 vM.1 _
@[go_sem] noncomputable def RB:=mkR hn84 vM.1 0 _
@[go_sem] noncomputable def aqX:=mkU (11::kB JF.1++kB vM.1) _
section
variable{ρ:Type}(m:ae)
abbrev aa1(e:J (Nat×SV)):J (Nat×SV):=[(1,.loc (.l 1 0) [] 0 0),(3,.loc (.l 3 0) [] 0 0),(4,.loc (.l 4 0) [] 0 0),(5,.loc (.l 5 0) [] 0 0)]++e
abbrev agk(c a b:Int)(d:J bc):J ((Nat×Nat)×T):=[((1,0),.own [.d (oJ m)]),((3,0),.own [.own (tl uF d)]),((4,0),.own [.d (.int .i64 c)]),((5,0),.own [.d (.agg [.int .i64 a,.int .i64 b])])]
def SR(c a b:Int)(n k:Nat)(d:J bc):St:=⟨aa1 [(11,.d (.agg [.int .i64 a,.int .i64 b])),(25,.d (.int .i64 n)),(26,.d (.int .i64 k))],agk m c a b d,[.box (.d (oJ m)),.lock]⟩
def XR(c a b:Int)(n k:Nat)(d:J bc):St:=⟨aa1 [(11,.d (.agg [.int .i64 a,.int .i64 b])),(25,.d (.int .i64 n)),(26,.d (.int .i64 k)),(27,.d (.bool false))],agk m c a b d,[.box (.d (oJ m)),.lock]⟩
theorem agl(d a b:Int)(n k:Nat)(hk:k<n)(hn:n<=1000)(c:J bc)(ho:c.length<=1000000000)(κ:Ex×St->U ρ):dG P hints hn84 vM.1 0 (SR m d a b n k c) κ=dG P hints hn84 vM.1 0 (SR m d a b n (k+1) (c++[⟨d,(k:Int)⟩])) κ:=by
 refine(ap RB.2).trans ?_
 have i:IntKind.i64.wrap ((k:Int)+1)=(k:Int)+1:=dC (by omega) (by omega)
 have h:(k:Int)<(n:Int):=by omega
 have g:(c.length+1) * 16<=140737488355328:=by omega
 have e:c.length+1<=9223372036854775807:=by omega
 have f:c.length<=9223372036854775806:=by omega
 simp -implicitDefEqProofs [go_sem,SR,h,i,g,e,f]
theorem agm(c a b:Int)(n:Nat)(d:J bc)(κ:Ex×St->U ρ):dG P hints hn84 vM.1 0 (SR m c a b n n d) κ=κ (.exit 2,XR m c a b n n d):=by
 refine(ap RB.2).trans ?_
 simp -implicitDefEqProofs [go_sem,SR,XR]
def Iz(a:Int):Nat->Nat->List bc
 |_,0=>[]
 |k,d+1=>⟨a,(k:Int)⟩::Iz a (k+1) d
theorem Of{a:Int}:∀{d k:Nat},(Iz a k d).length=d
 |0,_=>rfl
 |d+1,k=>by simp[Iz,Of (d:=d)]
theorem Zo(e a b:Int)(n:Nat)(hn:n<=1000)(κ:Ex×St->U ρ):∀(d k:Nat) (c:J bc),k+d=n->c.length+d<=1000000000->dG P hints hn84 vM.1 0 (SR m e a b n k c) κ=κ (.exit 2,XR m e a b n n (c++Iz e k d))
 |0,k,c,f,_=>by
  grind [agm,Iz]
 |d+1,k,c,f,g=>by
  rw[agl m e a b n k (by omega) hn c (by omega),Zo e a b n hn κ d (k+1) _ (by omega) (by simp;omega),xK]
  rfl
def ow(i:Nat):Nat:=match m.ak[i]? with |some p=>p.aO.length |none=>0
structure RS where
 at_:Int
 a:Int
 b:Int
 out:List bc
def yT(s:RS)(x:aE):RS:=if x.cr=s.a/\x.Elem=s.b then⟨s.at_,x.cr,x.Elem,s.out++Iz s.at_ 0 (ow m x.cr.toNat)⟩else⟨s.at_+1,x.cr,x.Elem,s.out++Iz (s.at_+1) 0 (ow m x.cr.toNat)⟩
def lq(l:J aE):RS:=l.foldl (yT m) ⟨-1,-1,0,[]⟩
theorem UQ(l:J aE)(x:aE):lq m (l++[x])=yT m (lq m l) x:=by simp[lq]
theorem agn(hc:∀i,ow m i<=1000)(l:J aE):(lq m l).out.length<=1000 * l.length/\ -1<=(lq m l).at_/\(lq m l).at_<=(l.length:Int):=by
 have a:∀(l:J aE) (s:RS),(l.foldl (yT m) s).out.length<=s.out.length+1000 * l.length/\s.at_<=(l.foldl (yT m) s).at_/\(l.foldl (yT m) s).at_<=s.at_+(l.length:Int):=by
  intro l
  induction l with
  |nil=>intro s;simp
  |cons x r e=>
   grind [yT,Of]
 obtain⟨c,b,d⟩:=a l ⟨-1,-1,0,[]⟩
 refine⟨?_,b,?_⟩
 .grind [lq]
 grind [lq]
def RD(l:J aE):J (Nat×SV):=if l=[]then aa1 [(10,.d (.fn (.func 151) [] [.ptr 0])),(11,.dead)]else aa1 [(10,.dead)]
def RG(l:J aE):J ((Nat×Nat)×T):=agk m (lq m l).at_ (lq m l).a (lq m l).b (lq m l).out
theorem avB(hc:∀i,ow m i<=1000)(l:J aE):Af (ρ:=ρ) m (FR 84 [11] JF.1 vM.1 RD (RG m)) l:=by
 intro r i y k κ;have n:∀env ct,([.box (.d (oJ m)),.frame 84 [11] JF.1 vM.1 env ct]:J Ob)[1]? =some (.frame 84 [11] JF.1 vM.1 env ct):=λ_ _=>rfl
 have f:m.ak[i]? =some m.ak[i]:=xG k;have g:(i:Int)<(m.ak.length:Int):=by omega
 obtain⟨p,s,b3⟩:=agn m hc l;have b:ow m i=m.ak[i].aO.length:=by unfold ow;rw[f]
 have c:=hc i;rw[b]at c
 have j:IntKind.i64.wrap ((lq m l).at_+1)=(lq m l).at_+1:=dC (by omega) (by omega)
 have e:=λ(q:Int) (κ:Ex×St->U ρ)=>Zo (ρ:=ρ) m q i y m.ak[i].aO.length c κ m.ak[i].aO.length 0 (lq m l).out (by omega) (by omega)
 simp only[go_sem,SR,XR,ez]at e
 refine(UP (o:=1) (cx:=adX.1) (cy:=adY.1) (W:=aqX.1) (show{hints 84 with nest:=true}=hn84 from rfl) (n _ _) adX.2 adY.2 aqX.2 κ).trans ?_
 simp only[FR,RD,RG,UQ,yT,xV,b]
 by_cases h:l=[]
 .subst h
  by_cases a:(i:Int)=(lq m []).a/\y=(lq m []).b
  .grind [lq]
  .have d:¬(i:Int)=(lq m []).a\/¬y=(lq m []).b:=Decidable.not_and_iff_not_or_not.1 a
   simp -implicitDefEqProofs [go_sem,Od,g,f,j,e]
   grind
 .by_cases a:(i:Int)=(lq m l).a/\y=(lq m l).b
  .have d:¬(¬(i:Int)=(lq m l).a\/¬y=(lq m l).b):=λq=>q.elim (λq=>q a.1) (λq=>q a.2)
   simp -implicitDefEqProofs [go_sem,Od,g,f,j,e,h]
   grind
  .have d:¬(i:Int)=(lq m l).a\/¬y=(lq m l).b:=Decidable.not_and_iff_not_or_not.1 a
   simp -implicitDefEqProofs [go_sem,Od,g,f,j,e,h]
   grind
def Og:J bc:=(lq m (jM m)).out
theorem ago(hs:m.aa.length<=1000)(hn:m.ak.length<=1000)(hc:∀i,ow m i<=1000)(κ:KT ρ):cbK (call 84 [oJ m] []) κ=κ ([.d (.sl false (List.map uF (Og m)))],[]):=by
 have a:=λκ=>Oc (ρ:=ρ) m 84 [11] JF.1 vM.1 RD (RG m) hs hn (λl=>avB m hc l) κ
 simp only[FR,RD,RG,if_true]at a
 simp only[go_sem]at a
 refine(avd _ _ _ rfl).trans ?_
 simp -implicitDefEqProofs [go_sem,adf,show hint84.nest=false from rfl,show hint84.self=84 from rfl]
 refine(a _).trans ?_
 by_cases h:jM m=[]
 .simp -implicitDefEqProofs [go_sem,HQ,h,Og]
 .simp -implicitDefEqProofs [go_sem,HQ,h,Og]
end
structure LA where
 V:List Int
 C:List Int
 I:List Int
 n:Int
 lo:List Int
 hi:List Int
 sl:List bu
inductive Wh
 |o
 |v
 |c
 |i
@[go_sem] def LA.tv(a:LA):Wh->T
 | .v=>.dead
 |_=>.own (tl eI a.V)
@[go_sem] def LA.tc(a:LA):Wh->T
 | .c=>.dead
 |_=>.own (tl eI a.C)
@[go_sem] def LA.ti(a:LA):Wh->T
 | .i=>.dead
 |_=>.own (tl eI a.I)
@[go_sem] def LA.HT(a:LA)(w:Wh):J Ob:=[.box (.agg [a.tv w,a.tc w,a.ti w,.d (.int .i64 a.n),.own (tl eI a.lo),.own (tl eI a.hi)]),.box (.own (tl fC a.sl))]
@[go_sem] def LA.H(a:LA):J Ob:=a.HT .o
theorem nC:∀{l:J ar},D.bl (List.map dK l)=List.map dK l
 | []=>rfl
 |b::r=>by
  have:= @nC r
  simp only[eJ,D.bl,this];rfl
def LA.one(a:LA)(s w k:Int)(b:ar):LA:={a with n:=a.n+1,lo:=a.lo++[b.lo],hi:=a.hi++[b.hi],sl:=a.sl++[⟨s,w,k,b.kind⟩]}
def LA.from(a:LA)(s w:Int):Nat->List ar->LA
 |_,[]=>a
 |k,b::r=>(a.one s w (k:Int) b).from s w (k+1) r
def LA.put(a:LA)(s w:Int)(l:J ar):LA:=a.from s w 0 l
def LA.le(a:LA)(N:Nat):Prop:=0<=a.n/\a.n<=(N:Int)/\a.lo.length<=N/\a.hi.length<=N/\a.sl.length<=N
theorem LA.one_le{a:LA}{N:Nat}{s w k:Int}{b:ar}(h:a.le N):(a.one s w k b).le (N+1):=by
 grind [LA.le,LA.one]
theorem LA.from_le{s w:Int}:∀{l:J ar} {k:Nat} {a:LA} {N:Nat},a.le N->(a.from s w k l).le (N+l.length)
 | [],_,_,_,h=>h
 |b::r,k,a,N,h=>by
  have:=LA.from_le (s:=s) (w:=w) (l:=r) (k:=k+1) (LA.one_le (s:=s) (w:=w) (k:=k) (b:=b) h)
  grind [LA.from]
section
variable{ρ:Type}(β:Bool)(wh:Wh)(s w:Int)(l:J ar)(n0:Int)
def SLg(i:Nat)(a:LA):St:=⟨[(0,.d (.int .i64 s)),(1,.d (.int .i64 w)),(3,.d (.ptr 0)),(4,.d (.ptr 1)),(9,.d (.int .i64 n0)),(14,.d (.sl β (List.map dK l))),(15,.d (.int .i64 l.length)),(16,.d (.int .i64 i))],[],a.HT wh⟩
def XLg(i:Nat)(a:LA):St:=⟨[(0,.d (.int .i64 s)),(1,.d (.int .i64 w)),(3,.d (.ptr 0)),(4,.d (.ptr 1)),(9,.d (.int .i64 n0)),(14,.d (.sl β (List.map dK l))),(15,.d (.int .i64 l.length)),(16,.d (.int .i64 i)),(17,.d (.bool false))],[],a.HT wh⟩
theorem agp(i:Nat)(b:i<l.length)(a:LA)(hb:a.le 10000)(hl:l.length<=10000)(κ:Ex×St->U ρ):dG P hints nj P0 0 (SLg β wh s w l n0 i a) κ=dG P hints nj P0 0 (SLg β wh s w l n0 (i+1) (a.one s w i l[i])) κ:=by
 refine(ap XD.2).trans ?_
 have p:l[i]? =some l[i]:=xG b;have m:(i:Int)<(l.length:Int):=by omega
 obtain⟨V,C,I,n,d,c,e⟩:=a;obtain⟨c0,h,r,g,o⟩:=hb;simp only at c0 h r g o;have f:(d.length+1) * 8<=140737488355328:=by omega
 have q:d.length<=9223372036854775806:=by omega
 have b3:(c.length+1) * 8<=140737488355328:=by omega
 have b4:c.length<=9223372036854775806:=by omega
 have b5:(e.length+1) * 32<=140737488355328:=by omega
 have b6:e.length<=9223372036854775806:=by omega
 have j:IntKind.i64.wrap ((i:Int)+1)=(i:Int)+1:=dC (by omega) (by omega)
 have k:IntKind.i64.wrap (n+1)=n+1:=dC (by omega) (by omega)
 cases wh <;>simp -implicitDefEqProofs (maxSteps:=1000000) [go_sem,SLg,LA.one,m,p,f,q,b3,b4,b5,b6,j,k]
theorem agq(i:Nat)(b:¬i<l.length)(a:LA)(κ:Ex×St->U ρ):dG P hints nj P0 0 (SLg β wh s w l n0 i a) κ=κ (.exit 0,XLg β wh s w l n0 i a):=by
 refine(ap XD.2).trans ?_
 have c:¬(i:Int)<(l.length:Int):=by omega
 cases wh <;>simp -implicitDefEqProofs [go_sem,SLg,XLg,c]
theorem Zp(hl:l.length<=1000)(κ:Ex×St->U ρ):∀(d i:Nat) (a:LA),i+d=l.length->a.le (9000+i)->dG P hints nj P0 0 (SLg β wh s w l n0 i a) κ=κ (.exit 0,XLg β wh s w l n0 l.length (a.from s w i (l.drop i)))
 |0,i,a,c,_=>by
  have:i=l.length:=by omega
  subst this;rw[agq β wh s w l n0 _ (by omega),v8];rfl
 |d+1,i,a,c,e=>by
  have b:i<l.length:=by omega
  rw[agp β wh s w l n0 i b a (by grind [LA.le]) (by omega),Zp hl κ d (i+1) _ (by omega) (LA.one_le e),xW b]
  rfl
theorem Zq(hl:l.length<=1000)(a:LA)(ha:a.le 9000)(κ:KT ρ):cbK (call 147 [.int .i64 s,.int .i64 w,.sl β (List.map dK l),.ptr 0,.ptr 1] (a.HT wh)) κ=κ ([.d (.int .i64 a.n)],(a.put s w l).HT wh):=by
 refine(al3 _ _ _ rfl).trans ?_
 have b:=λκ=>Zp (ρ:=ρ) β wh s w l a.n hl κ l.length 0 a (by omega) ha
 simp only[SLg,XLg,i6,ez]at b
 cases wh <;>(simp only[go_sem]at b;simp -implicitDefEqProofs [go_sem,b];rfl)
end
end
theorem HR{N:Nat}{f:Nat->Flt}(h:orF N f=none):∀k,k<N->(f k).1=0:=λk hk=>by
 have:=List.findSome?_eq_none_iff.1 h k (List.mem_range.2 hk)
 by_cases a:(f k).1=0
 .exact a
 grind
theorem JG{most:Nat}{b:J Nm}{a:Nat->Int}{i:Nat}(hi:i<b.length)(h:qI most b a i=0):i<most/\a i=0:=by
 grind [qI]
theorem sZ{a:Type}{l:J a}{most:Nat}{nm:a->Nm}{g:a->Int}(h:∀i,i<l.length->qI most (l.map nm) (eX l g) i=0):l.length<=most/\∀x∈l,g x=0:=by
 refine⟨?_,λx c=> ?_⟩
 .obtain q |q:=Aq l.length
  .omega
  .have:=(JG (by simp;omega) (h (l.length - 1) (by omega))).1
   omega
 .obtain⟨i,b,rfl⟩:=mZ c
  have:=(JG (by simpa using b) (h i b)).2
  grind [eX]
structure CMay(c:aK)(p:az)(s:au):Prop where
 f:0<=c.dk/\c.dk<p.bE
 t:0<=c.To/\c.To<p.bE
 an:c.aM.length<=6
 g:c.Guard≠[]->iZ c.Guard 1 s=0
 a:∀x∈c.aM,D5 x s=0
 one:∀(i j:Nat) (x y:aP),c.aM[i]? =some x->c.aM[j]? =some y->talksP x=true->talksP y=true->i=j
structure PMay(p:az)(s:au):Prop where
 o:0<=p.aH/\p.aH<=(s.aa.length:Int)
 l:1<=p.bE/\p.bE<=12
 vn:p.aq.length<=4
 v:∀x∈p.aq,Bw s.aa x=0/\x.aH=0
 cn:p.aO.length<=12
 c:∀x∈p.aO,CMay x p (innerP p s)
structure May(m:ae):Prop where
 sn:m.aa.length<=2
 s:∀x∈m.aa,1<=x.cS/\x.cS<=4
 vn:m.aq.length<=12
 v:∀x∈m.aq,Bw m.aa x=0
 cn:m.ah.length<=4
 c:∀x∈m.ah,tO m.aa x=0
 pn:m.ak.length<=6
 p:∀(i:Nat) (x:az),m.ak[i]? =some x->PMay x (eQ m i)
 i:vH m<=12
 k:vI m<=64
theorem aa2{c:aK}{p:az}{s:au}(h:(Ac c p s).2=0):CMay c p s:=by
 unfold Ac at h
 split at h
 .grind
 rename_i a;have a:DQ c p=0:=by simpa using a
 split at h
 .grind
 rename_i v;unfold DQ at a
 split at a
 .cases a
 split at a
 .rename_i g
  split at a
  .cases a
  rename_i u
  cases f:dN c.aM.length (lw c.aM s)with
  |some q=>
   rw[f]at h
   exact absurd h (fo (i:=q.1) (e:=q.2) f).2.2.1
  |none=>
   have t:=gV f
   have b:∀(i:Nat) (x:aP),c.aM[i]? =some x->(talksP x=true->(c.aM.take i).any talksP=false)/\D5 x s=0:=λi x d=>by
    grind [lw]
   have w:∀(i j:Nat) (x y:aP),i<j->c.aM[i]? =some x->c.aM[j]? =some y->talksP x=true->talksP y=true->False:=λi j x y n d k l m=>by
    have:=(b j y k).1 m
    rw[yG]at this
    refine this x ?_ l;exact yS (i:=i) (by grind)
   refine⟨⟨g.1,g.2.1⟩,g.2.2,by omega,λo=> ?_,λx d=> ?_,λi j x y d k l m=> ?_⟩
   .grind
   .obtain⟨i,r,rfl⟩:=mZ d
    exact(b i _ (xG r)).2
   grind
 .cases a
theorem Zr{p:az}{s:au}(h:(jh p s).2.2=0):PMay p s:=by
 unfold jh at h
 split at h
 .grind
 rename_i b;have b:vG p s=0:=by simpa using b
 split at h
 .rename_i q a
  unfold pu at a
  cases c:qK p.aq s.aa 4 with
  |some x=>
   rw[c]at a
   simp only[Option.some_or,xJ]at a
   subst a;exact absurd h (fo (i:=x.1) (e:=x.2) c).2.2.1
  |none=>
   rw[c]at a
   simp only[m8]at a
   exact absurd h (fo (i:=q.1) (e:=q.2) a).2.2.1
 .rename_i a
  unfold pu at a;rw[vV]at a
  have f:=sZ (gV a.1);have j:=gV a.2
  cases d:dN p.aO.length λi=>(iJ p (innerP p s) i).2 with
  |some q=>
   rw[d]at h
   exact absurd h (fo (i:=q.1) (e:=q.2) d).2.2.1
  |none=>
   have h3:=gV d;unfold vG at b
   split at b
   .cases b
   split at b
   .cases b
   split at b
   .cases b
   split at b
   .cases b
   refine⟨by omega,by omega,f.1,λx g=>⟨f.2 x g,?_⟩,by omega,λx g=> ?_⟩
   .grind [mZ,eX,iE]
   grind [mZ,iJ,aa2]
theorem agr{m:ae}(h:ij m=none):May m:=by
 unfold ij at h;rw[vV,vV]at h
 obtain⟨c,d,_⟩:=h;unfold vJ at c;rw[vV,vV,Option.map_eq_none_iff]at c
 obtain⟨n,p,h3⟩:=c;unfold Ad at d;rw[vV]at d
 obtain⟨h4,h5⟩:=d
 have f:∀{e:Int} {x:Nm} {l:J Nm},twF e x l=0->e=0:=λ{e x l} q=>by
  grind [twF]
 have o:=sZ (gV n);have k:=sZ (l:=m.aq) (most:=12) (nm:=(·.Name)) (g:=Bw m.aa) λi b=>f (HR p i b)
 have s3:=sZ (l:=m.ah) (most:=4) (nm:=(·.Name)) (g:=tO m.aa) λi b=>f (HR h3 i b)
 have j:∀(i:Nat) (x:az),m.ak[i]? =some x->i<6/\(jh x (eQ m i)).2.2=0:=λi x a=>by
  grind [HR,gpF]
 have r:¬(12<vH m\/64<vI m):=λq=>by grind
 refine⟨o.1,λx a=> ?_,k.1,k.2,s3.1,s3.2,?_,λi x a=>Zr (j i x a).2,by omega,by omega⟩
 .grind [JA]
 .obtain q |q:=Aq m.ak.length
  .omega
  .have:=(j (m.ak.length - 1) _ (xG (by omega))).1
   omega
def oz(m:ae)(p:az):Nat:=(iI m.aa p.aH).toNat
def iy(m:ae)(i:Nat)(p:az):J aE:=(if p.aH=0 then [⟨(i:Int),0⟩]else [])++(List.range (oz m p)).map λ(k:Nat)=>⟨(i:Int),(k:Int)+1⟩
def eb(m:ae):Nat->List az->List aE
 |_,[]=>[]
 |i,p::r=>iy m i p++eb m (i+1) r
def dy(m:ae):J aE:=eb m 0 m.ak
def eF(m:ae)(x:aE):az:=(m.ak[x.cr.toNat]?).getD ⟨[],0,0,[],[]⟩
def eY(m:ae):Nat->List aE->List bc
 |_,[]=>[]
 |i,x::r=>((List.range (eF m x).aO.length).map λ(c:Nat)=>⟨(i:Int),(c:Int)⟩)++eY m (i+1) r
def dJ(m:ae):J bc:=eY m 0 (dy m)
abbrev Bd:=Int×Int
def fX(s:J aw)(a lo hi:Int):Bd:=if a=0 then(lo,hi)else(0,iI s a)
def fu(s:J aw)(v:aB):Bd:=fX s v.aC v.Lo v.Hi
def fM(s:J aw)(c:aD):Bd:=fX s c.aC c.Lo c.Hi
def oA(m:ae)(v:aB):J Bd:=List.replicate (dO m v).toNat (fu m.aa v)
def lh(m:ae)(c:aD):J Bd:=(0,c.bm)::List.replicate c.bm.toNat (fX m.aa c.aC (min c.Lo 0) (max c.Hi 0))
def ko(m:ae)(x:aE):J Bd:=(0,(eF m x).bE - 1)::(eF m x).aq.map (fu m.aa)
def i4:Nat->List (List Bd)->List Nat
 |_,[]=>[]
 |n,b::r=>n::i4 (n+b.length) r
def fc(m:ae):J (J Bd):=m.aq.map (oA m)
def fD(m:ae):J (J Bd):=m.ah.map (lh m)
def kg(m:ae):J (J Bd):=(dy m).map (ko m)
def eR(m:ae):J Bd:=(fc m).flatten++((fD m).flatten++(kg m).flatten)
def vAt(m:ae):J Nat:=i4 0 (fc m)
def cAt(m:ae):J Nat:=i4 (fc m).flatten.length (fD m)
def iAt(m:ae):J Nat:=i4 ((fc m).flatten.length+(fD m).flatten.length) (kg m)
abbrev ofN(l:J Nat):J Int:=l.map λ(n:Nat)=>(n:Int)
def dU(m:ae):bO:=⟨ofN (vAt m),ofN (cAt m),ofN (iAt m),((eR m).length:Int),(eR m).map (·.1),(eR m).map (·.2)⟩
def qm(m:ae)(c:aD)(l:J Int):Bool:=
 let n:=l.headD 0
 decide (0<=n)&&decide (n<=c.bm)&&(List.range (l.length - 1)).all λ(k:Nat)=>
  let v:=l.getD (k+1) 0
  if(k:Int)<n then decide ((fM m.aa c).1<=v)&&decide (v<=(fM m.aa c).2)else decide (v=0)
def lK(s:J Int)(a n:Nat):J Int:=(s.drop a).take n
def inB(m:ae)(s:J Int):Prop:=s.length=(eR m).length/\∀(i:Nat) (v:Int) (b:Bd),s[i]? =some v->(eR m)[i]? =some b->b.1<=v/\v<=b.2
def jn(m:ae)(s:J Int):Bool:=
 decide (s.length=(eR m).length)&&((List.range m.ah.length).all λ(i:Nat)=>match m.ah[i]?,(cAt m)[i]? with |some c,some a=>qm m c (lK s a (c.bm.toNat+1)) |_,_=>true)
  &&(List.range s.length).all λ(i:Nat)=>match s[i]?,(eR m)[i]? with |some v,some b=>decide (b.1<=v)&&decide (v<=b.2) |_,_=>true
def aa3(m:ae)(s:J Int)(i:Nat)(p:az):J Int:=
 (List.range p.bE.toNat).map λ(l:Nat)=>((((dy m).zip (iAt m)).countP λ(x,a)=>decide (x.cr=(i:Int))&&decide (s.getD a 0=(l:Int)):Nat):Int)
def jY(m:ae)(s:J Int)(b:Nat):cw:=
 let x:=((dy m)[b]?).getD ⟨0,0⟩
 ⟨(m.aq.zip (vAt m)).map λ(v,a)=>lK s a (dO m v).toNat,(cAt m).map λa=>s.getD a 0,lK s (((iAt m).getD b 0)+1) (eF m x).aq.length,(m.ak.zipIdx).map λ(p,i)=>aa3 m s i p,x.Elem⟩
def atK(l:J Int)(n:Int):Int×Int:=if 0<=n then(match l[n.toNat]? with |some x=>(x,0) |none=>(0,8))else(0,8)
def Oh(l:J (J Int))(n:Int):U (J Int):=if 0<=n then l[n.toNat]? else none
def qM(n:Int):Bool:=decide (-1048576<=n)&&decide (n<=1048576)
def qO(x:aF)(v:cw):Int×Int:=
 if x.Op=1 then(if qM x.N=true then(x.N,0)else(0,10))
 else if x.Op=2 then(match Oh v.aq x.N with |some l=>atK l 0 |none=>(0,8))
 else if x.Op=4 then atK v.bB x.N
 else if x.Op=5 then(v.Self,0)
 else if x.Op=6 then atK v.Lens x.N
 else if x.Op=7 then(if 0<=x.N then(match v.At[(Int.tdiv x.N 16).toNat]? with |some l=>atK l (Int.tmod x.N 16) |none=>(0,8))else(0,8))
 else(0,0)
def HS(x:aF)(k:Int)(v:cw):Int×Int:=
 match Oh v.aq x.N with |some l=>(if 1<=k then(match l[(k - 1).toNat]? with |some y=>(y,0) |none=>(0,10))else(0,10)) |none=>(0,8)
def tU(a b n:Int):Int×Int:=if(qM a&&qM b&&qM n)=true then(n,0)else(0,10)
def Ag(b:Bool):Int×Int:=(if b=true then 1 else 0,0)
def s6(op a b:Int):Int×Int:=
 if op=9 then Ag (decide (a=0))else if op=10 then tU 0 a (0 - a)else if op=11 then tU a b (a+b)else if op=12 then tU a b (a - b)else if op=13 then tU a b (a * b)
 else if op=14 then Ag (decide (a=b))else if op=15 then Ag (decide (a≠b))else if op=16 then Ag (decide (a<b))else if op=17 then Ag (decide (a<=b))
 else if op=18 then Ag (decide (a≠0)&&decide (b≠0))else Ag (decide (a≠0) || decide (b≠0))
def isC(l:J Int):Bool:=match l with | []=>false |n::r=>decide (0<=n)&&decide (n<=(r.length:Int))&&(r.drop n.toNat).all λx=>decide (x=0)
def gx(l:J Int):J Int:=if isC l=true then(l.drop 1).take (l.headD 0).toNat else []
def jN(n:Nat)(a:J Int):J Int:=(a.length:Int)::(a++List.replicate (n - 1 - a.length) 0)
def CR(l:J Int)(v:Int):U (J Int):=if isC l=true/\l.headD 0≠(l.length:Int) - 1 then some (jN l.length (gx l++[v]))else none
def tQ(l:J Int):U (J Int×Int):=match gx l with | []=>none |x::r=>some (jN l.length r,x)
def BH(m:ae)(s:J Int)(a:Nat)(n:Int):U (J Int):=match (eR m)[a]? with |some b=>if b.1<=n/\n<=b.2 then some (s.set a n)else none |none=>none
def jF(s:J Int)(a:Nat)(l:J Int):J Int:=s.take a++l++s.drop (a+l.length)
section
attribute [-simp] List.map_append List.map_take List.map_drop List.map_set
@[go_sem] theorem ai2{dst:Nat}{r:aj}{p:J (Nat×Nat)}{len:Nat}{k:Wk}:tW dst (.aG r p 0 len) k=(k.get r).bind λc=>(c.at p).bind λnd=>match nd with
   | .own a=>if len=a.length/\p≠[]then(c.put p .dead).bind λb=>(k.set r b).map λ(k:Wk)=>(.aG (.l dst 0) [] 0 len,(k.tell (.kill r p)).new dst 0 (.own a))else none
   |_=>none:=rfl
@[go_sem] theorem Ql:∀{l:J bu},T.aZ (tl fC l)=true
 | []=>rfl
 |b::r=>by
  have:= @Ql r
  simp only[tl,eJ,T.aZ]at this |-
  rw[this];rfl
def adZ(k:Int):Int:=if k=0 then 0 else IntKind.i64.wrap (k+1)
def ofB(s:J aw)(v:aB):ar:=⟨(fu s v).1,(fu s v).2,adZ v.aC⟩
theorem ags{ρ:Type}(v:aB)(s:J aw)(hs:s.length<=1000)(κ:KT ρ):cbK (call 149 [dH v,.sl false (List.map dz s)] []) κ=κ ([.d (dK (ofB s v))],[]):=by
 refine(al9 _ _ _ rfl).trans ?_
 simp -implicitDefEqProofs [go_sem,anG,wE hs,ofB,fu,fX,adZ]
 grind
@[go_sem] theorem LA.from_V{s w:Int}:∀{l:J ar} {k:Nat} {a:LA},(a.from s w k l).V=a.V
 | [],_,_=>rfl
 |b::r,k,a=>LA.from_V (l:=r)
@[go_sem] theorem LA.from_C{s w:Int}:∀{l:J ar} {k:Nat} {a:LA},(a.from s w k l).C=a.C
 | [],_,_=>rfl
 |b::r,k,a=>LA.from_C (l:=r)
@[go_sem] theorem LA.from_I{s w:Int}:∀{l:J ar} {k:Nat} {a:LA},(a.from s w k l).I=a.I
 | [],_,_=>rfl
 |b::r,k,a=>LA.from_I (l:=r)
@[go_sem] theorem LA.put_V{s w:Int}{l:J ar}{a:LA}:(a.put s w l).V=a.V:=LA.from_V
@[go_sem] theorem LA.put_C{s w:Int}{l:J ar}{a:LA}:(a.put s w l).C=a.C:=LA.from_C
@[go_sem] theorem LA.put_I{s w:Int}{l:J ar}{a:LA}:(a.put s w l).I=a.I:=LA.from_I
def LA.addV(a:LA)(i:Nat)(l:J ar):LA:={a.put 1 i l with V:=a.V++[a.n]}
def LA.addC(a:LA)(i:Nat)(l:J ar):LA:={a.put 2 i l with C:=a.C++[a.n]}
def LA.addI(a:LA)(i:Nat)(l:J ar):LA:={a.put 3 i l with I:=a.I++[a.n]}
abbrev D6(r:J (Nat×SV)):J (Nat×SV):=[(1,.loc (.l 1 0) [] 0 0),(2,.loc (.l 2 0) [] 0 0),(4,.d (.ptr 0)),(5,.d (.ptr 1)),(6,.d (.fn (.func 147) [] [.ptr 0,.ptr 1]))]++r
abbrev D7(m:ae)(r:J ((Nat×Nat)×T)):J ((Nat×Nat)×T):=[((1,0),.own [.d (oJ m)]),((2,0),.own [.agg [.own [],.own [],.own [],.d (.int .i64 0),.own [],.own []]])]++r
section
variable{ρ:Type}(m:ae)(hs:m.aa.length<=1000)
def V0(a:LA)(v:aB)(i:Nat)(x:Int)(k:Nat)(l:J ar):St:=⟨D6 [(7,.d (.int .i64 i)),(8,.loc (.l 8 0) [] 0 0),(9,.aG (.l 9 0) [] 0 l.length),(22,.d (.sl false (List.map dH m.aq))),(23,.d (.int .i64 m.aq.length)),(24,.d (.int .i64 i)),(32,.d (.int .i64 x)),(33,.d (.int .i64 k))],D7 m [((8,0),.own [.d (dH v)]),((9,0),.own (tl dK l))],a.H⟩
def V0X(a:LA)(v:aB)(i:Nat)(x:Int)(k:Nat)(l:J ar):St:=⟨D6 [(7,.d (.int .i64 i)),(8,.loc (.l 8 0) [] 0 0),(9,.aG (.l 9 0) [] 0 l.length),(22,.d (.sl false (List.map dH m.aq))),(23,.d (.int .i64 m.aq.length)),(24,.d (.int .i64 i)),(32,.d (.int .i64 x)),(33,.d (.int .i64 k)),(34,.d (.bool false))],D7 m [((8,0),.own [.d (dH v)]),((9,0),.own (tl dK l))],a.H⟩
theorem aa4(hs:m.aa.length<=1000)(a:LA)(v:aB)(i:Nat)(x:Int)(k:Nat)(hk:(k:Int)<x)(hx:x<=1000)(l:J ar)(hl:l.length<=1000)(κ:Ex×St->U ρ):
  dG P hints ep jV 0 (V0 m a v i x k l) κ=dG P hints ep jV 0 (V0 m a v i x (k+1) (l++[ofB m.aa v])) κ:=by
 refine(ap Xn.2).trans ?_
 have c:IntKind.i64.wrap ((k:Int)+1)=(k:Int)+1:=dC (by omega) (by omega)
 have b:=λκ=>ags (ρ:=ρ) v m.aa hs κ
 simp only[go_sem]at b
 have e:(l.length+1) * 24<=140737488355328:=by omega
 have d:l.length<=9223372036854775806:=by omega
 simp -implicitDefEqProofs (maxSteps:=1000000) [go_sem,V0,hk,b,c,e,d]
theorem aa5(a:LA)(v:aB)(i:Nat)(x:Int)(k:Nat)(hk:¬(k:Int)<x)(l:J ar)(κ:Ex×St->U ρ):dG P hints ep jV 0 (V0 m a v i x k l) κ=κ (.exit 2,V0X m a v i x k l):=by
 refine(ap Xn.2).trans ?_
 simp -implicitDefEqProofs (maxSteps:=1000000) [go_sem,V0,V0X,hk]
theorem RH(hs:m.aa.length<=1000)(a:LA)(v:aB)(i:Nat)(x:Int)(hx:x<=500)(κ:Ex×St->U ρ):∀(d k:Nat) (l:J ar),(x - k).toNat=d->l.length+d<=1000->dG P hints ep jV 0 (V0 m a v i x k l) κ=κ (.exit 2,V0X m a v i x (k+d) (l++List.replicate d (ofB m.aa v)))
 |0,k,l,b,_=>by
  grind [aa5]
 |d+1,k,l,b,c=>by
  have:=RH hs a v i x hx κ d;grind [aa4]
def vL(v:aB):J ar:=List.replicate (dO m v).toNat (ofB m.aa v)
def V1(i:Nat)(a:LA):St:=⟨D6 [(22,.d (.sl false (List.map dH m.aq))),(23,.d (.int .i64 m.aq.length)),(24,.d (.int .i64 i))],D7 m [],a.H⟩
def V1X(i:Nat)(a:LA):St:=⟨D6 [(22,.d (.sl false (List.map dH m.aq))),(23,.d (.int .i64 m.aq.length)),(24,.d (.int .i64 i)),(25,.d (.bool false))],D7 m [],a.H⟩
theorem agt(hs:m.aa.length<=1000)(hn:m.aq.length<=1000)(a:LA)(ha:a.le 8000)(o:a.V.length<=2000)(κ:Ex×St->U ρ)(i:Nat)(hi:i<m.aq.length):
  dG P hints ep jV 1 (V1 m i a) κ=dG P hints ep jV 1 (V1 m (i+1) (a.addV i (vL m m.aq[i]))) κ:=by
 refine(ap Xo.2).trans ?_
 have l:m.aq[i]? =some m.aq[i]:=xG hi;have h:(i:Int)<(m.aq.length:Int):=by omega
 have p:= @iF m m.aq[i];have j:IntKind.i64.wrap ((i:Int)+1)=(i:Int)+1:=dC (by omega) (by omega)
 have c:=λκ=>RH (ρ:=ρ) m hs a m.aq[i] i (dO m m.aq[i]) (by omega) κ (dO m m.aq[i]).toNat 0 [] (by omega) (by simp;omega)
 rw[<-vL]at c
 simp only[go_sem,V0,V0X,gD,ez,yN]at c
 have b:=λwh κ=>Zq (ρ:=ρ) true wh 1 i (vL m m.aq[i]) (by simp[vL];omega) a (by grind [LA.le]) κ
 have f:=b .o;have e:=b .v;simp only[go_sem]at f e
 have k:(a.V.length+1) * 8<=140737488355328:=by omega
 have n:a.V.length<=9223372036854775806:=by omega
 have d:∀g:Int->U ρ,jz m.aq[i] m.aa g=g (dO m m.aq[i]):=λg=>by rw[By hs];rfl
 simp -implicitDefEqProofs (maxSteps:=1000000) [go_sem,V1,h,l,c,f,e,j,k,n,d,LA.addV,nC,-List.map_replicate]
theorem agu(a:LA)(i:Nat)(hi:¬i<m.aq.length)(κ:Ex×St->U ρ):dG P hints ep jV 1 (V1 m i a) κ=κ (.exit 0,V1X m i a):=by
 refine(ap Xo.2).trans ?_
 have b:¬(i:Int)<(m.aq.length:Int):=by omega
 simp -implicitDefEqProofs (maxSteps:=1000000) [go_sem,V1,V1X,b]
def tR:Nat->List aB->LA->LA
 |_,[],a=>a
 |i,v::r,a=>tR (i+1) r (a.addV i (vL m v))
theorem LA.addV_le{a:LA}{N i:Nat}{l:J ar}(h:a.le N):(a.addV i l).le (N+l.length):=LA.from_le (s:=1) (w:=i) (k:=0) h
theorem Zs{v:aB}:(vL m v).length<=4:=by
 simp_all [iF,vL]
theorem Zt(hs:m.aa.length<=1000)(hn:m.aq.length<=1000)(κ:Ex×St->U ρ):∀(d i N:Nat) (a:LA),i+d=m.aq.length->a.le N->N+4 * d<=8000->a.V.length+d<=2000->dG P hints ep jV 1 (V1 m i a) κ=κ (.exit 0,V1X m m.aq.length (tR m i (m.aq.drop i) a))
 |0,i,N,a,c,_,_,_=>by
  have:i=m.aq.length:=by omega
  subst this;rw[agu m a _ (by omega),v8];rfl
 |d+1,i,N,a,c,e,g,f=>by
  have b:i<m.aq.length:=by omega
  have h4:=Zs m (v:=m.aq[i]);rw[agt m hs hn a (by grind [LA.le]) (by omega) κ i b,Zt hs hn κ d (i+1) (N+(vL m m.aq[i]).length) _ (by omega) (LA.addV_le e) (by omega) (by simp[LA.addV];omega),xW b]
  rfl
end
section
variable{ρ:Type}(m:ae)
def ofC(c:aD):ar:=ofB m.aa ⟨[],c.aC,0,if 0<c.Lo then 0 else c.Lo,if c.Hi<0 then 0 else c.Hi,0⟩
theorem agv(c:aD):ofB m.aa ⟨[],c.aC,0,if 0<c.Lo then 0 else c.Lo,if c.Hi<0 then 0 else c.Hi,0⟩=ofC m c:=rfl
def C0(a:LA)(b:ar)(i:Nat)(x:Int)(k:Nat)(l:J ar):St:=⟨D6 [(10,.d (.int .i64 i)),(12,.aG (.l 12 0) [] 0 l.length),(13,.loc (.l 13 0) [] 0 0),(54,.d (.sl false (List.map dM m.ah))),(55,.d (.int .i64 m.ah.length)),(56,.d (.int .i64 i)),(78,.d (.int .i64 x)),(79,.d (.int .i64 k))],D7 m [((12,0),.own (tl dK l)),((13,0),.own [.d (dK b)])],a.H⟩
def C0X(a:LA)(b:ar)(i:Nat)(x:Int)(k:Nat)(l:J ar):St:=⟨D6 [(10,.d (.int .i64 i)),(12,.aG (.l 12 0) [] 0 l.length),(13,.loc (.l 13 0) [] 0 0),(54,.d (.sl false (List.map dM m.ah))),(55,.d (.int .i64 m.ah.length)),(56,.d (.int .i64 i)),(78,.d (.int .i64 x)),(79,.d (.int .i64 k)),(80,.d (.bool false))],D7 m [((12,0),.own (tl dK l)),((13,0),.own [.d (dK b)])],a.H⟩
theorem aa6(a:LA)(b:ar)(i:Nat)(x:Int)(k:Nat)(hk:(k:Int)<x)(hx:x<=1000)(l:J ar)(hl:l.length<=1000)(κ:Ex×St->U ρ):
  dG P hints ep jV 2 (C0 m a b i x k l) κ=dG P hints ep jV 2 (C0 m a b i x (k+1) (l++[b])) κ:=by
 refine(ap Xp.2).trans ?_
 have c:IntKind.i64.wrap ((k:Int)+1)=(k:Int)+1:=dC (by omega) (by omega)
 have e:(l.length+1) * 24<=140737488355328:=by omega
 have d:l.length<=9223372036854775806:=by omega
 simp -implicitDefEqProofs (maxSteps:=1000000) [go_sem,C0,hk,c,e,d]
theorem aa7(a:LA)(b:ar)(i:Nat)(x:Int)(k:Nat)(hk:¬(k:Int)<x)(l:J ar)(κ:Ex×St->U ρ):dG P hints ep jV 2 (C0 m a b i x k l) κ=κ (.exit 6,C0X m a b i x k l):=by
 refine(ap Xp.2).trans ?_
 simp -implicitDefEqProofs (maxSteps:=1000000) [go_sem,C0,C0X,hk]
theorem RI(a:LA)(b:ar)(i:Nat)(x:Int)(hx:x<=500)(κ:Ex×St->U ρ):∀(d k:Nat) (l:J ar),(x - k).toNat=d->l.length+d<=1000->dG P hints ep jV 2 (C0 m a b i x k l) κ=κ (.exit 6,C0X m a b i x (k+d) (l++List.replicate d b))
 |0,k,l,c,_=>by
  grind [aa7]
 |d+1,k,l,c,e=>by
  have:=RI a b i x hx κ d;grind [aa6]
def cL(c:aD):J ar:=[⟨0,c.bm,0⟩]++List.replicate c.bm.toNat (ofC m c)
def C1(i:Nat)(a:LA):St:=⟨D6 [(54,.d (.sl false (List.map dM m.ah))),(55,.d (.int .i64 m.ah.length)),(56,.d (.int .i64 i))],D7 m [],a.H⟩
def C1X(i:Nat)(a:LA):St:=⟨D6 [(54,.d (.sl false (List.map dM m.ah))),(55,.d (.int .i64 m.ah.length)),(56,.d (.int .i64 i)),(57,.d (.bool false))],D7 m [],a.H⟩
theorem agw(hs:m.aa.length<=1000)(hn:m.ah.length<=1000)(a:LA)(ha:a.le 8000)(o:a.C.length<=2000)(κ:Ex×St->U ρ)(i:Nat)(hi:i<m.ah.length)(h:m.ah[i].bm<=500):
  dG P hints ep jV 3 (C1 m i a) κ=dG P hints ep jV 3 (C1 m (i+1) (a.addC i (cL m m.ah[i]))) κ:=by
 refine(ap Xq.2).trans ?_
 have l:m.ah[i]? =some m.ah[i]:=xG hi;have j:(i:Int)<(m.ah.length:Int):=by omega
 have k:IntKind.i64.wrap ((i:Int)+1)=(i:Int)+1:=dC (by omega) (by omega)
 have d:=λκ=>ags (ρ:=ρ) ⟨[],m.ah[i].aC,0,if 0<m.ah[i].Lo then 0 else m.ah[i].Lo,if m.ah[i].Hi<0 then 0 else m.ah[i].Hi,0⟩ m.aa hs κ
 simp only[go_sem,agv]at d
 have c:=λκ=>RI (ρ:=ρ) m a (ofC m m.ah[i]) i m.ah[i].bm h κ m.ah[i].bm.toNat 0 [⟨0,m.ah[i].bm,0⟩] (by omega) (by simp;omega)
 rw[<-cL]at c
 simp only[go_sem,C0,C0X,ez,xZ,yN,fp]at c
 have b:=λwh κ=>Zq (ρ:=ρ) true wh 2 i (cL m m.ah[i]) (by simp[cL];omega) a (by grind [LA.le]) κ
 have e:=b .o;have f:=b .c;simp only[go_sem]at e f
 have g:(a.C.length+1) * 8<=140737488355328:=by omega
 have n:a.C.length<=9223372036854775806:=by omega
 simp -implicitDefEqProofs (maxSteps:=1000000) [go_sem,C1,j,l,d,c,e,f,k,g,n,LA.addC,nC,-List.map_replicate]
theorem agx(a:LA)(i:Nat)(hi:¬i<m.ah.length)(κ:Ex×St->U ρ):dG P hints ep jV 3 (C1 m i a) κ=κ (.exit 4,C1X m i a):=by
 refine(ap Xq.2).trans ?_
 have b:¬(i:Int)<(m.ah.length:Int):=by omega
 simp -implicitDefEqProofs (maxSteps:=1000000) [go_sem,C1,C1X,b]
def vO:Nat->List aD->LA->LA
 |_,[],a=>a
 |i,c::r,a=>vO (i+1) r (a.addC i (cL m c))
theorem LA.addC_le{a:LA}{N i:Nat}{l:J ar}(h:a.le N):(a.addC i l).le (N+l.length):=LA.from_le (s:=2) (w:=i) (k:=0) h
theorem Zu{c:aD}(h:c.bm<=4):(cL m c).length<=5:=by
 grind [cL]
theorem Zv(hs:m.aa.length<=1000)(hn:m.ah.length<=1000)(e:∀c∈m.ah,c.bm<=4)(κ:Ex×St->U ρ):∀(d i N:Nat) (a:LA),i+d=m.ah.length->a.le N->N+5 * d<=8000->a.C.length+d<=2000->dG P hints ep jV 3 (C1 m i a) κ=κ (.exit 4,C1X m m.ah.length (vO m i (m.ah.drop i) a))
 |0,i,N,a,f,_,_,_=>by
  have:i=m.ah.length:=by omega
  subst this;rw[agx m a _ (by omega),v8];rfl
 |d+1,i,N,a,f,g,k,j=>by
  have b:i<m.ah.length:=by omega
  have h:=e _ (eO b);have h4:=Zu m h;rw[agw m hs hn a (by grind [LA.le]) (by omega) κ i b (by omega),Zv hs hn e κ d (i+1) (N+(cL m m.ah[i]).length) _ (by omega) (LA.addC_le g) (by omega) (by simp[LA.addC];omega),xW b]
  rfl
def I0(a:LA)(b:J aE)(vs:J aB)(i:Nat)(k:Nat)(l:J ar):St:=⟨D6 [(14,.d (.int .i64 i)),(17,.aG (.l 17 0) [] 0 l.length),(97,.d (.sl false (List.map gU b))),(98,.d (.int .i64 b.length)),(99,.d (.int .i64 i)),(116,.d (.sl false (List.map dH vs))),(117,.d (.int .i64 vs.length)),(118,.d (.int .i64 k))],D7 m [((17,0),.own (tl dK l))],a.H⟩
def I0X(a:LA)(b:J aE)(vs:J aB)(i:Nat)(k:Nat)(l:J ar):St:=⟨D6 [(14,.d (.int .i64 i)),(17,.aG (.l 17 0) [] 0 l.length),(97,.d (.sl false (List.map gU b))),(98,.d (.int .i64 b.length)),(99,.d (.int .i64 i)),(116,.d (.sl false (List.map dH vs))),(117,.d (.int .i64 vs.length)),(118,.d (.int .i64 k)),(119,.d (.bool false))],D7 m [((17,0),.own (tl dK l))],a.H⟩
theorem aa8(hs:m.aa.length<=1000)(a:LA)(c:J aE)(vs:J aB)(i k:Nat)(hk:k<vs.length)(hx:vs.length<=1000)(l:J ar)(hl:l.length<=1000)(κ:Ex×St->U ρ):
  dG P hints ep jV 4 (I0 m a c vs i k l) κ=dG P hints ep jV 4 (I0 m a c vs i (k+1) (l++[ofB m.aa vs[k]])) κ:=by
 refine(ap Xr.2).trans ?_
 have f:vs[k]? =some vs[k]:=xG hk;have e:(k:Int)<(vs.length:Int):=by omega
 have d:IntKind.i64.wrap ((k:Int)+1)=(k:Int)+1:=dC (by omega) (by omega)
 have b:=λκ=>ags (ρ:=ρ) vs[k] m.aa hs κ
 simp only[go_sem]at b
 have h:(l.length+1) * 24<=140737488355328:=by omega
 have g:l.length<=9223372036854775806:=by omega
 simp -implicitDefEqProofs (maxSteps:=1000000) [go_sem,I0,e,f,b,d,h,g]
theorem aa9(a:LA)(b:J aE)(vs:J aB)(i k:Nat)(hk:¬k<vs.length)(l:J ar)(κ:Ex×St->U ρ):dG P hints ep jV 4 (I0 m a b vs i k l) κ=κ (.exit 10,I0X m a b vs i k l):=by
 refine(ap Xr.2).trans ?_
 have c:¬(k:Int)<(vs.length:Int):=by omega
 simp -implicitDefEqProofs (maxSteps:=1000000) [go_sem,I0,I0X,c]
theorem RJ(hs:m.aa.length<=1000)(a:LA)(b:J aE)(vs:J aB)(i:Nat)(hx:vs.length<=500)(κ:Ex×St->U ρ):∀(d k:Nat) (l:J ar),k+d=vs.length->l.length+d<=1000->dG P hints ep jV 4 (I0 m a b vs i k l) κ=κ (.exit 10,I0X m a b vs i vs.length (l++(vs.drop k).map (ofB m.aa)))
 |0,k,l,c,_=>by
  grind [aa9]
 |d+1,k,l,c,e=>by
  have:=RJ hs a b vs i hx κ d;grind [aa8,xW]
def iL(p:az):J ar:=[⟨0,IntKind.i64.wrap (p.bE - 1),0⟩]++p.aq.map (ofB m.aa)
def I1(b:J aE)(i:Nat)(a:LA):St:=⟨D6 [(97,.d (.sl false (List.map gU b))),(98,.d (.int .i64 b.length)),(99,.d (.int .i64 i))],D7 m [],a.H⟩
def I1X(b:J aE)(i:Nat)(a:LA):St:=⟨D6 [(97,.d (.sl false (List.map gU b))),(98,.d (.int .i64 b.length)),(99,.d (.int .i64 i)),(100,.d (.bool false))],D7 m [],a.H⟩
theorem aba(hs:m.aa.length<=1000)(b:J aE)(hn:b.length<=1000)(a:LA)(ha:a.le 8000)(n:a.I.length<=2000)(κ:Ex×St->U ρ)(i:Nat)(hi:i<b.length)(h0:0<=b[i].cr)(p:az)(hp:m.ak[b[i].cr.toNat]? =some p)(hv:p.aq.length<=500):
  dG P hints ep jV 5 (I1 m b i a) κ=dG P hints ep jV 5 (I1 m b (i+1) (a.addI i (iL m p))) κ:=by
 refine(ap Xs.2).trans ?_
 have k:b[i]? =some b[i]:=xG hi;have h:(i:Int)<(b.length:Int):=by omega
 have j:IntKind.i64.wrap ((i:Int)+1)=(i:Int)+1:=dC (by omega) (by omega)
 have d:=λκ=>RJ (ρ:=ρ) m hs a b p.aq i hv κ p.aq.length 0 [⟨0,IntKind.i64.wrap (p.bE - 1),0⟩] (by omega) (by simp;omega)
 rw[i6,<-iL]at d
 simp only[go_sem,I0,I0X,ez,xZ,yN,fp]at d
 have c:=λwh κ=>Zq (ρ:=ρ) true wh 3 i (iL m p) (by simp[iL];omega) a (by grind [LA.le]) κ
 have e:=c .o;have f:=c .i;simp only[go_sem]at e f
 have g:(a.I.length+1) * 8<=140737488355328:=by omega
 have l:a.I.length<=9223372036854775806:=by omega
 simp -implicitDefEqProofs (maxSteps:=1000000) [go_sem,I1,h0,hp,h,k,d,e,f,j,g,l,LA.addI,nC,-List.map_map]
theorem abb(b:J aE)(a:LA)(i:Nat)(hi:¬i<b.length)(κ:Ex×St->U ρ):dG P hints ep jV 5 (I1 m b i a) κ=κ (.exit 8,I1X m b i a):=by
 refine(ap Xs.2).trans ?_
 have c:¬(i:Int)<(b.length:Int):=by omega
 simp -implicitDefEqProofs (maxSteps:=1000000) [go_sem,I1,I1X,c]
def DR:Nat->List aE->LA->LA
 |_,[],a=>a
 |i,x::r,a=>DR (i+1) r (a.addI i (iL m (eF m x)))
theorem LA.addI_le{a:LA}{N i:Nat}{l:J ar}(h:a.le N):(a.addI i l).le (N+l.length):=LA.from_le (s:=3) (w:=i) (k:=0) h
def Qm(a:J aE):Prop:=∀x∈a,0<=x.cr/\∃p,m.ak[x.cr.toNat]? =some p/\p.aq.length<=4
theorem RK(hs:m.aa.length<=1000)(b:J aE)(hn:b.length<=1000)(g:Qm m b)(κ:Ex×St->U ρ):∀(d i N:Nat) (a:LA),i+d=b.length->a.le N->N+5 * d<=8000->a.I.length+d<=2000->dG P hints ep jV 5 (I1 m b i a) κ=κ (.exit 8,I1X m b b.length (DR m i (b.drop i) a))
 |0,i,N,a,h,_,_,_=>by
  have:i=b.length:=by omega
  subst this;rw[abb m b a _ (by omega),v8];rfl
 |d+1,i,N,a,h,k,o,n=>by
  have e:i<b.length:=by omega
  obtain⟨j,p,f,l⟩:=g _ (eO e);have c:eF m b[i]=p:=by simp[eF,f]
  have h4:(iL m p).length<=5:=by simp[iL];omega
  rw[aba m hs b hn a (by grind [LA.le]) (by omega) κ i e j p f (by omega),RK hs b hn g κ d (i+1) (N+(iL m p).length) _ (by omega) (LA.addI_le k) (by omega) (by simp[LA.addI];omega),xW e,DR,c]
def LA.zero:LA:=⟨[],[],[],0,[],[],[]⟩
def wR:LA:=DR m 0 (jM m) (vO m 0 m.ah (tR m 0 m.aq .zero))
theorem LA.addV_C{a:LA}{i:Nat}{l:J ar}:(a.addV i l).C=a.C:=LA.put_C
theorem LA.addV_I{a:LA}{i:Nat}{l:J ar}:(a.addV i l).I=a.I:=LA.put_I
theorem LA.addC_I{a:LA}{i:Nat}{l:J ar}:(a.addC i l).I=a.I:=LA.put_I
theorem Oi:∀{l:J aB} {i N:Nat} {a:LA},a.le N->(tR m i l a).le (N+4 * l.length)/\(tR m i l a).C=a.C/\(tR m i l a).I=a.I
 | [],i,N,a,h=>⟨by grind [tR],rfl,rfl⟩
 |v::r,i,N,a,h=>by
  have h4:=Zs m (v:=v);obtain⟨b,c,h3⟩:=Oi (l:=r) (i:=i+1) (LA.addV_le (i:=i) (l:=vL m v) h)
  grind [LA.addV_C,LA.addV_I,LA.le,tR]
theorem Oj:∀{l:J aD} {i N:Nat} {a:LA},(∀c∈l,c.bm<=4)->a.le N->(vO m i l a).le (N+5 * l.length)/\(vO m i l a).I=a.I
 | [],i,N,a,_,h=>⟨by grind [vO],rfl⟩
 |c::r,i,N,a,b,h=>by
  have h4:=Zu m (b c (List.mem_cons_self ..));obtain⟨e,h3⟩:=Oj (l:=r) (i:=i+1) (λx d=>b x (Ap _ d)) (LA.addC_le (i:=i) (l:=cL m c) h)
  grind [LA.addC_I,LA.le,vO]
theorem aqY(hs:m.aa.length<=1000)(hn:m.ak.length<=1000)(hv:m.aq.length<=100)(hc:m.ah.length<=100)(f:∀c∈m.ah,c.bm<=4)(hi:(jM m).length<=100)(h:Qm m (jM m))(κ:KT ρ):
  cbK (call 114 [oJ m] []) κ=κ ([.d (wv false ⟨(wR m).V,(wR m).C,(wR m).I,(wR m).n,(wR m).lo,(wR m).hi⟩),.d (.sl false (List.map fC (wR m).sl))],[]):=by
 refine(akX _ _ _ rfl).trans ?_
 have z:LA.zero.le 0:=by simp[LA.le,LA.zero]
 obtain⟨g,o,n⟩:=Oi m (l:=m.aq) (i:=0) z;obtain⟨j,k⟩:=Oj m (i:=0) f g;have b:=λκ=>Zt (ρ:=ρ) m hs (by omega) κ m.aq.length 0 0 .zero (by omega) z (by omega) (by simp[LA.zero];omega)
 have d:=λκ=>Zv (ρ:=ρ) m hs (by omega) f κ m.ah.length 0 _ _ (by omega) g (by omega) (by grind [LA.zero])
 have a:=λκ=>RK (ρ:=ρ) m hs (jM m) (by omega) h κ (jM m).length 0 _ _ (by omega) j (by omega) (by grind [LA.zero])
 have e:=λκ=>RA (ρ:=ρ) m hs hn κ
 simp only[i6]at b d a
 rw[<-wR]at a
 simp only[go_sem,V1,V1X,C1,C1X,I1,I1X,ez,LA.zero,iY]at b d a e
 simp -implicitDefEqProofs (maxSteps:=1000000) [go_sem,b,d,a,e]
end
end
theorem jo:∀{l:J (J Bd)} {n:Nat},(i4 n l).length=l.length
 | [],_=>rfl
 |b::r,n=>by simp[i4,jo (l:=r)]
theorem s7:∀{l:J (J Bd)} {n i:Nat} {b:J Bd},l[i]? =some b->∃a,(i4 n l)[i]? =some (n+a)/\a+b.length<=l.flatten.length/\∀k,k<b.length->l.flatten[a+k]? =b[k]?
 | [],n,i,b,h=>by simp at h
 |c::r,n,0,b,h=>by
  simp only[yE,xJ]at h
  subst h
  refine⟨0,rfl,by simp,λk hk=> ?_⟩
  grind
 |c::r,n,i+1,b,h=>by
  simp only[oK]at h
  obtain⟨a,d,e,h3⟩:=s7 (n:=n+c.length) h
  refine⟨c.length+a,?_,?_,λk hk=> ?_⟩
  .grind [i4]
  .grind
  grind
theorem agy{m:ae}{i:Nat}{v:aB}(h:m.aq[i]? =some v):∃a,(vAt m)[i]? =some a/\a+(dO m v).toNat<=(fc m).flatten.length/\∀k,k<(dO m v).toNat->(eR m)[a+k]? =some (fu m.aa v):=by
 obtain⟨a,c,d,h3⟩:=s7 (n:=0) (l:=fc m) (i:=i) (b:=oA m v) (by simp[fc,h])
 grind [oA,vAt,eR]
theorem UR{m:ae}{i:Nat}{c:aD}(h:m.ah[i]? =some c):∃a,(cAt m)[i]? =some a/\(fc m).flatten.length<=a/\a+1+c.bm.toNat<=(fc m).flatten.length+(fD m).flatten.length/\(eR m)[a]? =some (0,c.bm)/\∀k,k<c.bm.toNat->(eR m)[a+1+k]? =some (fX m.aa c.aC (min c.Lo 0) (max c.Hi 0)):=by
 obtain⟨a,e,f,h3⟩:=s7 (n:=(fc m).flatten.length) (l:=fD m) (i:=i) (b:=lh m c) (by simp[fD,h])
 have g:(lh m c).length=c.bm.toNat+1:=by simp[lh]
 rw[g]at f h3
 have d:∀k,k<c.bm.toNat+1->(eR m)[(fc m).flatten.length+a+k]? =(lh m c)[k]? :=λk hk=>by
  grind [eR]
 refine⟨_,e,by omega,by omega,d 0 (by omega),λk hk=> ?_⟩
 grind [lh]
theorem abc{m:ae}{j:Nat}{x:aE}(h:(dy m)[j]? =some x):∃a,(iAt m)[j]? =some a/\(fc m).flatten.length+(fD m).flatten.length<=a/\a+1+(eF m x).aq.length<=(eR m).length/\(eR m)[a]? =some (0,(eF m x).bE - 1)/\∀(k:Nat) (v:aB),(eF m x).aq[k]? =some v->(eR m)[a+1+k]? =some (fu m.aa v):=by
 obtain⟨a,d,e,h3⟩:=s7 (n:=(fc m).flatten.length+(fD m).flatten.length) (l:=kg m) (i:=j) (b:=ko m x) (by simp[kg,h])
 have f:(ko m x).length=(eF m x).aq.length+1:=by simp[ko]
 rw[f]at e h3
 have o:(eR m).length=(fc m).flatten.length+(fD m).flatten.length+(kg m).flatten.length:=by simp[eR,v9]
 have c:∀k,k<(eF m x).aq.length+1->(eR m)[(fc m).flatten.length+(fD m).flatten.length+a+k]? =(ko m x)[k]? :=λk hk=>by
  grind [eR]
 refine⟨_,d,by omega,by omega,c 0 (by omega),λk v g=> ?_⟩
 grind [ko]
theorem JH{m:ae}:∀{l:J az} {i:Nat} {x:aE},x∈eb m i l->∃(k:Nat) (p:az),l[k]? =some p/\x.cr=((i+k:Nat):Int)/\0<=x.Elem/\x.Elem<=4/\(x.Elem=0↔p.aH=0)
 | [],i,x,h=>by simp[eb]at h
 |p::r,i,x,h=>by
  simp only[eb,xD]at h
  obtain h |h:=h
  .refine⟨0,p,rfl,?_⟩
   simp only[iy,xD,j0,List.mem_range]at h
   obtain h |⟨k,hk,rfl⟩:=h
   .split at h
    .rename_i a
     simp only[yQ]at h
     subst h
     exact⟨by simp,by simp,by simp,by simp[a]⟩
    .simp at h
   .have:= @jX m.aa p.aH
    have a:p.aH≠0:=λa=>by
     have:oz m p=0:=by unfold oz iI;rw[a];rfl
     omega
    unfold oz at hk
    refine⟨by simp,by simp;omega,by simp;omega,?_⟩
    constructor
    .intro q;simp only at q;omega
    .intro q;exact absurd q a
  .obtain⟨k,q,b,c,h3⟩:=JH h
   exact⟨k+1,q,by simpa using b,by rw[c];congr 1;omega,h3⟩
theorem jA{m:ae}{x:aE}(h:x∈dy m):∃(k:Nat) (p:az),m.ak[k]? =some p/\x.cr=(k:Int)/\eF m x=p/\0<=x.Elem/\x.Elem<=4:=by
 obtain⟨k,p,a,b,h3,h4,_⟩:=JH h
 grind [eF]
def qP(x:aF)(v:cw)(st:J Int):Int×Int:=
 if x.Op=3 then(match st.getLast? with |some k=>HS x k v |none=>(0,8))
 else if eW x.Op=0 then qO x v
 else s6 x.Op ((st.drop (st.length - (eW x.Op).toNat)).headD 0) ((st.drop (st.length - (eW x.Op).toNat)).getLastD 0)
def stepV(x:aF)(v:cw)(st:J Int):Int×J Int:=
 if eW x.Op<0 then(3,st)else if(st.length:Int)<eW x.Op then(4,st)
 else if(qP x v st).2≠0 then((qP x v st).2,st)
 else(if 12<st.length - (eW x.Op).toNat+1 then 12 else 0,st.take (st.length - (eW x.Op).toNat)++[(qP x v st).1])
def qQ(v:cw):List aF->List Int->Int×List Int
 | [],a=>(0,a)
 |x::r,a=>if(stepV x v a).1=0 then qQ v r (stepV x v a).2 else stepV x v a
def iM(e:J aF)(v:cw):Int×Int:=
 if 24<e.length then(0,5)else if e=[]then(0,4)
 else if(qQ v e []).1≠0 then(0,(qQ v e []).1)else if 1<(qQ v e []).2.length then(0,5)else((qQ v e []).2.headD 0,0)
def vP(m:ae)(s:J Int)(i:Nat)(e:J aF):U Int:=if(iM e (jY m s i)).2=0 then some (iM e (jY m s i)).1 else none
def yU(m:ae)(c:Nat):Nat:=match m.ah[c]? with |some x=>x.bm.toNat |none=>0
def fy(m:ae)(s:J Int)(c:Nat):J Int:=lK s ((cAt m).getD c 0) (yU m c+1)
def FY(m:ae)(i:Nat)(k:Int):Nat:=(iAt m).getD i 0+1+k.toNat
def g9(m:ae)(i:Nat)(s:J Int)(a:aP):U (J Int):=
 if a.Kind=1 then(vP m s i a.Value).bind λn=>BH m s ((vAt m).getD a.To.toNat 0) n
 else if a.Kind=2 then(vP m s i a.Index).bind λk=>(vP m s i a.Value).bind λn=>(m.aq[a.To.toNat]?).bind λv=>if 1<=k/\k<=dO m v then BH m s ((vAt m).getD a.To.toNat 0+(k - 1).toNat) n else none
 else if a.Kind=3 then(vP m s i a.Value).bind λn=>BH m s (FY m i a.To) n
 else if a.Kind=4 then(vP m s i a.Value).bind λn=>(m.ah[a.To.toNat]?).bind λc=>if(fM m.aa c).1<=n/\n<=(fM m.aa c).2 then(CR (fy m s a.To.toNat) n).map (jF s ((cAt m).getD a.To.toNat 0))else none
 else if a.Kind=5 then(tQ (fy m s a.To.toNat)).bind λp=>BH m (jF s ((cAt m).getD a.To.toNat 0) p.1) (FY m i a.Local) p.2
 else none
def tS(m:ae)(i:Nat):List aP->List Int->Option (List Int)
 | [],s=>some s
 |a::r,s=>(g9 m i s a).bind (tS m i r)
def pz(m:ae)(r:bc):aK:=((eF m (((dy m)[r.Inst.toNat]?).getD ⟨0,0⟩)).aO[r.Cmd.toNat]?).getD ⟨[],0,0,[],[],false⟩
def CS(m:ae)(s:J Int)(i:Nat)(e:J aF):Bool:=e.isEmpty || (match vP m s i e with |some n=>decide (n≠0) |none=>false)
def pA(m:ae)(s:J Int)(r:bc):U (J Int):=
 let c:=pz m r
 let a:=(iAt m).getD r.Inst.toNat 0
 if s.getD a 0=c.dk/\CS m s r.Inst.toNat c.Guard=true then(tS m r.Inst.toNat c.aM s).map λt=>t.set a c.To else none
def lj(c:aK):Int×Int:=match c.aM.find? talksP with |some a=>(a.Kind,a.To) |none=>(0,0)
def s8(m:ae)(c:aK):Bool:=decide ((lj c).1=4)&&(match m.ah[(lj c).2.toNat]? with |some x=>x.Lossy |none=>false)
def RL(m:ae)(s t:J Int)(c:aK):J Int:=jF t ((cAt m).getD (lj c).2.toNat 0) (fy m s (lj c).2.toNat)
def ll(m:ae)(s:J Int)(r:bc):J (J Int):=match pA m s r with
 |none=>[]
 |some t=>t::(if s8 m (pz m r)=true then [RL m s t (pz m r)]else [])
def eu(m:ae)(s:List Int):Nat->List bc->List cH
 |_,[]=>[]
 |i,r::l=>((ll m s r).zipIdx.map λ(t,w)=>⟨(i:Int),(w:Int),t⟩)++eu m s (i+1) l
def s9(m:ae)(s:J Int):J cH:=if eu m s 0 (dJ m)=[]then [⟨-1,0,s⟩]else eu m s 0 (dJ m)
theorem abd{m:ae}{s:J Int}{a:Nat}{n:Int}(h:inB m s)(hb:∀b,(eR m)[a]? =some b->b.1<=n/\n<=b.2):inB m (s.set a n):=by
 refine⟨by simpa using h.1,λi v b d c=> ?_⟩
 by_cases e:a=i
 .grind
 .rw[vW e]at d
  exact h.2 i v b d c
theorem BI{m:ae}{s t:J Int}{a:Nat}{n:Int}(h:inB m s)(e:BH m s a n=some t):inB m t:=by
 grind [BH,abd]
theorem CT{s:J Int}{a:Nat}{l:J Int}(h:a+l.length<=s.length):(jF s a l).length=s.length:=by
 grind [jF]
theorem US{s:J Int}{a:Nat}{l:J Int}(h:a+l.length<=s.length)(i:Nat):(jF s a l)[i]? =if a<=i/\i<a+l.length then l[i - a]? else s[i]? :=by
 grind [jF,xO]
theorem Zw{m:ae}{s:J Int}{a:Nat}{l:J Int}(h:inB m s)(hl:a+l.length<=s.length)(hb:∀(k:Nat) (v:Int) (b:Bd),l[k]? =some v->(eR m)[a+k]? =some b->b.1<=v/\v<=b.2):inB m (jF s a l):=by
 refine⟨by rw[CT hl];exact h.1,λi v b d c=> ?_⟩
 rw[US hl]at d
 split at d
 .grind
 .exact h.2 i v b d c
theorem HU{l:J Int}(h:isC l=true):∃n r,l=n::r/\0<=n/\n<=(r.length:Int)/\∀x∈r.drop n.toNat,x=0:=by
 cases l with
 |nil=>cases h
 |cons n r=>
  grind [isC]
theorem Ah{l:J Int}{k:Nat}{v:Int}(h:(gx l)[k]? =some v):l[k+1]? =some v/\gx l≠[]/\(gx l).length<=l.length - 1/\isC l=true:=by
 grind [gx]
theorem oB{l:J Int}(h:isC l=true):((gx l).length:Int)=l.headD 0/\(gx l).length+1<=l.length:=by
 grind [HU,gx]
theorem ta{n:Nat}{a:J Int}(h:a.length+1<=n):(jN n a).length=n:=by
 grind [jN]
structure ChanAt(m:ae)(c:Nat)(x:aD)(a:Nat):Prop where
 h:m.ah[c]? =some x
 at0:(cAt m).getD c 0=a
 f:a+1+x.bm.toNat<=(eR m).length
 b0:(eR m)[a]? =some (0,x.bm)
 b1:∀k,k<x.bm.toNat->(eR m)[a+1+k]? =some (fX m.aa x.aC (min x.Lo 0) (max x.Hi 0))
 cap:1<=x.bm/\x.bm<=4
theorem pB{m:ae}(b:May m){c:Nat}{x:aD}(h:m.ah[c]? =some x):∃a,ChanAt m c x a:=by
 obtain⟨a,d,g,h3,h4,h5⟩:=UR h;have e:(eR m).length=(fc m).flatten.length+((fD m).flatten.length+(kg m).flatten.length):=by simp[eR]
 have f:=b.c x (yS h)
 refine⟨a,h,by grind,by omega,h4,h5,?_⟩
 grind [tO]
theorem HX{m:ae}(a:May m){c:Nat}{x:aD}(h:m.ah[c]? =some x){n:Int}(hn:n=0\/((fM m.aa x).1<=n/\n<=(fM m.aa x).2)):(fX m.aa x.aC (min x.Lo 0) (max x.Hi 0)).1<=n/\n<=(fX m.aa x.aC (min x.Lo 0) (max x.Hi 0)).2:=by
 have:= @jX m.aa x.aC
 unfold fM fX at *;split
 .grind
 grind
theorem JI{m:ae}(i:May m){s:J Int}(h:inB m s){c:Nat}{x:aD}{a:Nat}(ha:ChanAt m c x a){d:J Int}(hl:d.length<=x.bm.toNat)
  (hi:∀v∈d,(fX m.aa x.aC (min x.Lo 0) (max x.Hi 0)).1<=v/\v<=(fX m.aa x.aC (min x.Lo 0) (max x.Hi 0)).2):inB m (jF s a (jN (x.bm.toNat+1) d)):=by
 have f:(jN (x.bm.toNat+1) d).length=x.bm.toNat+1:=ta (by omega)
 refine Zw h (by rw[f,h.1];have:=ha.f;omega) λk v b hk e=> ?_
 cases k with
 |zero=>
  simp only[jN,yE,xJ]at hk
  subst hk;rw[kH,ha.b0]at e
  simp only[xJ]at e
  subst e
  have:=ha.cap
  grind
 |succ k=>
  have g:=(List.getElem?_eq_some_iff.1 hk).1;rw[f]at g
  rw[show a+(k+1)=a+1+k by omega,ha.b1 k (by omega)]at e
  simp only[xJ]at e
  subst e;simp only[jN,oK]at hk
  rw[yO]at hk
  split at hk
  .exact hi v (yS hk)
  .have:=yS hk
   have:=List.eq_of_mem_replicate this
   exact HX i ha.h (.inl this)
theorem nL{m:ae}{s:J Int}{c:Nat}{x:aD}{a:Nat}(ha:ChanAt m c x a)(h:s.length=(eR m).length):(fy m s c).length=x.bm.toNat+1/\∀k,(fy m s c)[k]? =if k<x.bm.toNat+1 then s[a+k]? else none:=by
 have d:=ha.f;have b:yU m c=x.bm.toNat:=by unfold yU;rw[ha.h]
 unfold fy;rw[ha.at0,b]
 grind [lK]
theorem HY{m:ae}{s:J Int}(h:inB m s){c:Nat}{x:aD}{a:Nat}(ha:ChanAt m c x a){v:Int}(hv:v∈gx (fy m s c)):(fX m.aa x.aC (min x.Lo 0) (max x.Hi 0)).1<=v/\v<=(fX m.aa x.aC (min x.Lo 0) (max x.Hi 0)).2:=by
 obtain⟨k,hk,rfl⟩:=mZ hv;obtain⟨b,_⟩:=Ah (xG hk);rw[(nL ha h.1).2]at b
 split at b
 .rename_i q
  exact h.2 _ _ _ b (by rw[show a+(k+1)=a+1+k by omega];exact ha.b1 k (by omega))
 .cases b
theorem RM{m:ae}(f:May m){i:Nat}{s t:J Int}{a:aP}(h:inB m s)(e:g9 m i s a=some t):inB m t:=by
 unfold g9 at e
 split at e
 .grind [xB,BI]
 split at e
 .grind [xB,BI]
 split at e
 .grind [xB,BI]
 split at e
 .simp only[xB]at e
  obtain⟨n,_,x,k,e⟩:=e
  split at e
  .rename_i z
   simp only[xM]at e
   obtain⟨l,b,rfl⟩:=e;obtain⟨c,d⟩:=pB f k;unfold CR at b
   split at b
   .rename_i j
    simp only[xJ]at b
    subst b;obtain⟨A,g⟩:=oB j.1;have p:=(nL d h.1).1;rw[d.at0,p];refine JI f h d (by grind) λv u=> ?_
    obtain q |q:=List.mem_append.1 u
    .exact HY h d q
    .rw[yQ]at q
     subst q;exact HX f d.h (.inr z)
   .cases b
  .cases e
 split at e
 .simp only[xB]at e
  obtain⟨⟨l,n⟩,b,e⟩:=e;refine BI ?_ e;unfold tQ at b
  split at b
  .cases b
  .rename_i y r w
   simp only[xJ,pJ]at b
   obtain⟨rfl,rfl⟩:=b;have o:(gx (fy m s a.To.toNat))[0]? =some y:=by rw[w];rfl
   have j:=(Ah o).2.2.2;obtain⟨A,g⟩:=oB j
   cases k:m.ah[a.To.toNat]? with
   |none=>
    grind [fy,yU,lK]
   |some x=>
    obtain⟨c,d⟩:=pB f k;have p:=(nL d h.1).1;rw[d.at0,p];rw[w]at g
    simp only[xZ]at g
    refine JI f h d (by omega) λv u=>HY h d (by grind)
 .cases e
theorem HZ{m:ae}(b:May m){i:Nat}:∀{l:J aP} {s t:J Int},inB m s->tS m i l s=some t->inB m t
 | [],s,t,h,e=>by grind [tS]
 |a::r,s,t,h,e=>by
  simp only[tS,xB]at e
  obtain⟨u,c,d⟩:=e;exact HZ b (RM b h c) d
theorem Zx(i:Nat):∀(n k:Nat),elQ i k n=(List.range n).map λ(j:Nat)=>⟨(i:Int),((k+j:Nat):Int)+1⟩
 |0,k=>rfl
 |n+1,k=>by
  rw[elQ,Zx i n (k+1),List.range_succ_eq_map,eJ,j3];refine congr (congrArg _ (by simp)) (lM λj _=> ?_)
  grind
theorem Zy(s:J aw)(k:Int):BE s k=iI s k:=rfl
theorem Zz(m:ae)(i:Nat)(p:az):ofQ m i p=iy m i p:=by
 grind [ofQ,iy,oz,Zy,Zx]
theorem Ol(m:ae):∀(d i:Nat),i+d=m.ak.length->HP m i d=eb m i (m.ak.drop i)
 |0,i,h=>by rw[List.drop_eq_nil_of_le (by omega)];rfl
 |d+1,i,h=>by
  have:=Ol m d;grind [xW,HP,eb,Zz]
theorem nM(m:ae):jM m=dy m:=(Ol m _ 0 (by omega)).trans (by rw[i6];rfl)
theorem Qn{m:ae}{i:Nat}{p:az}{x:aE}(h:x∈iy m i p):x.cr=(i:Int)/\0<=x.Elem/\x.Elem<=4:=by
 have a:= @jX m.aa p.aH;unfold iy at h
 obtain q |q:=List.mem_append.1 h
 .grind
 grind [oz]
theorem H4{m:ae}:∀{l:J az} {i:Nat} {x:aE},x∈eb m i l->∃k p,l[k]? =some p/\x∈iy m (i+k) p
 | [],_,_,h=>by cases h
 |p::r,i,x,h=>by
  obtain q |q:=List.mem_append.1 h
  .exact⟨0,p,rfl,q⟩
  .obtain⟨k,b,a,c⟩:=H4 q
   exact⟨k+1,b,a,by grind⟩
theorem BJ{m:ae}{x:aE}(h:x∈dy m):0<=x.cr/\m.ak[x.cr.toNat]? =some (eF m x)/\x∈iy m x.cr.toNat (eF m x)/\0<=x.Elem/\x.Elem<=4:=by
 obtain⟨k,p,a,b⟩:=H4 h
 grind [Qn,eF]
theorem ZA{m:ae}(c:May m):Qm m (jM m):=λx a=>by
 rw[nM]at a
 obtain⟨d,b,_⟩:=BJ a
 exact⟨d,_,b,(c.p _ _ b).vn⟩
theorem ZB(m:ae)(i:Nat)(p:az):(iy m i p).Nodup:=by
 grind [iy,List.nodup_range]
theorem H5(m:ae):∀(l:J az) (i:Nat),(eb m i l).Nodup
 | [],_=>List.nodup_nil
 |p::r,i=>by
  refine List.nodup_append.2 ⟨ZB m i p,H5 m r (i+1),?_⟩;intro x a y b q;subst q;have c:=(Qn a).1
  grind [H4,Qn]
theorem Om(m:ae):(dy m).Nodup:=H5 m _ 0
theorem RN(a:Int):∀(d k:Nat),Iz a k d=(List.range d).map λ(j:Nat)=>⟨a,((k+j:Nat):Int)⟩
 |0,k=>rfl
 |d+1,k=>by
  rw[Iz,RN a d (k+1),List.range_succ_eq_map,eJ,j3];refine congr (congrArg _ (by simp)) (lM λj _=> ?_)
  grind
theorem abe(m:ae)(x:aE):ow m x.cr.toNat=(eF m x).aO.length:=by
 grind [ow,eF]
theorem RO(m:ae):∀(l:J aE) (i:Nat) (s:RS),s.at_=(i:Int) - 1->l.Nodup->(⟨s.a,s.b⟩:aE)∉l->(l.foldl (yT m) s).out=s.out++eY m i l
 | [],i,s,_,_,_=>by simp[eY]
 |x::r,i,s,h,a,d=>by
  rw[List.nodup_cons]at a
  have c:¬(x.cr=s.a/\x.Elem=s.b):=λq=>d (by
   have:(⟨s.a,s.b⟩:aE)=x:=by cases x;simp only[aE.mk.injEq];exact⟨q.1.symm,q.2.symm⟩
   grind)
  rw[List.foldl_cons]
  have b:yT m s x=⟨(i:Int),x.cr,x.Elem,s.out++Iz (i:Int) 0 (ow m x.cr.toNat)⟩:=by
   unfold yT;rw[if_neg c,h,show(i:Int) - 1+1=(i:Int)by omega]
  rw[b,RO m r (i+1) _ (by simp) a.2 a.1]
  grind [eY,RN,abe]
theorem ZC(m:ae):Og m=dJ m:=by
 unfold Og dJ lq;rw[nM,RO m (dy m) 0 _ (by simp) (Om m) λq=>by have:=(BJ q).1;grind]
 simp
structure Lay(a:LA)(V C I:List Int)(bs:List Bd):Prop where
 v:a.V=V
 c:a.C=C
 i:a.I=I
 n:a.n=(bs.length:Int)
 lo:a.lo=bs.map (·.1)
 hi:a.hi=bs.map (·.2)
def bdB(b:ar):Bd:=(b.lo,b.hi)
theorem BK{s w:Int}:∀{l:J ar} {k:Nat} {a:LA} {V C I:J Int} {bs:J Bd},Lay a V C I bs->Lay (a.from s w k l) V C I (bs++l.map bdB)
 | [],_,_,_,_,_,_,h=>by grind [LA.from]
 |b::r,k,a,V,C,I,bs,h=>by
  have:=BK (s:=s) (w:=w) (l:=r) (k:=k+1) (a:=a.one s w k b) (V:=V) (C:=C) (I:=I) (bs:=bs++[bdB b]) ⟨h.v,h.c,h.i,by simp[LA.one,h.n],by simp[LA.one,h.lo,bdB],by simp[LA.one,h.hi,bdB]⟩
  grind [LA.from]
theorem ZD{a:LA}{V C I:J Int}{bs:J Bd}{i:Nat}{l:J ar}(h:Lay a V C I bs):Lay (a.addV i l) (V++[(bs.length:Int)]) C I (bs++l.map bdB):=by
 have q:=BK (s:=1) (w:=i) (l:=l) (k:=0) h
 exact⟨by simp[LA.addV,h.v,h.n],q.c,q.i,q.n,q.lo,q.hi⟩
theorem ZE{a:LA}{V C I:J Int}{bs:J Bd}{i:Nat}{l:J ar}(h:Lay a V C I bs):Lay (a.addC i l) V (C++[(bs.length:Int)]) I (bs++l.map bdB):=by
 have q:=BK (s:=2) (w:=i) (l:=l) (k:=0) h
 exact⟨q.v,by simp[LA.addC,h.c,h.n],q.i,q.n,q.lo,q.hi⟩
theorem ZF{a:LA}{V C I:J Int}{bs:J Bd}{i:Nat}{l:J ar}(h:Lay a V C I bs):Lay (a.addI i l) V C (I++[(bs.length:Int)]) (bs++l.map bdB):=by
 have q:=BK (s:=3) (w:=i) (l:=l) (k:=0) h
 exact⟨q.v,q.c,by simp[LA.addI,h.i,h.n],q.n,q.lo,q.hi⟩
theorem aqZ(m:ae)(v:aB):(vL m v).map bdB=oA m v:=by simp[vL,oA,ofB,bdB,fu]
theorem aq0(m:ae)(c:aD):(cL m c).map bdB=lh m c:=by
 have a:(if 0<c.Lo then 0 else c.Lo)=min c.Lo 0:=by omega
 have b:(if c.Hi<0 then 0 else c.Hi)=max c.Hi 0:=by omega
 simp[cL,lh,ofC,ofB,bdB,fu,a,b]
theorem aq1(m:ae)(x:aE)(h:1<=(eF m x).bE/\(eF m x).bE<=12):(iL m (eF m x)).map bdB=ko m x:=by
 have a:IntKind.i64.wrap ((eF m x).bE - 1)=(eF m x).bE - 1:=dC (by omega) (by omega)
 simp_all [iL,ko,bdB,ofB]
theorem ad0{m:ae}:∀{l:J aB} {i:Nat} {a:LA} {V C I:J Int} {bs:J Bd},Lay a V C I bs->Lay (tR m i l a) (V++ofN (i4 bs.length (l.map (oA m)))) C I (bs++(l.map (oA m)).flatten)
 | [],_,_,_,_,_,_,h=>by grind [tR,i4]
 |v::r,i,a,V,C,I,bs,h=>by
  have:=ad0 (m:=m) (l:=r) (i:=i+1) (ZD (i:=i) (l:=vL m v) h)
  grind [aqZ,tR,i4]
theorem ad1{m:ae}:∀{l:J aD} {i:Nat} {a:LA} {V C I:J Int} {bs:J Bd},Lay a V C I bs->Lay (vO m i l a) V (C++ofN (i4 bs.length (l.map (lh m)))) I (bs++(l.map (lh m)).flatten)
 | [],_,_,_,_,_,_,h=>by grind [vO,i4]
 |c::r,i,a,V,C,I,bs,h=>by
  have:=ad1 (m:=m) (l:=r) (i:=i+1) (ZE (i:=i) (l:=cL m c) h)
  grind [aq0,vO,i4]
theorem ad2{m:ae}:∀{l:J aE} {i:Nat} {a:LA} {V C I:J Int} {bs:J Bd},(∀x∈l,1<=(eF m x).bE/\(eF m x).bE<=12)->Lay a V C I bs->Lay (DR m i l a) V C (I++ofN (i4 bs.length (l.map (ko m)))) (bs++(l.map (ko m)).flatten)
 | [],_,_,_,_,_,_,_,h=>by grind [DR,i4]
 |x::r,i,a,V,C,I,bs,c,h=>by
  have:=ad2 (m:=m) (l:=r) (i:=i+1) (λy b=>c y (Ap _ b)) (ZF (i:=i) (l:=iL m (eF m x)) h)
  grind [aq1,DR,i4]
theorem abf{m:ae}(a:May m):(⟨(wR m).V,(wR m).C,(wR m).I,(wR m).n,(wR m).lo,(wR m).hi⟩:bO)=dU m:=by
 have z:Lay LA.zero [] [] [] []:=⟨rfl,rfl,rfl,rfl,rfl,rfl⟩;have h:=ad2 (m:=m) (l:=dy m) (i:=0) (λx b=>(a.p _ _ (BJ b).2.1).l) (ad1 (m:=m) (l:=m.ah) (i:=0) (ad0 (m:=m) (l:=m.aq) (i:=0) z))
 rw[<-nM]at h
 have d:DR m 0 (jM m) (vO m 0 m.ah (tR m 0 m.aq .zero))=wR m:=rfl;rw[d]at h
 have f:=h.v;have g:=h.c;have hi:=h.i;have j:=h.n;have c:=h.lo;have e:=h.hi
 grind [nM,dU,vAt,cAt,iAt,eR,fc,fD,kg]
structure bn(m:ae):Prop where
 o:cC m
 e:MoE m
 h:ij m=none
theorem bn.may{m:ae}(h:bn m):May m:=agr h.h
theorem oC{m:ae}(b:May m):(dy m).length<=30:=by
 have a:∀(l:J az) (i:Nat),(eb m i l).length<=5 * l.length:=by
  intro l
  induction l with
  |nil=>grind [eb]
  |cons p r c=>
   intro i
   have:=c (i+1)
   have h5:(iy m i p).length<=5:=by rw[<-Zz];exact Zj m
   grind [eb]
 have:=a m.ak 0
 have:=b.pn
 grind [dy]
section
variable{ρ:Type}{m:ae}
theorem RP(h:bn m)(κ:KT ρ):cbK (call 81 [moD m] []) κ=κ ([.d (fF (0,0,0,0))],[]):=by
 rw[Rw m h.o h.e,h.h];rfl
theorem RR(h:bn m)(κ:KT ρ):cbK (call 83 [moD m] []) κ=κ ([.d (.sl false (List.map gU (dy m)))],[]):=by
 rw[<-nM];exact RA m h.o.sc h.o.n κ
theorem agz(h:bn m)(κ:KT ρ):cbK (call 84 [moD m] []) κ=κ ([.d (.sl false (List.map uF (dJ m)))],[]):=by
 rw[<-ZC];refine ago m h.o.sc h.o.n (λi=> ?_) κ
 unfold ow;split
 .rename_i p a;have:=(h.may.p i p a).cn;omega
 .omega
theorem aq2(h:bn m)(κ:KT ρ):cbK (call 114 [moD m] []) κ=κ ([.d (wv false (dU m)),.d (.sl false (List.map fC (wR m).sl))],[]):=by
 have b:=h.may;rw[<-abf b];have k:=oC b;have g:=b.vn;have j:=b.cn;refine aqY m h.o.sc h.o.n (by omega) (by omega) (λc d=> ?_) (by rw[nM];omega) (ZA b) κ
 obtain⟨i,e,rfl⟩:=mZ d;obtain⟨a,f⟩:=pB b (xG e);exact f.cap.2
theorem UT(h:cC m)(b:MoE m)(κ:KT ρ):cbK (call 113 [moD m] []) κ=κ ([.d (.bool (decide (((ij m).getD (0,0,0,0)).1=0)))],[]):=by
 refine(akV _ _ _ rfl).trans ?_
 have a:=λκ=>Rw (ρ:=ρ) m h b κ
 try simp only[go_sem]at a
 simp -implicitDefEqProofs [go_sem,a]
theorem aq3(h:bn m)(κ:KT ρ):cbK (call 82 [moD m] []) κ=κ ([.d (wv false (dU m))],[]):=by
 refine(avb _ _ _ rfl).trans ?_
 have b:=λκ=>UT (ρ:=ρ) h.o h.e κ
 have a:=λκ=>aq2 (ρ:=ρ) h κ
 simp only[h.h,Option.getD_none,decide_true]at b
 simp only[go_sem]at a
 simp -implicitDefEqProofs [go_sem,b,a]
end
structure Right(m:ae)(s:List Int):Prop where
 b:inB m s
 q:∀(c:Nat) (x:aD),m.ah[c]? =some x->qm m x (fy m s c)=true
theorem CU{m:ae}{s:J Int}:jn m s=true↔Right m s:=by
 have k:∀(c:Nat) (x:aD),m.ah[c]? =some x->∃a,(cAt m)[c]? =some a/\fy m s c=lK s a (x.bm.toNat+1):=λc x f=>by
  grind [UR,fy,yU]
 unfold jn;simp only[xA,yD,io,List.mem_range];constructor
 .rintro⟨⟨d,g⟩,h3⟩
  refine⟨⟨d,λi v b h j=> ?_⟩,λc x f=> ?_⟩
  .grind
  grind
 .rintro⟨⟨d,g⟩,h3⟩
  refine⟨⟨d,λc e=> ?_⟩,λi h=> ?_⟩
  .grind
  grind
section
attribute [-simp] List.map_append List.map_take List.map_drop List.map_set
def rD(m:ae):D:=.agg [.sl false (List.map eI (dU m).aq),.sl false (List.map eI (dU m).ah),.sl false (List.map eI (dU m).Insts),.int .i64 (dU m).Cells,.sl false (List.map eI (dU m).Lo),.sl false (List.map eI (dU m).Hi),.sl false (List.map dz m.aa),.sl false (List.map dH m.aq),.sl false (List.map dM m.ah),.sl false (List.map (dI false) m.ak),.sl false (List.map (e9 false) m.aL),.sl false (List.map gU (dy m))]
section
variable{ρ:Type}{m:ae}
def Q0(lo hi a:Int)(r:J Int)(k:Nat):St:=⟨[(8,.d (.int .i64 lo)),(9,.d (.int .i64 hi)),(10,.d (.sl false (List.map eI (a::r)))),(72,.d (.sl false (List.map eI r))),(73,.d (.int .i64 r.length)),(74,.d (.int .i64 k))],[],[.box (.d (rD m))]⟩
def Q0X(lo hi a:Int)(r:J Int)(k:Nat):St:=⟨[(8,.d (.int .i64 lo)),(9,.d (.int .i64 hi)),(10,.d (.sl false (List.map eI (a::r)))),(72,.d (.sl false (List.map eI r))),(73,.d (.int .i64 r.length)),(74,.d (.int .i64 k)),(75,.d (.bool false))],[],[.box (.d (rD m))]⟩
def QR(x:D):St:=⟨[(6,.d (.bool false))],[],[.box (.d x)]⟩
def okQ(lo hi a:Int)(k:Nat)(v:Int):Bool:=if(k:Int)<a then decide (lo<=v)&&decide (v<=hi)else decide (v=0)
def Ai(lo hi a:Int):Nat->List Int->Bool
 |_,[]=>true
 |k,v::r=>okQ lo hi a k v&&Ai lo hi a (k+1) r
theorem agA(lo hi a:Int)(r:J Int)(k:Nat)(hk:k<r.length)(hr:r.length<=1000)(κ:Ex×St->U ρ):dG P hints ni PZ 0 (Q0 (m:=m) lo hi a r k) κ=if okQ lo hi a k r[k]=true then dG P hints ni PZ 0 (Q0 (m:=m) lo hi a r (k+1)) κ else κ (.ret,QR (rD m)):=by
 refine(ap Xt.2).trans ?_
 have d:r[k]? =some r[k]:=xG hk;have b:(k:Int)<(r.length:Int):=by omega
 have c:IntKind.i64.wrap ((k:Int)+1)=(k:Int)+1:=dC (by omega) (by omega)
 simp -implicitDefEqProofs (maxSteps:=1000000) [go_sem,Q0,b,d,c,QR,okQ]
 by_cases e:(k:Int)<a
 .grind
 grind
theorem agB(lo hi a:Int)(r:J Int)(κ:Ex×St->U ρ):dG P hints ni PZ 0 (Q0 (m:=m) lo hi a r r.length) κ=κ (.exit 0,Q0X (m:=m) lo hi a r r.length):=by
 refine(ap Xt.2).trans ?_
 simp -implicitDefEqProofs (maxSteps:=1000000) [go_sem,Q0,Q0X]
theorem ZG(lo hi a:Int)(r:J Int)(hr:r.length<=1000)(κ:Ex×St->U ρ):∀(d k:Nat),k+d=r.length->dG P hints ni PZ 0 (Q0 (m:=m) lo hi a r k) κ=if Ai lo hi a k (r.drop k)=true then κ (.exit 0,Q0X (m:=m) lo hi a r r.length)else κ (.ret,QR (rD m))
 |0,k,b=>by
  have:k=r.length:=by omega
  subst this;rw[agB,v8];rfl
 |d+1,k,b=>by
  have:=ZG lo hi a r hr κ d;grind [agA,xW,Ai]
theorem H6{lo hi b:Int}:∀{r:J Int} {k:Nat},Ai lo hi b k r=true↔∀(j:Nat) (a:j<r.length),okQ lo hi b (k+j) r[j]=true
 | [],k=>by simp[Ai]
 |v::r,k=>by
  simp only[Ai,xA,H6 (r:=r) (k:=k+1)];constructor
  .grind
  .intro h
   refine⟨h 0 (by simp),λj a=> ?_⟩
   have:=h (j+1) (by simpa using a)
   grind
theorem ZH{c:aD}{b:Int}{r:J Int}:qm m c (b::r)=(decide (0<=b)&&decide (b<=c.bm)&&Ai (fM m.aa c).1 (fM m.aa c).2 b 0 r):=by
 unfold qm;simp only[List.headD_cons,xZ,Nat.add_sub_cancel];refine congrArg _ (Bool.eq_iff_iff.2 ?_);rw[io,H6];constructor
 .intro h j a
  have:=h j (List.mem_range.2 a)
  simp only[List.getD,oK,xG a,gC]at this
  rw[fp];exact this
 .intro h j a
  have a:=List.mem_range.1 a
  have:=h j a
  rw[fp]at this
  simp only[List.getD,oK,xG a,gC];exact this
@[go_sem] theorem ai3{k:IntKind}{v:Int}{r:J D}:headD 1 (.int k v::r)=true:=rfl
theorem FZ{k:Nat}:∀{l:J (J Bd)},(∀x∈l,x.length<=k)->l.flatten.length<=k * l.length
 | [],_=>by simp
 |x::r,h=>by
  have b:=FZ (k:=k) (l:=r) λy a=>h y (Ap _ a)
  grind [Nat.mul_add]
theorem iG(b:May m):(eR m).length<=300:=by
 have j:=FZ (k:=4) (l:=fc m) λx d=>by
  obtain⟨v,_,rfl⟩:=List.mem_map.1 d
  simp_all [iF,oA]
 have n:=FZ (k:=5) (l:=fD m) λx d=>by
  obtain⟨c,f,rfl⟩:=List.mem_map.1 d;obtain⟨i,g,rfl⟩:=mZ f;obtain⟨a,h⟩:=pB b (xG g)
  have:=h.cap.2
  simp only[lh,xZ,List.length_replicate];omega
 have h3:=FZ (k:=5) (l:=kg m) λx d=>by
  obtain⟨y,e,rfl⟩:=List.mem_map.1 d
  have:=(b.p _ _ (BJ e).2.1).vn
  grind [ko]
 have h4:=oC b;have h5:=b.vn;have h6:=b.cn
 grind [fc,fD,kg,eR]
theorem abg(h:bn m)(s:J Int)(hs:s.length=(eR m).length)(i:Nat)(c:aD)(hi:m.ah[i]? =some c)(κ:KT ρ):cbK (call 117 [.ptr 0,.int .i64 i,.sl false (List.map eI s)] [.box (.d (rD m))]) κ=κ ([.d (.bool (qm m c (fy m s i)))],[.box (.d (rD m))]):=by
 refine(ak4 _ _ _ rfl).trans ?_
 obtain⟨a,b⟩:=pB h.may hi;have v:=b.cap;have o:=b.f;have hk:=h.may.k;obtain⟨C,d⟩:∃C:Nat,c.bm=(C:Int):=⟨c.bm.toNat,by omega⟩
 obtain⟨e,E⟩:∃e:Nat,e=a+1+C:=⟨_,rfl⟩
 have A:=iG h.may;rw[d]at o v
 rw[xV]at o
 have p:fy m s i=List.take (C+1) (List.drop a s):=by
  unfold fy yU lK;rw[b.at0,hi];simp only[d,xV]
 obtain⟨l,r,n⟩:∃l r,List.take (C+1) (List.drop a s)=l::r:=by
  cases e:List.take (C+1) (List.drop a s)with
  |nil=>grind [yN]
  |cons x r=>grind
 have q:r.length=C:=by have:=congrArg List.length n;simp only[yR,vZ,xZ]at this;omega
 rw[p,n,ZH,d]
 have z:(dU m).ah[i]? =some (a:Int):=by
  obtain⟨D,h3,_⟩:=UR hi
  have:=b.at0
  rw[List.getD,h3]at this
  simp only[gC]at this
  subst this;simp[dU,ofN,h3]
 have w:∀(g:Int->Int->U ρ),jW ⟨[],c.aC,0,c.Lo,c.Hi,0⟩ m.aa g=g (fM m.aa c).1 (fM m.aa c).2:=λg=>by
  rw[wE h.o.sc]
  grind [fM,fX]
 have f:IntKind.i64.wrap ((a:Int)+1)=(a:Int)+1:=dC (by omega) (by omega)
 have j:IntKind.i64.wrap ((a:Int)+1+C)=(e:Int):=(dC (by omega) (by omega)).trans (by omega)
 have u:a<=e:=by omega
 have t:e<=s.length:=by omega
 have y:e - a=C+1:=by omega
 have B:min (C+1) (s.length - a)=C+1:=by omega
 have k:=λκ=>ZG (ρ:=ρ) (m:=m) (fM m.aa c).1 (fM m.aa c).2 l r (by omega) κ r.length 0 (by omega)
 rw[i6]at k
 simp only[go_sem,Q0,Q0X,QR,rD,ez]at k
 simp -implicitDefEqProofs (maxSteps:=1000000) [go_sem,rD,hi,z,w,d,f,j,u,t,y,n,B,k]
 grind
def R0(s:J Int)(i:Nat):St:=⟨[(0,.d (.ptr 0)),(1,.d (.sl false (List.map eI s))),(21,.d (.int .i64 m.ah.length)),(22,.d (.int .i64 i))],[],[.box (.d (rD m))]⟩
def R1(s:J Int)(i:Nat):St:=⟨[(0,.d (.ptr 0)),(31,.d (.sl false (List.map eI s))),(32,.d (.int .i64 s.length)),(33,.d (.int .i64 i))],[],[.box (.d (rD m))]⟩
def RX0(s:J Int)(i:Nat):St:=⟨[(0,.d (.ptr 0)),(1,.d (.sl false (List.map eI s))),(21,.d (.int .i64 m.ah.length)),(22,.d (.int .i64 i)),(23,.d (.bool false))],[],[.box (.d (rD m))]⟩
def RX1(s:J Int)(i:Nat):St:=⟨[(0,.d (.ptr 0)),(31,.d (.sl false (List.map eI s))),(32,.d (.int .i64 s.length)),(33,.d (.int .i64 i)),(34,.d (.bool false))],[],[.box (.d (rD m))]⟩
def RF:St:=⟨[(4,.d (.bool false))],[],[.box (.d (rD m))]⟩
def qOK(s:J Int)(i:Nat):Bool:=match m.ah[i]?,(cAt m)[i]? with |some c,some a=>qm m c (lK s a (c.bm.toNat+1)) |_,_=>true
def bOK(s:J Int)(i:Nat):Bool:=match s[i]?,(eR m)[i]? with |some v,some b=>decide (b.1<=v)&&decide (v<=b.2) |_,_=>true
theorem abh(h:bn m)(s:J Int)(hs:s.length=(eR m).length)(κ:Ex×St->U ρ)(i:Nat)(hi:i<m.ah.length):dG P hints mM b86 0 (R0 (m:=m) s i) κ=if qOK (m:=m) s i=true then dG P hints mM b86 0 (R0 (m:=m) s (i+1)) κ else κ (.ret,RF (m:=m)):=by
 refine(ap ac5.2).trans ?_
 have b:m.ah[i]? =some m.ah[i]:=xG hi;have d:(i:Int)<(m.ah.length:Int):=by omega
 have g:=h.may.cn;have f:IntKind.i64.wrap ((i:Int)+1)=(i:Int)+1:=dC (by omega) (by omega)
 have c:=λκ=>abg (ρ:=ρ) h s hs i _ b κ
 have e:qm m m.ah[i] (fy m s i)=qOK (m:=m) s i:=by
  obtain⟨a,h3,_⟩:=UR b;unfold qOK;rw[b,h3];unfold fy yU;rw[b,List.getD,h3];rfl
 rw[e]at c
 simp only[go_sem,rD]at c
 simp -implicitDefEqProofs (maxSteps:=1000000) [go_sem,R0,d,f,rD,c,RF]
 grind
theorem abi(s:J Int)(κ:Ex×St->U ρ):dG P hints mM b86 0 (R0 (m:=m) s m.ah.length) κ=κ (.exit 0,RX0 (m:=m) s m.ah.length):=by
 refine(ap ac5.2).trans ?_
 simp -implicitDefEqProofs (maxSteps:=1000000) [go_sem,R0,RX0]
theorem abj(h:bn m)(s:J Int)(hs:s.length=(eR m).length)(κ:Ex×St->U ρ)(i:Nat)(hi:i<s.length):dG P hints mM b86 1 (R1 (m:=m) s i) κ=if bOK (m:=m) s i=true then dG P hints mM b86 1 (R1 (m:=m) s (i+1)) κ else κ (.ret,RF (m:=m)):=by
 refine(ap ac6.2).trans ?_
 have c:s[i]? =some s[i]:=xG hi;have d:(i:Int)<(s.length:Int):=by omega
 have f:=iG h.may;have g:IntKind.i64.wrap ((i:Int)+1)=(i:Int)+1:=dC (by omega) (by omega)
 obtain⟨b,a⟩:∃b,(eR m)[i]? =some b:=⟨_,xG (hs▸hi)⟩
 have h3:(dU m).Lo[i]? =some b.1:=by simp[dU,a]
 have h4:(dU m).Hi[i]? =some b.2:=by simp[dU,a]
 have e:bOK (m:=m) s i=(decide (b.1<=s[i])&&decide (s[i]<=b.2)):=by unfold bOK;rw[c,a]
 rw[e]
 simp -implicitDefEqProofs (maxSteps:=1000000) [go_sem,R1,d,c,g,rD,h3,h4,RF]
 grind
theorem abk(s:J Int)(κ:Ex×St->U ρ):dG P hints mM b86 1 (R1 (m:=m) s s.length) κ=κ (.exit 2,RX1 (m:=m) s s.length):=by
 refine(ap ac6.2).trans ?_
 simp -implicitDefEqProofs (maxSteps:=1000000) [go_sem,R1,RX1]
theorem aq4{b:Type}{F:Nat->b}{n:Nat}{a:Nat->Bool}{A B:b}(h:∀i,i<n->F i=if a i=true then F (i+1)else B)(hn:F n=A):F 0=if(List.range n).all a=true then A else B:=by
 have c:∀d i,i+d=n->F i=if(List.range d).all (λj=>a (i+j))=true then A else B:=by
  intro d
  induction d with
  |zero=>
   grind
  |succ d f=>
   intro i e;rw[h i (by omega),List.range_succ_eq_map]
   grind [List.all_map]
 grind
theorem abl(h:bn m)(s:J Int)(κ:KT ρ):cbK (call 56 [moD m,.sl false (List.map eI s)] []) κ=κ ([.d (.bool (jn m s))],[]):=by
 refine(auR _ _ _ rfl).trans ?_
 have c:=λκ=>RP (ρ:=ρ) h κ
 have d:=λκ=>aq3 (ρ:=ρ) h κ
 have h3:=λκ=>RR (ρ:=ρ) h κ
 try simp only[go_sem]at c
 try simp only[go_sem]at d
 try simp only[go_sem]at h3
 by_cases hs:s.length=(eR m).length
 .have a:(s.length:Int)=(dU m).Cells:=by simp only[dU,hs]
  have f:=λκ=>aq4 (abh (ρ:=ρ) h s hs κ) (abi s κ)
  have e:=λκ=>aq4 (abj (ρ:=ρ) h s hs κ) (abk s κ)
  have b:jn m s=((List.range m.ah.length).all (qOK (m:=m) s)&&(List.range s.length).all (bOK (m:=m) s)):=by
   unfold jn;rw[decide_eq_true hs,m9];rfl
  rw[b];generalize (List.range m.ah.length).all (qOK (m:=m) s)=A at *;generalize (List.range s.length).all (bOK (m:=m) s)=B at *;simp only[go_sem,R0,RX0,R1,RX1,RF,rD,a,ez]at f e
  simp -implicitDefEqProofs (maxSteps:=1000000) [go_sem,akm,akn,c,d,h3,a,f,e]
  grind
 .have a:¬(s.length:Int)=(dU m).Cells:=by simp only[dU];omega
  have b:jn m s=false:=by unfold jn;rw[decide_eq_false hs,Bool.false_and,Bool.false_and]
  rw[b]
  simp -implicitDefEqProofs (maxSteps:=1000000) [go_sem,akm,akn,c,d,h3,a]
end
section
variable{ρ:Type}(β:Bool)
def td(l:List Int)(i:Nat):Nat->Int
 |0=> -1
 |d+1=>if l[i]? =some 0 then td l (i+1) d else(i:Int)
def F0(l:J Int)(i:Nat):St:=⟨[(0,.d (.sl β (List.map eI l))),(1,.d (.fn (.func 261) [] [])),(7,.d (.int .i64 l.length)),(8,.d (.int .i64 i))],[],[]⟩
theorem On(l:J Int)(hl:l.length<=1000)(κ:KT ρ):∀(d i:Nat),i+d=l.length->dG P hints rU XJ 0 (F0 β l i) (Cn 0 (Hp P hints rU XJ ((CL.reg [{d:=some 4,ty:=3,op:=.assign (.const (.int .i64 (-1))),g:=none}] [4]).seq .ret) (kLv P false [.tmp 4] 0 κ)))=κ ([.d (.int .i64 (td l i d))],[])
 |0,i,b=>by
  refine(ap XK.2).trans ?_
  have:i=l.length:=by omega
  subst this
  simp -implicitDefEqProofs (maxSteps:=1000000) [go_sem,F0,td]
 |d+1,i,b=>by
  have f:i<l.length:=by omega
  have h:l[i]? =some l[i]:=xG f;have e:(i:Int)<(l.length:Int):=by omega
  have j:IntKind.i64.wrap ((i:Int)+1)=(i:Int)+1:=dC (by omega) (by omega)
  have a:=On l hl κ d (i+1) (by omega)
  simp only[go_sem,F0,Int.natCast_add,Int.natCast_one]at a
  refine(ap XK.2).trans ?_
  simp -implicitDefEqProofs (maxSteps:=1000000) [go_sem,aqg,F0,e,h,j,a,td]
  by_cases c:l[i]=0
  .grind
  grind
theorem aq5(l:J Int)(hl:l.length<=1000)(κ:KT ρ):cbK (call 262 [.sl β (List.map eI l),.fn (.func 261) [] []] []) κ=κ ([.d (.int .i64 (td l 0 l.length))],[]):=by
 refine(aqi _ _ _ rfl).trans ?_
 have a:=On (ρ:=ρ) β l hl κ l.length 0 (by omega)
 simp only[go_sem,F0,ez]at a
 simp -implicitDefEqProofs (maxSteps:=1000000) [go_sem,a]
theorem H7{l:J Int}:∀{d i:Nat},i+d=l.length->((0<=td l i d)↔¬(l.drop i).all (λx=>decide (x=0))=true)
 |0,i,h=>by
  grind [td]
 |d+1,i,h=>by
  have a:i<l.length:=by omega
  rw[xW a];have b:l[i]? =some l[i]:=xG a;simp only[td,b,xJ,kG,xA,yD]
  by_cases c:l[i]=0
  .simp only[c,if_true,true_and];exact H7 (by omega)
  grind
theorem aq6(l:J Int)(hl:l.length<=1000)(κ:KT ρ):cbK (call 260 [.sl β (List.map eI l),.fn (.func 261) [] []] []) κ=κ ([.d (.bool (!l.all λx=>decide (x=0)))],[]):=by
 refine(aqd _ _ _ rfl).trans ?_
 have b:=λβ κ=>aq5 (ρ:=ρ) β l hl κ
 have a:=H7 (l:=l) (d:=l.length) (i:=0) (by omega)
 rw[i6]at a
 have h3:decide (0<=td l 0 l.length)= !l.all λx=>decide (x=0):=by
  rw[Bool.eq_iff_iff,yD,a]
  cases l.all λx=>decide (x=0) <;>simp
 cases β <;>simp -implicitDefEqProofs (maxSteps:=1000000) [go_sem,b,h3]
theorem agC(n lo hi:Int)(κ:KT ρ):cbK (call 259 [.int .i64 n,.int .i64 lo,.int .i64 hi] []) κ=κ ([.d (.bool (decide (lo<=n)&&decide (n<=hi)))],[]):=by
 refine(aqa _ _ _ rfl).trans ?_
 simp -implicitDefEqProofs (maxSteps:=1000000) [go_sem]
 grind
theorem aq7(l:J Int)(hl:l.length<=1000)(κ:KT ρ):cbK (call 256 [.sl β (List.map eI l)] []) κ=κ ([.d (.bool (isC l))],[]):=by
 refine(ap1 _ _ _ rfl).trans ?_
 cases l with
 |nil=>simp -implicitDefEqProofs (maxSteps:=1000000) [go_sem,isC]
 |cons n r=>
  rw[xZ]at hl
  have g:IntKind.i64.wrap (r.length:Int)=(r.length:Int):=dC (by omega) (by omega)
  have f:¬(r.length:Int)+1=0:=by omega
  have c:=λκ=>agC (ρ:=ρ) n 0 (r.length:Int) κ
  by_cases h:0<=n/\n<=(r.length:Int)
  .obtain⟨N,rfl⟩:∃N:Nat,n=(N:Int):=⟨n.toNat,by omega⟩
   have a:N<=r.length:=by omega
   have d:IntKind.i64.wrap (1+(N:Int))=((N+1:Nat):Int):=(dC (by omega) (by omega)).trans (by omega)
   have i:((N:Int)::r).drop (N+1)=r.drop N:=rfl;have e:=λβ κ=>aq6 (ρ:=ρ) β (r.drop N) (by grind) κ
   have b:isC ((N:Int)::r)=(r.drop N).all λx=>decide (x=0):=by simp[isC,a]
   rw[b];have j:List.take (r.length - N) (List.drop N r)=List.drop N r:=gr (by grind)
   have h9:(0:Int)<=(N:Int)+1:=by omega
   cases β <;>simp -implicitDefEqProofs (maxSteps:=1000000) [go_sem,g,f,h9,c,h,a,d,i,e,j]
  .have b:isC (n::r)=false:=by
    simp only[isC]
    by_cases a:0<=n
    .grind
    .simp[a]
   have k:(decide (0<=n)&&decide (n<=(r.length:Int)))=false:=by
    by_cases a:0<=n
    .grind
    .simp[a]
   rw[b];simp only[k]at c
   cases β <;>simp -implicitDefEqProofs (maxSteps:=1000000) [go_sem,g,f,c]
theorem ZI{a off len n:Nat}{xs es:J Int}{t:J Tr}(hn:Nat.min xs.length len=n)(h:off+n<=es.length){b:SV}(hb:qp b ⟨[((a,0),.own (tl eI es))],[],t⟩=some (tl eI xs)):nP P 29 (.aG (.l a 0) [] off len) b ⟨[((a,0),.own (tl eI es))],[],t⟩=some (.d (.int .i64 (n:Int)),⟨(if n=0 then []else [((a,0),.own (tl eI (es.take off++xs.take n++es.drop (off+n))))])++[((a,0),.own (tl eI es))],[],t⟩):=by
 have:=BD (P:=P) (t:=29) (u:=3) (by rfl) (by rfl) (r:=.l a 0) (p:=[]) (off:=off) (len:=len) (xs:=xs) (es:=es) (c:=.own (tl eI es)) hb (by simp[go_sem]) rfl (by rw[hn];exact h)
 have e:n<=xs.length:=hn▸Nat.min_le_left _ _;rw[this,hn]
 by_cases c:n=0
 .subst c
  simp
 .have d:¬xs.take n=[]:=λq=>by
   grind [yN]
  simp[go_sem,T.put,c,d]
theorem RU(l:J Int)(hl:l.length<=500)(κ:KT ρ):cbK (call 258 [.sl β (List.map eI l)] []) κ=κ ([.own (tl eI (gx l))],[]):=by
 refine(ap7 _ _ _ rfl).trans ?_
 have f:=λβ κ=>aq7 (ρ:=ρ) β l (by omega) κ
 by_cases g:isC l=true
 .obtain⟨v,r,rfl,m,h3,h4⟩:=HU g
  obtain⟨n,rfl⟩:∃n:Nat,v=(n:Int):=⟨v.toNat,by omega⟩
  have h5:n<=r.length:=by omega
  rw[xZ]at hl
  rw[g]at f
  have e:gx ((n:Int)::r)=r.take n:=by unfold gx;rw[if_pos g];rfl
  rw[e];simp only[eJ,eI]at f
  have j:8 * (n:Int)<=281474976710656:=by omega
  have k:(n:Int)<=9223372036854775807:=by omega
  have i:IntKind.i64.wrap (1+(n:Int))=((n+1:Nat):Int):=(dC (by omega) (by omega)).trans (by omega)
  have b3:(0:Int)<=(n:Int)+1:=by omega
  have b4:1<=n+1:=by omega
  have b5:((n+1:Nat):Int)<=(r.length:Int)+1:=by omega
  have d:=λβ=>ZI (a:=3) (off:=0) (len:=n) (n:=n) (xs:=List.take n r) (es:=List.replicate n 0) (t:=[]) (b:=.clip β (List.map eI (List.take n r))) (by grind) (by simp) UN
  simp only[List.take_take,Nat.min_self,jr,gD,fp,List.drop_replicate,re,List.replicate_zero,gf]at d
  by_cases c:n=0
  .simp only[if_pos c,gD]at d
   cases β <;>simp -implicitDefEqProofs (maxSteps:=1000000) [go_sem,f,j,k,i,b3,b4,b5,d,h5]
   all_goals (subst c;rfl)
  .simp only[if_neg c]at d
   cases β <;>simp -implicitDefEqProofs (maxSteps:=1000000) [go_sem,f,j,k,i,b3,b4,b5,d,h5]
 .have e:gx l=[]:=by unfold gx;rw[if_neg g]
  have h:isC l=false:=by simpa using g
  rw[e];rw[h]at f
  cases β <;>simp -implicitDefEqProofs (maxSteps:=1000000) [go_sem,f]
theorem RV(n:Nat)(l:J Int)(hl:l.length+1<=n)(hn:n<=1000)(κ:KT ρ):cbK (call 257 [.int .i64 n,.sl β (List.map eI l)] []) κ=κ ([.d (.sl false (List.map eI (jN n l)))],[]):=by
 refine(ap4 _ _ _ rfl).trans ?_
 obtain⟨N,rfl⟩:∃N,n=N+1:=⟨n - 1,by omega⟩
 have g:0<=(N:Int)+1/\8 * ((N:Int)+1)<=281474976710656/\(N:Int)+1<=9223372036854775807:=by omega
 have b3:0<(N:Int)+1:=by omega
 have f:(jN (N+1) l).length=N+1:=ta (by omega)
 have hs:(List.replicate (N+1) (0:Int)).set 0 (l.length:Int)=(l.length:Int)::List.replicate N 0:=rfl;have d:=ZI (a:=5) (off:=1) (len:=N) (n:=l.length) (xs:=l) (es:=(l.length:Int)::List.replicate N 0) (t:=[]) (b:=.d (.sl β (List.map eI l))) (oO (by omega)) (by simp;omega) FX
 have e:jN (N+1) l=List.take 1 ((l.length:Int)::List.replicate N 0)++List.take l.length l++List.drop (1+l.length) ((l.length:Int)::List.replicate N 0):=by
  simp[jN,Nat.add_comm 1,List.drop_replicate]
 rw[<-e]at d
 by_cases c:l.length=0
 .have i:=yL c
  subst i;simp only[yN,if_true,gD,ez,ir]at d hs f
  have h:(0::List.replicate N 0:J Int)=jN (N+1) []:=by simp[jN]
  rw[h]at d hs
  simp -implicitDefEqProofs (maxSteps:=1000000) [go_sem,g,b3,hs,d,f]
 .simp only[if_neg c]at d
  simp -implicitDefEqProofs (maxSteps:=1000000) [go_sem,g,b3,hs,d,f]
theorem UU(l:J Int):(gx l).length<=l.length:=by
 grind [gx]
theorem Qo(l:J Int)(v:Int)(hl:l.length<=100)(κ:KT ρ):cbK (call 255 [.sl β (List.map eI l),.int .i64 v] []) κ=κ ([.d (.sl false (List.map eI ((CR l v).getD []))),.d (.bool (CR l v).isSome)],[]):=by
 refine(apY _ _ _ rfl).trans ?_
 have c:=λβ κ=>aq7 (ρ:=ρ) β l (by omega) κ
 have i:=λβ κ=>RU (ρ:=ρ) β l (by omega) κ
 have p:=UU l;have k:((gx l).length+1) * 8<=140737488355328/\(gx l).length<=9223372036854775806:=by omega
 by_cases a:isC l=true
 .obtain⟨m,o⟩:=oB a
  obtain⟨n,r,b,_⟩:=HU a;have g:l[0]? =some n:=by rw[b];rfl
  have h:l.headD 0=n:=by rw[b];rfl
  have j:IntKind.i64.wrap ((l.length:Int) - 1)=(l.length:Int) - 1:=dC (by omega) (by omega)
  rw[a]at c
  rw[h]at m
  by_cases d:n=(l.length:Int) - 1
  .have e:CR l v=none:=by unfold CR;rw[if_neg];rw[h];exact λq=>q.2 d
   rw[e];simp only[d]at g
   cases β <;>simp -implicitDefEqProofs (maxSteps:=1000000) [go_sem,c,i,j,g]
  .have e:CR l v=some (jN l.length (gx l++[v])):=by unfold CR;rw[if_pos ⟨a,by rw[h];exact d⟩]
   have h3:=λκ=>RV (ρ:=ρ) false l.length (gx l++[v]) (by grind) (by omega) κ
   rw[e]
   cases β <;>simp -implicitDefEqProofs (maxSteps:=1000000) [go_sem,c,i,j,g,d,k,h3]
 .have f:isC l=false:=by simpa using a
  have e:CR l v=none:=by unfold CR;rw[if_neg (λq=>a q.1)]
  rw[f]at c
  rw[e]
  cases β <;>simp -implicitDefEqProofs (maxSteps:=1000000) [go_sem,c,i]
theorem Oo:∀{l:J Int},D.bl (List.map eI l)=List.map eI l
 | []=>rfl
 |b::r=>by
  have:= @Oo r
  simp only[eJ,D.bl,this];rfl
theorem RW{n:Nat}:∀{l:J Int},D.aQ n (List.map eI l)=true
 | []=>rfl
 |b::r=>by
  have:= @RW n r
  simp only[eJ,D.aQ,this];rfl
theorem Oq(l:J Int)(hl:l.length<=100)(κ:KT ρ):cbK (call 264 [.sl β (List.map eI l)] []) κ=κ ([.d (.sl false (List.map eI (match tQ l with |some p=>p.1 |none=>[]))),.d (.int .i64 (match tQ l with |some p=>p.2 |none=>0)),.d (.bool (tQ l).isSome)],[]):=by
 refine(aqn _ _ _ rfl).trans ?_
 have b:=λβ κ=>RU (ρ:=ρ) β l (by omega) κ
 cases a:gx l with
 |nil=>
  have e:tQ l=none:=by unfold tQ;rw[a]
  rw[a]at b
  rw[e]
  cases β <;>simp -implicitDefEqProofs (maxSteps:=1000000) [go_sem,b]
 |cons x r=>
  have d:isC l=true:=(Ah (l:=l) (k:=0) (v:=x) (by rw[a];rfl)).2.2.2
  obtain⟨h,f⟩:=oB d;rw[a,xZ]at f
  have e:tQ l=some (jN l.length r,x):=by unfold tQ;rw[a]
  rw[a]at b
  rw[e];have h3:=λβ κ=>RV (ρ:=ρ) β l.length r (by omega) (by omega) κ
  have g:List.take r.length (List.map eI r)=List.map eI r:=gr (by simp)
  have c:¬(r.length:Int)+1=0:=by omega
  cases β <;>simp -implicitDefEqProofs (maxSteps:=1000000) [go_sem,b,h3,g,c,Oo,RW]
end
def HV(v:cw)(st:J Int):J Ob:=[.box (.d (.agg [.sl true (List.map (fH true) v.aq),.sl true (List.map eI v.Lens),.sl true (List.map eI v.bB),.sl true (List.map (fH true) v.At),.int .i64 v.Self])),.box (.agg [.own (tl eI st),.d (.map 3)]),.box (.d (.ptr 1)),.map opsL,.box (.d (.fn (Fn.func 211) [] [])),.box (.d (.fn (Fn.func 212) [] [])),.box (.d (.fn (Fn.func 213) [] [])),.box (.d (.fn (Fn.func 214) [] [])),.box (.d (.fn (Fn.func 215) [] [])),.box (.d (.fn (Fn.func 216) [] []))]
def okI(y:Int):Prop:=-4611686018427387904<=y/\y<=4611686018427387904
section
variable{ρ:Type}
theorem LR{n:Int}:qM n=(decide (-1048576<=n)&&decide (n<=1048576)):=by
 grind [qM]
theorem oD{n:Int}:qM n=true↔ -1048576<=n/\n<=1048576:=by simp[LR]
theorem LS(a b:Int)(g:Bool->U ρ):jy [a,b] g=g (qM a&&qM b):=by
 grind [wC,LR]
theorem LU(a:Int)(g:Bool->U ρ):jy [a] g=g (qM a):=by
 grind [wC,LR]
theorem LV{a b n w:Int}(hw:qM a=true->qM b=true->w=n)(g:Int->Bool->U ρ):(if qM a=true->qM b=false then g 0 false else if qM w=false then g 0 false else g w true)=g (tU a b n).1 (decide ((tU a b n).2=0)):=by
 unfold tU
 by_cases h:qM a=true <;>by_cases c:qM b=true <;>simp[h,c]
 obtain rfl:=hw h c
 by_cases h3:qM w=true <;>simp[h3]
theorem aq8(a b:Int)(H:J Ob)(κ:KT ρ):cbK (call 188 [.int .i64 a,.int .i64 b] H) κ=κ ([.d (.int .i64 (tU a b (a+b)).1),.d (.bool (decide ((tU a b (a+b)).2=0)))],H):=by
 refine(adi _ _ _ rfl).trans ?_
 simp -implicitDefEqProofs (maxSteps:=1000000) [go_sem,adj,Q6,LS,LU]
 exact LV (a:=a) (b:=b) (n:=a+b) (w:=IntKind.i64.wrap (a+b)) (λh c=>by grind [oD,dC]) (λx y=>κ ([.d (.int .i64 x),.d (.bool y)],H))
theorem ad3(a b:Int)(H:J Ob)(κ:KT ρ):cbK (call 208 [.int .i64 a,.int .i64 b] H) κ=κ ([.d (.int .i64 (tU a b (a - b)).1),.d (.bool (decide ((tU a b (a - b)).2=0)))],H):=by
 refine(aoD _ _ _ rfl).trans ?_
 simp -implicitDefEqProofs (maxSteps:=1000000) [go_sem,apw,Q6,LS,LU]
 exact LV (a:=a) (b:=b) (n:=a - b) (w:=IntKind.i64.wrap (a - b)) (λh c=>by grind [oD,dC]) (λx y=>κ ([.d (.int .i64 x),.d (.bool y)],H))
theorem aq9(a b:Int)(H:J Ob)(κ:KT ρ):cbK (call 209 [.int .i64 a,.int .i64 b] H) κ=κ ([.d (.int .i64 (tU a b (a * b)).1),.d (.bool (decide ((tU a b (a * b)).2=0)))],H):=by
 refine(aoG _ _ _ rfl).trans ?_
 simp -implicitDefEqProofs (maxSteps:=1000000) [go_sem,apz,Q6,LS,LU]
 exact LV (a:=a) (b:=b) (n:=a * b) (w:=IntKind.i64.wrap (a * b)) (λh c=>by
  have h:=oD.1 h;have c:=oD.1 c;have d:(a * b).natAbs<=1048576 * 1048576:=by rw[Int.natAbs_mul];exact Nat.mul_le_mul (by omega) (by omega)
  grind [dC]) (λx y=>κ ([.d (.int .i64 x),.d (.bool y)],H))
theorem Qp{l:J Int}{n:Int}(g:Int->Int->U ρ):(if n<0 then g 0 8 else if(l.length:Int)<=n then g 0 8 else if 0<=n then l[n.toNat]?.bind λy=>g y 0 else none)=g (atK l n).1 (atK l n).2:=by
 grind [atK]
abbrev D8(v:cw)(st:J Int)(κ:KT ρ)(r:Int×Int):U ρ:=κ ([.d (.int .i64 r.1),.d (.int .i64 r.2)],HV v st)
theorem agD(op n:Int)(hn:n<=9223372036854775807)(v:cw)(st:J Int)(c:eW op=0)(κ:KT ρ):cbK (call 155 [.agg [.int .i64 op,.int .i64 n],.ptr 2,.ptr 0] (HV v st)) κ=D8 v st κ (qO ⟨op,n⟩ v):=by
 refine(adh _ _ _ rfl).trans ?_
 have f:op=1\/op=2\/op=4\/op=5\/op=6\/op=7\/op=8:=by rcases mA op with⟨h,q⟩ |⟨h,q⟩ |⟨h,q⟩ |⟨h,q⟩ <;>omega
 obtain rfl |rfl |rfl |rfl |rfl |rfl |rfl:=f
 .have hk:P7 n=(0,0)↔qM n=true:=by
   unfold P7
   by_cases h:-1048576<=n/\n<=1048576
   .simp[h,oD]
   .simp[h,oD]
  simp -implicitDefEqProofs (maxSteps:=1000000) [go_sem,HV,DH,A6,DI,pp,qO,D8,hk]
  grind
 .simp -implicitDefEqProofs (maxSteps:=1000000) [go_sem,HV,DH,A6,DI,pp,qO,D8]
  unfold Oh
  by_cases h:n<0
  .grind
  .have a:0<=n:=by omega
   by_cases b:(v.aq.length:Int)<=n
   .grind
   .have h3:v.aq[n.toNat]? =some (v.aq[n.toNat]'(by omega)):=xG _
    simp only[if_neg h,if_neg b,if_pos a,h3,xS];generalize v.aq[n.toNat]=y
    cases y <;>simp[atK]
 .simp -implicitDefEqProofs (maxSteps:=1000000) [go_sem,HV,DH,A6,DI,pp,qO,D8]
  exact Qp (λx y=>κ ([.d (.int .i64 x),.d (.int .i64 y)],HV v st))
 .simp -implicitDefEqProofs (maxSteps:=1000000) [go_sem,HV,DH,A6,DI,pp,qO,D8]
 .simp -implicitDefEqProofs (maxSteps:=1000000) [go_sem,HV,DH,A6,DI,pp,qO,D8]
  exact Qp (λx y=>κ ([.d (.int .i64 x),.d (.int .i64 y)],HV v st))
 .simp -implicitDefEqProofs (maxSteps:=1000000) [go_sem,HV,DH,A6,DI,pp,qO,D8]
  by_cases h:n<0
  .grind
  .have a:0<=n:=by omega
   have e:Int.tdiv n 16=n / 16:=Int.tdiv_eq_ediv_of_nonneg a;have d:IntKind.i64.wrap (Int.tdiv n 16)=Int.tdiv n 16:=by rw[e];exact dC (by omega) (by omega)
   have g:0<=Int.tdiv n 16:=by omega
   by_cases b:(v.At.length:Int)<=Int.tdiv n 16
   .grind
   .have h3:v.At[(Int.tdiv n 16).toNat]? =some (v.At[(Int.tdiv n 16).toNat]'(by omega)):=xG _
    simp only[d,if_neg h,if_neg b,if_pos a,if_pos g,h3,xS];exact Qp (λx y=>κ ([.d (.int .i64 x),.d (.int .i64 y)],HV v st))
 .simp -implicitDefEqProofs (maxSteps:=1000000) [go_sem,HV,DH,A6,DI,pp,qO,D8]
theorem agE(n k:Int)(v:cw)(st:J Int)(h:st.length<=12)(hk:st.getLast? =some k)(a:okI k)(κ:KT ρ):cbK (call 155 [.agg [.int .i64 3,.int .i64 n],.ptr 2,.ptr 0] (HV v st)) κ=D8 v st κ (HS ⟨3,n⟩ k v):=by
 refine(adh _ _ _ rfl).trans ?_
 have d:st≠[]:=λe=>by grind
 have f:0<st.length:=List.length_pos_iff.2 d;have g:IntKind.i64.wrap ((st.length:Int) - 1)=((st.length - 1:Nat):Int):=HD (m:=1) (by omega) (by omega)
 have c:st[st.length - 1]? =some k:=by rw[<-List.getLast?_eq_getElem?];exact hk
 have b:IntKind.i64.wrap (k - 1)=k - 1:=dC (by have:=a.1;omega) (by have:=a.2;omega)
 have i:(0:Int)<=((st.length - 1:Nat):Int):=by omega
 have j:((st.length - 1:Nat):Int)<(st.length:Int):=by omega
 simp -implicitDefEqProofs (maxSteps:=1000000) [go_sem,HV,DH,A6,DI,HS,D8,g,c,b,i,j]
 grind [Oh]
theorem F1(a b n:Int):tU a b n=(n,0)\/tU a b n=(0,10):=by grind [tU]
theorem H8(b:Bool)(H:J Ob)(κ:KT ρ):cbK (call 206 [.bool b] H) κ=κ ([.d (.int .i64 (if b=true then 1 else 0))],H):=by
 refine(aox _ _ _ rfl).trans ?_
 cases b <;>simp -implicitDefEqProofs (maxSteps:=1000000) [go_sem]
def HO(a b:Ob):J Ob:=[a,b,.box (.d (.ptr 1)),.map opsL,.box (.d (.fn (Fn.func 211) [] [])),.box (.d (.fn (Fn.func 212) [] [])),.box (.d (.fn (Fn.func 213) [] [])),.box (.d (.fn (Fn.func 214) [] [])),.box (.d (.fn (Fn.func 215) [] [])),.box (.d (.fn (Fn.func 216) [] []))]
theorem ara(c:Bool)(d:Int)(hx:9<=d/\d<=19)(a b:Int)(l:J Int)(h0:l[0]? =some a)(h1:l[l.length - 1]? =some b)(hl:l.length<=2)(i h:Ob)(κ:KT ρ):
  cbK (call 157 [.agg [.int .i64 (opP d),.int .i64 (opT d),.int .i64 (opM d),.fn (.func (A7 d)) [] (uG d)],.sl c (List.map eI l)] (HO i h)) κ=κ ([.d (.int .i64 (s6 d a b).1),.d (.int .i64 (s6 d a b).2)],HO i h):=by
 have j:0<l.length:=(List.getElem?_eq_some_iff.1 h0).1;have e:IntKind.i64.wrap ((l.length:Int) - 1)=((l.length - 1:Nat):Int):=HD (m:=1) (by omega) (by omega)
 have g:(0:Int)<=((l.length - 1:Nat):Int):=by omega
 have f:((l.length - 1:Nat):Int)<(l.length:Int):=by omega
 refine(amr _ _ _ rfl).trans ?_
 have k:d=9\/d=10\/d=11\/d=12\/d=13\/d=14\/d=15\/d=16\/d=17\/d=18\/d=19:=by omega
 obtain rfl |rfl |rfl |rfl |rfl |rfl |rfl |rfl |rfl |rfl |rfl:=k
 .simp -implicitDefEqProofs (maxSteps:=1000000) [go_sem,opP,opT,opM,A7,uG,HO,s6,Ag,e,h0,h1,g,f,aou,H8]
 .simp -implicitDefEqProofs (maxSteps:=1000000) [go_sem,opP,opT,opM,A7,uG,HO,s6,e,h0,h1,g,f,aoA,ad3]
  grind [F1]
 .simp -implicitDefEqProofs (maxSteps:=1000000) [go_sem,opP,opT,opM,A7,uG,HO,s6,e,h0,h1,g,f,aq8]
  grind [F1]
 .simp -implicitDefEqProofs (maxSteps:=1000000) [go_sem,opP,opT,opM,A7,uG,HO,s6,e,h0,h1,g,f,ad3]
  grind [F1]
 .simp -implicitDefEqProofs (maxSteps:=1000000) [go_sem,opP,opT,opM,A7,uG,HO,s6,e,h0,h1,g,f,aq9]
  grind [F1]
 .simp -implicitDefEqProofs (maxSteps:=1000000) [go_sem,opP,opT,opM,A7,uG,HO,s6,Ag,e,h0,h1,g,f,Js,aoL,H8]
 .simp -implicitDefEqProofs (maxSteps:=1000000) [go_sem,opP,opT,opM,A7,uG,HO,s6,Ag,e,h0,h1,g,f,Js,aoO,H8]
 .simp -implicitDefEqProofs (maxSteps:=1000000) [go_sem,opP,opT,opM,A7,uG,HO,s6,Ag,e,h0,h1,g,f,Js,aoR,H8]
 .simp -implicitDefEqProofs (maxSteps:=1000000) [go_sem,opP,opT,opM,A7,uG,HO,s6,Ag,e,h0,h1,g,f,Js,aoU,H8]
 .simp -implicitDefEqProofs (maxSteps:=1000000) [go_sem,opP,opT,opM,A7,uG,HO,s6,Ag,e,h0,h1,g,f,Js,aoX,H8]
  grind
 .simp -implicitDefEqProofs (maxSteps:=1000000) [go_sem,opP,opT,opM,A7,uG,HO,s6,Ag,e,h0,h1,g,f,Js,ao0,H8]
  grind
end
end
end Go.Etx
