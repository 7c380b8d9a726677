/- A part of the proof: texts of mine, merged by a program (wip/dev/merge.py). -/
import Derived.Test.YteeabnledfmpjaaGreatDoorFr8
set_option linter.unusedSimpArgs false
set_option linter.unusedVariables false
namespace Go.Etx
open Go Go.Am Go.Proofs
set_option maxHeartbeats 4000000
set_option maxRecDepth 20000
section
attribute [-simp] List.map_append List.map_take List.map_drop List.map_set
theorem RX(n:Nat):hint110.mv.contains n=false:=rfl
theorem aaP{ρ:Type}(f:D)(l:J (Nm×Bool))(nm:Nm)(a b:Int)(κ:KT ρ):cbK (call 140 [.map 1,.str nm,.int .i64 a,.int .i64 b] [.box (.d f),.map (jH eS eB l)]) κ=
  if kN false l nm=true then κ (IH (nf 7 a b 0),[.box (.d f),.map (jH eS eB l)])else κ ([],[.box (.d f),.map (jH eS eB (lj l nm true))]):=Y5 f l [] nm a b rfl κ
theorem aaQ{ρ:Type}(f:D)(l:J (Nm×Bool))(ks:J Nm)(nm:Nm)(a b:Int)(κ:KT ρ):cbK (call 140 [.map 1,.str nm,.int .i64 a,.int .i64 b] [.box (.d f),.map (jH eS eB l),.sset ks]) κ=
  if kN false l nm=true then κ (IH (nf 7 a b 0),[.box (.d f),.map (jH eS eB l),.sset ks])else κ ([],[.box (.d f),.map (jH eS eB (lj l nm true)),.sset ks]):=Y5 f l [.sset ks] nm a b rfl κ
attribute [go_sem] aaP aaQ
abbrev hG(F:D)(t:J (Nm×Bool)):J Ob:=[.box (.d F),.map (jH eS eB t)]
def SG0(m:ae)(F:D)(t:J (Nm×Bool))(i:Int):St:=
 ⟨[(1,.d (.map 1)),(2,.loc (.l 2 0) [] 0 0),(22,.d (.sl false (List.map dB m.aa))),(23,.d (.int .i64 m.aa.length)),(24,.d (.int .i64 i))],[((2,0),.own [.d (moD m)])],hG F t⟩
def XG0(m:ae)(F:D)(t:J (Nm×Bool)):St:=
 ⟨[(1,.d (.map 1)),(2,.loc (.l 2 0) [] 0 0),(22,.d (.sl false (List.map dB m.aa))),(23,.d (.int .i64 m.aa.length)),(24,.d (.int .i64 m.aa.length)),(25,.d (.bool false))],[((2,0),.own [.d (moD m)])],hG F t⟩
theorem aaR{ρ:Type}(m:ae)(F:D)(t:J (Nm×Bool))(hl:m.aa.length<=1000)(i:Nat)(hi:i<m.aa.length)(R:St->U ρ)(κ:Ex×St->U ρ):
  go P hints hint110 wX Lx.1 (SG0 m F t i) (kLp R κ)=R (SG0 m F (lj t m.aa[i].Name true) (i+1:Nat)):=by
 have c:m.aa[i]? =some m.aa[i]:=xG hi;have a:(i:Int)<(m.aa.length:Int):=by omega
 have b:IntKind.i64.wrap ((i:Int)+1)=((i+1:Nat):Int):=eW (by omega)
 unfold SG0
 simp [go_sem,c,a,b]
theorem aaS{ρ:Type}(m:ae)(F:D)(t:J (Nm×Bool))(R:St->U ρ)(κ:Ex×St->U ρ):
  go P hints hint110 wX Lx.1 (SG0 m F t (m.aa.length:Nat)) (kLp R κ)=κ (.exit 0,XG0 m F t):=by
 unfold SG0 XG0
 simp [go_sem]
theorem aaT{ρ:Type}(m:ae)(F:D)(hl:m.aa.length<=1000)(κ:Ex×St->U ρ):∀(n i:Nat),m.aa.length - i=n->i<=m.aa.length->
  dI P hints hint110 wX 0 (SG0 m F (tkn ((sN m).take i)) i) κ=κ (.exit 0,XG0 m F (tkn (sN m))):=by
 intro n
 induction n with
 |zero=>
  intro i b d
  have:i=m.aa.length:=by omega
  subst this;rw[ap Lx.2,aaS,gy (by simp[sN])]
 |succ n c=>
  intro i b d;have a:i<m.aa.length:=by omega
  have:=RV (nm:=λx:aw=>x.Name) a
  simp only[sN]at c |-
  rw[ap Lx.2,aaR m F _ hl i a,this]
  grind
theorem oI{N:Nat}{f:Nat->Flt}{i:Nat}(hi:i<N)(h0:(f i).1≠0)(h:∀k,k<i->(f k).1=0):orF N f=some (f i):=by
 induction N with
 |zero=>omega
 |succ N a=>
  grind [orF,List.range_succ]
theorem wJ{N:Nat}{f:Nat->Flt}(h:∀k,k<N->(f k).1=0):orF N f=none:=List.findSome?_eq_none_iff.2 λk hk=>by grind
def SG1(m:ae)(F:D)(a b:Int)(t:J (Nm×Bool))(i:Int):St:=
 ⟨[(1,.d (.map 1)),(2,.loc (.l 2 0) [] 0 0),(4,.d (.int .i64 a)),(5,.d (.int .i64 b)),(41,.d (.sl false (List.map dJ m.aq))),(42,.d (.int .i64 m.aq.length)),(43,.d (.int .i64 i))],[((2,0),.own [.d (moD m)])],hG F t⟩
def XG1(m:ae)(F:D)(a b:Int)(t:J (Nm×Bool)):St:=
 ⟨[(1,.d (.map 1)),(2,.loc (.l 2 0) [] 0 0),(4,.d (.int .i64 a)),(5,.d (.int .i64 b)),(41,.d (.sl false (List.map dJ m.aq))),(42,.d (.int .i64 m.aq.length)),(43,.d (.int .i64 m.aq.length)),(44,.d (.bool false))],[((2,0),.own [.d (moD m)])],hG F t⟩
theorem aaU{ρ:Type}(m:ae)(F:D)(a b:Int)(t:J (Nm×Bool))(hl:m.aq.length<=1000)(i:Nat)(hi:i<m.aq.length)(R:St->U ρ)(κ:Ex×St->U ρ)(B:Int->Int->U ρ)(g:∀e j s t,s.H=hG F t->κ (.cQ (nf e 2 j 0),s)=B e j):
  go P hints hint110 wX Ly.1 (SG1 m F a b t i) (kLp R κ)=if(i:Int)=a/\b≠0 then B b i else if kN false t m.aq[i].Name=true then B 7 i else R (SG1 m F a b (lj t m.aq[i].Name true) (i+1:Nat)):=by
 have f:m.aq[i]? =some m.aq[i]:=xG hi;have d:(i:Int)<(m.aq.length:Int):=by omega
 have c:IntKind.i64.wrap ((i:Int)+1)=((i+1:Nat):Int):=eW (by omega)
 unfold SG1
 simp [go_sem,f,d,c,eH (RX _),hG]
 by_cases h:(i:Int)=a
 .grind
 grind
theorem aaV{ρ:Type}(m:ae)(F:D)(a b:Int)(t:J (Nm×Bool))(R:St->U ρ)(κ:Ex×St->U ρ):
  go P hints hint110 wX Ly.1 (SG1 m F a b t (m.aq.length:Nat)) (kLp R κ)=κ (.exit 2,XG1 m F a b t):=by
 unfold SG1 XG1
 simp [go_sem]
theorem aq8{m:ae}{a b:Int}(c:(a,b)=(qR m.aq m.aa 12:U (Nat×Int)).elim (0,0) λq=>((q.1:Int),q.2)){i:Nat}(hi:i<m.aq.length)(h0:∀k,k<i->tO m.aq m.aa 12 k=0):(tO m.aq m.aa 12 i=0↔¬((i:Int)=a/\b≠0))/\(tO m.aq m.aa 12 i≠0->tO m.aq m.aa 12 i=b):=by
 cases d:(qR m.aq m.aa 12:U (Nat×Int))with
 |none=>
  rw[d]at c
  simp only[kS,pJ]at c
  obtain⟨rfl,rfl⟩:=c
  have:=gX d i hi
  grind
 |some q=>
  rw[d]at c
  simp only[oX,pJ]at c
  obtain⟨rfl,rfl⟩:=c;obtain⟨g,f,q3,q4⟩:=ft (i:=q.1) (e:=q.2) d
  grind
theorem aaW{ρ:Type}(m:ae)(F:D)(a b:Int)(p:(a,b)=(qR m.aq m.aa 12:U (Nat×Int)).elim (0,0) λq=>((q.1:Int),q.2))(hl:m.aq.length<=1000)(κ:Ex×St->U ρ)(B:Int->Int->U ρ)(C:∀e j s t,s.H=hG F t->κ (.cQ (nf e 2 j 0),s)=B e j):∀(n i:Nat),m.aq.length - i=n->i<=m.aq.length->(∀k,k<i->(gvF m k).1=0)->
  dI P hints hint110 wX 1 (SG1 m F a b (tkn (sN m++(vN m).take i)) i) κ=(orF m.aq.length (gvF m)).elim (κ (.exit 2,XG1 m F a b (tkn (sN m++vN m)))) λf=>B f.1 f.2.2.1:=by
 intro n
 induction n with
 |zero=>
  intro i x A o
  have:i=m.aq.length:=by omega
  subst this;rw[ap Ly.2,aaV,gy (by simp[vN]),wJ o];rfl
 |succ n E=>
  intro i x A o;have g:i<m.aq.length:=by omega
  have u:∀k,k<i->tO m.aq m.aa 12 k=0:=λk hk=>by
   grind [gvF,twF]
  obtain⟨w,G⟩:=aq8 p g u;have l:(vN m).getD i []=m.aq[i].Name:=by simp[vN,g]
  have r:lj (tkn (sN m++(vN m).take i)) m.aq[i].Name true=tkn (sN m++(vN m).take (i+1)):=by
   rw[vC,xK,eD (show i<(vN m).length by grind [vN])]
   simp[vN]
  have z:kN false (tkn (sN m++(vN m).take i)) m.aq[i].Name=decide (m.aq[i].Name∈sN m++(vN m).take i):=vB _ _;rw[ap Ly.2,aaU m F a b _ hl i g _ κ B C]
  by_cases h:tO m.aq m.aa 12 i=0
  .rw[if_neg (w.1 h),z]
   by_cases v:m.aq[i].Name∈sN m++(vN m).take i
   .have d:gvF m i=(7,2,(i:Int),0):=by simp only[gvF,twF,l,h];rw[if_neg (by simp),if_pos v]
    rw[if_pos (decide_eq_true v),oI g (by grind) o,d];rfl
   .have d:(gvF m i).1=0:=by simp only[gvF,twF,l,h];rw[if_neg (by simp),if_neg v]
    rw[if_neg (by grind),r]
    exact E (i+1) (by omega) (by omega) λk hk=>by
     grind
  .have d:gvF m i=(tO m.aq m.aa 12 i,2,(i:Int),0):=by simp only[gvF,twF];rw[if_pos h]
   have y:(i:Int)=a/\b≠0:=Classical.not_not.1 λc=>h (w.2 c)
   rw[if_pos y,oI g (by rw[d];exact h) o,d]
   grind
def SG2(m:ae)(F:D)(a b:Int)(t:J (Nm×Bool))(i:Int):St:=
 ⟨[(1,.d (.map 1)),(4,.d (.int .i64 a)),(5,.d (.int .i64 b)),(69,.d (.sl false (List.map dP m.ah))),(70,.d (.int .i64 m.ah.length)),(71,.d (.int .i64 i))],[],hG F t⟩
def XG2(m:ae)(F:D)(a b:Int)(t:J (Nm×Bool)):St:=
 ⟨[(1,.d (.map 1)),(4,.d (.int .i64 a)),(5,.d (.int .i64 b)),(69,.d (.sl false (List.map dP m.ah))),(70,.d (.int .i64 m.ah.length)),(71,.d (.int .i64 m.ah.length)),(72,.d (.bool false))],[],hG F t⟩
theorem aaX{ρ:Type}(m:ae)(F:D)(a b:Int)(t:J (Nm×Bool))(hl:m.ah.length<=1000)(i:Nat)(hi:i<m.ah.length)(R:St->U ρ)(κ:Ex×St->U ρ)(B:Int->Int->U ρ)(g:∀e j s t,s.H=hG F t->κ (.cQ (nf e 3 j 0),s)=B e j):
  go P hints hint110 wX Lz.1 (SG2 m F a b t i) (kLp R κ)=if(i:Int)=a/\b≠0 then B b i else if kN false t m.ah[i].Name=true then B 7 i else R (SG2 m F a b (lj t m.ah[i].Name true) (i+1:Nat)):=by
 have f:m.ah[i]? =some m.ah[i]:=xG hi;have d:(i:Int)<(m.ah.length:Int):=by omega
 have c:IntKind.i64.wrap ((i:Int)+1)=((i+1:Nat):Int):=eW (by omega)
 unfold SG2
 simp [go_sem,f,d,c,eH (RX _),hG]
 by_cases h:(i:Int)=a
 .grind
 grind
theorem aaY{ρ:Type}(m:ae)(F:D)(a b:Int)(t:J (Nm×Bool))(R:St->U ρ)(κ:Ex×St->U ρ):
  go P hints hint110 wX Lz.1 (SG2 m F a b t (m.ah.length:Nat)) (kLp R κ)=κ (.exit 4,XG2 m F a b t):=by
 unfold SG2 XG2
 simp [go_sem]
theorem aq9{m:ae}{a b:Int}(c:(a,b)=(s7 m.ah m.aa:U (Nat×Int)).elim (0,0) λq=>((q.1:Int),q.2)){i:Nat}(hi:i<m.ah.length)(h0:∀k,k<i->nh m.ah m.aa k=0):(nh m.ah m.aa i=0↔¬((i:Int)=a/\b≠0))/\(nh m.ah m.aa i≠0->nh m.ah m.aa i=b):=by
 cases d:(s7 m.ah m.aa:U (Nat×Int))with
 |none=>
  rw[d]at c
  simp only[kS,pJ]at c
  obtain⟨rfl,rfl⟩:=c
  have:=gX d i hi
  grind
 |some q=>
  rw[d]at c
  simp only[oX,pJ]at c
  obtain⟨rfl,rfl⟩:=c;obtain⟨g,f,q3,q4⟩:=ft (i:=q.1) (e:=q.2) d
  grind
theorem aaZ{ρ:Type}(m:ae)(F:D)(a b:Int)(p:(a,b)=(s7 m.ah m.aa:U (Nat×Int)).elim (0,0) λq=>((q.1:Int),q.2))(hl:m.ah.length<=1000)(κ:Ex×St->U ρ)(B:Int->Int->U ρ)(C:∀e j s t,s.H=hG F t->κ (.cQ (nf e 3 j 0),s)=B e j):∀(n i:Nat),m.ah.length - i=n->i<=m.ah.length->(∀k,k<i->(gcF m k).1=0)->
  dI P hints hint110 wX 2 (SG2 m F a b (tkn (sN m++vN m++(cN m).take i)) i) κ=(orF m.ah.length (gcF m)).elim (κ (.exit 4,XG2 m F a b (tkn (sN m++vN m++cN m)))) λf=>B f.1 f.2.2.1:=by
 intro n
 induction n with
 |zero=>
  intro i x A o
  have:i=m.ah.length:=by omega
  subst this;rw[ap Lz.2,aaY,gy (by simp[cN]),wJ o];rfl
 |succ n E=>
  intro i x A o;have g:i<m.ah.length:=by omega
  have u:∀k,k<i->nh m.ah m.aa k=0:=λk hk=>by
   grind [gcF,twF]
  obtain⟨w,G⟩:=aq9 p g u;have l:(cN m).getD i []=m.ah[i].Name:=by simp[cN,g]
  have r:lj (tkn (sN m++vN m++(cN m).take i)) m.ah[i].Name true=tkn (sN m++vN m++(cN m).take (i+1)):=by
   rw[vC,xK,eD (show i<(cN m).length by grind [cN])]
   simp[cN]
  have z:kN false (tkn (sN m++vN m++(cN m).take i)) m.ah[i].Name=decide (m.ah[i].Name∈sN m++vN m++(cN m).take i):=vB _ _;rw[ap Lz.2,aaX m F a b _ hl i g _ κ B C]
  by_cases h:nh m.ah m.aa i=0
  .rw[if_neg (w.1 h),z]
   by_cases v:m.ah[i].Name∈sN m++vN m++(cN m).take i
   .have d:gcF m i=(7,3,(i:Int),0):=by simp only[gcF,twF,l,h];rw[if_neg (by simp),if_pos v]
    rw[if_pos (decide_eq_true v),oI g (by grind) o,d];rfl
   .have d:(gcF m i).1=0:=by simp only[gcF,twF,l,h];rw[if_neg (by simp),if_neg v]
    rw[if_neg (by grind),r]
    exact E (i+1) (by omega) (by omega) λk hk=>by
     grind
  .have d:gcF m i=(nh m.ah m.aa i,3,(i:Int),0):=by simp only[gcF,twF];rw[if_pos h]
   have y:(i:Int)=a/\b≠0:=Classical.not_not.1 λc=>h (w.2 c)
   rw[if_pos y,oI g (by rw[d];exact h) o,d]
   grind
theorem mP{N:Nat}{f:Nat->Flt}{x:Flt}(h:orF N f=some x):∃i,i<N/\f i=x/\x.1≠0:=by
 obtain⟨i,b,h⟩:=List.exists_of_findSome?_eq_some h
 refine⟨i,List.mem_range.1 b,?_⟩
 by_cases a:(f i).1=0
 .simp[a]at h
 grind
theorem UR{ρ:Type}(m:ae)(h:cE m)(F:D)(κ:KT ρ)(B:Flt->U ρ)(u:∀e a b c t,κ (IH (nf e a b c),hG F t)=B (e,a,b,c)):
  cbK (call 110 [moD m,.map 1] (hG F [])) κ=(vH m).elim (κ ([],hG F (tkn (sN m++vN m++cN m)))) B:=by
 refine(ak4 _ _ _ rfl).trans ?_
 have z:=λg=>Qy (ρ:=ρ) (by have:=h.sc;omega) (g:=g) (l:=m.aa)
 have w:=λg=>RW (ρ:=ρ) (n:=12) (l:=m.aq) (s:=m.aa) h.v h.sc (g:=g)
 simp only[show((12:Nat):Int)=12 from rfl]at w
 have A:=λg=>Zi (ρ:=ρ) (l:=m.ah) (s:=m.aa) h.c h.sc (g:=g)
 have Q:=λκ=>aaT (ρ:=ρ) m F h.sc κ _ 0 rfl (eJ _)
 simp only[SG0,XG0,jB,aai,eA,hG]at Q
 unfold vH
 cases I:qQ m.aa with
 |some q=>
  obtain⟨R,S,q3,q4⟩:=ft (i:=q.1) (e:=q.2) I
  simp [go_sem,z,I,atE,q3,eH (RX _),hG]
  exact u _ _ _ _ []
 |none=>
  simp [go_sem,z,I,atE,eH (RX _),hG,Q,w]
  have O:=λ(a b:Int) o κ B u=>aaW (ρ:=ρ) m F a b o h.v κ B u _ 0 rfl (eJ _) (λk hk=>by omega)
  have M:=λ(a b:Int) o κ B u=>aaZ (ρ:=ρ) m F a b o h.c κ B u _ 0 rfl (eJ _) (λk hk=>by omega)
  simp only[SG1,XG1,SG2,XG2,jB,eA,hG,gj]at O M
  have L:∀(s:St) (e j:Int) (t:J (Nm×Bool)) (d:CL),s.H=hG F t->A7 2 (D4 P hints hint110 wX d (kLv P false [] 2 κ)) (.cQ (nf e 2 j 0),s)=B (e,2,j,0):=by
   intro s e j t d hs;obtain⟨env,ct,H⟩:=s;simp only at hs;subst hs
   simp [go_sem,hG]
   exact u _ _ _ _ t
  have K:∀(s:St) (e j:Int) (t:J (Nm×Bool)),s.H=hG F t->A7 4 (kLv P false [] 2 κ) (.cQ (nf e 3 j 0),s)=B (e,3,j,0):=by
   intro s e j t hs;obtain⟨env,ct,H⟩:=s;simp only at hs;subst hs
   simp [go_sem,hG]
   exact u _ _ _ _ t
  have E:∀(a b:Int),((a,b)=(s7 m.ah m.aa).elim (0,0) λq=>((q.1:Int),q.2))->_:=λa b o=>M a b o (A7 4 (kLv P false [] 2 κ)) (λe j=>B (e,3,j,0)) λe j s t hs=>K s e j t hs
  have v:∀(d:CL) (a b:Int),((a,b)=(qR m.aq m.aa 12).elim (0,0) λq=>((q.1:Int),q.2))->_:=λd a b o=>O a b o (A7 2 (D4 P hints hint110 wX d (kLv P false [] 2 κ))) (λe j=>B (e,2,j,0)) λe j s t hs=>L s e j t _ hs
  cases N:(qR m.aq m.aa 12:U (Nat×Int))with
  |none=>
   simp only[kS];rw[v _ 0 0 (by rw[N];rfl)]
   cases G:orF m.aq.length (gvF m)with
   |some f=>
    obtain⟨i,C,r,y⟩:=mP G;subst r;rfl
   |none=>
    simp [go_sem,A,atE]
    cases x:(s7 m.ah m.aa:U (Nat×Int))with
    |none=>
     simp only[kS];rw[E 0 0 (by rw[x];rfl)]
     cases p:orF m.ah.length (gcF m)with
     |some f=>
      obtain⟨i,C,r,y⟩:=mP p;subst r;rfl
     |none=>
      simp [go_sem]
    |some q=>
     simp only[oX];rw[E q.1 q.2 (by rw[x];rfl)]
     cases p:orF m.ah.length (gcF m)with
     |some f=>
      obtain⟨i,C,r,y⟩:=mP p;subst r;rfl
     |none=>
      simp [go_sem]
  |some q=>
   simp only[oX];rw[v _ q.1 q.2 (by rw[N];rfl)]
   cases G:orF m.aq.length (gvF m)with
   |some f=>
    obtain⟨i,C,r,y⟩:=mP G;subst r;rfl
   |none=>
    simp [go_sem,A,atE]
    cases x:(s7 m.ah m.aa:U (Nat×Int))with
    |none=>
     simp only[kS];rw[E 0 0 (by rw[x];rfl)]
     cases p:orF m.ah.length (gcF m)with
     |some f=>
      obtain⟨i,C,r,y⟩:=mP p;subst r;rfl
     |none=>
      simp [go_sem]
    |some q=>
     simp only[oX];rw[E q.1 q.2 (by rw[x];rfl)]
     cases p:orF m.ah.length (gcF m)with
     |some f=>
      obtain⟨i,C,r,y⟩:=mP p;subst r;rfl
     |none=>
      simp [go_sem]
end
section
variable{ρ:Type}
theorem lS{a:Type}{f:a->Int}{l:J a}{i:Nat}(hi:i<l.length):gT f (l.take (i+1))=gT f (l.take i)+f l[i]:=by
 grind [eD,gT]
theorem pG{c:Type}{f:c->Int}{l:J c}{b:Int}(hb:0<=b)(h:∀x∈l,0<=f x/\f x<=b):∀i,0<=gT f (l.take i)/\gT f (l.take i)<=b * l.length:=by
 intro i
 have a:∀(n:Nat),n<=l.length->0<=gT f (l.take n)/\gT f (l.take n)<=b * n:=by
  intro n
  induction n with
  |zero=>grind [gT]
  |succ n j=>
   intro e;rw[lS (by omega)]
   grind
 obtain d |d:=Nat.le_total i l.length
 .have:=a i d
  have g:b * (i:Int)<=b * (l.length:Int):=Int.mul_le_mul_of_nonneg_left (by omega) hb
  omega
 grind
theorem oJ{τ:Type}{Φ:τ->(τ->U ρ)->U ρ}{a b:τ}{r:U ρ}(h:iw Φ b=r)(e:a=b):iw Φ a=r:=e▸h
theorem iterC_all{τ:Type}{Φ:τ->(τ->U ρ)->U ρ}(N:Nat)(mk:Nat->τ)(a:U ρ)
  (hs:∀i k,i<N->Φ (mk i) k=k (mk (i+1))) (hf:∀k,Φ (mk N) k=a):iw Φ (mk 0)=a:=by
 rw[oc N mk (λ_=>none) a (λi k b=>hs i k b) hf,List.findSome?_eq_none_iff.2 λ_ _=>rfl];rfl
theorem jv{s:J aw}{k:Int}:0<=iP s k/\iP s k<=4:=by
 unfold iP;split
 .split
  .split <;>omega
  .omega
 .omega
theorem nV{m:ae}{p:az}:0<=eX m p/\eX m p<=4:=by
 unfold eX
 have:= @jv m.aa p.aG
 grind
theorem iJ{m:ae}{v:aB}:0<=dN m v/\dN m v<=4:=by
 unfold dN
 have:= @jv m.aa v.aG
 grind
theorem aa0{c:aD}:IntKind.i64.wrap (1+if 4<if c.bc<0 then 0 else c.bc then 4 else if c.bc<0 then 0 else c.bc)=s8 c:=by
 grind [s8,dE]
theorem RY{c:aD}:0<=s8 c/\s8 c<=5:=by unfold s8;omega
def By(m:ae)(l:J az):Int:=l.foldl (λn p=>IntKind.i64.wrap (n+IntKind.i64.wrap (eX m p * p.aP.length))) 0
theorem HN{m:ae}{l:J az}{i:Nat}(hi:i<l.length):By m (l.take (i+1))=IntKind.i64.wrap (By m (l.take i)+IntKind.i64.wrap (eX m l[i] * l[i].aP.length)):=by
 grind [eD,By]
theorem US{m:ae}(h:cE m){g:Int->Int->Int->U ρ}:oB m g=g (vF m) (By m m.ak) (vG m):=by
 have r:=λv g=>Bx (ρ:=ρ) (v:=v) h.sc (g:=g)
 have d:∀{i n:Nat},i<n->n<=1000->IntKind.i64.wrap ((i:Int)+1)=((i+1:Nat):Int):=λc u=>eW (by omega)
 have e:=λi=>pG (f:=dN m) (l:=m.aq) (b:=4) (by decide) (λx _=>iJ) i
 have C:=λi=>pG (f:=s8) (l:=m.ah) (b:=5) (by decide) (λx _=>RY) i
 have b3:=λi=>pG (f:=eX m) (l:=m.ak) (b:=4) (by decide) (λx _=>nV) i
 have j:∀p∈m.ak,0<=eX m p * (1+(p.aq.length:Int))/\eX m p * (1+(p.aq.length:Int))<=4004:=λp z=>by
  have c:= @nV m p;have u:=(h.p p z).v
  refine⟨Int.mul_nonneg c.1 (by omega),?_⟩
  calc eX m p * (1+(p.aq.length:Int))<=4 * (1+(p.aq.length:Int)):=Int.mul_le_mul_of_nonneg_right c.2 (by omega)
   _<=4004:=by omega
 have b4:=λi=>pG (f:=λp:az=>eX m p * (1+(p.aq.length:Int))) (l:=m.ak) (b:=4004) (by decide) j i
 have t:=h.v;have s:=h.c;have q:=h.n;have t1:gT (dN m) (m.aq.take m.aq.length)=gT (dN m) m.aq:=by rw[iz]
 have o:gT s8 (m.ah.take m.ah.length)=gT s8 m.ah:=by rw[iz]
 simp only[oB,oA,mkF,r,aa0];refine iterC_all (τ:=Int×Int) m.aq.length (λi=>(gT (dN m) (m.aq.take i),(i:Int))) _ (λi k a=> ?_) λk=> ?_
 .simp only[show(i:Int)<(m.aq.length:Int)by omega,if_true,show(0:Int)<=(i:Int)by omega,xV,xG a,xS,d a t,lS a]
  have w:=e i;have A:= @iJ m m.aq[i];rw[show IntKind.i64.wrap (gT (dN m) (List.take i m.aq)+if m.aq[i].aG=0 then 1 else iP m.aa m.aq[i].aG)=gT (dN m) (List.take i m.aq)+dN m m.aq[i]from dE (by grind [dN]) (by grind [dN])]
 .simp only[o4,if_false,t1]
  refine oJ (iterC_all (τ:=Int×Int) m.ah.length (λi=>(gT (dN m) m.aq+gT s8 (m.ah.take i),(i:Int))) _ (λi k a=> ?_) λk=> ?_) (by simp[gT])
  .grind [lS,dE]
  .simp only[o4,if_false,o]
   refine oJ (iterC_all (τ:=Int×Int×Int×Int) m.ak.length (λi=>(gT (eX m) (m.ak.take i),By m (m.ak.take i),gT (dN m) m.aq+gT s8 m.ah+gT (λp:az=>eX m p * (1+(p.aq.length:Int))) (m.ak.take i),(i:Int))) _ (λi k a=> ?_) λk=> ?_) (by simp[gT,By])
   .have E:= @nV m m.ak[i]
    have w:=b3 i;have A:=b4 i;have q3:=j _ (eO a);have q4:=e m.aq.length;have q5:=C m.ah.length;rw[t1]at q4
    rw[o]at q5
    have q6:=(h.p _ (eO a)).v;have B:(if m.ak[i].aG=0 then 1 else iP m.aa m.ak[i].aG)=eX m m.ak[i]:=rfl
    have D:IntKind.i64.wrap (1+(m.ak[i].aq.length:Int))=1+(m.ak[i].aq.length:Int):=dE (by omega) (by omega)
    have y:IntKind.i64.wrap (eX m m.ak[i] * (1+(m.ak[i].aq.length:Int)))=eX m m.ak[i] * (1+(m.ak[i].aq.length:Int)):=dE (by omega) (by omega)
    simp only[show(i:Int)<(m.ak.length:Int)by omega,if_true,show(0:Int)<=(i:Int)by omega,xV,xG a,xS,d a q,B,D,y,lS a,HN a]
    grind [dE]
   .simp only[o4,if_false,iz]
    rfl
end
theorem HP{N:Nat}{f:Nat->Flt}(h:orF N f=none):∀k,k<N->(f k).1=0:=λk hk=>by
 have:=List.findSome?_eq_none_iff.1 h k (List.mem_range.2 hk)
 by_cases a:(f k).1=0
 .exact a
 grind
theorem JN{most:Nat}{b:J Nm}{a:Nat->Int}{i:Nat}(hi:i<b.length)(h:qP most b a i=0):i<most/\a i=0:=by
 grind [qP]
theorem ta{a:Type}{l:J a}{most:Nat}{nm:a->Nm}{g:a->Int}(h:∀i,i<l.length->qP most (l.map nm) (fb l g) i=0):l.length<=most/\∀x∈l,g x=0:=by
 refine⟨?_,λx c=> ?_⟩
 .obtain q |q:=AB l.length
  .omega
  .have:=(JN (by simp;omega) (h (l.length - 1) (by omega))).1
   omega
 .obtain⟨i,b,rfl⟩:=lZ c
  have:=(JN (by simpa using b) (h i b)).2
  grind [fb]
structure CMay(c:aK)(p:az)(s:au):Prop where
 f:0<=c.dm/\c.dm<p.bF
 t:0<=c.To/\c.To<p.bF
 an:c.aM.length<=6
 g:c.Guard≠[]->jc c.Guard 1 s=0
 a:∀x∈c.aM,D9 x s=0
 one:∀(i j:Nat) (x y:aO),c.aM[i]? =some x->c.aM[j]? =some y->talksP x=true->talksP y=true->i=j
structure PMay(p:az)(s:au):Prop where
 o:0<=p.aG/\p.aG<=(s.aa.length:Int)
 l:1<=p.bF/\p.bF<=12
 vn:p.aq.length<=4
 v:∀x∈p.aq,Aa s.aa x=0/\x.aG=0
 cn:p.aP.length<=12
 c:∀x∈p.aP,CMay x p (innerP p s)
structure May(m:ae):Prop where
 sn:m.aa.length<=2
 s:∀x∈m.aa,1<=x.cV/\x.cV<=4
 vn:m.aq.length<=12
 v:∀x∈m.aq,Aa m.aa x=0
 cn:m.ah.length<=4
 c:∀x∈m.ah,tN m.aa x=0
 pn:m.ak.length<=6
 p:∀(i:Nat) (x:az),m.ak[i]? =some x->PMay x (eV m i)
 i:vF m<=12
 k:vG m<=64
theorem aa1{c:aK}{p:az}{s:au}(h:(Ab c p s).2=0):CMay c p s:=by
 unfold Ab at h
 split at h
 .grind
 rename_i a;have a:DQ c p=0:=by simpa using a
 split at h
 .grind
 rename_i w;unfold DQ at a
 split at a
 .cases a
 split at a
 .rename_i f
  split at a
  .cases a
  rename_i v
  cases g:dQ c.aM.length (lG c.aM s)with
  |some q=>
   rw[g]at h
   exact absurd h (ft (i:=q.1) (e:=q.2) g).2.2.1
  |none=>
   have t:=gX g
   have b:∀(i:Nat) (x:aO),c.aM[i]? =some x->(talksP x=true->(c.aM.take i).any talksP=false)/\D9 x s=0:=λi x d=>by
    grind [lG]
   have u:∀(i j:Nat) (x y:aO),i<j->c.aM[i]? =some x->c.aM[j]? =some y->talksP x=true->talksP y=true->False:=λi j x y n d m l k=>by
    have:=(b j y m).1 k
    rw[yG]at this
    refine this x ?_ l;exact yS (i:=i) (by grind)
   refine⟨⟨f.1,f.2.1⟩,f.2.2,by omega,λr=> ?_,λx d=> ?_,λi j x y d m l k=> ?_⟩
   .grind
   .obtain⟨i,o,rfl⟩:=lZ d
    exact(b i _ (xG o)).2
   grind
 .cases a
theorem Zk{p:az}{s:au}(h:(jp p s).2.2=0):PMay p s:=by
 unfold jp at h
 split at h
 .grind
 rename_i b;have b:vE p s=0:=by simpa using b
 split at h
 .rename_i q a
  unfold pE at a
  cases d:qR p.aq s.aa 4 with
  |some x=>
   rw[d]at a
   simp only[Option.some_or,xJ]at a
   subst a;exact absurd h (ft (i:=x.1) (e:=x.2) d).2.2.1
  |none=>
   rw[d]at a
   simp only[nu]at a
   exact absurd h (ft (i:=q.1) (e:=q.2) a).2.2.1
 .rename_i a
  unfold pE at a;rw[v8]at a
  have f:=ta (gX a.1);have j:=gX a.2
  cases c:dQ p.aP.length λi=>(iQ p (innerP p s) i).2 with
  |some q=>
   rw[c]at h
   exact absurd h (ft (i:=q.1) (e:=q.2) c).2.2.1
  |none=>
   have h3:=gX c;unfold vE at b
   split at b
   .cases b
   split at b
   .cases b
   split at b
   .cases b
   split at b
   .cases b
   refine⟨by omega,by omega,f.1,λx g=>⟨f.2 x g,?_⟩,by omega,λx g=> ?_⟩
   .grind [lZ,fb,iI]
   grind [lZ,iQ,aa1]
theorem ags{m:ae}(h:hZ m=none):May m:=by
 unfold hZ at h;rw[v8,v8]at h
 obtain⟨a,b,_⟩:=h;unfold vH at a;rw[v8,v8,Option.map_eq_none_iff]at a
 obtain⟨o,n,h3⟩:=a;unfold Ac at b;rw[v8]at b
 obtain⟨h4,h5⟩:=b
 have f:∀{e:Int} {x:Nm} {l:J Nm},twF e x l=0->e=0:=λ{e x l} q=>by
  grind [twF]
 have p:=ta (gX o);have k:=ta (l:=m.aq) (most:=12) (nm:=(·.Name)) (g:=Aa m.aa) λi d=>f (HP n i d)
 have s3:=ta (l:=m.ah) (most:=4) (nm:=(·.Name)) (g:=tN m.aa) λi d=>f (HP h3 i d)
 have j:∀(i:Nat) (x:az),m.ak[i]? =some x->i<6/\(jp x (eV m i)).2.2=0:=λi x c=>by
  grind [HP,gpF]
 have r:¬(12<vF m\/64<vG m):=λq=>by grind
 refine⟨p.1,λx c=> ?_,k.1,k.2,s3.1,s3.2,?_,λi x c=>Zk (j i x c).2,by omega,by omega⟩
 .grind [JL]
 .obtain q |q:=AB m.ak.length
  .omega
  .have:=(j (m.ak.length - 1) _ (xG (by omega))).1
   omega
def oK(m:ae)(p:az):Nat:=(iP m.aa p.aG).toNat
def iC(m:ae)(i:Nat)(p:az):J aE:=(if p.aG=0 then [⟨(i:Int),0⟩]else [])++(List.range (oK m p)).map λ(k:Nat)=>⟨(i:Int),(k:Int)+1⟩
def eg(m:ae):Nat->List az->List aE
 |_,[]=>[]
 |i,p::r=>iC m i p++eg m (i+1) r
def dA(m:ae):J aE:=eg m 0 m.ak
def eQ(m:ae)(x:aE):az:=(m.ak[x.cw.toNat]?).getD ⟨[],0,0,[],[]⟩
def jw(m:ae):Nat->List aE->List bC
 |_,[]=>[]
 |i,x::r=>((List.range (eQ m x).aP.length).map λ(c:Nat)=>⟨(i:Int),(c:Int)⟩)++jw m (i+1) r
def dM(m:ae):J bC:=jw m 0 (dA m)
abbrev Bd:=Int×Int
def gb(s:J aw)(a lo hi:Int):Bd:=if a=0 then(lo,hi)else(0,iP s a)
def fD(s:J aw)(v:aB):Bd:=gb s v.aC v.Lo v.Hi
def fz(s:J aw)(c:aD):Bd:=gb s c.aC c.Lo c.Hi
def oL(m:ae)(v:aB):J Bd:=List.replicate (dN m v).toNat (fD m.aa v)
def iK(m:ae)(c:aD):J Bd:=(0,c.bc)::List.replicate c.bc.toNat (gb m.aa c.aC (min c.Lo 0) (max c.Hi 0))
def kB(m:ae)(x:aE):J Bd:=(0,(eQ m x).bF - 1)::(eQ m x).aq.map (fD m.aa)
def ia:Nat->List (List Bd)->List Nat
 |_,[]=>[]
 |n,b::r=>n::ia (n+b.length) r
def ef(m:ae):J (J Bd):=m.aq.map (oL m)
def eF(m:ae):J (J Bd):=m.ah.map (iK m)
def ku(m:ae):J (J Bd):=(dA m).map (kB m)
def eR(m:ae):J Bd:=(ef m).flatten++((eF m).flatten++(ku m).flatten)
def vAt(m:ae):J Nat:=ia 0 (ef m)
def cAt(m:ae):J Nat:=ia (ef m).flatten.length (eF m)
def iAt(m:ae):J Nat:=ia ((ef m).flatten.length+(eF m).flatten.length) (ku m)
abbrev ofN(l:J Nat):J Int:=l.map λ(n:Nat)=>(n:Int)
def dW(m:ae):bQ:=⟨ofN (vAt m),ofN (cAt m),ofN (iAt m),((eR m).length:Int),(eR m).map (·.1),(eR m).map (·.2)⟩
def kC(m:ae)(c:aD)(l:J Int):Bool:=
 let n:=l.headD 0
 decide (0<=n)&&decide (n<=c.bc)&&(List.range (l.length - 1)).all λ(k:Nat)=>
  let v:=l.getD (k+1) 0
  if(k:Int)<n then decide ((fz m.aa c).1<=v)&&decide (v<=(fz m.aa c).2)else decide (v=0)
def lC(s:J Int)(a n:Nat):J Int:=(s.drop a).take n
def inB(m:ae)(s:J Int):Prop:=s.length=(eR m).length/\∀(i:Nat) (v:Int) (b:Bd),s[i]? =some v->(eR m)[i]? =some b->b.1<=v/\v<=b.2
def jd(m:ae)(s:J Int):Bool:=
 decide (s.length=(eR m).length)&&((List.range m.ah.length).all λ(i:Nat)=>match m.ah[i]?,(cAt m)[i]? with |some c,some a=>kC m c (lC s a (c.bc.toNat+1)) |_,_=>true)
  &&(List.range s.length).all λ(i:Nat)=>match s[i]?,(eR m)[i]? with |some v,some b=>decide (b.1<=v)&&decide (v<=b.2) |_,_=>true
def aa2(m:ae)(s:J Int)(i:Nat)(p:az):J Int:=
 (List.range p.bF.toNat).map λ(l:Nat)=>((((dA m).zip (iAt m)).countP λ(x,a)=>decide (x.cw=(i:Int))&&decide (s.getD a 0=(l:Int)):Nat):Int)
def j8(m:ae)(s:J Int)(b:Nat):cB:=
 let x:=((dA m)[b]?).getD ⟨0,0⟩
 ⟨(m.aq.zip (vAt m)).map λ(v,a)=>lC s a (dN m v).toNat,(cAt m).map λa=>s.getD a 0,lC s (((iAt m).getD b 0)+1) (eQ m x).aq.length,(m.ak.zipIdx).map λ(p,i)=>aa2 m s i p,x.Elem⟩
def atK(l:J Int)(n:Int):Int×Int:=if 0<=n then(match l[n.toNat]? with |some x=>(x,0) |none=>(0,8))else(0,8)
def Ot(l:J (J Int))(n:Int):U (J Int):=if 0<=n then l[n.toNat]? else none
def qS(n:Int):Bool:=decide (-1048576<=n)&&decide (n<=1048576)
def qT(x:aF)(v:cB):Int×Int:=
 if x.Op=1 then(if qS x.N=true then(x.N,0)else(0,10))
 else if x.Op=2 then(match Ot v.aq x.N with |some l=>atK l 0 |none=>(0,8))
 else if x.Op=4 then atK v.bB x.N
 else if x.Op=5 then(v.Self,0)
 else if x.Op=6 then atK v.Lens x.N
 else if x.Op=7 then(if 0<=x.N then(match v.At[(Int.tdiv x.N 16).toNat]? with |some l=>atK l (Int.tmod x.N 16) |none=>(0,8))else(0,8))
 else(0,0)
def HQ(x:aF)(k:Int)(v:cB):Int×Int:=
 match Ot v.aq x.N with |some l=>(if 1<=k then(match l[(k - 1).toNat]? with |some y=>(y,0) |none=>(0,10))else(0,10)) |none=>(0,8)
def tZ(a b n:Int):Int×Int:=if(qS a&&qS b&&qS n)=true then(n,0)else(0,10)
def Ae(b:Bool):Int×Int:=(if b=true then 1 else 0,0)
def td(op a b:Int):Int×Int:=
 if op=9 then Ae (decide (a=0))else if op=10 then tZ 0 a (0 - a)else if op=11 then tZ a b (a+b)else if op=12 then tZ a b (a - b)else if op=13 then tZ a b (a * b)
 else if op=14 then Ae (decide (a=b))else if op=15 then Ae (decide (a≠b))else if op=16 then Ae (decide (a<b))else if op=17 then Ae (decide (a<=b))
 else if op=18 then Ae (decide (a≠0)&&decide (b≠0))else Ae (decide (a≠0) || decide (b≠0))
def isC(l:J Int):Bool:=match l with | []=>false |n::r=>decide (0<=n)&&decide (n<=(r.length:Int))&&(r.drop n.toNat).all λx=>decide (x=0)
def fL(l:J Int):J Int:=if isC l=true then(l.drop 1).take (l.headD 0).toNat else []
def je(n:Nat)(a:J Int):J Int:=(a.length:Int)::(a++List.replicate (n - 1 - a.length) 0)
def Bz(l:J Int)(v:Int):U (J Int):=if isC l=true/\l.headD 0≠(l.length:Int) - 1 then some (je l.length (fL l++[v]))else none
def qU(l:J Int):U (J Int×Int):=match fL l with | []=>none |x::r=>some (je l.length r,x)
def wZ(m:ae)(s:J Int)(a:Nat)(n:Int):U (J Int):=match (eR m)[a]? with |some b=>if b.1<=n/\n<=b.2 then some (s.set a n)else none |none=>none
def i6(s:J Int)(a:Nat)(l:J Int):J Int:=s.take a++l++s.drop (a+l.length)
section
attribute [-simp] List.map_append List.map_take List.map_drop List.map_set
@[go_sem] theorem ajh{dst:Nat}{r:aj}{p:J (Nat×Nat)}{len:Nat}{k:Wk}:t6 dst (.aH r p 0 len) k=(k.get r).bind λc=>(c.at p).bind λnd=>match nd with
   | .own a=>if len=a.length/\p≠[]then(c.put p .dead).bind λb=>(k.set r b).map λ(k:Wk)=>(.aH (.l dst 0) [] 0 len,(k.tell (.kill r p)).new dst 0 (.own a))else none
   |_=>none:=rfl
@[go_sem] theorem QA:∀{l:J bu},T.aY (tl fI l)=true
 | []=>rfl
 |b::r=>by
  have:= @QA r
  simp only[tl,eG,T.aY]at this |-
  rw[this];rfl
def ad8(k:Int):Int:=if k=0 then 0 else IntKind.i64.wrap (k+1)
def ofB(s:J aw)(v:aB):ar:=⟨(fD s v).1,(fD s v).2,ad8 v.aC⟩
theorem agt{ρ:Type}(v:aB)(s:J aw)(hs:s.length<=1000)(κ:KT ρ):cbK (call 149 [dJ v,.sl false (List.map dB s)] []) κ=κ ([.d (dK (ofB s v))],[]):=by
 refine(amp _ _ _ rfl).trans ?_
 simp [go_sem,anW,wI hs,ofB,fD,gb,ad8]
 grind
@[go_sem] theorem LA.from_V{s w:Int}:∀{l:J ar} {k:Nat} {a:LA},(a.from s w k l).V=a.V
 | [],_,_=>rfl
 |b::r,k,a=>LA.from_V (l:=r)
@[go_sem] theorem LA.from_C{s w:Int}:∀{l:J ar} {k:Nat} {a:LA},(a.from s w k l).C=a.C
 | [],_,_=>rfl
 |b::r,k,a=>LA.from_C (l:=r)
@[go_sem] theorem LA.from_I{s w:Int}:∀{l:J ar} {k:Nat} {a:LA},(a.from s w k l).I=a.I
 | [],_,_=>rfl
 |b::r,k,a=>LA.from_I (l:=r)
@[go_sem] theorem LA.put_V{s w:Int}{l:J ar}{a:LA}:(a.put s w l).V=a.V:=LA.from_V
@[go_sem] theorem LA.put_C{s w:Int}{l:J ar}{a:LA}:(a.put s w l).C=a.C:=LA.from_C
@[go_sem] theorem LA.put_I{s w:Int}{l:J ar}{a:LA}:(a.put s w l).I=a.I:=LA.from_I
def LA.addV(a:LA)(i:Nat)(l:J ar):LA:={a.put 1 i l with V:=a.V++[a.n]}
def LA.addC(a:LA)(i:Nat)(l:J ar):LA:={a.put 2 i l with C:=a.C++[a.n]}
def LA.addI(a:LA)(i:Nat)(l:J ar):LA:={a.put 3 i l with I:=a.I++[a.n]}
abbrev Ea(r:J (Nat×SV)):J (Nat×SV):=[(1,.loc (.l 1 0) [] 0 0),(2,.loc (.l 2 0) [] 0 0),(4,.d (.ptr 0)),(5,.d (.ptr 1)),(6,.d (.fn (.func 147) [] [.ptr 0,.ptr 1]))]++r
abbrev Eb(m:ae)(r:J ((Nat×Nat)×T)):J ((Nat×Nat)×T):=[((1,0),.own [.d (oT m)]),((2,0),.own [.agg [.own [],.own [],.own [],.d (.int .i64 0),.own [],.own []]])]++r
section
variable{ρ:Type}(m:ae)(hs:m.aa.length<=1000)
def V0(a:LA)(v:aB)(i:Nat)(x:Int)(k:Nat)(l:J ar):St:=⟨Ea [(7,.d (.int .i64 i)),(8,.loc (.l 8 0) [] 0 0),(9,.aH (.l 9 0) [] 0 l.length),(22,.d (.sl false (List.map dJ m.aq))),(23,.d (.int .i64 m.aq.length)),(24,.d (.int .i64 i)),(32,.d (.int .i64 x)),(33,.d (.int .i64 k))],Eb m [((8,0),.own [.d (dJ v)]),((9,0),.own (tl dK l))],a.H⟩
def V0X(a:LA)(v:aB)(i:Nat)(x:Int)(k:Nat)(l:J ar):St:=⟨Ea [(7,.d (.int .i64 i)),(8,.loc (.l 8 0) [] 0 0),(9,.aH (.l 9 0) [] 0 l.length),(22,.d (.sl false (List.map dJ m.aq))),(23,.d (.int .i64 m.aq.length)),(24,.d (.int .i64 i)),(32,.d (.int .i64 x)),(33,.d (.int .i64 k)),(34,.d (.bool false))],Eb m [((8,0),.own [.d (dJ v)]),((9,0),.own (tl dK l))],a.H⟩
theorem aa3(hs:m.aa.length<=1000)(a:LA)(v:aB)(i:Nat)(x:Int)(k:Nat)(hk:(k:Int)<x)(hx:x<=1000)(l:J ar)(hl:l.length<=1000)(κ:Ex×St->U ρ):
  dI P hints ew j6 0 (V0 m a v i x k l) κ=dI P hints ew j6 0 (V0 m a v i x (k+1) (l++[ofB m.aa v])) κ:=by
 refine(ap XH.2).trans ?_
 have c:IntKind.i64.wrap ((k:Int)+1)=(k:Int)+1:=dE (by omega) (by omega)
 have b:=λκ=>agt (ρ:=ρ) v m.aa hs κ
 simp only[go_sem]at b
 have e:(l.length+1) * 24<=140737488355328:=by omega
 have d:l.length<=9223372036854775806:=by omega
 simp [go_sem,V0,hk,b,c,e,d]
theorem aa4(a:LA)(v:aB)(i:Nat)(x:Int)(k:Nat)(hk:¬(k:Int)<x)(l:J ar)(κ:Ex×St->U ρ):dI P hints ew j6 0 (V0 m a v i x k l) κ=κ (.exit 2,V0X m a v i x k l):=by
 refine(ap XH.2).trans ?_
 simp [go_sem,V0,V0X,hk]
theorem RZ(hs:m.aa.length<=1000)(a:LA)(v:aB)(i:Nat)(x:Int)(hx:x<=500)(κ:Ex×St->U ρ):∀(d k:Nat) (l:J ar),(x - k).toNat=d->l.length+d<=1000->dI P hints ew j6 0 (V0 m a v i x k l) κ=κ (.exit 2,V0X m a v i x (k+d) (l++List.replicate d (ofB m.aa v)))
 |0,k,l,b,_=>by
  grind [aa4]
 |d+1,k,l,b,c=>by
  have:=RZ hs a v i x hx κ d;grind [aa3]
def vL(v:aB):J ar:=List.replicate (dN m v).toNat (ofB m.aa v)
def V1(i:Nat)(a:LA):St:=⟨Ea [(22,.d (.sl false (List.map dJ m.aq))),(23,.d (.int .i64 m.aq.length)),(24,.d (.int .i64 i))],Eb m [],a.H⟩
def V1X(i:Nat)(a:LA):St:=⟨Ea [(22,.d (.sl false (List.map dJ m.aq))),(23,.d (.int .i64 m.aq.length)),(24,.d (.int .i64 i)),(25,.d (.bool false))],Eb m [],a.H⟩
theorem agu(hs:m.aa.length<=1000)(hn:m.aq.length<=1000)(a:LA)(ha:a.le 8000)(q:a.V.length<=2000)(κ:Ex×St->U ρ)(i:Nat)(hi:i<m.aq.length):
  dI P hints ew j6 1 (V1 m i a) κ=dI P hints ew j6 1 (V1 m (i+1) (a.addV i (vL m m.aq[i]))) κ:=by
 refine(ap XJ.2).trans ?_
 have j:m.aq[i]? =some m.aq[i]:=xG hi;have l:(i:Int)<(m.aq.length:Int):=by omega
 have p:= @iJ m m.aq[i];have h:IntKind.i64.wrap ((i:Int)+1)=(i:Int)+1:=dE (by omega) (by omega)
 have c:=λκ=>RZ (ρ:=ρ) m hs a m.aq[i] i (dN m m.aq[i]) (by omega) κ (dN m m.aq[i]).toNat 0 [] (by omega) (by simp;omega)
 rw[<-vL]at c
 simp only[go_sem,V0,V0X,gG,eA,yN]at c
 have b:=λn κ=>Yq (ρ:=ρ) true n 1 i (vL m m.aq[i]) (by simp[vL];omega) a (by grind [LA.le]) κ
 have f:=b .o;have e:=b .v;simp only[go_sem]at f e
 have o:(a.V.length+1) * 8<=140737488355328:=by omega
 have k:a.V.length<=9223372036854775806:=by omega
 have d:∀g:Int->U ρ,jK m.aq[i] m.aa g=g (dN m m.aq[i]):=λg=>by rw[Bx hs];rfl
 simp [go_sem,V1,l,j,c,f,e,h,o,k,d,LA.addV,nJ,-List.map_replicate]
theorem agv(a:LA)(i:Nat)(hi:¬i<m.aq.length)(κ:Ex×St->U ρ):dI P hints ew j6 1 (V1 m i a) κ=κ (.exit 0,V1X m i a):=by
 refine(ap XJ.2).trans ?_
 have b:¬(i:Int)<(m.aq.length:Int):=by omega
 simp [go_sem,V1,V1X,b]
def tP:Nat->List aB->LA->LA
 |_,[],a=>a
 |i,v::r,a=>tP (i+1) r (a.addV i (vL m v))
theorem LA.addV_le{a:LA}{N i:Nat}{l:J ar}(h:a.le N):(a.addV i l).le (N+l.length):=LA.from_le (s:=1) (w:=i) (k:=0) h
theorem Zl{v:aB}:(vL m v).length<=4:=by
 simp_all [iJ,vL]
theorem Zm(hs:m.aa.length<=1000)(hn:m.aq.length<=1000)(κ:Ex×St->U ρ):∀(d i N:Nat) (a:LA),i+d=m.aq.length->a.le N->N+4 * d<=8000->a.V.length+d<=2000->dI P hints ew j6 1 (V1 m i a) κ=κ (.exit 0,V1X m m.aq.length (tP m i (m.aq.drop i) a))
 |0,i,N,a,c,_,_,_=>by
  have:i=m.aq.length:=by omega
  subst this;rw[agv m a _ (by omega),wj];rfl
 |d+1,i,N,a,c,e,g,f=>by
  have b:i<m.aq.length:=by omega
  have h4:=Zl m (v:=m.aq[i]);rw[agu m hs hn a (by grind [LA.le]) (by omega) κ i b,Zm hs hn κ d (i+1) (N+(vL m m.aq[i]).length) _ (by omega) (LA.addV_le e) (by omega) (by simp[LA.addV];omega),xW b]
  rfl
end
section
variable{ρ:Type}(m:ae)
def ofC(c:aD):ar:=ofB m.aa ⟨[],c.aC,0,if 0<c.Lo then 0 else c.Lo,if c.Hi<0 then 0 else c.Hi,0⟩
theorem agw(c:aD):ofB m.aa ⟨[],c.aC,0,if 0<c.Lo then 0 else c.Lo,if c.Hi<0 then 0 else c.Hi,0⟩=ofC m c:=rfl
def C0(a:LA)(b:ar)(i:Nat)(x:Int)(k:Nat)(l:J ar):St:=⟨Ea [(10,.d (.int .i64 i)),(12,.aH (.l 12 0) [] 0 l.length),(13,.loc (.l 13 0) [] 0 0),(54,.d (.sl false (List.map dP m.ah))),(55,.d (.int .i64 m.ah.length)),(56,.d (.int .i64 i)),(78,.d (.int .i64 x)),(79,.d (.int .i64 k))],Eb m [((12,0),.own (tl dK l)),((13,0),.own [.d (dK b)])],a.H⟩
def C0X(a:LA)(b:ar)(i:Nat)(x:Int)(k:Nat)(l:J ar):St:=⟨Ea [(10,.d (.int .i64 i)),(12,.aH (.l 12 0) [] 0 l.length),(13,.loc (.l 13 0) [] 0 0),(54,.d (.sl false (List.map dP m.ah))),(55,.d (.int .i64 m.ah.length)),(56,.d (.int .i64 i)),(78,.d (.int .i64 x)),(79,.d (.int .i64 k)),(80,.d (.bool false))],Eb m [((12,0),.own (tl dK l)),((13,0),.own [.d (dK b)])],a.H⟩
theorem aa5(a:LA)(b:ar)(i:Nat)(x:Int)(k:Nat)(hk:(k:Int)<x)(hx:x<=1000)(l:J ar)(hl:l.length<=1000)(κ:Ex×St->U ρ):
  dI P hints ew j6 2 (C0 m a b i x k l) κ=dI P hints ew j6 2 (C0 m a b i x (k+1) (l++[b])) κ:=by
 refine(ap XK.2).trans ?_
 have c:IntKind.i64.wrap ((k:Int)+1)=(k:Int)+1:=dE (by omega) (by omega)
 have e:(l.length+1) * 24<=140737488355328:=by omega
 have d:l.length<=9223372036854775806:=by omega
 simp [go_sem,C0,hk,c,e,d]
theorem aa6(a:LA)(b:ar)(i:Nat)(x:Int)(k:Nat)(hk:¬(k:Int)<x)(l:J ar)(κ:Ex×St->U ρ):dI P hints ew j6 2 (C0 m a b i x k l) κ=κ (.exit 6,C0X m a b i x k l):=by
 refine(ap XK.2).trans ?_
 simp [go_sem,C0,C0X,hk]
theorem R4(a:LA)(b:ar)(i:Nat)(x:Int)(hx:x<=500)(κ:Ex×St->U ρ):∀(d k:Nat) (l:J ar),(x - k).toNat=d->l.length+d<=1000->dI P hints ew j6 2 (C0 m a b i x k l) κ=κ (.exit 6,C0X m a b i x (k+d) (l++List.replicate d b))
 |0,k,l,c,_=>by
  grind [aa6]
 |d+1,k,l,c,e=>by
  have:=R4 a b i x hx κ d;grind [aa5]
def cL(c:aD):J ar:=[⟨0,c.bc,0⟩]++List.replicate c.bc.toNat (ofC m c)
def C1(i:Nat)(a:LA):St:=⟨Ea [(54,.d (.sl false (List.map dP m.ah))),(55,.d (.int .i64 m.ah.length)),(56,.d (.int .i64 i))],Eb m [],a.H⟩
def C1X(i:Nat)(a:LA):St:=⟨Ea [(54,.d (.sl false (List.map dP m.ah))),(55,.d (.int .i64 m.ah.length)),(56,.d (.int .i64 i)),(57,.d (.bool false))],Eb m [],a.H⟩
theorem agx(hs:m.aa.length<=1000)(hn:m.ah.length<=1000)(a:LA)(ha:a.le 8000)(p:a.C.length<=2000)(κ:Ex×St->U ρ)(i:Nat)(hi:i<m.ah.length)(h:m.ah[i].bc<=500):
  dI P hints ew j6 3 (C1 m i a) κ=dI P hints ew j6 3 (C1 m (i+1) (a.addC i (cL m m.ah[i]))) κ:=by
 refine(ap XM.2).trans ?_
 have g:m.ah[i]? =some m.ah[i]:=xG hi;have o:(i:Int)<(m.ah.length:Int):=by omega
 have l:IntKind.i64.wrap ((i:Int)+1)=(i:Int)+1:=dE (by omega) (by omega)
 have e:=λκ=>agt (ρ:=ρ) ⟨[],m.ah[i].aC,0,if 0<m.ah[i].Lo then 0 else m.ah[i].Lo,if m.ah[i].Hi<0 then 0 else m.ah[i].Hi,0⟩ m.aa hs κ
 simp only[go_sem,agw]at e
 have c:=λκ=>R4 (ρ:=ρ) m a (ofC m m.ah[i]) i m.ah[i].bc h κ m.ah[i].bc.toNat 0 [⟨0,m.ah[i].bc,0⟩] (by omega) (by simp;omega)
 rw[<-cL]at c
 simp only[go_sem,C0,C0X,eA,xZ,yN,fu]at c
 have b:=λj κ=>Yq (ρ:=ρ) true j 2 i (cL m m.ah[i]) (by simp[cL];omega) a (by grind [LA.le]) κ
 have f:=b .o;have d:=b .c;simp only[go_sem]at f d
 have k:(a.C.length+1) * 8<=140737488355328:=by omega
 have n:a.C.length<=9223372036854775806:=by omega
 simp [go_sem,C1,o,g,e,c,f,d,l,k,n,LA.addC,nJ,-List.map_replicate]
theorem agy(a:LA)(i:Nat)(hi:¬i<m.ah.length)(κ:Ex×St->U ρ):dI P hints ew j6 3 (C1 m i a) κ=κ (.exit 4,C1X m i a):=by
 refine(ap XM.2).trans ?_
 have b:¬(i:Int)<(m.ah.length:Int):=by omega
 simp [go_sem,C1,C1X,b]
def vI:Nat->List aD->LA->LA
 |_,[],a=>a
 |i,c::r,a=>vI (i+1) r (a.addC i (cL m c))
theorem LA.addC_le{a:LA}{N i:Nat}{l:J ar}(h:a.le N):(a.addC i l).le (N+l.length):=LA.from_le (s:=2) (w:=i) (k:=0) h
theorem Zn{c:aD}(h:c.bc<=4):(cL m c).length<=5:=by
 grind [cL]
theorem Zo(hs:m.aa.length<=1000)(hn:m.ah.length<=1000)(e:∀c∈m.ah,c.bc<=4)(κ:Ex×St->U ρ):∀(d i N:Nat) (a:LA),i+d=m.ah.length->a.le N->N+5 * d<=8000->a.C.length+d<=2000->dI P hints ew j6 3 (C1 m i a) κ=κ (.exit 4,C1X m m.ah.length (vI m i (m.ah.drop i) a))
 |0,i,N,a,f,_,_,_=>by
  have:i=m.ah.length:=by omega
  subst this;rw[agy m a _ (by omega),wj];rfl
 |d+1,i,N,a,f,h,k,j=>by
  have b:i<m.ah.length:=by omega
  have g:=e _ (eO b);have h4:=Zn m g;rw[agx m hs hn a (by grind [LA.le]) (by omega) κ i b (by omega),Zo hs hn e κ d (i+1) (N+(cL m m.ah[i]).length) _ (by omega) (LA.addC_le h) (by omega) (by simp[LA.addC];omega),xW b]
  rfl
def I0(a:LA)(b:J aE)(vs:J aB)(i:Nat)(k:Nat)(l:J ar):St:=⟨Ea [(14,.d (.int .i64 i)),(17,.aH (.l 17 0) [] 0 l.length),(97,.d (.sl false (List.map ij b))),(98,.d (.int .i64 b.length)),(99,.d (.int .i64 i)),(116,.d (.sl false (List.map dJ vs))),(117,.d (.int .i64 vs.length)),(118,.d (.int .i64 k))],Eb m [((17,0),.own (tl dK l))],a.H⟩
def I0X(a:LA)(b:J aE)(vs:J aB)(i:Nat)(k:Nat)(l:J ar):St:=⟨Ea [(14,.d (.int .i64 i)),(17,.aH (.l 17 0) [] 0 l.length),(97,.d (.sl false (List.map ij b))),(98,.d (.int .i64 b.length)),(99,.d (.int .i64 i)),(116,.d (.sl false (List.map dJ vs))),(117,.d (.int .i64 vs.length)),(118,.d (.int .i64 k)),(119,.d (.bool false))],Eb m [((17,0),.own (tl dK l))],a.H⟩
theorem aa7(hs:m.aa.length<=1000)(a:LA)(c:J aE)(vs:J aB)(i k:Nat)(hk:k<vs.length)(hx:vs.length<=1000)(l:J ar)(hl:l.length<=1000)(κ:Ex×St->U ρ):
  dI P hints ew j6 4 (I0 m a c vs i k l) κ=dI P hints ew j6 4 (I0 m a c vs i (k+1) (l++[ofB m.aa vs[k]])) κ:=by
 refine(ap XN.2).trans ?_
 have f:vs[k]? =some vs[k]:=xG hk;have d:(k:Int)<(vs.length:Int):=by omega
 have e:IntKind.i64.wrap ((k:Int)+1)=(k:Int)+1:=dE (by omega) (by omega)
 have b:=λκ=>agt (ρ:=ρ) vs[k] m.aa hs κ
 simp only[go_sem]at b
 have h:(l.length+1) * 24<=140737488355328:=by omega
 have g:l.length<=9223372036854775806:=by omega
 simp [go_sem,I0,d,f,b,e,h,g]
theorem aa8(a:LA)(b:J aE)(vs:J aB)(i k:Nat)(hk:¬k<vs.length)(l:J ar)(κ:Ex×St->U ρ):dI P hints ew j6 4 (I0 m a b vs i k l) κ=κ (.exit 10,I0X m a b vs i k l):=by
 refine(ap XN.2).trans ?_
 have c:¬(k:Int)<(vs.length:Int):=by omega
 simp [go_sem,I0,I0X,c]
theorem R5(hs:m.aa.length<=1000)(a:LA)(b:J aE)(vs:J aB)(i:Nat)(hx:vs.length<=500)(κ:Ex×St->U ρ):∀(d k:Nat) (l:J ar),k+d=vs.length->l.length+d<=1000->dI P hints ew j6 4 (I0 m a b vs i k l) κ=κ (.exit 10,I0X m a b vs i vs.length (l++(vs.drop k).map (ofB m.aa)))
 |0,k,l,c,_=>by
  grind [aa8]
 |d+1,k,l,c,e=>by
  have:=R5 hs a b vs i hx κ d;grind [aa7,xW]
def iL(p:az):J ar:=[⟨0,IntKind.i64.wrap (p.bF - 1),0⟩]++p.aq.map (ofB m.aa)
def I1(b:J aE)(i:Nat)(a:LA):St:=⟨Ea [(97,.d (.sl false (List.map ij b))),(98,.d (.int .i64 b.length)),(99,.d (.int .i64 i))],Eb m [],a.H⟩
def I1X(b:J aE)(i:Nat)(a:LA):St:=⟨Ea [(97,.d (.sl false (List.map ij b))),(98,.d (.int .i64 b.length)),(99,.d (.int .i64 i)),(100,.d (.bool false))],Eb m [],a.H⟩
theorem aa9(hs:m.aa.length<=1000)(b:J aE)(hn:b.length<=1000)(a:LA)(ha:a.le 8000)(o:a.I.length<=2000)(κ:Ex×St->U ρ)(i:Nat)(hi:i<b.length)(h0:0<=b[i].cw)(p:az)(hp:m.ak[b[i].cw.toNat]? =some p)(hv:p.aq.length<=500):
  dI P hints ew j6 5 (I1 m b i a) κ=dI P hints ew j6 5 (I1 m b (i+1) (a.addI i (iL m p))) κ:=by
 refine(ap XS.2).trans ?_
 have g:b[i]? =some b[i]:=xG hi;have n:(i:Int)<(b.length:Int):=by omega
 have k:IntKind.i64.wrap ((i:Int)+1)=(i:Int)+1:=dE (by omega) (by omega)
 have d:=λκ=>R5 (ρ:=ρ) m hs a b p.aq i hv κ p.aq.length 0 [⟨0,IntKind.i64.wrap (p.bF - 1),0⟩] (by omega) (by simp;omega)
 rw[jg,<-iL]at d
 simp only[go_sem,I0,I0X,eA,xZ,yN,fu]at d
 have c:=λh κ=>Yq (ρ:=ρ) true h 3 i (iL m p) (by simp[iL];omega) a (by grind [LA.le]) κ
 have f:=c .o;have e:=c .i;simp only[go_sem]at f e
 have j:(a.I.length+1) * 8<=140737488355328:=by omega
 have l:a.I.length<=9223372036854775806:=by omega
 simp [go_sem,I1,h0,hp,n,g,d,f,e,k,j,l,LA.addI,nJ,-List.map_map]
theorem aba(b:J aE)(a:LA)(i:Nat)(hi:¬i<b.length)(κ:Ex×St->U ρ):dI P hints ew j6 5 (I1 m b i a) κ=κ (.exit 8,I1X m b i a):=by
 refine(ap XS.2).trans ?_
 have c:¬(i:Int)<(b.length:Int):=by omega
 simp [go_sem,I1,I1X,c]
def DR:Nat->List aE->LA->LA
 |_,[],a=>a
 |i,x::r,a=>DR (i+1) r (a.addI i (iL m (eQ m x)))
theorem LA.addI_le{a:LA}{N i:Nat}{l:J ar}(h:a.le N):(a.addI i l).le (N+l.length):=LA.from_le (s:=3) (w:=i) (k:=0) h
def QB(a:J aE):Prop:=∀x∈a,0<=x.cw/\∃p,m.ak[x.cw.toNat]? =some p/\p.aq.length<=4
theorem R6(hs:m.aa.length<=1000)(b:J aE)(hn:b.length<=1000)(g:QB m b)(κ:Ex×St->U ρ):∀(d i N:Nat) (a:LA),i+d=b.length->a.le N->N+5 * d<=8000->a.I.length+d<=2000->dI P hints ew j6 5 (I1 m b i a) κ=κ (.exit 8,I1X m b b.length (DR m i (b.drop i) a))
 |0,i,N,a,h,_,_,_=>by
  have:i=b.length:=by omega
  subst this;rw[aba m b a _ (by omega),wj];rfl
 |d+1,i,N,a,h,j,o,l=>by
  have e:i<b.length:=by omega
  obtain⟨k,p,f,n⟩:=g _ (eO e);have c:eQ m b[i]=p:=by simp[eQ,f]
  have h4:(iL m p).length<=5:=by simp[iL];omega
  rw[aa9 m hs b hn a (by grind [LA.le]) (by omega) κ i e k p f (by omega),R6 hs b hn g κ d (i+1) (N+(iL m p).length) _ (by omega) (LA.addI_le j) (by omega) (by simp[LA.addI];omega),xW e,DR,c]
def LA.zero:LA:=⟨[],[],[],0,[],[],[]⟩
def w5:LA:=DR m 0 (jV m) (vI m 0 m.ah (tP m 0 m.aq .zero))
theorem LA.addV_C{a:LA}{i:Nat}{l:J ar}:(a.addV i l).C=a.C:=LA.put_C
theorem LA.addV_I{a:LA}{i:Nat}{l:J ar}:(a.addV i l).I=a.I:=LA.put_I
theorem LA.addC_I{a:LA}{i:Nat}{l:J ar}:(a.addC i l).I=a.I:=LA.put_I
theorem Ou:∀{l:J aB} {i N:Nat} {a:LA},a.le N->(tP m i l a).le (N+4 * l.length)/\(tP m i l a).C=a.C/\(tP m i l a).I=a.I
 | [],i,N,a,h=>⟨by grind [tP],rfl,rfl⟩
 |v::r,i,N,a,h=>by
  have h4:=Zl m (v:=v);obtain⟨c,b,h3⟩:=Ou (l:=r) (i:=i+1) (LA.addV_le (i:=i) (l:=vL m v) h)
  grind [LA.addV_C,LA.addV_I,LA.le,tP]
theorem Ov:∀{l:J aD} {i N:Nat} {a:LA},(∀c∈l,c.bc<=4)->a.le N->(vI m i l a).le (N+5 * l.length)/\(vI m i l a).I=a.I
 | [],i,N,a,_,h=>⟨by grind [vI],rfl⟩
 |c::r,i,N,a,b,h=>by
  have h4:=Zn m (b c (List.mem_cons_self ..));obtain⟨e,h3⟩:=Ov (l:=r) (i:=i+1) (λx d=>b x (AA _ d)) (LA.addC_le (i:=i) (l:=cL m c) h)
  grind [LA.addC_I,LA.le,vI]
theorem ara(hs:m.aa.length<=1000)(hn:m.ak.length<=1000)(hv:m.aq.length<=100)(hc:m.ah.length<=100)(f:∀c∈m.ah,c.bc<=4)(hi:(jV m).length<=100)(h:QB m (jV m))(κ:KT ρ):
  cbK (call 114 [oT m] []) κ=κ ([.d (wC false ⟨(w5 m).V,(w5 m).C,(w5 m).I,(w5 m).n,(w5 m).lo,(w5 m).hi⟩),.d (.sl false (List.map fI (w5 m).sl))],[]):=by
 refine(ald _ _ _ rfl).trans ?_
 have z:LA.zero.le 0:=by simp[LA.le,LA.zero]
 obtain⟨e,n,o⟩:=Ou m (l:=m.aq) (i:=0) z;obtain⟨j,k⟩:=Ov m (i:=0) f e;have d:=λκ=>Zm (ρ:=ρ) m hs (by omega) κ m.aq.length 0 0 .zero (by omega) z (by omega) (by simp[LA.zero];omega)
 have b:=λκ=>Zo (ρ:=ρ) m hs (by omega) f κ m.ah.length 0 _ _ (by omega) e (by omega) (by grind [LA.zero])
 have a:=λκ=>R6 (ρ:=ρ) m hs (jV m) (by omega) h κ (jV m).length 0 _ _ (by omega) j (by omega) (by grind [LA.zero])
 have g:=λκ=>Ry (ρ:=ρ) m hs hn κ
 simp only[jg]at d b a
 rw[<-w5]at a
 simp only[go_sem,V1,V1X,C1,C1X,I1,I1X,eA,LA.zero,jb]at d b a g
 simp [go_sem,d,b,a,g]
end
theorem HR(n:Nat):hint111.mv.contains n=false:=rfl
abbrev hP(F:D)(t:J (Nm×Bool))(ks:J Nm):J Ob:=[.box (.d F),.map (jH eS eB t),.sset ks]
def SU(m:ae)(F:D)(t:J (Nm×Bool))(ks:J Nm)(i:Int):St:=
 ⟨[(1,.d (.map 1)),(2,.loc (.l 2 0) [] 0 0),(4,.d (.map 2)),(28,.d (.sl false (List.map (dL false) m.ak))),(29,.d (.int .i64 m.ak.length)),(30,.d (.int .i64 i))],[((2,0),.own [.d (moD m)])],hP F t ks⟩
def XU(m:ae)(F:D)(t:J (Nm×Bool))(ks:J Nm):St:=
 ⟨[(1,.d (.map 1)),(2,.loc (.l 2 0) [] 0 0),(4,.d (.map 2)),(28,.d (.sl false (List.map (dL false) m.ak))),(29,.d (.int .i64 m.ak.length)),(30,.d (.int .i64 m.ak.length)),(31,.d (.bool false))],[((2,0),.own [.d (moD m)])],hP F t ks⟩
theorem abb{ρ:Type}(m:ae)(F:D)(t:J (Nm×Bool))(ks:J Nm)(hl:m.ak.length<=1000)(i:Nat)(hi:i<m.ak.length)(R:St->U ρ)(κ:Ex×St->U ρ):
  go P hints hint111 zC LC.1 (SU m F t ks i) (kLp R κ)=R (SU m F t (m.ak[i].Name::ks) (i+1:Nat)):=by
 have c:m.ak[i]? =some m.ak[i]:=xG hi;have a:(i:Int)<(m.ak.length:Int):=by omega
 have b:IntKind.i64.wrap ((i:Int)+1)=((i+1:Nat):Int):=eW (by omega)
 unfold SU
 simp [go_sem,c,a,b,hP]
theorem abc{ρ:Type}(m:ae)(F:D)(t:J (Nm×Bool))(ks:J Nm)(R:St->U ρ)(κ:Ex×St->U ρ):
  go P hints hint111 zC LC.1 (SU m F t ks (m.ak.length:Nat)) (kLp R κ)=κ (.exit 2,XU m F t ks):=by
 unfold SU XU
 simp [go_sem,hP]
theorem abd{ρ:Type}(m:ae)(F:D)(t:J (Nm×Bool))(ks:J Nm)(hl:m.ak.length<=1000)(κ:Ex×St->U ρ):∀(n i:Nat),m.ak.length - i=n->i<=m.ak.length->
  dI P hints hint111 zC 1 (SU m F t (((pN m).take i).reverse++ks) i) κ=κ (.exit 2,XU m F t ((pN m).reverse++ks)):=by
 intro n
 induction n with
 |zero=>
  intro i b c
  have:i=m.ak.length:=by omega
  subst this;rw[ap LC.2,abc,gy (by simp[pN])]
 |succ n d=>
  intro i b c;have a:i<m.ak.length:=by omega
  have hs:m.ak[i].Name::(((pN m).take i).reverse++ks)=((pN m).take (i+1)).reverse++ks:=by
   rw[eD (show i<(pN m).length by grind [pN]),List.reverse_append]
   simp only[pN,List.getElem_map,List.reverse_cons,List.reverse_nil,gG,l6]
  rw[ap LC.2,abb m F t _ hl i a,hs]
  grind
def SY(m:ae)(F:D)(t:J (Nm×Bool))(ks:J Nm)(i:Int)(l:J aB)(k:Int):St:=
 ⟨[(1,.d (.map 1)),(2,.loc (.l 2 0) [] 0 0),(4,.d (.map 2)),(8,.d (.int .i64 i)),(39,.d (.sl false (List.map (dL false) m.ak))),(40,.d (.int .i64 m.ak.length)),(41,.d (.int .i64 i)),(72,.d (.sl false (List.map dJ l))),(73,.d (.int .i64 l.length)),(74,.d (.int .i64 k))],[((2,0),.own [.d (moD m)])],hP F t ks⟩
def XY(m:ae)(F:D)(t:J (Nm×Bool))(ks:J Nm)(i:Int)(l:J aB):St:=
 ⟨[(1,.d (.map 1)),(2,.loc (.l 2 0) [] 0 0),(4,.d (.map 2)),(8,.d (.int .i64 i)),(39,.d (.sl false (List.map (dL false) m.ak))),(40,.d (.int .i64 m.ak.length)),(41,.d (.int .i64 i)),(72,.d (.sl false (List.map dJ l))),(73,.d (.int .i64 l.length)),(74,.d (.int .i64 l.length)),(75,.d (.bool false))],[((2,0),.own [.d (moD m)])],hP F t ks⟩
theorem abe{ρ:Type}(m:ae)(F:D)(t:J (Nm×Bool))(ks:J Nm)(i:Int)(l:J aB)(hl:l.length<=1000)(k:Nat)(hk:k<l.length)(R:St->U ρ)(κ:Ex×St->U ρ)(B:Int->U ρ)(e:∀j s,s.H=hP F t ks->κ (.cQ (nf 7 4 i j),s)=B j):
  go P hints hint111 zC LG.1 (SY m F t ks i l k) (kLp R κ)=if l[k].Name∈ks then B (16+k)else R (SY m F t ks i l (k+1:Nat)):=by
 have d:l[k]? =some l[k]:=xG hk;have c:(k:Int)<(l.length:Int):=by omega
 have b:IntKind.i64.wrap ((k:Int)+1)=((k+1:Nat):Int):=eW (by omega)
 have a:IntKind.i64.wrap (16+(k:Int))=16+(k:Int):=dE (by omega) (by omega)
 unfold SY
 by_cases h:l[k].Name∈ks
 .rw[if_pos h]
  simp [go_sem,d,c,b,a,h,hP,eH (HR _)]
  grind
 .rw[if_neg h]
  simp [go_sem,d,c,b,a,h,hP,eH (HR _)]
theorem abf{ρ:Type}(m:ae)(F:D)(t:J (Nm×Bool))(ks:J Nm)(i:Int)(l:J aB)(R:St->U ρ)(κ:Ex×St->U ρ):
  go P hints hint111 zC LG.1 (SY m F t ks i l (l.length:Nat)) (kLp R κ)=κ (.exit 6,XY m F t ks i l):=by
 unfold SY XY
 simp [go_sem,hP]
theorem abg{ρ:Type}(m:ae)(F:D)(t:J (Nm×Bool))(ks:J Nm)(i:Int)(l:J aB)(hl:l.length<=1000)(κ:Ex×St->U ρ)(B:Int->U ρ)(f:∀j s,s.H=hP F t ks->κ (.cQ (nf 7 4 i j),s)=B j):∀(n k:Nat),l.length - k=n->k<=l.length->(∀j,j<k->fb l (λv=>if v.Name∈ks then 7 else 0) j=0)->
  dI P hints hint111 zC 2 (SY m F t ks i l k) κ=(dQ l.length (fb l λv=>if v.Name∈ks then 7 else 0)).elim (κ (.exit 6,XY m F t ks i l)) λq=>B (16+q.1):=by
 intro n
 induction n with
 |zero=>
  intro k e hk c
  have:k=l.length:=by omega
  subst this;rw[ap LG.2,abf,i7 c];rfl
 |succ n g=>
  intro k e hk c;have a:k<l.length:=by omega
  have b:fb l (λv=>if v.Name∈ks then(7:Int)else 0) k=if l[k].Name∈ks then 7 else 0:=by simp[fb,a]
  rw[ap LG.2,abe m F t ks i l hl k a _ κ B f]
  by_cases d:l[k].Name∈ks
  .rw[if_pos d]at b |-
   rw[mN a (by rw[b];decide) c];rfl
  .rw[if_neg d]at b |-
   exact g (k+1) (by omega) (by omega) λj h=>by
    grind
def SZ(m:ae)(F:D)(t:J (Nm×Bool))(ks:J Nm)(i:Int):St:=
 ⟨[(1,.d (.map 1)),(2,.loc (.l 2 0) [] 0 0),(4,.d (.map 2)),(39,.d (.sl false (List.map (dL false) m.ak))),(40,.d (.int .i64 m.ak.length)),(41,.d (.int .i64 i))],[((2,0),.own [.d (moD m)])],hP F t ks⟩
def XZ(m:ae)(F:D)(t:J (Nm×Bool))(ks:J Nm):St:=
 ⟨[(1,.d (.map 1)),(2,.loc (.l 2 0) [] 0 0),(4,.d (.map 2)),(39,.d (.sl false (List.map (dL false) m.ak))),(40,.d (.int .i64 m.ak.length)),(41,.d (.int .i64 m.ak.length)),(42,.d (.bool false))],[((2,0),.own [.d (moD m)])],hP F t ks⟩
theorem abh{ρ:Type}(m:ae)(F:D)(t:J (Nm×Bool))(ks:J Nm)(R:St->U ρ)(κ:Ex×St->U ρ):
  go P hints hint111 zC LH.1 (SZ m F t ks (m.ak.length:Nat)) (kLp R κ)=κ (.exit 4,XZ m F t ks):=by
 unfold SZ XZ
 simp [go_sem,hP]
structure MoE(m:ae):Prop where
 p:∀p∈m.ak,ProcE p
 q:∀p∈m.aL,∀x∈p.Expr,x.N<=9223372036854775807
theorem BA(m:ae)(i:Nat):(eV m i).aq=m.aq/\(eV m i).aa=m.aa:=by
 grind [eV]
theorem abi{ρ:Type}(m:ae)(h:cE m)(o:MoE m)(F:D)(t:J (Nm×Bool))(ks:J Nm)(i:Nat)(hi:i<m.ak.length)(R:St->U ρ)(κ:Ex×St->U ρ)(B:Flt->U ρ)(n:∀e j k s t,s.H=hP F t ks->κ (.cQ (nf e 4 j k),s)=B (e,4,j,k)):
  go P hints hint111 zC LH.1 (SZ m F t ks i) (kLp R κ)=if 6<=i then B (11,4,i,0)else if(jp m.ak[i] (eV m i)).2.2≠0 then B ((jp m.ak[i] (eV m i)).2.2,4,i,IntKind.i64.wrap (IntKind.i64.wrap (16 * (jp m.ak[i] (eV m i)).1)+(jp m.ak[i] (eV m i)).2.1))else if kN false t m.ak[i].Name=true then B (7,4,i,0)else
   (dQ m.ak[i].aq.length (fb m.ak[i].aq λv=>if v.Name∈ks then 7 else 0)).elim (R (SZ m F (lj t m.ak[i].Name true) ks (i+1:Nat))) λq=>B (7,4,i,16+q.1):=by
 have u:=h.n;have l:m.ak[i]? =some m.ak[i]:=xG hi;have f:(i:Int)<(m.ak.length:Int):=by omega
 have d:IntKind.i64.wrap ((i:Int)+1)=((i+1:Nat):Int):=eW (by omega)
 have g:=h.p _ (eO hi);have c:=λκ=>aap (ρ:=ρ) m h i hi κ
 have a:=λκ=>agr (ρ:=ρ) m.ak[i] (eV m i) (by rw[(BA m i).1];exact h.v) (by rw[(BA m i).2];exact h.sc) g.v g.n (o.p _ (eO hi)) κ
 have b:=λt κ B n=>abg (ρ:=ρ) m F t ks i m.ak[i].aq g.v κ B n _ 0 rfl (eJ _) (λk hk=>by omega)
 simp only[SY,XY,eA,hP]at b
 generalize x:jp m.ak[i] (eV m i)=r at a |-
 obtain⟨y,w,p⟩:=r;unfold SZ
 by_cases h6:6<=i
 .rw[if_pos h6]
  simp [go_sem,l,f,d,hP,h6,show(6:Int)<=(i:Int)by omega,eH (HR _)]
  grind
 .rw[if_neg h6]
  by_cases h3:p=0
  .subst h3
   simp [go_sem,l,f,d,hP,h6,show¬(6:Int)<=(i:Int)by omega,c,a,eH (HR _)]
   by_cases h4:kN false t m.ak[i].Name=true
   .grind
   .rw[if_neg h4,if_neg h4,b _ _ (λj=>B (7,4,i,j)) λj s hs=>by
     obtain⟨env,ct,H⟩:=s;simp only at hs;subst hs
     simp [go_sem]
     grind]
    simp [go_sem,d]
  .rw[if_pos h3]
   simp [go_sem,l,f,d,hP,h6,show¬(6:Int)<=(i:Int)by omega,c,a,h3,eH (HR _)]
   grind
theorem agz{m:ae}{a ks:J Nm}(c:a=sN m++vN m++cN m)(b:∀x,x∈ks↔x∈a++pN m){i:Nat}(hi:i<m.ak.length):gpF m i=if 6<=i then(11,4,(i:Int),0)else if(jp m.ak[i] (eV m i)).2.2≠0 then((jp m.ak[i] (eV m i)).2.2,4,(i:Int),IntKind.i64.wrap (IntKind.i64.wrap (16 * (jp m.ak[i] (eV m i)).1)+(jp m.ak[i] (eV m i)).2.1))else if kN false (tkn (a++(pN m).take i)) m.ak[i].Name=true then(7,4,(i:Int),0)else
   (dQ m.ak[i].aq.length (fb m.ak[i].aq λv=>if v.Name∈ks then 7 else 0)).elim (0,0,0,0) λq=>(7,4,(i:Int),16+(q.1:Int)):=by
 grind [gpF,vB,aav]
theorem abj{ρ:Type}(m:ae)(h:cE m)(E:MoE m)(F:D)(c:J Nm)(o:c=sN m++vN m++cN m)(ks:J Nm)(g:∀x,x∈ks↔x∈c++pN m)(κ:Ex×St->U ρ)(B:Flt->U ρ)(w:∀e j k s t,s.H=hP F t ks->κ (.cQ (nf e 4 j k),s)=B (e,4,j,k)):∀(n i:Nat),m.ak.length - i=n->i<=m.ak.length->(∀k,k<i->(gpF m k).1=0)->
  dI P hints hint111 zC 3 (SZ m F (tkn (c++(pN m).take i)) ks i) κ=(orF m.ak.length (gpF m)).elim (κ (.exit 4,XZ m F (tkn (c++pN m)) ks)) B:=by
 intro n
 induction n with
 |zero=>
  intro i u A d
  have:i=m.ak.length:=by omega
  subst this;rw[ap LH.2,abh,gy (by simp[pN]),wJ d];rfl
 |succ n C=>
  intro i u A d;have a:i<m.ak.length:=by omega
  have f:lj (tkn (c++(pN m).take i)) m.ak[i].Name true=tkn (c++(pN m).take (i+1)):=by
   rw[vC,xK,eD (show i<(pN m).length by grind [pN])]
   simp[pN]
  have b:=agz o g a;rw[ap LH.2,abi m h E F _ ks i a _ κ B w,f]
  have y:(gpF m i).1=0->dI P hints hint111 zC 3 (SZ m F (tkn (c++(pN m).take (i+1))) ks (i+1:Nat)) κ=(orF m.ak.length (gpF m)).elim (κ (.exit 4,XZ m F (tkn (c++pN m)) ks)) B:=λG=>C (i+1) (by omega) (by omega) λk hk=>by
   grind
  by_cases r:6<=i
  .rw[if_pos r]at b |-
   rw[oI a (by grind) d,b];rfl
  rw[if_neg r]at b |-
  by_cases l:(jp m.ak[i] (eV m i)).2.2≠0
  .rw[if_pos l]at b |-
   rw[oI a (by rw[b];exact l) d,b];rfl
  rw[if_neg l]at b |-
  by_cases p:kN false (tkn (c++(pN m).take i)) m.ak[i].Name=true
  .rw[if_pos p]at b |-
   rw[oI a (by grind) d,b];rfl
  rw[if_neg p]at b |-
  cases z:dQ m.ak[i].aq.length (fb m.ak[i].aq λv=>if v.Name∈ks then 7 else 0)with
  |none=>
   grind
  |some q=>
   rw[z]at b
   simp only[oX]at b |-
   rw[oI a (by grind) d,b];rfl
theorem Ow(n:Nat)(t:J (Nm×Bool)):((jH eS eB t).all λe=>D.low n e.1&&T.low n e.2)=true:=by
 induction t with
 |nil=>rfl
 |cons a t b=>
  show(_&&_)=true
  rw[xA]
  exact⟨rfl,b⟩
theorem R7(n:Nat)(e a b c:Int):D.low n (nf e a b c)=true:=rfl
theorem Ox{ρ:Type}(m:ae)(h:cE m)(r:MoE m)(F:D)(hF:D.low 2 F=true)(κ:KT ρ)(B:Flt->U ρ)(d:∀e a b c t,κ (IH (nf e a b c),hG F t)=B (e,a,b,c)):
  cbK (call 111 [moD m,.map 1] (hG F (tkn (sN m++vN m++cN m)))) κ=(Ac m).elim (κ ([],hG F (tkn (sN m++vN m++cN m++pN m)))) B:=by
 refine(ak6 _ _ _ rfl).trans ?_
 have f:=λg=>US (ρ:=ρ) h (g:=g)
 have i:=λt u κ=>abd (ρ:=ρ) m F t u h.n κ _ 0 rfl (eJ _)
 simp only[SU,XU,jB,List.reverse_nil,gG,eA,hP]at i
 simp [go_sem,eH (HR _),hG,i,f]
 have n:∀x,x∈(pN m).reverse++List.map (λx=>x.1) (tkn (sN m++vN m++cN m))↔x∈(sN m++vN m++cN m)++pN m:=λx=>by
  grind [Y8]
 have l:=λκ B d=>abj (ρ:=ρ) m h r F _ rfl _ n κ B d _ 0 rfl (eJ _) (λk hk=>by omega)
 simp only[SZ,XZ,jB,gj,eA,hP,xK]at l
 rw[l _ B λe j k s t hs=>by
  obtain⟨env,ct,H⟩:=s;simp only at hs;subst hs
  simp [go_sem,hF,Ow,R7]
  exact d _ _ _ _ t]
 unfold Ac
 cases v:orF m.ak.length (gpF m)with
 |some q=>rfl
 |none=>
  simp [go_sem,eH (HR _),f,hF,Ow,R7]
  by_cases o:12<vF m
  .rw[if_pos o,if_pos (.inl o)];exact d _ _ _ _ _
  .by_cases p:64<vG m
   .rw[if_neg o,if_pos p,if_pos (.inr p)];exact d _ _ _ _ _
   grind
theorem HS(n:Nat):hint112.mv.contains n=false:=rfl
abbrev scQ(m:ae):au:=⟨m.aa,m.aq,m.ah,m.ak,[],0⟩
def SE(m:ae)(F:D)(t:J (Nm×Bool))(i:Int):St:=
 ⟨[(1,.d (.map 1)),(4,.loc (.l 4 0) [] 0 0),(12,.d (.sl false (List.map (fw false) m.aL))),(13,.d (.int .i64 m.aL.length)),(14,.d (.int .i64 i))],[((4,0),.own [.d (scD false (scQ m))])],hG F t⟩
def XE(m:ae)(F:D)(t:J (Nm×Bool)):St:=
 ⟨[(1,.d (.map 1)),(4,.loc (.l 4 0) [] 0 0),(12,.d (.sl false (List.map (fw false) m.aL))),(13,.d (.int .i64 m.aL.length)),(14,.d (.int .i64 m.aL.length)),(15,.d (.bool false))],[((4,0),.own [.d (scD false (scQ m))])],hG F t⟩
theorem abk{ρ:Type}(m:ae)(F:D)(t:J (Nm×Bool))(R:St->U ρ)(κ:Ex×St->U ρ):
  go P hints hint112 Uk LI.1 (SE m F t (m.aL.length:Nat)) (kLp R κ)=κ (.exit 0,XE m F t):=by
 unfold SE XE
 simp [go_sem,hG]
theorem abl{ρ:Type}(m:ae)(h:cE m)(v:MoE m)(F:D)(t:J (Nm×Bool))(i:Nat)(hi:i<m.aL.length)(R:St->U ρ)(κ:Ex×St->U ρ)(B:Flt->U ρ)(x:∀e j s t,s.H=hG F t->κ (.cQ (nf e 5 j 0),s)=B (e,5,j,0)):
  go P hints hint112 Uk LI.1 (SE m F t i) (kLp R κ)=if 8<=i then B (11,5,i,0)else if ng m.aL[i].Name=false then B (6,5,i,0)else if kN false t m.aL[i].Name=true then B (7,5,i,0)else
   if(lu m.aL[i].Expr (scQ m)).2≠0 then B ((lu m.aL[i].Expr (scQ m)).2,5,i,0)else if(lu m.aL[i].Expr (scQ m)).1≠1 then B (9,5,i,0)else R (SE m F (lj t m.aL[i].Name true) (i+1:Nat)):=by
 have w:=h.q;have g:m.aL[i]? =some m.aL[i]:=xG hi;have f:(i:Int)<(m.aL.length:Int):=by omega
 have d:IntKind.i64.wrap ((i:Int)+1)=((i+1:Nat):Int):=eW (by omega)
 have hk:=λκ=>RU (ρ:=ρ) false m.aL[i].Expr (scQ m) h.sc (v.q _ (eO hi)) κ
 simp only[scQ,g9]at hk
 generalize o:lu m.aL[i].Expr (scQ m)=r;simp only[scQ]at o
 rw[o]at hk
 obtain⟨u,q⟩:=r;unfold SE
 by_cases c:8<=i
 .rw[if_pos c]
  simp [go_sem,g,f,d,hG,c,show(8:Int)<=(i:Int)by omega,eH (HS _)]
  grind
 rw[if_neg c];have a:¬(8:Int)<=(i:Int):=by omega
 by_cases k:ng m.aL[i].Name=false
 .rw[if_pos k]
  simp [go_sem,g,f,d,hG,c,a,k,lx,eH (HS _)]
  grind
 rw[if_neg k];have b:ng m.aL[i].Name=true:=by simpa using k
 by_cases l:q=0
 .subst l
  by_cases p:u=1
  .subst p
   simp [go_sem,g,f,d,hG,c,a,b,lx,hk,eH (HS _)]
   by_cases n:kN false t m.aL[i].Name=true
   .grind
   grind
  .simp [go_sem,g,f,d,hG,c,a,b,lx,hk,p,eH (HS _)]
   by_cases n:kN false t m.aL[i].Name=true
   .grind
   grind
 .simp [go_sem,g,f,d,hG,c,a,b,lx,hk,l,eH (HS _)]
  by_cases n:kN false t m.aL[i].Name=true
  .grind
  grind
theorem Zp{m:ae}{a:J Nm}(b:a=sN m++vN m++cN m++pN m){i:Nat}(hi:i<m.aL.length):oH m i=if 8<=i then 11 else if ng m.aL[i].Name=false then 6 else if kN false (tkn (a++(qN m).take i)) m.aL[i].Name=true then 7 else
   if(lu m.aL[i].Expr (scQ m)).2≠0 then(lu m.aL[i].Expr (scQ m)).2 else if(lu m.aL[i].Expr (scQ m)).1≠1 then 9 else 0:=by
 grind [oH,vB]
theorem abm{ρ:Type}(m:ae)(h:cE m)(C:MoE m)(F:D)(b:J Nm)(l:b=sN m++vN m++cN m++pN m)(κ:Ex×St->U ρ)(B:Flt->U ρ)(r:∀e j s t,s.H=hG F t->κ (.cQ (nf e 5 j 0),s)=B (e,5,j,0)):∀(n i:Nat),m.aL.length - i=n->i<=m.aL.length->(∀k,k<i->oH m k=0)->
  dI P hints hint112 Uk 0 (SE m F (tkn (b++(qN m).take i)) i) κ=(s9 m).elim (κ (.exit 0,XE m F (tkn (b++qN m)))) B:=by
 intro n
 induction n with
 |zero=>
  intro i p z g
  have:i=m.aL.length:=by omega
  subst this;rw[ap LI.2,abk,gy (by simp[qN]),s9,wJ g];rfl
 |succ n A=>
  intro i p z g;have a:i<m.aL.length:=by omega
  have d:lj (tkn (b++(qN m).take i)) m.aL[i].Name true=tkn (b++(qN m).take (i+1)):=by
   rw[vC,xK,eD (show i<(qN m).length by grind [qN])]
   simp[qN]
  have c:=Zp l a;have o:oH m i≠0->s9 m=some (oH m i,5,(i:Int),0):=λy=>oI (f:=λi=>((oH m i,5,(i:Int),0):Flt)) a y g
  rw[ap LI.2,abl m h C F _ i a _ κ B r,d]
  by_cases w:8<=i
  .simp_all
  rw[if_neg w]at c |-
  by_cases u:ng m.aL[i].Name=false
  .simp_all
  rw[if_neg u]at c |-
  by_cases q:kN false (tkn (b++(qN m).take i)) m.aL[i].Name=true
  .simp_all
  rw[if_neg q]at c |-
  by_cases x:(lu m.aL[i].Expr (scQ m)).2≠0
  .grind
  rw[if_neg x]at c |-
  by_cases v:(lu m.aL[i].Expr (scQ m)).1≠1
  .simp_all
  rw[if_neg v]at c |-
  exact A (i+1) (by omega) (by omega) λk hk=>by
   grind
theorem abn{ρ:Type}(m:ae)(h:cE m)(g:MoE m)(F:D)(κ:KT ρ)(B:Flt->U ρ)(f:∀e a b c t,κ (IH (nf e a b c),hG F t)=B (e,a,b,c)):
  cbK (call 112 [moD m,.map 1] (hG F (tkn (sN m++vN m++cN m++pN m)))) κ=(s9 m).elim (κ ([],hG F (tkn (sN m++vN m++cN m++pN m++qN m)))) B:=by
 refine(ak8 _ _ _ rfl).trans ?_
 have hs:=λκ=>Ze (ρ:=ρ) m h κ
 have d:=λκ B f=>abm (ρ:=ρ) m h g F _ rfl κ B f _ 0 rfl (eJ _) (λk hk=>by omega)
 simp only[SE,XE,jB,gj,eA,hG,xK]at d
 simp [go_sem,hs,eH (HS _),hG]
 simp only[scQ,scD,g9]at d
 rw[d _ B λe j s t hs=>by
  obtain⟨env,ct,H⟩:=s;simp only at hs;subst hs
  simp [go_sem]
  exact f _ _ _ _ t]
 cases i:s9 m with
 |some q=>rfl
 |none=>
  simp [go_sem,eH (HS _)]
end
end Go.Etx
namespace Go.Am
open Go Go.Proofs
@[go_sem] def mkV{c:Type}(a b:c)(e:a=b:=by conv=>lhs;cbv):{b:c // a=b}:=⟨b,e⟩
section
variable{P:Pz}{hints:FuncId->Hint}{ρ:Type}
def kJ:Code->J Qz | .seq (.region _ o _) _=>o.toList |_=>[]
def Zq:Code->Nat | .seq (.region i _ _) _=>i |_=>0
def tlC:Code->Code | .seq _ r=>r |_=>.skip
def ad9(l:J Qz):U (Nat×J Qz):=match l with
 |o::l=>match o.op,o.dst,o.guard with
  | .call {callee:=.builtin .recover, .. },some t,none=>some (t,l)
  |_,_,_=>none
 |_=>none
def Zr:Code->Bool | .seq (.region _ _ false) _=>true |_=>false
noncomputable def kDf(P:Pz)(own:Bool)(rs:J ResultVar)(n:Nat)(κ:J T×J Ob->U ρ):Ex×St->U ρ:=λp=>match p.1 with
 |.normal|.ret=>(pR P own rs n (.ret,p.2)).bind κ
 |_=>none
@[congr] theorem aji{own:Bool}{rs:J ResultVar}{n:Nat}{κ:J T×J Ob->U ρ}{r a:Ex×St}(e:r=a):kDf P own rs n κ r=kDf P own rs n κ a:=by rw[e]
@[go_sem] theorem axX{own:Bool}{rs:J ResultVar}{n:Nat}{κ:J T×J Ob->U ρ}{s:St}:kDf P own rs n κ (.normal,s)=(pR P own rs n (.ret,s)).bind κ:=rfl
theorem Zs{r:D}{g:FuncId}{h n:Hint}{own:Bool}{rs:J ResultVar}{ds:J D}{H:J Ob}{fn:Func}{c c':Code}{t:Nat}{l:J Qz}{L:J dg}{q:CL}{κ:J T×J Ob->U ρ}(hf:P.funcs[g]? =some fn)(hb:fn.body=some c)(hr:Zr c=true)(ht:ad9 (kJ c)=some (t,l))(hl:l.map (jR (kJ c))=L)(u:l.all (kn (kJ c))=true)
  (hc:tlC c=c') (w:hints g=h) (m:{h with nest:=true}=n) (ho:h.own=own) (j:fn.results.toList=rs) {ls:J Nat} (hi:h.live (Zq c)=ls) (x:qC n c'=some q) (hd:ds.length=fn.params.size+fn.nfree) (hk:ek fn.ntmps c=true) (hn:(fn.name== "runtime.NumGoroutine")=false):
  cbK (ln P hints r g ds H) κ=goL P rG h L ls {env:=(t,.d r)::(enter ds H).env,ct:=[],H} λp=>go P hints n c' q p.2 (kDf P own rs H.length κ):=by
 subst hc w m ho j hi
 cases c with
 |seq a b=>
  cases a with
  |region i o v=>
   cases v with
   |true=>cases hr
   |false=>
    simp only[kJ,Zq,tlC]at *
    unfold ad9 at ht
    split at ht
    .rename_i z y ho
     split at ht
     .rename_i t1 k d f
      simp only[xJ,pJ]at ht
      obtain⟨rfl,rfl⟩:=ht;unfold cbK goL go;simp only[ln,hf,hb,xS,ho,k,d,f,if_pos (And.intro hd (And.intro hk hn))];rw[<-ho,mJ _ _ u,hl,xX];congr 1;funext s;rw[uA x,xX];congr 1;funext ⟨e,s⟩;unfold kDf
      cases e <;>simp only[Jt] <;>rfl
     .cases ht
    .cases ht
  |_=>cases hr
 |_=>cases hr
def aea(l:J Qz):U (Nat×J Qz):=match l.getLast? with
 |some o=>match o.op,o.dst,o.guard with
  | .defer {callee:=.value (.tmp x),args, .. },none,none=>if args.size=0 then some (x,l.dropLast)else none
  |_,_,_=>none
 |_=>none
noncomputable def Zt(P:Pz)(hints:FuncId->Hint)(h:Hint)(nt:Nat)(g:FuncId)(cap:J D)(κ:Ex×St->U ρ):Ex×St->U ρ:=λp=>(S9 p.1).bind λr=>((fm (ln P hints r) {h with aV:=[]} nt g (canon false cap) {} p.2.wk).bind jY).bind λy=>κ (.ret,p.2.fin none .dead y.2)
noncomputable def UT(P:Pz)(hints:FuncId->Hint)(h:Hint)(nt:Nat)(ls:J Nat)(B:Code)(q:CL)(s:St)(v:SV)(κ:Ex×St->U ρ):U ρ:=match v with
 | .d (.fn (.func g) [] cap)=>if cap.all D.pin=true then go P hints h B q (prune ls s) (Zt P hints h nt g cap κ)else none
 |_=>none
@[congr] theorem agA{h:Hint}{nt:Nat}{ls:J Nat}{B:Code}{q:CL}{s s':St}{v a:SV}{κ:Ex×St->U ρ}(e:s=s')(b:v=a):UT P hints h nt ls B q s v κ=UT P hints h nt ls B q s' a κ:=by rw[e,b]
@[go_sem] theorem atL{h:Hint}{nt:Nat}{ls:J Nat}{B:Code}{q:CL}{s:St}{g:FuncId}{cap:J D}{κ:Ex×St->U ρ}:UT P hints h nt ls B q s (.d (.fn (.func g) [] cap)) κ=if cap.all D.pin=true then go P hints h B q (prune ls s) (Zt P hints h nt g cap κ)else none:=rfl
section
variable{h:Hint}{nt:Nat}{g:FuncId}{cap:J D}{κ:Ex×St->U ρ}{env:J (Nat×SV)}{ct:J ((Nat×Nat)×T)}{H:J Ob}{d:D}
@[go_sem] theorem avU:Zt P hints h nt g cap κ (.cQ d,⟨env,ct,H⟩)=((fm (ln P hints d) {h with aV:=[]} nt g (canon false cap) {} ⟨ct,H,[]⟩).bind jY).bind λy=>κ (.ret,St.fin ⟨env,ct,H⟩ none .dead y.2):=rfl
@[go_sem] theorem avV:Zt P hints h nt g cap κ (.ret,⟨env,ct,H⟩)=((fm (ln P hints .bX) {h with aV:=[]} nt g (canon false cap) {} ⟨ct,H,[]⟩).bind jY).bind λy=>κ (.ret,St.fin ⟨env,ct,H⟩ none .dead y.2):=rfl
end
theorem agB{f:FuncId}{h:Hint}{B:Code}{u t:J Nat}{c:Code}{nt:Nat}{s:St}{x:Nat}{l:J Qz}{L0 L1:J dg}{q:CL}{κ:Ex×St->U ρ}(hr:Zr c=true)(d:Zr (tlC c)=true)(I:(kJ c).map (jR (kJ c))=L0)(K:(kJ c).all (kn (kJ c))=true)
  (hx:aea (kJ (tlC c))=some (x,l)) (e1:l.map (jR (kJ (tlC c)))=L1) (H:l.all (kn (kJ (tlC c)))=true) (C:hints f=h) (G:tlC (tlC c)=B) (m:h.live (Zq c)=u) (r:h.live (Zq (tlC c))=t) (E:qC h B=some q):
  (Uu P hints f c nt s).bind κ=goL P (eM P hints) h L0 u s λp=>(rZ P (eM P hints) h L1 p.2).bind λs=>UT P hints h nt t B q s (s.get x) κ:=by
 subst C G m r
 cases c with
 |seq a b=>
  cases a with
  |region i o z=>
   cases z with
   |true=>cases hr
   |false=>
    cases b with
    |seq a b=>
     cases a with
     |region Q O n=>
      cases n with
      |true=>cases d
      |false=>
       simp only[kJ,Zq,tlC]at *
       unfold aea at hx
       split at hx
       .rename_i M y
        split at hx
        .rename_i L w N k e j
         split at hx
         .rename_i A
          simp only[xJ,pJ]at hx
          obtain⟨rfl,rfl⟩:=hx;unfold goL;simp only[Uu];rw[mJ _ _ K,I,xX];congr 1;funext S;simp only[y,k,e,j];rw[mJ _ _ H,e1,xX];congr 1;funext R;unfold UT;rw[Kl];split
          .rename_i g cap F
           rw[F]
           simp only
           by_cases v:cap.all D.pin=true
           .rw[if_pos ⟨A,v⟩,if_pos v,uA E]
            unfold go Zt
            grind [xF]
           grind
          grind
         .cases hx
        .cases hx
       .cases hx
     |_=>cases d
    |_=>cases d
  |_=>cases hr
 |_=>cases hr
@[go_sem] theorem arb{dst:Nat}{sl:Bool}{k:Wk}{t:TypeId}{x:D}:ff dst sl (.d (.iface t x)) k=some (.d (.iface t x),k):=rfl
theorem agC{c:Bool}{t u:TypeId}{x:D}(h:eqV P c t (.d (.iface u x)) (.d .bX)=some false):gR P c .neq t (.d (.iface u x)) (.d .bX)=some (.bool true):=by
 show(eqV P c t _ _).map _=_
 rw[h];rfl
theorem abo{c:Bool}{t:TypeId}(h:eqV P c t (.d .bX) (.d .bX)=some true):gR P c .neq t (.d .bX) (.d .bX)=some (.bool false):=by
 show(eqV P c t _ _).map _=_
 rw[h];rfl
end
end Go.Am
namespace Go.Etx
open Go Go.Am Go.Proofs
set_option maxHeartbeats 4000000
set_option maxRecDepth 20000
section
attribute [-simp] List.map_append List.map_take List.map_drop List.map_set
noncomputable section
@[go_sem] def agD:=mkQ hint81 (tlC (tlC b81)) _
@[go_sem] def agE:=mkV ((kJ b81).map (jR (kJ b81))) _
@[go_sem] def agF:=mkV ((kJ (tlC b81)).dropLast.map (jR (kJ (tlC b81)))) _
@[go_sem] def Zu:=mkQ {Ba with nest:=true} (tlC XG) _
@[go_sem] def l39:=mkV ((kJ XG).tail.map (jR (kJ XG))) _
abbrev zF:D:=.agg [.int .i64 0,.int .i64 0,.int .i64 0,.int .i64 0]
abbrev fF(f:Flt):D:=.agg [.int .i64 f.1,.int .i64 f.2.1,.int .i64 f.2.2.1,.int .i64 f.2.2.2]
abbrev avW:Hint:={Ba with nest:=true}
theorem aeb{ρ:Type}(r:D)(H:J Ob)(κ:KT ρ):cbK (ln P hints r 109 [.ptr 0] H) κ=goL P rG Ba l39.1 [0,1] ⟨[(4,.d r),(0,.d (.ptr 0))],[],H⟩ λp=>go P hints avW (tlC XG) Zu.1 p.2 (kDf P false [] H.length κ):=
 Zs (P:=P) (L:=l39.1) (q:=Zu.1) (t:=4) (l:=(kJ XG).tail) Tryz.func109 (by kernel_rfl) (by kernel_rfl) (by kernel_rfl) l39.2 (by kernel_rfl) rfl rfl rfl rfl (by kernel_rfl) (by kernel_rfl) Zu.2 (by kernel_rfl) (by kernel_rfl) (by kernel_rfl)
@[go_sem] theorem n20{c:Bool}{u:TypeId}{x:D}:gR P c .neq 20 (.d (.iface u x)) (.d .bX)=some (.bool true):=agC (by cases c <;>kernel_rfl)
@[go_sem] theorem aA5:gR P true .neq 20 (.d .bX) (.d .bX)=some (.bool false):=abo (by kernel_rfl)
@[go_sem] theorem axY{v:Vz}:isConst (.const v)=true:=rfl
theorem arc{ρ:Type}(F:D)(t:J (Nm×Bool))(κ:KT ρ):cbK (ln P hints .bX 109 [.ptr 0] (hG F t)) κ=κ ([],hG F t):=by
 refine(aeb _ _ _).trans ?_
 simp [go_sem,hG]
theorem agG{ρ:Type}(t:J (Nm×Bool))(a b c e:Int)(κ:KT ρ):cbK (ln P hints (nf a b c e) 109 [.ptr 0] (hG zF t)) κ=κ ([],hG (fF (a,b,c,e)) t):=by
 refine(aeb _ _ _).trans ?_
 simp [go_sem,hG,nf]
theorem ard{ρ:Type}(ds:J D)(hd:ds.length=1)(κ:KT ρ):cbK (eM P hints 81 ds []) κ=goL P (eM P hints) hint81 agE.1 [1,2] (enter ds []) λp=>(rZ P (eM P hints) hint81 agF.1 p.2).bind λs=>UT P hints hint81 16 [1,2] (tlC (tlC b81)) agD.1 s (s.get 4) (kLv P false [.cell 2 61] 0 κ):=by
 unfold cbK;rw[Uv (P:=P) (hints:=hints) (fn:=Tryz.f81) (c:=b81) (by decide) rfl rfl Tryz.func81 (by kernel_rfl) hd (by kernel_rfl) (by kernel_rfl),xX]
 exact agB (P:=P) (hints:=hints) (L0:=agE.1) (L1:=agF.1) (q:=agD.1) (x:=4) (l:=(kJ (tlC b81)).dropLast) (by kernel_rfl) (by kernel_rfl) agE.2 (by kernel_rfl) (by kernel_rfl) agF.2 (by kernel_rfl) rfl rfl rfl rfl agD.2
end
theorem QC(n:Nat):hint81.mv.contains n=false:=rfl
theorem wK{ρ:Type}(t:J (Nm×Bool))(a b c e:Int)(κ:KT ρ):cb (ln P hints (nf a b c e) 109 [.ptr 0] [.box (.d zF),.map (jH eS eB t)]) κ=κ ([],hG (fF (a,b,c,e)) t):=agG t a b c e κ
theorem CK{ρ:Type}(F:D)(t:J (Nm×Bool))(κ:KT ρ):cb (ln P hints .bX 109 [.ptr 0] [.box (.d F),.map (jH eS eB t)]) κ=κ ([],hG F t):=arc F t κ
theorem R8{ρ:Type}(m:ae)(h:cE m)(i:MoE m)(κ:KT ρ):cbK (call 81 [moD m] []) κ=κ ([.d (fF ((hZ m).getD (0,0,0,0)))],[]):=by
 refine(ard _ rfl _).trans ?_
 have h41:=λκ B g=>Ox (ρ:=ρ) m h i zF rfl κ B g
 have d:=λκ B g=>abn (ρ:=ρ) m h i zF κ B g
 simp only[hG,xK]at h41 d
 simp [go_sem,eH (QC _),show(D.ptr 0).pin=true from rfl]
 refine(UR m h zF _ (λf=>κ ([.d (fF f)],[])) λe a b c t=> ?_).trans ?_
 .simp [go_sem,eH (QC _),hG,wK,CK]
 unfold hZ
 cases l:vH m with
 |some f=>rfl
 |none=>
  simp [go_sem,eH (QC _),hG,wK,CK]
  refine(h41 _ (λf=>κ ([.d (fF f)],[])) λe a b c t=> ?_).trans ?_
  .simp [go_sem,eH (QC _),hG,wK,CK]
  cases j:Ac m with
  |some f=>rfl
  |none=>
   simp [go_sem,eH (QC _),hG,wK,CK]
   refine(d _ (λf=>κ ([.d (fF f)],[])) λe a b c t=> ?_).trans ?_
   .simp [go_sem,eH (QC _),hG,wK,CK]
   cases k:s9 m with
   |some f=>rfl
   |none=>
    simp [go_sem,eH (QC _),hG,wK,CK]
end
theorem jx:∀{l:J (J Bd)} {n:Nat},(ia n l).length=l.length
 | [],_=>rfl
 |b::r,n=>by simp[ia,jx (l:=r)]
theorem oM:∀{l:J (J Bd)} {n i:Nat} {b:J Bd},l[i]? =some b->∃a,(ia n l)[i]? =some (n+a)/\a+b.length<=l.flatten.length/\∀k,k<b.length->l.flatten[a+k]? =b[k]?
 | [],n,i,b,h=>by simp at h
 |c::r,n,0,b,h=>by
  simp only[yE,xJ]at h
  subst h
  refine⟨0,rfl,by simp,λk hk=> ?_⟩
  grind
 |c::r,n,i+1,b,h=>by
  simp only[lW]at h
  obtain⟨a,d,e,h3⟩:=oM (n:=n+c.length) h
  refine⟨c.length+a,?_,?_,λk hk=> ?_⟩
  .grind [ia]
  .grind
  grind
theorem abp{m:ae}{i:Nat}{v:aB}(h:m.aq[i]? =some v):∃a,(vAt m)[i]? =some a/\a+(dN m v).toNat<=(ef m).flatten.length/\∀k,k<(dN m v).toNat->(eR m)[a+k]? =some (fD m.aa v):=by
 obtain⟨a,c,d,h3⟩:=oM (n:=0) (l:=ef m) (i:=i) (b:=oL m v) (by simp[ef,h])
 grind [oL,vAt,eR]
theorem L7{m:ae}{i:Nat}{c:aD}(h:m.ah[i]? =some c):∃a,(cAt m)[i]? =some a/\(ef m).flatten.length<=a/\a+1+c.bc.toNat<=(ef m).flatten.length+(eF m).flatten.length/\(eR m)[a]? =some (0,c.bc)/\∀k,k<c.bc.toNat->(eR m)[a+1+k]? =some (gb m.aa c.aC (min c.Lo 0) (max c.Hi 0)):=by
 obtain⟨a,e,g,h3⟩:=oM (n:=(ef m).flatten.length) (l:=eF m) (i:=i) (b:=iK m c) (by simp[eF,h])
 have f:(iK m c).length=c.bc.toNat+1:=by simp[iK]
 rw[f]at g h3
 have d:∀k,k<c.bc.toNat+1->(eR m)[(ef m).flatten.length+a+k]? =(iK m c)[k]? :=λk hk=>by
  grind [eR]
 refine⟨_,e,by omega,by omega,d 0 (by omega),λk hk=> ?_⟩
 grind [iK]
theorem UU{m:ae}{j:Nat}{x:aE}(h:(dA m)[j]? =some x):∃a,(iAt m)[j]? =some a/\(ef m).flatten.length+(eF m).flatten.length<=a/\a+1+(eQ m x).aq.length<=(eR m).length/\(eR m)[a]? =some (0,(eQ m x).bF - 1)/\∀(k:Nat) (v:aB),(eQ m x).aq[k]? =some v->(eR m)[a+1+k]? =some (fD m.aa v):=by
 obtain⟨a,d,f,h3⟩:=oM (n:=(ef m).flatten.length+(eF m).flatten.length) (l:=ku m) (i:=j) (b:=kB m x) (by simp[ku,h])
 have e:(kB m x).length=(eQ m x).aq.length+1:=by simp[kB]
 rw[e]at f h3
 have o:(eR m).length=(ef m).flatten.length+(eF m).flatten.length+(ku m).flatten.length:=by simp[eR,wm]
 have c:∀k,k<(eQ m x).aq.length+1->(eR m)[(ef m).flatten.length+(eF m).flatten.length+a+k]? =(kB m x)[k]? :=λk hk=>by
  grind [eR]
 refine⟨_,d,by omega,by omega,c 0 (by omega),λk v g=> ?_⟩
 grind [kB]
theorem JO{m:ae}:∀{l:J az} {i:Nat} {x:aE},x∈eg m i l->∃(k:Nat) (p:az),l[k]? =some p/\x.cw=((i+k:Nat):Int)/\0<=x.Elem/\x.Elem<=4/\(x.Elem=0↔p.aG=0)
 | [],i,x,h=>by simp[eg]at h
 |p::r,i,x,h=>by
  simp only[eg,xD]at h
  obtain h |h:=h
  .refine⟨0,p,rfl,?_⟩
   simp only[iC,xD,jC,List.mem_range]at h
   obtain h |⟨k,hk,rfl⟩:=h
   .split at h
    .rename_i a
     simp only[yQ]at h
     subst h
     exact⟨by simp,by simp,by simp,by simp[a]⟩
    .simp at h
   .have:= @jv m.aa p.aG
    have a:p.aG≠0:=λa=>by
     have:oK m p=0:=by unfold oK iP;rw[a];rfl
     omega
    unfold oK at hk
    refine⟨by simp,by simp;omega,by simp;omega,?_⟩
    constructor
    .intro q;simp only at q;omega
    .intro q;exact absurd q a
  .obtain⟨k,q,c,b,h3⟩:=JO h
   exact⟨k+1,q,by simpa using c,by rw[b];congr 1;omega,h3⟩
theorem lT{m:ae}{x:aE}(h:x∈dA m):∃(k:Nat) (p:az),m.ak[k]? =some p/\x.cw=(k:Int)/\eQ m x=p/\0<=x.Elem/\x.Elem<=4:=by
 obtain⟨k,p,a,b,h3,h4,_⟩:=JO h
 grind [eQ]
def qV(x:aF)(v:cB)(st:J Int):Int×Int:=
 if x.Op=3 then(match st.getLast? with |some k=>HQ x k v |none=>(0,8))
 else if e9 x.Op=0 then qT x v
 else td x.Op ((st.drop (st.length - (e9 x.Op).toNat)).headD 0) ((st.drop (st.length - (e9 x.Op).toNat)).getLastD 0)
def stepV(x:aF)(v:cB)(st:J Int):Int×J Int:=
 if e9 x.Op<0 then(3,st)else if(st.length:Int)<e9 x.Op then(4,st)
 else if(qV x v st).2≠0 then((qV x v st).2,st)
 else(if 12<st.length - (e9 x.Op).toNat+1 then 12 else 0,st.take (st.length - (e9 x.Op).toNat)++[(qV x v st).1])
def qW(v:cB):List aF->List Int->Int×List Int
 | [],a=>(0,a)
 |x::r,a=>if(stepV x v a).1=0 then qW v r (stepV x v a).2 else stepV x v a
def iR(e:J aF)(v:cB):Int×Int:=
 if 24<e.length then(0,5)else if e=[]then(0,4)
 else if(qW v e []).1≠0 then(0,(qW v e []).1)else if 1<(qW v e []).2.length then(0,5)else((qW v e []).2.headD 0,0)
def vJ(m:ae)(s:J Int)(i:Nat)(e:J aF):U Int:=if(iR e (j8 m s i)).2=0 then some (iR e (j8 m s i)).1 else none
def vK(m:ae)(c:Nat):Nat:=match m.ah[c]? with |some x=>x.bc.toNat |none=>0
def fe(m:ae)(s:J Int)(c:Nat):J Int:=lC s ((cAt m).getD c 0) (vK m c+1)
def wL(m:ae)(i:Nat)(k:Int):Nat:=(iAt m).getD i 0+1+k.toNat
def gQ(m:ae)(i:Nat)(s:J Int)(a:aO):U (J Int):=
 if a.Kind=1 then(vJ m s i a.Value).bind λn=>wZ m s ((vAt m).getD a.To.toNat 0) n
 else if a.Kind=2 then(vJ m s i a.Index).bind λk=>(vJ m s i a.Value).bind λn=>(m.aq[a.To.toNat]?).bind λv=>if 1<=k/\k<=dN m v then wZ m s ((vAt m).getD a.To.toNat 0+(k - 1).toNat) n else none
 else if a.Kind=3 then(vJ m s i a.Value).bind λn=>wZ m s (wL m i a.To) n
 else if a.Kind=4 then(vJ m s i a.Value).bind λn=>(m.ah[a.To.toNat]?).bind λc=>if(fz m.aa c).1<=n/\n<=(fz m.aa c).2 then(Bz (fe m s a.To.toNat) n).map (i6 s ((cAt m).getD a.To.toNat 0))else none
 else if a.Kind=5 then(qU (fe m s a.To.toNat)).bind λp=>wZ m (i6 s ((cAt m).getD a.To.toNat 0) p.1) (wL m i a.Local) p.2
 else none
def oN(m:ae)(i:Nat):List aO->List Int->Option (List Int)
 | [],s=>some s
 |a::r,s=>(gQ m i s a).bind (oN m i r)
def mQ(m:ae)(r:bC):aK:=((eQ m (((dA m)[r.Inst.toNat]?).getD ⟨0,0⟩)).aP[r.Cmd.toNat]?).getD ⟨[],0,0,[],[],false⟩
def CM(m:ae)(s:J Int)(i:Nat)(e:J aF):Bool:=e.isEmpty || (match vJ m s i e with |some n=>decide (n≠0) |none=>false)
def mi(m:ae)(s:J Int)(r:bC):U (J Int):=
 let c:=mQ m r
 let a:=(iAt m).getD r.Inst.toNat 0
 if s.getD a 0=c.dm/\CM m s r.Inst.toNat c.Guard=true then(oN m r.Inst.toNat c.aM s).map λt=>t.set a c.To else none
def kK(c:aK):Int×Int:=match c.aM.find? talksP with |some a=>(a.Kind,a.To) |none=>(0,0)
def oO(m:ae)(c:aK):Bool:=decide ((kK c).1=4)&&(match m.ah[(kK c).2.toNat]? with |some x=>x.Lossy |none=>false)
def JP(m:ae)(s t:J Int)(c:aK):J Int:=i6 t ((cAt m).getD (kK c).2.toNat 0) (fe m s (kK c).2.toNat)
def j9(m:ae)(s:J Int)(r:bC):J (J Int):=match mi m s r with
 |none=>[]
 |some t=>t::(if oO m (mQ m r)=true then [JP m s t (mQ m r)]else [])
def fg(m:ae)(s:List Int):Nat->List bC->List bm
 |_,[]=>[]
 |i,r::l=>((j9 m s r).zipIdx.map λ(t,w)=>⟨(i:Int),(w:Int),t⟩)++fg m s (i+1) l
def fC(m:ae)(s:J Int):J bm:=if fg m s 0 (dM m)=[]then [⟨-1,0,s⟩]else fg m s 0 (dM m)
theorem R9{m:ae}{s:J Int}{a:Nat}{n:Int}(h:inB m s)(hb:∀b,(eR m)[a]? =some b->b.1<=n/\n<=b.2):inB m (s.set a n):=by
 refine⟨by simpa using h.1,λi v b d c=> ?_⟩
 by_cases e:a=i
 .grind
 .rw[rj e]at d
  exact h.2 i v b d c
theorem vM{m:ae}{s t:J Int}{a:Nat}{n:Int}(h:inB m s)(e:wZ m s a n=some t):inB m t:=by
 grind [wZ,R9]
theorem CN{s:J Int}{a:Nat}{l:J Int}(h:a+l.length<=s.length):(i6 s a l).length=s.length:=by
 grind [i6]
theorem CP{s:J Int}{a:Nat}{l:J Int}(h:a+l.length<=s.length)(i:Nat):(i6 s a l)[i]? =if a<=i/\i<a+l.length then l[i - a]? else s[i]? :=by
 grind [i6,xO]
theorem Oy{m:ae}{s:J Int}{a:Nat}{l:J Int}(h:inB m s)(hl:a+l.length<=s.length)(hb:∀(k:Nat) (v:Int) (b:Bd),l[k]? =some v->(eR m)[a+k]? =some b->b.1<=v/\v<=b.2):inB m (i6 s a l):=by
 refine⟨by rw[CN hl];exact h.1,λi v b d c=> ?_⟩
 rw[CP hl]at d
 split at d
 .grind
 .exact h.2 i v b d c
theorem HU{l:J Int}(h:isC l=true):∃n r,l=n::r/\0<=n/\n<=(r.length:Int)/\∀x∈r.drop n.toNat,x=0:=by
 cases l with
 |nil=>cases h
 |cons n r=>
  grind [isC]
theorem tg{l:J Int}{k:Nat}{v:Int}(h:(fL l)[k]? =some v):l[k+1]? =some v/\fL l≠[]/\(fL l).length<=l.length - 1/\isC l=true:=by
 grind [fL]
theorem jy{l:J Int}(h:isC l=true):((fL l).length:Int)=l.headD 0/\(fL l).length+1<=l.length:=by
 grind [HU,fL]
theorem lU{n:Nat}{a:J Int}(h:a.length+1<=n):(je n a).length=n:=by
 grind [je]
structure dw(m:ae)(c:Nat)(x:aD)(a:Nat):Prop where
 h:m.ah[c]? =some x
 at0:(cAt m).getD c 0=a
 f:a+1+x.bc.toNat<=(eR m).length
 b0:(eR m)[a]? =some (0,x.bc)
 b1:∀k,k<x.bc.toNat->(eR m)[a+1+k]? =some (gb m.aa x.aC (min x.Lo 0) (max x.Hi 0))
 cap:1<=x.bc/\x.bc<=4
theorem jL{m:ae}(b:May m){c:Nat}{x:aD}(h:m.ah[c]? =some x):∃a,dw m c x a:=by
 obtain⟨a,f,d,h3,h4,h5⟩:=L7 h;have g:(eR m).length=(ef m).flatten.length+((eF m).flatten.length+(ku m).flatten.length):=by simp[eR]
 have e:=b.c x (yS h)
 refine⟨a,h,by grind,by omega,h4,h5,?_⟩
 grind [tN]
theorem HX{m:ae}(a:May m){c:Nat}{x:aD}(h:m.ah[c]? =some x){n:Int}(hn:n=0\/((fz m.aa x).1<=n/\n<=(fz m.aa x).2)):(gb m.aa x.aC (min x.Lo 0) (max x.Hi 0)).1<=n/\n<=(gb m.aa x.aC (min x.Lo 0) (max x.Hi 0)).2:=by
 have:= @jv m.aa x.aC
 unfold fz gb at *;split
 .grind
 grind
theorem CQ{m:ae}(i:May m){s:J Int}(h:inB m s){c:Nat}{x:aD}{a:Nat}(ha:dw m c x a){d:J Int}(hl:d.length<=x.bc.toNat)
  (hi:∀v∈d,(gb m.aa x.aC (min x.Lo 0) (max x.Hi 0)).1<=v/\v<=(gb m.aa x.aC (min x.Lo 0) (max x.Hi 0)).2):inB m (i6 s a (je (x.bc.toNat+1) d)):=by
 have f:(je (x.bc.toNat+1) d).length=x.bc.toNat+1:=lU (by omega)
 refine Oy h (by rw[f,h.1];have:=ha.f;omega) λk v b hk e=> ?_
 cases k with
 |zero=>
  simp only[je,yE,xJ]at hk
  subst hk;rw[kV,ha.b0]at e
  simp only[xJ]at e
  subst e
  have:=ha.cap
  grind
 |succ k=>
  have g:=(List.getElem?_eq_some_iff.1 hk).1;rw[f]at g
  rw[show a+(k+1)=a+1+k by omega,ha.b1 k (by omega)]at e
  simp only[xJ]at e
  subst e;simp only[je,lW]at hk
  rw[yO]at hk
  split at hk
  .exact hi v (yS hk)
  .have:=yS hk
   have:=List.eq_of_mem_replicate this
   exact HX i ha.h (.inl this)
theorem iM{m:ae}{s:J Int}{c:Nat}{x:aD}{a:Nat}(ha:dw m c x a)(h:s.length=(eR m).length):(fe m s c).length=x.bc.toNat+1/\∀k,(fe m s c)[k]? =if k<x.bc.toNat+1 then s[a+k]? else none:=by
 have d:=ha.f;have b:vK m c=x.bc.toNat:=by unfold vK;rw[ha.h]
 unfold fe;rw[ha.at0,b]
 grind [lC]
theorem Af{m:ae}{s:J Int}(h:inB m s){c:Nat}{x:aD}{a:Nat}(ha:dw m c x a){v:Int}(hv:v∈fL (fe m s c)):(gb m.aa x.aC (min x.Lo 0) (max x.Hi 0)).1<=v/\v<=(gb m.aa x.aC (min x.Lo 0) (max x.Hi 0)).2:=by
 obtain⟨k,hk,rfl⟩:=lZ hv;obtain⟨b,_⟩:=tg (xG hk);rw[(iM ha h.1).2]at b
 split at b
 .rename_i q
  exact h.2 _ _ _ b (by rw[show a+(k+1)=a+1+k by omega];exact ha.b1 k (by omega))
 .cases b
theorem L8{m:ae}(f:May m){i:Nat}{s t:J Int}{a:aO}(h:inB m s)(e:gQ m i s a=some t):inB m t:=by
 unfold gQ at e
 split at e
 .grind [xB,vM]
 split at e
 .grind [xB,vM]
 split at e
 .grind [xB,vM]
 split at e
 .simp only[xB]at e
  obtain⟨n,_,x,o,e⟩:=e
  split at e
  .rename_i z
   simp only[xM]at e
   obtain⟨l,b,rfl⟩:=e;obtain⟨c,d⟩:=jL f o;unfold Bz at b
   split at b
   .rename_i j
    simp only[xJ]at b
    subst b;obtain⟨A,g⟩:=jy j.1;have k:=(iM d h.1).1;rw[d.at0,k];refine CQ f h d (by grind) λv u=> ?_
    obtain q |q:=List.mem_append.1 u
    .exact Af h d q
    .rw[yQ]at q
     subst q;exact HX f d.h (.inr z)
   .cases b
  .cases e
 split at e
 .simp only[xB]at e
  obtain⟨⟨l,n⟩,b,e⟩:=e;refine vM ?_ e;unfold qU at b
  split at b
  .cases b
  .rename_i y r w
   simp only[xJ,pJ]at b
   obtain⟨rfl,rfl⟩:=b;have p:(fL (fe m s a.To.toNat))[0]? =some y:=by rw[w];rfl
   have j:=(tg p).2.2.2;obtain⟨A,g⟩:=jy j
   cases o:m.ah[a.To.toNat]? with
   |none=>
    grind [fe,vK,lC]
   |some x=>
    obtain⟨c,d⟩:=jL f o;have k:=(iM d h.1).1;rw[d.at0,k];rw[w]at g
    simp only[xZ]at g
    refine CQ f h d (by omega) λv u=>Af h d (by grind)
 .cases e
theorem HY{m:ae}(b:May m){i:Nat}:∀{l:J aO} {s t:J Int},inB m s->oN m i l s=some t->inB m t
 | [],s,t,h,e=>by grind [oN]
 |a::r,s,t,h,e=>by
  simp only[oN,xB]at e
  obtain⟨u,d,c⟩:=e;exact HY b (L8 b h d) c
theorem Zv(i:Nat):∀(n k:Nat),elQ i k n=(List.range n).map λ(j:Nat)=>⟨(i:Int),((k+j:Nat):Int)+1⟩
 |0,k=>rfl
 |n+1,k=>by
  rw[elQ,Zv i n (k+1),List.range_succ_eq_map,eG,ke];refine congr (congrArg _ (by simp)) (lY λj _=> ?_)
  grind
theorem Zw(s:J aw)(k:Int):Bh s k=iP s k:=rfl
theorem Zx(m:ae)(i:Nat)(p:az):ofQ m i p=iC m i p:=by
 grind [ofQ,iC,oK,Zw,Zv]
theorem OA(m:ae):∀(d i:Nat),i+d=m.ak.length->HB m i d=eg m i (m.ak.drop i)
 |0,i,h=>by rw[List.drop_eq_nil_of_le (by omega)];rfl
 |d+1,i,h=>by
  have:=OA m d;grind [xW,HB,eg,Zx]
theorem nW(m:ae):jV m=dA m:=(OA m _ 0 (by omega)).trans (by rw[jg];rfl)
theorem QD{m:ae}{i:Nat}{p:az}{x:aE}(h:x∈iC m i p):x.cw=(i:Int)/\0<=x.Elem/\x.Elem<=4:=by
 have a:= @jv m.aa p.aG;unfold iC at h
 obtain q |q:=List.mem_append.1 h
 .grind
 grind [oK]
theorem HZ{m:ae}:∀{l:J az} {i:Nat} {x:aE},x∈eg m i l->∃k p,l[k]? =some p/\x∈iC m (i+k) p
 | [],_,_,h=>by cases h
 |p::r,i,x,h=>by
  obtain q |q:=List.mem_append.1 h
  .exact⟨0,p,rfl,q⟩
  .obtain⟨k,a,b,c⟩:=HZ q
   exact⟨k+1,a,b,by grind⟩
theorem BB{m:ae}{x:aE}(h:x∈dA m):0<=x.cw/\m.ak[x.cw.toNat]? =some (eQ m x)/\x∈iC m x.cw.toNat (eQ m x)/\0<=x.Elem/\x.Elem<=4:=by
 obtain⟨k,p,a,b⟩:=HZ h
 grind [QD,eQ]
theorem Zy{m:ae}(d:May m):QB m (jV m):=λx b=>by
 rw[nW]at b
 obtain⟨c,a,_⟩:=BB b
 exact⟨c,_,a,(d.p _ _ a).vn⟩
theorem Zz(m:ae)(i:Nat)(p:az):(iC m i p).Nodup:=by
 grind [iC,List.nodup_range]
theorem H4(m:ae):∀(l:J az) (i:Nat),(eg m i l).Nodup
 | [],_=>List.nodup_nil
 |p::r,i=>by
  refine List.nodup_append.2 ⟨Zz m i p,H4 m r (i+1),?_⟩;intro x a y c q;subst q;have b:=(QD a).1
  grind [HZ,QD]
theorem OB(m:ae):(dA m).Nodup:=H4 m _ 0
theorem Sf(a:Int):∀(d k:Nat),IF a k d=(List.range d).map λ(j:Nat)=>⟨a,((k+j:Nat):Int)⟩
 |0,k=>rfl
 |d+1,k=>by
  rw[IF,Sf a d (k+1),List.range_succ_eq_map,eG,ke];refine congr (congrArg _ (by simp)) (lY λj _=> ?_)
  grind
theorem abq(m:ae)(x:aE):oe m x.cw.toNat=(eQ m x).aP.length:=by
 grind [oe,eQ]
theorem Sg(m:ae):∀(l:J aE) (i:Nat) (s:RS),s.at_=(i:Int) - 1->l.Nodup->(⟨s.a,s.b⟩:aE)∉l->(l.foldl (xu m) s).out=s.out++jw m i l
 | [],i,s,_,_,_=>by simp[jw]
 |x::r,i,s,h,b,d=>by
  rw[List.nodup_cons]at b
  have c:¬(x.cw=s.a/\x.Elem=s.b):=λq=>d (by
   have:(⟨s.a,s.b⟩:aE)=x:=by cases x;simp only[aE.mk.injEq];exact⟨q.1.symm,q.2.symm⟩
   grind)
  rw[List.foldl_cons]
  have a:xu m s x=⟨(i:Int),x.cw,x.Elem,s.out++IF (i:Int) 0 (oe m x.cw.toNat)⟩:=by
   unfold xu;rw[if_neg c,h,show(i:Int) - 1+1=(i:Int)by omega]
  rw[a,Sg m r (i+1) _ (by simp) b.2 b.1]
  grind [jw,Sf,abq]
theorem ZA(m:ae):Oe m=dM m:=by
 unfold Oe dM lA;rw[nW,Sg m (dA m) 0 _ (by simp) (OB m) λq=>by have:=(BB q).1;grind]
 simp
structure Lay(a:LA)(V C I:List Int)(bs:List Bd):Prop where
 v:a.V=V
 c:a.C=C
 i:a.I=I
 n:a.n=(bs.length:Int)
 lo:a.lo=bs.map (·.1)
 hi:a.hi=bs.map (·.2)
def bdB(b:ar):Bd:=(b.lo,b.hi)
theorem BC{s w:Int}:∀{l:J ar} {k:Nat} {a:LA} {V C I:J Int} {bs:J Bd},Lay a V C I bs->Lay (a.from s w k l) V C I (bs++l.map bdB)
 | [],_,_,_,_,_,_,h=>by grind [LA.from]
 |b::r,k,a,V,C,I,bs,h=>by
  have:=BC (s:=s) (w:=w) (l:=r) (k:=k+1) (a:=a.one s w k b) (V:=V) (C:=C) (I:=I) (bs:=bs++[bdB b]) ⟨h.v,h.c,h.i,by simp[LA.one,h.n],by simp[LA.one,h.lo,bdB],by simp[LA.one,h.hi,bdB]⟩
  grind [LA.from]
theorem ZB{a:LA}{V C I:J Int}{bs:J Bd}{i:Nat}{l:J ar}(h:Lay a V C I bs):Lay (a.addV i l) (V++[(bs.length:Int)]) C I (bs++l.map bdB):=by
 have q:=BC (s:=1) (w:=i) (l:=l) (k:=0) h
 exact⟨by simp[LA.addV,h.v,h.n],q.c,q.i,q.n,q.lo,q.hi⟩
theorem ZC{a:LA}{V C I:J Int}{bs:J Bd}{i:Nat}{l:J ar}(h:Lay a V C I bs):Lay (a.addC i l) V (C++[(bs.length:Int)]) I (bs++l.map bdB):=by
 have q:=BC (s:=2) (w:=i) (l:=l) (k:=0) h
 exact⟨q.v,by simp[LA.addC,h.c,h.n],q.i,q.n,q.lo,q.hi⟩
theorem ZD{a:LA}{V C I:J Int}{bs:J Bd}{i:Nat}{l:J ar}(h:Lay a V C I bs):Lay (a.addI i l) V C (I++[(bs.length:Int)]) (bs++l.map bdB):=by
 have q:=BC (s:=3) (w:=i) (l:=l) (k:=0) h
 exact⟨q.v,q.c,by simp[LA.addI,h.i,h.n],q.n,q.lo,q.hi⟩
theorem arf(m:ae)(v:aB):(vL m v).map bdB=oL m v:=by simp[vL,oL,ofB,bdB,fD]
theorem arh(m:ae)(c:aD):(cL m c).map bdB=iK m c:=by
 have a:(if 0<c.Lo then 0 else c.Lo)=min c.Lo 0:=by omega
 have b:(if c.Hi<0 then 0 else c.Hi)=max c.Hi 0:=by omega
 simp[cL,iK,ofC,ofB,bdB,fD,a,b]
theorem ari(m:ae)(x:aE)(h:1<=(eQ m x).bF/\(eQ m x).bF<=12):(iL m (eQ m x)).map bdB=kB m x:=by
 have a:IntKind.i64.wrap ((eQ m x).bF - 1)=(eQ m x).bF - 1:=dE (by omega) (by omega)
 simp_all [iL,kB,bdB,ofB]
theorem aec{m:ae}:∀{l:J aB} {i:Nat} {a:LA} {V C I:J Int} {bs:J Bd},Lay a V C I bs->Lay (tP m i l a) (V++ofN (ia bs.length (l.map (oL m)))) C I (bs++(l.map (oL m)).flatten)
 | [],_,_,_,_,_,_,h=>by grind [tP,ia]
 |v::r,i,a,V,C,I,bs,h=>by
  have:=aec (m:=m) (l:=r) (i:=i+1) (ZB (i:=i) (l:=vL m v) h)
  grind [arf,tP,ia]
theorem aed{m:ae}:∀{l:J aD} {i:Nat} {a:LA} {V C I:J Int} {bs:J Bd},Lay a V C I bs->Lay (vI m i l a) V (C++ofN (ia bs.length (l.map (iK m)))) I (bs++(l.map (iK m)).flatten)
 | [],_,_,_,_,_,_,h=>by grind [vI,ia]
 |c::r,i,a,V,C,I,bs,h=>by
  have:=aed (m:=m) (l:=r) (i:=i+1) (ZC (i:=i) (l:=cL m c) h)
  grind [arh,vI,ia]
theorem aee{m:ae}:∀{l:J aE} {i:Nat} {a:LA} {V C I:J Int} {bs:J Bd},(∀x∈l,1<=(eQ m x).bF/\(eQ m x).bF<=12)->Lay a V C I bs->Lay (DR m i l a) V C (I++ofN (ia bs.length (l.map (kB m)))) (bs++(l.map (kB m)).flatten)
 | [],_,_,_,_,_,_,_,h=>by grind [DR,ia]
 |x::r,i,a,V,C,I,bs,b,h=>by
  have:=aee (m:=m) (l:=r) (i:=i+1) (λy c=>b y (AA _ c)) (ZD (i:=i) (l:=iL m (eQ m x)) h)
  grind [ari,DR,ia]
theorem abr{m:ae}(b:May m):(⟨(w5 m).V,(w5 m).C,(w5 m).I,(w5 m).n,(w5 m).lo,(w5 m).hi⟩:bQ)=dW m:=by
 have z:Lay LA.zero [] [] [] []:=⟨rfl,rfl,rfl,rfl,rfl,rfl⟩;have h:=aee (m:=m) (l:=dA m) (i:=0) (λx e=>(b.p _ _ (BB e).2.1).l) (aed (m:=m) (l:=m.ah) (i:=0) (aec (m:=m) (l:=m.aq) (i:=0) z))
 rw[<-nW]at h
 have d:DR m 0 (jV m) (vI m 0 m.ah (tP m 0 m.aq .zero))=w5 m:=rfl;rw[d]at h
 have j:=h.v;have g:=h.c;have hi:=h.i;have f:=h.n;have a:=h.lo;have c:=h.hi
 grind [nW,dW,vAt,cAt,iAt,eR,ef,eF,ku]
structure bq(m:ae):Prop where
 o:cE m
 e:MoE m
 h:hZ m=none
theorem bq.may{m:ae}(h:bq m):May m:=ags h.h
theorem qX{m:ae}(b:May m):(dA m).length<=30:=by
 have a:∀(l:J az) (i:Nat),(eg m i l).length<=5 * l.length:=by
  intro l
  induction l with
  |nil=>grind [eg]
  |cons p r c=>
   intro i
   have:=c (i+1)
   have h5:(iC m i p).length<=5:=by rw[<-Zx];exact Yj m
   grind [eg]
 have:=a m.ak 0
 have:=b.pn
 grind [dA]
section
variable{ρ:Type}{m:ae}
theorem Sh(h:bq m)(κ:KT ρ):cbK (call 81 [moD m] []) κ=κ ([.d (fF (0,0,0,0))],[]):=by
 rw[R8 m h.o h.e,h.h];rfl
theorem Sj(h:bq m)(κ:KT ρ):cbK (call 83 [moD m] []) κ=κ ([.d (.sl false (List.map ij (dA m)))],[]):=by
 rw[<-nW];exact Ry m h.o.sc h.o.n κ
theorem agH(h:bq m)(κ:KT ρ):cbK (call 84 [moD m] []) κ=κ ([.d (.sl false (List.map Be (dM m)))],[]):=by
 rw[<-ZA];refine af3 m h.o.sc h.o.n (λi=> ?_) κ
 unfold oe;split
 .rename_i p a;have:=(h.may.p i p a).cn;omega
 .omega
theorem arj(h:bq m)(κ:KT ρ):cbK (call 114 [moD m] []) κ=κ ([.d (wC false (dW m)),.d (.sl false (List.map fI (w5 m).sl))],[]):=by
 have b:=h.may;rw[<-abr b];have j:=qX b;have g:=b.vn;have k:=b.cn;refine ara m h.o.sc h.o.n (by omega) (by omega) (λc d=> ?_) (by rw[nW];omega) (Zy b) κ
 obtain⟨i,f,rfl⟩:=lZ d;obtain⟨a,e⟩:=jL b (xG f);exact e.cap.2
theorem UV(h:cE m)(b:MoE m)(κ:KT ρ):cbK (call 113 [moD m] []) κ=κ ([.d (.bool (decide (((hZ m).getD (0,0,0,0)).1=0)))],[]):=by
 refine(alb _ _ _ rfl).trans ?_
 have a:=λκ=>R8 (ρ:=ρ) m h b κ
 try simp only[go_sem]at a
 simp [go_sem,a]
theorem ark(h:bq m)(κ:KT ρ):cbK (call 82 [moD m] []) κ=κ ([.d (wC false (dW m))],[]):=by
 refine(avw _ _ _ rfl).trans ?_
 have b:=λκ=>UV (ρ:=ρ) h.o h.e κ
 have a:=λκ=>arj (ρ:=ρ) h κ
 simp only[h.h,Option.getD_none,decide_true]at b
 simp only[go_sem]at a
 simp [go_sem,b,a]
end
structure cu(m:ae)(s:List Int):Prop where
 b:inB m s
 q:∀(c:Nat) (x:aD),m.ah[c]? =some x->kC m x (fe m s c)=true
theorem nX{m:ae}{s:J Int}:jd m s=true↔cu m s:=by
 have j:∀(c:Nat) (x:aD),m.ah[c]? =some x->∃a,(cAt m)[c]? =some a/\fe m s c=lC s a (x.bc.toNat+1):=λc x g=>by
  grind [L7,fe,vK]
 unfold jd;simp only[xA,yD,iy,List.mem_range];constructor
 .rintro⟨⟨d,f⟩,h3⟩
  refine⟨⟨d,λi v b h k=> ?_⟩,λc x g=> ?_⟩
  .grind
  grind
 .rintro⟨⟨d,f⟩,h3⟩
  refine⟨⟨d,λc e=> ?_⟩,λi h=> ?_⟩
  .grind
  grind
theorem Ag:∀{l:J (J Bd)} {n i j a b:Nat} {x y:J Bd},l[i]? =some x->l[j]? =some y->(ia n l)[i]? =some a->(ia n l)[j]? =some b->i<j->n<=a/\a+x.length<=b
 | [],n,i,j,a,b,x,y,e,_,_,_,_=>by simp at e
 |c::r,n,0,0,a,b,x,y,_,_,_,_,h=>by omega
 |c::r,n,0,j+1,a,b,x,y,e,f,h3,h4,_=>by
  simp only[yE,xJ]at e
  subst e;simp only[ia,yE,xJ,lW]at h3 h4 f
  subst h3;obtain⟨d,h5,_⟩:=oM (n:=n+c.length) f
  grind
 |c::r,n,i+1,0,a,b,x,y,_,_,_,_,h=>by omega
 |c::r,n,i+1,j+1,a,b,x,y,e,f,h3,h4,h=>by
  simp only[ia,lW]at e f h3 h4
  have:=Ag e f h3 h4 (by omega)
  omega
theorem ZE{m:ae}{c d a b:Nat}{x y:aD}(h:dw m c x a)(f:dw m d y b)(o:c≠d):a+1+x.bc.toNat<=b\/b+1+y.bc.toNat<=a:=by
 obtain⟨n,g,_⟩:=L7 h.h;obtain⟨l,e,_⟩:=L7 f.h;have k:n=a:=by have:=h.at0;rw[List.getD,g]at this;exact this
 have p:l=b:=by have:=f.at0;rw[List.getD,e]at this;exact this
 subst k;subst p;have s:(iK m x).length=x.bc.toNat+1:=by simp[iK]
 have r:(iK m y).length=y.bc.toNat+1:=by simp[iK]
 have i:(eF m)[c]? =some (iK m x):=by simp[eF,h.h]
 have j:(eF m)[d]? =some (iK m y):=by simp[eF,f.h]
 obtain q |q:=gk c d
 .have:=Ag i j g e q
  left;omega
 .have:=Ag j i e g (by omega)
  right;omega
theorem QE{m:ae}{c a:Nat}{x:aD}(h:dw m c x a):(ef m).flatten.length<=a/\a+1+x.bc.toNat<=(ef m).flatten.length+(eF m).flatten.length:=by
 obtain⟨b,d,g,e,_⟩:=L7 h.h;have f:b=a:=by have:=h.at0;rw[List.getD,d]at this;exact this
 grind
theorem H5{m:ae}{s t:J Int}{c a:Nat}{x:aD}(ha:dw m c x a)(h:s.length=(eR m).length)(b:t.length=(eR m).length)(e:∀k,k<x.bc.toNat+1->t[a+k]? =s[a+k]?):fe m t c=fe m s c:=by
 apply rm
 grind [iM]
theorem JQ{m:ae}(f:May m){s:J Int}{a:Nat}{n:Int}(h:cu m s)(hb:inB m (s.set a n))(ho:a<(ef m).flatten.length\/(ef m).flatten.length+(eF m).flatten.length<=a):cu m (s.set a n):=by
 refine⟨hb,λc x e=> ?_⟩
 obtain⟨b,d⟩:=jL f e;have g:=QE d;rw[H5 d h.b.1 hb.1 λk hk=>rj (by omega)]
 exact h.q c x e
theorem wM{m:ae}(b:May m){s t:J Int}{a:Nat}{n:Int}(h:cu m s)(e:wZ m s a n=some t)(ho:a<(ef m).flatten.length\/(ef m).flatten.length+(eF m).flatten.length<=a):cu m t:=by
 have c:=vM h.b e;unfold wZ at e
 split at e
 .grind [JQ]
 .cases e
theorem DT{m:ae}{x:aD}(hx:1<=x.bc){a:J Int}(hl:a.length<=x.bc.toNat)(hi:∀v∈a,(fz m.aa x).1<=v/\v<=(fz m.aa x).2):kC m x (je (x.bc.toNat+1) a)=true:=by
 grind [je,kC,eO]
theorem DU{m:ae}{x:aD}{l:J Int}(h:kC m x l=true){v:Int}(hv:v∈fL l):(fz m.aa x).1<=v/\v<=(fz m.aa x).2:=by
 grind [lZ,jy,kC,fL]
theorem Ah{m:ae}(j:May m){s:J Int}{c a:Nat}{x:aD}{l:J Int}(h:cu m s)(ha:dw m c x a)(hl:l.length=x.bc.toNat+1)(hb:inB m (i6 s a l))(n:kC m x l=true):cu m (i6 s a l):=by
 have i:a+l.length<=s.length:=by rw[hl,h.b.1];have:=ha.f;omega
 refine⟨hb,λd y f=> ?_⟩
 by_cases e:c=d
 .subst e
  rw[ha.h]at f
  simp only[xJ]at f
  subst f
  have:fe m (i6 s a l) c=l:=by
   apply rm;intro k;rw[(iM ha hb.1).2];split
   .grind [CP]
   .grind
  rw[this];exact n
 .obtain⟨b,g⟩:=jL j f
  have:=ZE ha g e
  rw[H5 g h.b.1 hb.1 λk hk=>by grind [CP]]
  exact h.q d y f
theorem Sk{m:ae}{j:Nat}{x:aE}(h:(dA m)[j]? =some x):(ef m).flatten.length+(eF m).flatten.length<=(iAt m).getD j 0:=by
 grind [UU]
theorem UW{m:ae}(f:May m){i:Nat}{y:aE}(hi:(dA m)[i]? =some y){s t:J Int}{a:aO}(h:cu m s)(hv:a.Kind=1->a.To.toNat<m.aq.length)(e:gQ m i s a=some t):cu m t:=by
 have C:=L8 f h.b e;have p:∀k:Int,(ef m).flatten.length+(eF m).flatten.length<=wL m i k:=λk=>by grind [Sk,wL]
 have D:∀(n:Nat) (v:aB) (k:Nat),m.aq[n]? =some v->k<(dN m v).toNat->(vAt m).getD n 0+k<(ef m).flatten.length:=λn v k j hk=>by
  grind [abp]
 unfold gQ at e
 split at e
 .rename_i hk
  simp only[xB]at e
  obtain⟨n,_,e⟩:=e;have j:=xG (hv hk)
  have G:0<(dN m m.aq[a.To.toNat]).toNat:=by
   have:=f.v _ (yS j)
   unfold Aa at this
   split at this
   .cases this
   .rename_i q
    have q:(jW m.aa m.aq[a.To.toNat].aC&&jW m.aa m.aq[a.To.toNat].aG)=true:=by simpa using q
    simp only[xA]at q
    have A:=q.2;unfold jW at A;simp only[ic,yD]at A
    have:= @jv m.aa m.aq[a.To.toNat].aG
    grind [dN]
  grind [wM]
 split at e
 .grind [xB,wM]
 split at e
 .grind [xB,wM]
 split at e
 .simp only[xB]at e
  obtain⟨n,_,x,g,e⟩:=e
  split at e
  .rename_i j
   simp only[xM]at e
   obtain⟨l,d,rfl⟩:=e;obtain⟨c,b⟩:=jL f g;unfold Bz at d
   split at d
   .rename_i o
    simp only[xJ]at d
    subst d;obtain⟨E,u⟩:=jy o.1;have w:=(iM b h.b.1).1;rw[b.at0]at C |-
    have F:=b.cap;refine Ah f h b (by grind [lU]) C ?_
    rw[w];refine DT (by omega) (by simp;omega) λv hv=> ?_
    obtain q |q:=List.mem_append.1 hv
    .exact DU (h.q _ _ g) q
    grind
   .cases d
  .cases e
 split at e
 .simp only[xB]at e
  obtain⟨⟨l,n⟩,d,e⟩:=e;refine wM f ?_ e (.inr (p _));unfold qU at d
  split at d
  .cases d
  .rename_i y r B
   simp only[xJ,pJ]at d
   obtain⟨rfl,rfl⟩:=d;have z:(fL (fe m s a.To.toNat))[0]? =some y:=by rw[B];rfl
   have o:=(tg z).2.2.2;obtain⟨E,u⟩:=jy o;rw[B]at u
   simp only[xZ]at u
   cases g:m.ah[a.To.toNat]? with
   |none=>
    grind [fe,vK,lC]
   |some x=>
    obtain⟨c,b⟩:=jL f g;have w:=(iM b h.b.1).1;have F:=b.cap;rw[b.at0,w];refine Ah f h b (lU (by omega)) (CQ f h.b b (by omega) λv hv=>Af h.b b (by grind)) (DT (by omega) (by omega) λv hv=>DU (h.q _ _ g) (by grind))
 .cases e
theorem H6{m:ae}(c:May m){i:Nat}{y:aE}(hi:(dA m)[i]? =some y):∀{l:J aO} {s t:J Int},cu m s->(∀a∈l,a.Kind=1->a.To.toNat<m.aq.length)->oN m i l s=some t->cu m t
 | [],s,t,h,_,e=>by grind [oN]
 |a::r,s,t,h,d,e=>by
  simp only[oN,xB]at e
  obtain⟨u,j,g⟩:=e;exact H6 c hi (UW c hi h (d a (by simp)) j) (λb f=>d b (by simp[f])) g
section
attribute [-simp] List.map_append List.map_take List.map_drop List.map_set
def rD(m:ae):D:=.agg [.sl false (List.map eI (dW m).aq),.sl false (List.map eI (dW m).ah),.sl false (List.map eI (dW m).Insts),.int .i64 (dW m).Cells,.sl false (List.map eI (dW m).Lo),.sl false (List.map eI (dW m).Hi),.sl false (List.map dB m.aa),.sl false (List.map dJ m.aq),.sl false (List.map dP m.ah),.sl false (List.map (dL false) m.ak),.sl false (List.map (fw false) m.aL),.sl false (List.map ij (dA m))]
section
variable{ρ:Type}{m:ae}
def Q0(lo hi a:Int)(r:J Int)(k:Nat):St:=⟨[(8,.d (.int .i64 lo)),(9,.d (.int .i64 hi)),(10,.d (.sl false (List.map eI (a::r)))),(72,.d (.sl false (List.map eI r))),(73,.d (.int .i64 r.length)),(74,.d (.int .i64 k))],[],[.box (.d (rD m))]⟩
def Q0X(lo hi a:Int)(r:J Int)(k:Nat):St:=⟨[(8,.d (.int .i64 lo)),(9,.d (.int .i64 hi)),(10,.d (.sl false (List.map eI (a::r)))),(72,.d (.sl false (List.map eI r))),(73,.d (.int .i64 r.length)),(74,.d (.int .i64 k)),(75,.d (.bool false))],[],[.box (.d (rD m))]⟩
def QR(x:D):St:=⟨[(6,.d (.bool false))],[],[.box (.d x)]⟩
def okQ(lo hi a:Int)(k:Nat)(v:Int):Bool:=if(k:Int)<a then decide (lo<=v)&&decide (v<=hi)else decide (v=0)
def Ai(lo hi a:Int):Nat->List Int->Bool
 |_,[]=>true
 |k,v::r=>okQ lo hi a k v&&Ai lo hi a (k+1) r
theorem agI(lo hi a:Int)(r:J Int)(k:Nat)(hk:k<r.length)(hr:r.length<=1000)(κ:Ex×St->U ρ):dI P hints nE Qg 0 (Q0 (m:=m) lo hi a r k) κ=if okQ lo hi a k r[k]=true then dI P hints nE Qg 0 (Q0 (m:=m) lo hi a r (k+1)) κ else κ (.ret,QR (rD m)):=by
 refine(ap XV.2).trans ?_
 have c:r[k]? =some r[k]:=xG hk;have d:(k:Int)<(r.length:Int):=by omega
 have b:IntKind.i64.wrap ((k:Int)+1)=(k:Int)+1:=dE (by omega) (by omega)
 simp [go_sem,Q0,d,c,b,QR,okQ]
 by_cases e:(k:Int)<a
 .grind
 grind
theorem agJ(lo hi a:Int)(r:J Int)(κ:Ex×St->U ρ):dI P hints nE Qg 0 (Q0 (m:=m) lo hi a r r.length) κ=κ (.exit 0,Q0X (m:=m) lo hi a r r.length):=by
 refine(ap XV.2).trans ?_
 simp [go_sem,Q0,Q0X]
theorem ZF(lo hi a:Int)(r:J Int)(hr:r.length<=1000)(κ:Ex×St->U ρ):∀(d k:Nat),k+d=r.length->dI P hints nE Qg 0 (Q0 (m:=m) lo hi a r k) κ=if Ai lo hi a k (r.drop k)=true then κ (.exit 0,Q0X (m:=m) lo hi a r r.length)else κ (.ret,QR (rD m))
 |0,k,b=>by
  have:k=r.length:=by omega
  subst this;rw[agJ,wj];rfl
 |d+1,k,b=>by
  have:=ZF lo hi a r hr κ d;grind [agI,xW,Ai]
theorem H7{lo hi a:Int}:∀{r:J Int} {k:Nat},Ai lo hi a k r=true↔∀(j:Nat) (b:j<r.length),okQ lo hi a (k+j) r[j]=true
 | [],k=>by simp[Ai]
 |v::r,k=>by
  simp only[Ai,xA,H7 (r:=r) (k:=k+1)];constructor
  .grind
  .intro h
   refine⟨h 0 (by simp),λj b=> ?_⟩
   have:=h (j+1) (by simpa using b)
   grind
theorem ZG{c:aD}{b:Int}{r:J Int}:kC m c (b::r)=(decide (0<=b)&&decide (b<=c.bc)&&Ai (fz m.aa c).1 (fz m.aa c).2 b 0 r):=by
 unfold kC;simp only[List.headD_cons,xZ,Nat.add_sub_cancel];refine congrArg _ (Bool.eq_iff_iff.2 ?_);rw[iy,H7];constructor
 .intro h j a
  have:=h j (List.mem_range.2 a)
  simp only[List.getD,lW,xG a,gZ]at this
  rw[fu];exact this
 .intro h j a
  have a:=List.mem_range.1 a
  have:=h j a
  rw[fu]at this
  simp only[List.getD,lW,xG a,gZ];exact this
@[go_sem] theorem ajj{k:IntKind}{v:Int}{r:J D}:headD 1 (.int k v::r)=true:=rfl
theorem F4{k:Nat}:∀{l:J (J Bd)},(∀x∈l,x.length<=k)->l.flatten.length<=k * l.length
 | [],_=>by simp
 |x::r,h=>by
  have b:=F4 (k:=k) (l:=r) λy a=>h y (AA _ a)
  grind [Nat.mul_add]
theorem iN(b:May m):(eR m).length<=300:=by
 have j:=F4 (k:=4) (l:=ef m) λx d=>by
  obtain⟨v,_,rfl⟩:=List.mem_map.1 d
  simp_all [iJ,oL]
 have n:=F4 (k:=5) (l:=eF m) λx d=>by
  obtain⟨c,e,rfl⟩:=List.mem_map.1 d;obtain⟨i,h,rfl⟩:=lZ e;obtain⟨a,g⟩:=jL b (xG h)
  have:=g.cap.2
  simp only[iK,xZ,List.length_replicate];omega
 have h3:=F4 (k:=5) (l:=ku m) λx d=>by
  obtain⟨y,f,rfl⟩:=List.mem_map.1 d
  have:=(b.p _ _ (BB f).2.1).vn
  grind [kB]
 have h4:=qX b;have h5:=b.vn;have h6:=b.cn
 grind [ef,eF,ku,eR]
theorem abs(h:bq m)(s:J Int)(hs:s.length=(eR m).length)(i:Nat)(c:aD)(hi:m.ah[i]? =some c)(κ:KT ρ):cbK (call 117 [.ptr 0,.int .i64 i,.sl false (List.map eI s)] [.box (.d (rD m))]) κ=κ ([.d (.bool (kC m c (fe m s i)))],[.box (.d (rD m))]):=by
 refine(alk _ _ _ rfl).trans ?_
 obtain⟨a,b⟩:=jL h.may hi;have u:=b.cap;have o:=b.f;have hk:=h.may.k;obtain⟨C,d⟩:∃C:Nat,c.bc=(C:Int):=⟨c.bc.toNat,by omega⟩
 obtain⟨e,D⟩:∃e:Nat,e=a+1+C:=⟨_,rfl⟩
 have A:=iN h.may;rw[d]at o u
 rw[xV]at o
 have B:fe m s i=List.take (C+1) (List.drop a s):=by
  unfold fe vK lC;rw[b.at0,hi];simp only[d,xV]
 obtain⟨f,r,j⟩:∃f r,List.take (C+1) (List.drop a s)=f::r:=by
  cases e:List.take (C+1) (List.drop a s)with
  |nil=>grind [yN]
  |cons x r=>grind
 have w:r.length=C:=by have:=congrArg List.length j;simp only[yR,we,xZ]at this;omega
 rw[B,j,ZG,d]
 have p:(dW m).ah[i]? =some (a:Int):=by
  obtain⟨E,h3,_⟩:=L7 hi
  have:=b.at0
  rw[List.getD,h3]at this
  simp only[gZ]at this
  subst this;simp[dW,ofN,h3]
 have v:∀(g:Int->Int->U ρ),j7 ⟨[],c.aC,0,c.Lo,c.Hi,0⟩ m.aa g=g (fz m.aa c).1 (fz m.aa c).2:=λg=>by
  rw[wI h.o.sc]
  grind [fz,gb]
 have l:IntKind.i64.wrap ((a:Int)+1)=(a:Int)+1:=dE (by omega) (by omega)
 have k:IntKind.i64.wrap ((a:Int)+1+C)=(e:Int):=(dE (by omega) (by omega)).trans (by omega)
 have t:a<=e:=by omega
 have y:e<=s.length:=by omega
 have z:e - a=C+1:=by omega
 have q:min (C+1) (s.length - a)=C+1:=by omega
 have n:=λκ=>ZF (ρ:=ρ) (m:=m) (fz m.aa c).1 (fz m.aa c).2 f r (by omega) κ r.length 0 (by omega)
 rw[jg]at n
 simp only[go_sem,Q0,Q0X,QR,rD,eA]at n
 simp [go_sem,rD,hi,p,v,d,l,k,t,y,z,j,q,n]
 grind
def R0(s:J Int)(i:Nat):St:=⟨[(0,.d (.ptr 0)),(1,.d (.sl false (List.map eI s))),(21,.d (.int .i64 m.ah.length)),(22,.d (.int .i64 i))],[],[.box (.d (rD m))]⟩
def R1(s:J Int)(i:Nat):St:=⟨[(0,.d (.ptr 0)),(31,.d (.sl false (List.map eI s))),(32,.d (.int .i64 s.length)),(33,.d (.int .i64 i))],[],[.box (.d (rD m))]⟩
def RX0(s:J Int)(i:Nat):St:=⟨[(0,.d (.ptr 0)),(1,.d (.sl false (List.map eI s))),(21,.d (.int .i64 m.ah.length)),(22,.d (.int .i64 i)),(23,.d (.bool false))],[],[.box (.d (rD m))]⟩
def RX1(s:J Int)(i:Nat):St:=⟨[(0,.d (.ptr 0)),(31,.d (.sl false (List.map eI s))),(32,.d (.int .i64 s.length)),(33,.d (.int .i64 i)),(34,.d (.bool false))],[],[.box (.d (rD m))]⟩
def RF:St:=⟨[(4,.d (.bool false))],[],[.box (.d (rD m))]⟩
def qOK(s:J Int)(i:Nat):Bool:=match m.ah[i]?,(cAt m)[i]? with |some c,some a=>kC m c (lC s a (c.bc.toNat+1)) |_,_=>true
def bOK(s:J Int)(i:Nat):Bool:=match s[i]?,(eR m)[i]? with |some v,some b=>decide (b.1<=v)&&decide (v<=b.2) |_,_=>true
theorem abt(h:bq m)(s:J Int)(hs:s.length=(eR m).length)(κ:Ex×St->U ρ)(i:Nat)(hi:i<m.ah.length):dI P hints mZ b86 0 (R0 (m:=m) s i) κ=if qOK (m:=m) s i=true then dI P hints mZ b86 0 (R0 (m:=m) s (i+1)) κ else κ (.ret,RF (m:=m)):=by
 refine(ap adn.2).trans ?_
 have b:m.ah[i]? =some m.ah[i]:=xG hi;have d:(i:Int)<(m.ah.length:Int):=by omega
 have g:=h.may.cn;have e:IntKind.i64.wrap ((i:Int)+1)=(i:Int)+1:=dE (by omega) (by omega)
 have c:=λκ=>abs (ρ:=ρ) h s hs i _ b κ
 have f:kC m m.ah[i] (fe m s i)=qOK (m:=m) s i:=by
  obtain⟨a,h3,_⟩:=L7 b;unfold qOK;rw[b,h3];unfold fe vK;rw[b,List.getD,h3];rfl
 rw[f]at c
 simp only[go_sem,rD]at c
 simp [go_sem,R0,d,e,rD,c,RF]
 grind
theorem abu(s:J Int)(κ:Ex×St->U ρ):dI P hints mZ b86 0 (R0 (m:=m) s m.ah.length) κ=κ (.exit 0,RX0 (m:=m) s m.ah.length):=by
 refine(ap adn.2).trans ?_
 simp [go_sem,R0,RX0]
theorem abv(h:bq m)(s:J Int)(hs:s.length=(eR m).length)(κ:Ex×St->U ρ)(i:Nat)(hi:i<s.length):dI P hints mZ b86 1 (R1 (m:=m) s i) κ=if bOK (m:=m) s i=true then dI P hints mZ b86 1 (R1 (m:=m) s (i+1)) κ else κ (.ret,RF (m:=m)):=by
 refine(ap ado.2).trans ?_
 have c:s[i]? =some s[i]:=xG hi;have d:(i:Int)<(s.length:Int):=by omega
 have g:=iN h.may;have e:IntKind.i64.wrap ((i:Int)+1)=(i:Int)+1:=dE (by omega) (by omega)
 obtain⟨b,a⟩:∃b,(eR m)[i]? =some b:=⟨_,xG (hs▸hi)⟩
 have h3:(dW m).Lo[i]? =some b.1:=by simp[dW,a]
 have h4:(dW m).Hi[i]? =some b.2:=by simp[dW,a]
 have f:bOK (m:=m) s i=(decide (b.1<=s[i])&&decide (s[i]<=b.2)):=by unfold bOK;rw[c,a]
 rw[f]
 simp [go_sem,R1,d,c,e,rD,h3,h4,RF]
 grind
theorem abw(s:J Int)(κ:Ex×St->U ρ):dI P hints mZ b86 1 (R1 (m:=m) s s.length) κ=κ (.exit 2,RX1 (m:=m) s s.length):=by
 refine(ap ado.2).trans ?_
 simp [go_sem,R1,RX1]
theorem arl{b:Type}{F:Nat->b}{n:Nat}{a:Nat->Bool}{A B:b}(h:∀i,i<n->F i=if a i=true then F (i+1)else B)(hn:F n=A):F 0=if(List.range n).all a=true then A else B:=by
 have c:∀d i,i+d=n->F i=if(List.range d).all (λj=>a (i+j))=true then A else B:=by
  intro d
  induction d with
  |zero=>
   grind
  |succ d e=>
   intro i f;rw[h i (by omega),List.range_succ_eq_map]
   grind [List.all_map]
 grind
theorem abx(h:bq m)(s:J Int)(κ:KT ρ):cbK (call 56 [moD m,.sl false (List.map eI s)] []) κ=κ ([.d (.bool (jd m s))],[]):=by
 refine(avc _ _ _ rfl).trans ?_
 have b:=λκ=>Sh (ρ:=ρ) h κ
 have c:=λκ=>ark (ρ:=ρ) h κ
 have h3:=λκ=>Sj (ρ:=ρ) h κ
 try simp only[go_sem]at b
 try simp only[go_sem]at c
 try simp only[go_sem]at h3
 by_cases hs:s.length=(eR m).length
 .have a:(s.length:Int)=(dW m).Cells:=by simp only[dW,hs]
  have f:=λκ=>arl (abt (ρ:=ρ) h s hs κ) (abu s κ)
  have e:=λκ=>arl (abv (ρ:=ρ) h s hs κ) (abw s κ)
  have d:jd m s=((List.range m.ah.length).all (qOK (m:=m) s)&&(List.range s.length).all (bOK (m:=m) s)):=by
   unfold jd;rw[decide_eq_true hs,nw];rfl
  rw[d];generalize (List.range m.ah.length).all (qOK (m:=m) s)=A at *;generalize (List.range s.length).all (bOK (m:=m) s)=B at *;simp only[go_sem,R0,RX0,R1,RX1,RF,rD,a,eA]at f e
  simp [go_sem,akC,akD,b,c,h3,a,f,e]
  grind
 .have a:¬(s.length:Int)=(dW m).Cells:=by simp only[dW];omega
  have d:jd m s=false:=by unfold jd;rw[decide_eq_false hs,Bool.false_and,Bool.false_and]
  rw[d]
  simp [go_sem,akC,akD,b,c,h3,a]
end
section
variable{ρ:Type}(β:Bool)
def th(l:List Int)(i:Nat):Nat->Int
 |0=> -1
 |d+1=>if l[i]? =some 0 then th l (i+1) d else(i:Int)
def F0(l:J Int)(i:Nat):St:=⟨[(0,.d (.sl β (List.map eI l))),(1,.d (.fn (.func 261) [] [])),(7,.d (.int .i64 l.length)),(8,.d (.int .i64 i))],[],[]⟩
theorem OC(l:J Int)(hl:l.length<=1000)(κ:KT ρ):∀(d i:Nat),i+d=l.length->dI P hints sj Ya 0 (F0 β l i) (A7 0 (D4 P hints sj Ya ((CL.reg [{d:=some 4,ty:=3,op:=.assign (.const (.int .i64 (-1))),g:=none}] [4]).seq .ret) (kLv P false [.tmp 4] 0 κ)))=κ ([.d (.int .i64 (th l i d))],[])
 |0,i,e=>by
  refine(ap Yb.2).trans ?_
  have:i=l.length:=by omega
  subst this
  simp [go_sem,F0,th]
 |d+1,i,e=>by
  have j:i<l.length:=by omega
  have h:l[i]? =some l[i]:=xG j;have b:(i:Int)<(l.length:Int):=by omega
  have f:IntKind.i64.wrap ((i:Int)+1)=(i:Int)+1:=dE (by omega) (by omega)
  have a:=OC l hl κ d (i+1) (by omega)
  simp only[go_sem,F0,Int.natCast_add,Int.natCast_one]at a
  refine(ap Yb.2).trans ?_
  simp [go_sem,aqw,F0,b,h,f,a,th]
  by_cases c:l[i]=0
  .grind
  grind
theorem arm(l:J Int)(hl:l.length<=1000)(κ:KT ρ):cbK (call 262 [.sl β (List.map eI l),.fn (.func 261) [] []] []) κ=κ ([.d (.int .i64 (th l 0 l.length))],[]):=by
 refine(aqy _ _ _ rfl).trans ?_
 have a:=OC (ρ:=ρ) β l hl κ l.length 0 (by omega)
 simp only[go_sem,F0,eA]at a
 simp [go_sem,a]
theorem H8{l:J Int}:∀{d i:Nat},i+d=l.length->((0<=th l i d)↔¬(l.drop i).all (λx=>decide (x=0))=true)
 |0,i,h=>by
  grind [th]
 |d+1,i,h=>by
  have a:i<l.length:=by omega
  rw[xW a];have b:l[i]? =some l[i]:=xG a;simp only[th,b,xJ,kU,xA,yD]
  by_cases c:l[i]=0
  .simp only[c,if_true,true_and];exact H8 (by omega)
  grind
theorem arn(l:J Int)(hl:l.length<=1000)(κ:KT ρ):cbK (call 260 [.sl β (List.map eI l),.fn (.func 261) [] []] []) κ=κ ([.d (.bool (!l.all λx=>decide (x=0)))],[]):=by
 refine(aqt _ _ _ rfl).trans ?_
 have b:=λβ κ=>arm (ρ:=ρ) β l hl κ
 have a:=H8 (l:=l) (d:=l.length) (i:=0) (by omega)
 rw[jg]at a
 have h3:decide (0<=th l 0 l.length)= !l.all λx=>decide (x=0):=by
  rw[Bool.eq_iff_iff,yD,a]
  cases l.all λx=>decide (x=0) <;>simp
 cases β <;>simp [go_sem,b,h3]
theorem agK(n lo hi:Int)(κ:KT ρ):cbK (call 259 [.int .i64 n,.int .i64 lo,.int .i64 hi] []) κ=κ ([.d (.bool (decide (lo<=n)&&decide (n<=hi)))],[]):=by
 refine(aqq _ _ _ rfl).trans ?_
 simp [go_sem]
 grind
theorem aro(l:J Int)(hl:l.length<=1000)(κ:KT ρ):cbK (call 256 [.sl β (List.map eI l)] []) κ=κ ([.d (.bool (isC l))],[]):=by
 refine(aqh _ _ _ rfl).trans ?_
 cases l with
 |nil=>simp [go_sem,isC]
 |cons n r=>
  rw[xZ]at hl
  have g:IntKind.i64.wrap (r.length:Int)=(r.length:Int):=dE (by omega) (by omega)
  have f:¬(r.length:Int)+1=0:=by omega
  have c:=λκ=>agK (ρ:=ρ) n 0 (r.length:Int) κ
  by_cases j:0<=n/\n<=(r.length:Int)
  .obtain⟨N,rfl⟩:∃N:Nat,n=(N:Int):=⟨n.toNat,by omega⟩
   have a:N<=r.length:=by omega
   have b:IntKind.i64.wrap (1+(N:Int))=((N+1:Nat):Int):=(dE (by omega) (by omega)).trans (by omega)
   have h:((N:Int)::r).drop (N+1)=r.drop N:=rfl;have d:=λβ κ=>arn (ρ:=ρ) β (r.drop N) (by grind) κ
   have e:isC ((N:Int)::r)=(r.drop N).all λx=>decide (x=0):=by simp[isC,a]
   rw[e];have k:List.take (r.length - N) (List.drop N r)=List.drop N r:=gy (by grind)
   have h9:(0:Int)<=(N:Int)+1:=by omega
   cases β <;>simp [go_sem,g,f,h9,c,j,a,b,h,d,k]
  .have e:isC (n::r)=false:=by
    simp only[isC]
    by_cases a:0<=n
    .grind
    .simp[a]
   have i:(decide (0<=n)&&decide (n<=(r.length:Int)))=false:=by
    by_cases a:0<=n
    .grind
    .simp[a]
   rw[e];simp only[i]at c
   cases β <;>simp [go_sem,g,f,c]
theorem ZH{a off len n:Nat}{xs es:J Int}{t:J Tr}(hn:Nat.min xs.length len=n)(h:off+n<=es.length){b:SV}(hb:qu b ⟨[((a,0),.own (tl eI es))],[],t⟩=some (tl eI xs)):nZ P 29 (.aH (.l a 0) [] off len) b ⟨[((a,0),.own (tl eI es))],[],t⟩=some (.d (.int .i64 (n:Int)),⟨(if n=0 then []else [((a,0),.own (tl eI (es.take off++xs.take n++es.drop (off+n))))])++[((a,0),.own (tl eI es))],[],t⟩):=by
 have:=Bg (P:=P) (t:=29) (u:=3) (by rfl) (by rfl) (r:=.l a 0) (p:=[]) (off:=off) (len:=len) (xs:=xs) (es:=es) (c:=.own (tl eI es)) hb (by simp[go_sem]) rfl (by rw[hn];exact h)
 have e:n<=xs.length:=hn▸Nat.min_le_left _ _;rw[this,hn]
 by_cases c:n=0
 .subst c
  simp
 .have d:¬xs.take n=[]:=λq=>by
   grind [yN]
  simp[go_sem,T.put,c,d]
theorem Sl(l:J Int)(hl:l.length<=500)(κ:KT ρ):cbK (call 258 [.sl β (List.map eI l)] []) κ=κ ([.own (tl eI (fL l))],[]):=by
 refine(aqn _ _ _ rfl).trans ?_
 have f:=λβ κ=>aro (ρ:=ρ) β l (by omega) κ
 by_cases g:isC l=true
 .obtain⟨v,r,rfl,m,h3,h4⟩:=HU g
  obtain⟨n,rfl⟩:∃n:Nat,v=(n:Int):=⟨v.toNat,by omega⟩
  have h5:n<=r.length:=by omega
  rw[xZ]at hl
  rw[g]at f
  have e:fL ((n:Int)::r)=r.take n:=by unfold fL;rw[if_pos g];rfl
  rw[e];simp only[eG,eI]at f
  have k:8 * (n:Int)<=281474976710656:=by omega
  have i:(n:Int)<=9223372036854775807:=by omega
  have j:IntKind.i64.wrap (1+(n:Int))=((n+1:Nat):Int):=(dE (by omega) (by omega)).trans (by omega)
  have b3:(0:Int)<=(n:Int)+1:=by omega
  have b4:1<=n+1:=by omega
  have b5:((n+1:Nat):Int)<=(r.length:Int)+1:=by omega
  have d:=λβ=>ZH (a:=3) (off:=0) (len:=n) (n:=n) (xs:=List.take n r) (es:=List.replicate n 0) (t:=[]) (b:=.clip β (List.map eI (List.take n r))) (by grind) (by simp) Uy
  simp only[List.take_take,Nat.min_self,jB,gG,fu,List.drop_replicate,rz,List.replicate_zero,gj]at d
  by_cases c:n=0
  .simp only[if_pos c,gG]at d
   cases β <;>simp [go_sem,f,k,i,j,b3,b4,b5,d,h5]
   all_goals (subst c;rfl)
  .simp only[if_neg c]at d
   cases β <;>simp [go_sem,f,k,i,j,b3,b4,b5,d,h5]
 .have e:fL l=[]:=by unfold fL;rw[if_neg g]
  have h:isC l=false:=by simpa using g
  rw[e];rw[h]at f
  cases β <;>simp [go_sem,f]
theorem So(n:Nat)(l:J Int)(hl:l.length+1<=n)(hn:n<=1000)(κ:KT ρ):cbK (call 257 [.int .i64 n,.sl β (List.map eI l)] []) κ=κ ([.d (.sl false (List.map eI (je n l)))],[]):=by
 refine(aqk _ _ _ rfl).trans ?_
 obtain⟨N,rfl⟩:∃N,n=N+1:=⟨n - 1,by omega⟩
 have g:0<=(N:Int)+1/\8 * ((N:Int)+1)<=281474976710656/\(N:Int)+1<=9223372036854775807:=by omega
 have b3:0<(N:Int)+1:=by omega
 have f:(je (N+1) l).length=N+1:=lU (by omega)
 have hs:(List.replicate (N+1) (0:Int)).set 0 (l.length:Int)=(l.length:Int)::List.replicate N 0:=rfl;have d:=ZH (a:=5) (off:=1) (len:=N) (n:=l.length) (xs:=l) (es:=(l.length:Int)::List.replicate N 0) (t:=[]) (b:=.d (.sl β (List.map eI l))) (ry (by omega)) (by simp;omega) F2
 have e:je (N+1) l=List.take 1 ((l.length:Int)::List.replicate N 0)++List.take l.length l++List.drop (1+l.length) ((l.length:Int)::List.replicate N 0):=by
  simp[je,Nat.add_comm 1,List.drop_replicate]
 rw[<-e]at d
 by_cases c:l.length=0
 .have i:=yL c
  subst i;simp only[yN,if_true,gG,eA,g9]at d hs f
  have h:(0::List.replicate N 0:J Int)=je (N+1) []:=by simp[je]
  rw[h]at d hs
  simp -implicitDefEqProofs (maxSteps:=1000000) [go_sem,g,b3,hs,d,f]
 .simp only[if_neg c]at d
  simp -implicitDefEqProofs (maxSteps:=1000000) [go_sem,g,b3,hs,d,f]
theorem UX(l:J Int):(fL l).length<=l.length:=by
 grind [fL]
theorem QF(l:J Int)(v:Int)(hl:l.length<=100)(κ:KT ρ):cbK (call 255 [.sl β (List.map eI l),.int .i64 v] []) κ=κ ([.d (.sl false (List.map eI ((Bz l v).getD []))),.d (.bool (Bz l v).isSome)],[]):=by
 refine(aqe _ _ _ rfl).trans ?_
 have c:=λβ κ=>aro (ρ:=ρ) β l (by omega) κ
 have g:=λβ κ=>Sl (ρ:=ρ) β l (by omega) κ
 have p:=UX l;have m:((fL l).length+1) * 8<=140737488355328/\(fL l).length<=9223372036854775806:=by omega
 by_cases a:isC l=true
 .obtain⟨k,o⟩:=jy a
  obtain⟨n,r,b,_⟩:=HU a;have h:l[0]? =some n:=by rw[b];rfl
  have f:l.headD 0=n:=by rw[b];rfl
  have j:IntKind.i64.wrap ((l.length:Int) - 1)=(l.length:Int) - 1:=dE (by omega) (by omega)
  rw[a]at c
  rw[f]at k
  by_cases d:n=(l.length:Int) - 1
  .have e:Bz l v=none:=by unfold Bz;rw[if_neg];rw[f];exact λq=>q.2 d
   rw[e];simp only[d]at h
   cases β <;>simp [go_sem,c,g,j,h]
  .have e:Bz l v=some (je l.length (fL l++[v])):=by unfold Bz;rw[if_pos ⟨a,by rw[f];exact d⟩]
   have h3:=λκ=>So (ρ:=ρ) false l.length (fL l++[v]) (by grind) (by omega) κ
   rw[e]
   cases β <;>simp [go_sem,c,g,j,h,d,m,h3]
 .have i:isC l=false:=by simpa using a
  have e:Bz l v=none:=by unfold Bz;rw[if_neg (λq=>a q.1)]
  rw[i]at c
  rw[e]
  cases β <;>simp [go_sem,c,g]
theorem OD:∀{l:J Int},D.bl (List.map eI l)=List.map eI l
 | []=>rfl
 |b::r=>by
  have:= @OD r
  simp only[eG,D.bl,this];rfl
theorem Sp{n:Nat}:∀{l:J Int},D.aQ n (List.map eI l)=true
 | []=>rfl
 |b::r=>by
  have:= @Sp n r
  simp only[eG,D.aQ,this];rfl
theorem OE(l:J Int)(hl:l.length<=100)(κ:KT ρ):cbK (call 264 [.sl β (List.map eI l)] []) κ=κ ([.d (.sl false (List.map eI (match qU l with |some p=>p.1 |none=>[]))),.d (.int .i64 (match qU l with |some p=>p.2 |none=>0)),.d (.bool (qU l).isSome)],[]):=by
 refine(aqD _ _ _ rfl).trans ?_
 have b:=λβ κ=>Sl (ρ:=ρ) β l (by omega) κ
 cases a:fL l with
 |nil=>
  have e:qU l=none:=by unfold qU;rw[a]
  rw[a]at b
  rw[e]
  cases β <;>simp [go_sem,b]
 |cons x r=>
  have d:isC l=true:=(tg (l:=l) (k:=0) (v:=x) (by rw[a];rfl)).2.2.2
  obtain⟨h,c⟩:=jy d;rw[a,xZ]at c
  have e:qU l=some (je l.length r,x):=by unfold qU;rw[a]
  rw[a]at b
  rw[e];have h3:=λβ κ=>So (ρ:=ρ) β l.length r (by omega) (by omega) κ
  have g:List.take r.length (List.map eI r)=List.map eI r:=gy (by simp)
  have f:¬(r.length:Int)+1=0:=by omega
  cases β <;>simp [go_sem,b,h3,g,f,OD,Sp]
end
def HV(v:cB)(st:J Int):J Ob:=[.box (.d (.agg [.sl true (List.map (fS true) v.aq),.sl true (List.map eI v.Lens),.sl true (List.map eI v.bB),.sl true (List.map (fS true) v.At),.int .i64 v.Self])),.box (.agg [.own (tl eI st),.d (.map 3)]),.box (.d (.ptr 1)),.map opsL,.box (.d (.fn (Fn.func 211) [] [])),.box (.d (.fn (Fn.func 212) [] [])),.box (.d (.fn (Fn.func 213) [] [])),.box (.d (.fn (Fn.func 214) [] [])),.box (.d (.fn (Fn.func 215) [] [])),.box (.d (.fn (Fn.func 216) [] []))]
def okI(y:Int):Prop:=-4611686018427387904<=y/\y<=4611686018427387904
section
variable{ρ:Type}
theorem L9{n:Int}:qS n=(decide (-1048576<=n)&&decide (n<=1048576)):=by
 grind [qS]
theorem oP{n:Int}:qS n=true↔ -1048576<=n/\n<=1048576:=by simp[L9]
theorem Ma(a b:Int)(g:Bool->U ρ):jJ [a,b] g=g (qS a&&qS b):=by
 grind [wG,L9]
theorem Mc(a:Int)(g:Bool->U ρ):jJ [a] g=g (qS a):=by
 grind [wG,L9]
theorem Md{a b n w:Int}(hw:qS a=true->qS b=true->w=n)(g:Int->Bool->U ρ):(if qS a=true->qS b=false then g 0 false else if qS w=false then g 0 false else g w true)=g (tZ a b n).1 (decide ((tZ a b n).2=0)):=by
 unfold tZ
 by_cases h:qS a=true <;>by_cases c:qS b=true <;>simp[h,c]
 obtain rfl:=hw h c
 by_cases h3:qS w=true <;>simp[h3]
theorem arp(a b:Int)(H:J Ob)(κ:KT ρ):cbK (call 188 [.int .i64 a,.int .i64 b] H) κ=κ ([.d (.int .i64 (tZ a b (a+b)).1),.d (.bool (decide ((tZ a b (a+b)).2=0)))],H):=by
 refine(adz _ _ _ rfl).trans ?_
 simp [go_sem,adA,Rp,Ma,Mc]
 exact Md (a:=a) (b:=b) (n:=a+b) (w:=IntKind.i64.wrap (a+b)) (λh c=>by grind [oP,dE]) (λx y=>κ ([.d (.int .i64 x),.d (.bool y)],H))
theorem aef(a b:Int)(H:J Ob)(κ:KT ρ):cbK (call 208 [.int .i64 a,.int .i64 b] H) κ=κ ([.d (.int .i64 (tZ a b (a - b)).1),.d (.bool (decide ((tZ a b (a - b)).2=0)))],H):=by
 refine(aoT _ _ _ rfl).trans ?_
 simp [go_sem,apM,Rp,Ma,Mc]
 exact Md (a:=a) (b:=b) (n:=a - b) (w:=IntKind.i64.wrap (a - b)) (λh c=>by grind [oP,dE]) (λx y=>κ ([.d (.int .i64 x),.d (.bool y)],H))
theorem arq(a b:Int)(H:J Ob)(κ:KT ρ):cbK (call 209 [.int .i64 a,.int .i64 b] H) κ=κ ([.d (.int .i64 (tZ a b (a * b)).1),.d (.bool (decide ((tZ a b (a * b)).2=0)))],H):=by
 refine(aoW _ _ _ rfl).trans ?_
 simp [go_sem,apP,Rp,Ma,Mc]
 exact Md (a:=a) (b:=b) (n:=a * b) (w:=IntKind.i64.wrap (a * b)) (λh c=>by
  have h:=oP.1 h;have c:=oP.1 c;have d:(a * b).natAbs<=1048576 * 1048576:=by rw[Int.natAbs_mul];exact Nat.mul_le_mul (by omega) (by omega)
  grind [dE]) (λx y=>κ ([.d (.int .i64 x),.d (.bool y)],H))
theorem QG{l:J Int}{n:Int}(g:Int->Int->U ρ):(if n<0 then g 0 8 else if(l.length:Int)<=n then g 0 8 else if 0<=n then l[n.toNat]?.bind λy=>g y 0 else none)=g (atK l n).1 (atK l n).2:=by
 grind [atK]
abbrev Ec(v:cB)(st:J Int)(κ:KT ρ)(r:Int×Int):U ρ:=κ ([.d (.int .i64 r.1),.d (.int .i64 r.2)],HV v st)
theorem agL(op n:Int)(hn:n<=9223372036854775807)(v:cB)(st:J Int)(g:e9 op=0)(κ:KT ρ):cbK (call 155 [.agg [.int .i64 op,.int .i64 n],.ptr 2,.ptr 0] (HV v st)) κ=Ec v st κ (qT ⟨op,n⟩ v):=by
 refine(ady _ _ _ rfl).trans ?_
 have c:op=1\/op=2\/op=4\/op=5\/op=6\/op=7\/op=8:=by rcases mM op with⟨h,q⟩ |⟨h,q⟩ |⟨h,q⟩ |⟨h,q⟩ <;>omega
 obtain rfl |rfl |rfl |rfl |rfl |rfl |rfl:=c
 .have hk:Qs n=(0,0)↔qS n=true:=by
   unfold Qs
   by_cases h:-1048576<=n/\n<=1048576
   .simp[h,oP]
   .simp[h,oP]
  simp [go_sem,HV,DI,Bc,DJ,pB,qT,Ec,hk]
  grind
 .simp [go_sem,HV,DI,Bc,DJ,pB,qT,Ec]
  unfold Ot
  by_cases h:n<0
  .grind
  .have a:0<=n:=by omega
   by_cases b:(v.aq.length:Int)<=n
   .grind
   .have h3:v.aq[n.toNat]? =some (v.aq[n.toNat]'(by omega)):=xG _
    simp only[if_neg h,if_neg b,if_pos a,h3,xS];generalize v.aq[n.toNat]=y
    cases y <;>simp[atK]
 .simp [go_sem,HV,DI,Bc,DJ,pB,qT,Ec]
  exact QG (λx y=>κ ([.d (.int .i64 x),.d (.int .i64 y)],HV v st))
 .simp [go_sem,HV,DI,Bc,DJ,pB,qT,Ec]
 .simp [go_sem,HV,DI,Bc,DJ,pB,qT,Ec]
  exact QG (λx y=>κ ([.d (.int .i64 x),.d (.int .i64 y)],HV v st))
 .simp [go_sem,HV,DI,Bc,DJ,pB,qT,Ec]
  by_cases h:n<0
  .grind
  .have a:0<=n:=by omega
   have e:Int.tdiv n 16=n / 16:=Int.tdiv_eq_ediv_of_nonneg a;have d:IntKind.i64.wrap (Int.tdiv n 16)=Int.tdiv n 16:=by rw[e];exact dE (by omega) (by omega)
   have f:0<=Int.tdiv n 16:=by omega
   by_cases b:(v.At.length:Int)<=Int.tdiv n 16
   .grind
   .have h3:v.At[(Int.tdiv n 16).toNat]? =some (v.At[(Int.tdiv n 16).toNat]'(by omega)):=xG _
    simp only[d,if_neg h,if_neg b,if_pos a,if_pos f,h3,xS];exact QG (λx y=>κ ([.d (.int .i64 x),.d (.int .i64 y)],HV v st))
 .simp [go_sem,HV,DI,Bc,DJ,pB,qT,Ec]
theorem agM(n k:Int)(v:cB)(st:J Int)(g:st.length<=12)(hk:st.getLast? =some k)(a:okI k)(κ:KT ρ):cbK (call 155 [.agg [.int .i64 3,.int .i64 n],.ptr 2,.ptr 0] (HV v st)) κ=Ec v st κ (HQ ⟨3,n⟩ k v):=by
 refine(ady _ _ _ rfl).trans ?_
 have d:st≠[]:=λe=>by grind
 have f:0<st.length:=List.length_pos_iff.2 d;have h:IntKind.i64.wrap ((st.length:Int) - 1)=((st.length - 1:Nat):Int):=HJ (m:=1) (by omega) (by omega)
 have c:st[st.length - 1]? =some k:=by rw[<-List.getLast?_eq_getElem?];exact hk
 have b:IntKind.i64.wrap (k - 1)=k - 1:=dE (by have:=a.1;omega) (by have:=a.2;omega)
 have i:(0:Int)<=((st.length - 1:Nat):Int):=by omega
 have j:((st.length - 1:Nat):Int)<(st.length:Int):=by omega
 simp [go_sem,HV,DI,Bc,DJ,HQ,Ec,h,c,b,i,j]
 grind [Ot]
theorem F5(a b n:Int):tZ a b n=(n,0)\/tZ a b n=(0,10):=by grind [tZ]
theorem H9(b:Bool)(H:J Ob)(κ:KT ρ):cbK (call 206 [.bool b] H) κ=κ ([.d (.int .i64 (if b=true then 1 else 0))],H):=by
 refine(aoN _ _ _ rfl).trans ?_
 cases b <;>simp [go_sem]
def HO(a b:Ob):J Ob:=[a,b,.box (.d (.ptr 1)),.map opsL,.box (.d (.fn (Fn.func 211) [] [])),.box (.d (.fn (Fn.func 212) [] [])),.box (.d (.fn (Fn.func 213) [] [])),.box (.d (.fn (Fn.func 214) [] [])),.box (.d (.fn (Fn.func 215) [] [])),.box (.d (.fn (Fn.func 216) [] []))]
theorem arr(c:Bool)(d:Int)(hx:9<=d/\d<=19)(a b:Int)(l:J Int)(h0:l[0]? =some a)(h1:l[l.length - 1]? =some b)(hl:l.length<=2)(h i:Ob)(κ:KT ρ):
  cbK (call 157 [.agg [.int .i64 (opP d),.int .i64 (opT d),.int .i64 (opM d),.fn (.func (Bf d)) [] (uJ d)],.sl c (List.map eI l)] (HO h i)) κ=κ ([.d (.int .i64 (td d a b).1),.d (.int .i64 (td d a b).2)],HO h i):=by
 have j:0<l.length:=(List.getElem?_eq_some_iff.1 h0).1;have e:IntKind.i64.wrap ((l.length:Int) - 1)=((l.length - 1:Nat):Int):=HJ (m:=1) (by omega) (by omega)
 have g:(0:Int)<=((l.length - 1:Nat):Int):=by omega
 have f:((l.length - 1:Nat):Int)<(l.length:Int):=by omega
 refine(amH _ _ _ rfl).trans ?_
 have k:d=9\/d=10\/d=11\/d=12\/d=13\/d=14\/d=15\/d=16\/d=17\/d=18\/d=19:=by omega
 obtain rfl |rfl |rfl |rfl |rfl |rfl |rfl |rfl |rfl |rfl |rfl:=k
 .simp [go_sem,opP,opT,opM,Bf,uJ,HO,td,Ae,e,h0,h1,g,f,aoK,H9]
 .simp [go_sem,opP,opT,opM,Bf,uJ,HO,td,e,h0,h1,g,f,aoQ,aef]
  grind [F5]
 .simp [go_sem,opP,opT,opM,Bf,uJ,HO,td,e,h0,h1,g,f,arp]
  grind [F5]
 .simp [go_sem,opP,opT,opM,Bf,uJ,HO,td,e,h0,h1,g,f,aef]
  grind [F5]
 .simp [go_sem,opP,opT,opM,Bf,uJ,HO,td,e,h0,h1,g,f,arq]
  grind [F5]
 .simp [go_sem,opP,opT,opM,Bf,uJ,HO,td,Ae,e,h0,h1,g,f,JA,ao1,H9]
 .simp [go_sem,opP,opT,opM,Bf,uJ,HO,td,Ae,e,h0,h1,g,f,JA,ao4,H9]
 .simp [go_sem,opP,opT,opM,Bf,uJ,HO,td,Ae,e,h0,h1,g,f,JA,ao7,H9]
 .simp [go_sem,opP,opT,opM,Bf,uJ,HO,td,Ae,e,h0,h1,g,f,JA,apa,H9]
 .simp [go_sem,opP,opT,opM,Bf,uJ,HO,td,Ae,e,h0,h1,g,f,JA,apd,H9]
  grind
 .simp [go_sem,opP,opT,opM,Bf,uJ,HO,td,Ae,e,h0,h1,g,f,JA,apg,H9]
  grind
abbrev Aj(v:cB)(κ:KT ρ)(p:Int×J Int):U ρ:=κ ([.d (.int .i64 p.1)],HV v p.2)
abbrev stp(b a:Int):J D:=[.ptr 1,.agg [.int .i64 b,.int .i64 a],.fn (.func 155) [] [.ptr 2,.ptr 0],.fn (.func 157) [] []]
def UY(m:Nat)(st:J Int)(r:Int×Int):Int×J Int:=if r.2≠0 then(r.2,st)else(if 12<st.length - m+1 then 12 else 0,st.take (st.length - m)++[r.1])
theorem Ia(x:Int):D.bl (uJ x)=uJ x:=by
 unfold uJ
 repeat (first |rfl |split)
theorem vop(d y:Int)(v:cB)(st:J Int)(x:st.length<=12)(m:Nat)(A:1<=m)(z:m<=2)(hP:opP d=(m:Int))(hx:9<=d/\d<=19)(hl:m<=st.length)(a b:Int)(h0:(List.drop (st.length - m) st)[0]? =some a)(h1:(List.drop (st.length - m) st)[(List.drop (st.length - m) st).length - 1]? =some b)(κ:KT ρ):
   cbK (call 187 (stp d y) (HV v st)) κ=Aj v κ (UY m st (td d a b)):=by
 refine(xq _ _ _ rfl).trans ?_
 have j:opH d=true:=lw.2 hx;have k:¬d=3:=by omega
 have u:¬d<=8:=by omega
 have s:¬(m:Int)<0:=by omega
 have w:¬(st.length:Int)<(m:Int):=by omega
 have q:IntKind.i64.wrap ((st.length:Int) - (m:Int))=((st.length - m:Nat):Int):=HJ hl (by omega)
 have l:(0:Int)<=((st.length - m:Nat):Int):=by omega
 have n:((st.length - m:Nat):Int)<=(st.length:Int):=by omega
 have q3:st.length<=1000+(st.length - m):=by omega
 have o:(st.length - m+1) * 8<=140737488355328:=by omega
 have t:st.length<=9223372036854775806+m:=by omega
 have i:st.length - (st.length - m)=m:=by omega
 have q4:m<=1000:=by omega
 have h:List.take m (List.drop (st.length - m) st)=List.drop (st.length - m) st:=gy (by simp;omega)
 have g:¬12<st.length - m+1:=by omega
 have f:¬(12:Int)<((st.length - m:Nat):Int)+1:=by omega
 have e:=λc κ=>arr (ρ:=ρ) c d hx a b _ h0 h1 (by simp;omega) .lock .lock κ
 simp only[HO,hP]at e
 generalize td d a b=r at e |-
 unfold UY
 by_cases p:r.2=0
 .simp [go_sem,HV,jj,j,hP,k,u,s,w,q,l,n,q3,o,t,i,h,q4,Ia,e,p,g,f,jo,Aj]
 .simp [go_sem,HV,jj,j,hP,k,u,s,w,q,l,n,q3,o,t,i,h,q4,Ia,e,p,g,f,jo,Aj]
theorem QH{x:aF}{v:cB}{st:J Int}(h:e9 x.Op=0):qV x v st=qT x v:=by
 grind [qV,e9]
theorem Ib{x:aF}{v:cB}{st:J Int}{n:Nat}(ht:e9 x.Op=(n:Int))(hn:n<=st.length):stepV x v st=UY n st (qV x v st):=by
 grind [stepV,UY]
theorem agN(d j:Int)(N:j<=9223372036854775807)(v:cB)(st:J Int)(D:st.length<=12)(M:∀k∈st,okI k)(κ:KT ρ):cbK (call 187 (stp d j) (HV v st)) κ=Aj v κ (stepV ⟨d,j⟩ v st):=by
 have B:∀n:Nat,n<=st.length->n<=2->IntKind.i64.wrap ((st.length:Int) - (n:Int))=((st.length - n:Nat):Int):=λn G R=>HJ G (by omega)
 obtain⟨h,q⟩ |⟨h,q⟩ |⟨h,q⟩ |⟨h,q⟩:=mM d
 ·-- none
  refine(xq _ _ _ rfl).trans ?_
  have m:¬opH d=true:=λP=>by grind [lw]
  have o:¬d=3:=by omega
  have f:stepV ⟨d,j⟩ v st=(3,st):=by unfold stepV;rw[h,if_pos (by omega)]
  rw[f]
  by_cases A:1<=d
  .have s:¬d<=8:=by omega
   simp [go_sem,HV,jj,m,o,A,s,Aj]
  .simp [go_sem,HV,jj,m,o,A,Aj]
 ·-- a leaf
  refine(xq _ _ _ rfl).trans ?_
  have m:¬opH d=true:=λP=>by grind [lw]
  have l:opH d=false:=by simpa using m
  have o:¬d=3:=by omega
  have A:1<=d:=q.1;have s:d<=8:=q.2.1;have C:=B 0 (eJ _) (by omega)
  have t:IntKind.i64.wrap ((st.length:Int))=(st.length:Int):=by simpa using C
  have c:=λκ=>agL (ρ:=ρ) d j N v st h κ
  simp only[HV,Ec]at c
  have y:¬(st.length:Int)<0:=by omega
  have w:(st.length+1) * 8<=140737488355328:=by omega
  have z:st.length<=9223372036854775806:=by omega
  rw[Ib (n:=0) h (eJ _),QH h];generalize qT ⟨d,j⟩ v=r at c |-
  unfold UY
  by_cases x:r.2=0
  .by_cases p:12<st.length+1
   .have g:(12:Int)<(st.length:Int)+1:=by omega
    simp [go_sem,HV,jj,m,l,o,A,s,t,c,jo,y,w,z,x,p,g,Aj]
   .have g:¬(12:Int)<(st.length:Int)+1:=by omega
    simp [go_sem,HV,jj,m,l,o,A,s,t,c,jo,y,w,z,x,p,g,Aj]
  .simp [go_sem,HV,jj,m,l,o,A,s,t,c,jo,y,w,z,x,Aj]
 .by_cases E:st.length<1
  .refine(xq _ _ _ rfl).trans ?_
   have f:stepV ⟨d,j⟩ v st=(4,st):=by unfold stepV;rw[h,if_neg (by omega),if_pos (by omega)]
   have i:(st.length:Int)<1:=by omega
   rw[f]
   obtain q |q:=q
   .simp [go_sem,HV,jj,q,i,Aj]
   .have m:opH d=true:=lw.2 (by omega)
    have o:¬d=3:=by omega
    have s:¬d<=8:=by omega
    have hP:opP d=1:=by rw[vA (by omega),if_pos (by omega)]
    simp [go_sem,HV,jj,m,hP,o,s,i,Aj]
  have O:st≠[]:=λe=>by grind
  obtain⟨k,hk⟩:∃k,st.getLast? =some k:=by cases e:st.getLast? with |none=>grind |some k=>exact⟨k,rfl⟩
  rw[Ib (n:=1) h (by omega)]
  obtain q |q:=q
  .refine(xq _ _ _ rfl).trans ?_
   subst q;have y:¬(st.length:Int)<1:=by omega
   have C:IntKind.i64.wrap ((st.length:Int) - 1)=((st.length - 1:Nat):Int):=B 1 (by omega) (by omega)
   have I:(0:Int)<=((st.length - 1:Nat):Int):=by omega
   have K:((st.length - 1:Nat):Int)<=(st.length:Int):=by omega
   have q3:st.length<=1000+(st.length - 1):=by omega
   have w:(st.length - 1+1) * 8<=140737488355328:=by omega
   have z:st.length<=9223372036854775806+1:=by omega
   have b3:st.length<=9223372036854775807:=by omega
   have H:st.length - (st.length - 1)=1:=by omega
   have l:opH 3=false:=rfl;have u:qV ⟨3,j⟩ v st=HQ ⟨3,j⟩ k v:=by unfold qV;rw[if_pos rfl,hk]
   have c:=λκ=>agM (ρ:=ρ) j k v st D hk (M k (List.mem_of_getLast? hk)) κ
   simp only[HV,Ec]at c
   rw[u];generalize HQ ⟨3,j⟩ k v=r at c |-
   unfold UY;have p:¬12<st.length - 1+1:=by omega
   have g:¬(12:Int)<((st.length - 1:Nat):Int)+1:=by omega
   by_cases x:r.2=0
   .simp [go_sem,HV,jj,l,C,I,K,q3,c,jo,y,w,z,b3,H,x,p,g,Aj]
   .simp [go_sem,HV,jj,l,C,I,K,q3,c,jo,y,w,z,b3,H,x,Aj]
  .have F:List.drop (st.length - 1) st=[k]:=by
    obtain⟨S,e⟩:=List.getLast?_eq_some_iff.1 hk;rw[e];simp
   have G:qV ⟨d,j⟩ v st=td d k k:=by
    unfold qV;rw[if_neg (by grind),if_neg (by grind),show(e9 d).toNat=1 by rw[h];rfl,F]
    rfl
   grind [vop,vA]
 .have m:opH d=true:=lw.2 (by omega)
  have o:¬d=3:=by omega
  have s:¬d<=8:=by omega
  have hP:opP d=2:=by rw[vA (by omega),if_neg (by omega)]
  by_cases E:st.length<2
  .refine(xq _ _ _ rfl).trans ?_
   have f:stepV ⟨d,j⟩ v st=(4,st):=by unfold stepV;rw[h,if_neg (by omega),if_pos (by omega)]
   have i:(st.length:Int)<2:=by omega
   rw[f]
   simp [go_sem,HV,jj,m,hP,o,s,i,Aj]
  rw[Ib (n:=2) h (by omega)]
  obtain⟨a,b,L⟩:∃a b,List.drop (st.length - 2) st=[a,b]:=by
   have Q:(List.drop (st.length - 2) st).length=2:=by simp;omega
   exact match List.drop (st.length - 2) st,Q with | [a,b],_=>⟨a,b,rfl⟩
  grind [qV,vop]
end
structure EnvOK(v:cB):Prop where
 vars:∀l∈v.aq,∀y∈l,okI y
 lens:∀y∈v.Lens,okI y
 locs:∀y∈v.bB,okI y
 cz:∀l∈v.At,∀y∈l,okI y
 self:okI v.Self
theorem CR:okI 0:=⟨by decide,by decide⟩
theorem Sq{n:Int}(h:qS n=true):okI n:=by have:=oP.1 h;exact⟨by omega,by omega⟩
theorem Me{l:J Int}(h:∀y∈l,okI y)(n:Int):okI (atK l n).1:=by
 grind [atK,CR]
theorem OF{l:J (J Int)}{n:Int}{r:J Int}(h:Ot l n=some r):r∈l:=by
 grind [Ot]
theorem ZI{v:cB}(hv:EnvOK v)(x:aF):okI (qT x v).1:=by
 unfold qT;split
 .grind [Sq,CR]
 split
 .cases e:Ot v.aq x.N with
  |none=>exact CR
  |some l=>exact Me (hv.vars l (OF e)) 0
 split
 .exact Me hv.locs _
 split
 .exact hv.self
 split
 .exact Me hv.lens _
 split
 .split
  .cases e:v.At[(Int.tdiv x.N 16).toNat]? with
   |none=>exact CR
   |some l=>exact Me (hv.cz l (yS e)) _
  .exact CR
 .exact CR
theorem ZJ{v:cB}(hv:EnvOK v)(x:aF)(k:Int):okI (HQ x k v).1:=by
 unfold HQ
 cases e:Ot v.aq x.N with
 |none=>exact CR
 |some l=>
  simp only
  split
  .cases a:l[(k - 1).toNat]? with
   |none=>exact CR
   |some y=>exact hv.vars l (OF e) y (yS a)
  .exact CR
theorem aby(a b n:Int):okI (tZ a b n).1:=by
 grind [tZ,Sq,CR]
theorem abz(b:Bool):okI (Ae b).1:=by cases b <;>exact⟨by decide,by decide⟩
theorem abA(op a b:Int):okI (td op a b).1:=by
 unfold td
 repeat (first |exact abz _ |exact aby _ _ _ |split)
theorem ZK{v:cB}(hv:EnvOK v)(x:aF)(st:J Int):okI (qV x v st).1:=by
 grind [qV,CR,ZJ,ZI,abA]
theorem ZL{v:cB}(hv:EnvOK v)(x:aF){st:J Int}(h:∀k∈st,okI k):∀k∈(stepV x v st).2,okI k:=by
 grind [stepV,ZK]
theorem JR{x:aF}{v:cB}{st:J Int}(h:st.length<=12)(h0:(stepV x v st).1=0):(stepV x v st).2.length<=12/\0<(stepV x v st).2.length:=by
 grind [stepV]
theorem OG{v:cB}:∀{e:J aF} {st:J Int},st.length<=12->(qW v e st).1=0->(qW v e st).2.length<=12/\(e≠[]->0<(qW v e st).2.length)
 | [],st,h,_=>⟨h,λq=>absurd rfl q⟩
 |x::r,st,h,a=>by
  unfold qW at a |-
  by_cases b:(stepV x v st).1=0
  .rw[if_pos b]at a |-
   have c:=JR h b
   have:=OG c.1 a
   refine⟨this.1,λ_=> ?_⟩
   cases r with
   |cons y r=>grind
   |nil=>grind [qW]
  grind
section
variable{ρ:Type}
def ES(e:J aF)(v:cB)(i:Nat)(st:J Int):St:=⟨[(0,.d (.ptr (1))),(2,.d (.fn (Fn.func 155) [] [.ptr (2),.ptr (0)])),(3,.d (.fn (Fn.func 157) [] [])),(25,.d (.sl true (List.map eN e))),(26,.d (.int .i64 e.length)),(27,.d (.int .i64 i))],[],HV v st⟩
def EX(e:J aF)(v:cB)(st:J Int):St:=⟨[(0,.d (.ptr (1))),(2,.d (.fn (Fn.func 155) [] [.ptr (2),.ptr (0)])),(3,.d (.fn (Fn.func 157) [] [])),(25,.d (.sl true (List.map eN e))),(26,.d (.int .i64 e.length)),(27,.d (.int .i64 e.length)),(28,.d (.bool false))],[],HV v st⟩
def ER(v:cB)(p:Int×J Int):Ex×St:=(.ret,⟨[(8,.d (.int .i64 0)),(9,.d (.int .i64 p.1))],[],HV v p.2⟩)
theorem abB(e:J aF)(v:cB)(st:J Int)(a:st.length<=12)(g:∀k∈st,okI k)(i:Nat)(hi:i<e.length)(f:e[i].N<=9223372036854775807)(d:e.length<=24)(κ:Ex×St->U ρ):dI P hints jI Hy 0 (ES e v i st) κ=
  if(stepV e[i] v st).1=0 then dI P hints jI Hy 0 (ES e v (i+1) (stepV e[i] v st).2) κ else κ (ER v (stepV e[i] v st)):=by
 refine(ap LK.2).trans ?_
 have b:IntKind.i64.wrap ((i:Int)+1)=(i:Int)+1:=dE (by omega) (by omega)
 have Q_:=λκ=>agN (ρ:=ρ) e[i].Op e[i].N f v st a g κ
 simp only[stp,Aj,HV]at Q_
 by_cases c:(stepV e[i] v st).1=0
 .simp [go_sem,ES,HV,ER,hi,b,Q_,c]
 .simp [go_sem,ES,HV,ER,hi,b,Q_,c]
theorem abC(e:J aF)(v:cB)(st:J Int)(κ:Ex×St->U ρ):dI P hints jI Hy 0 (ES e v e.length st) κ=κ (.exit 1,EX e v st):=by
 refine(ap LK.2).trans ?_
 simp [go_sem,ES,EX,HV]
theorem abD(e:J aF)(v:cB)(hv:EnvOK v)(c:∀x∈e,x.N<=9223372036854775807)(a:e.length<=24)(κ:Ex×St->U ρ):∀(n i:Nat) (st:J Int),i+n=e.length->st.length<=12->(∀k∈st,okI k)->dI P hints jI Hy 0 (ES e v i st) κ=
  if(qW v (e.drop i) st).1=0 then κ (.exit 1,EX e v (qW v (e.drop i) st).2)else κ (ER v (qW v (e.drop i) st)):=by
 intro n
 induction n with
 |zero=>
  grind [abC,qW]
 |succ n b=>
  grind [abB,xW,qW,JR,ZL]
set_option maxHeartbeats 8000000 in
theorem agO(e:J aF)(v:cB)(hv:EnvOK v)(m:∀x∈e,x.N<=9223372036854775807)(κ:KT ρ):
  cbK (call 118 [.sl true (List.map eN e),.agg [.sl true (List.map (fS true) v.aq),.sl true (List.map eI v.Lens),.sl true (List.map eI v.bB),.sl true (List.map (fS true) v.At),.int .i64 v.Self]] []) κ=κ ([.d (.int .i64 (iR e v).1),.d (.int .i64 (iR e v).2)],[]):=by
 refine(alo _ _ _ rfl).trans ?_
 unfold iR
 by_cases f:24<e.length
 .have b:(24:Int)<(e.length:Int):=by omega
  rw[if_pos f]
  simp [go_sem,xo,xp,xr,b]
 rw[if_neg f];have b:¬(24:Int)<(e.length:Int):=by omega
 by_cases d:e=[]
 .rw[if_pos d]
  subst d
  simp [go_sem,xo,xp,xr]
 rw[if_neg d];have g:=λκ=>abD (ρ:=ρ) e v hv m (by omega) κ _ 0 [] (fu _) (by simp) (by simp)
 simp only[eA,jg,jb,ES,EX,ER,HV]at g
 by_cases h:(qW v e []).1=0
 .have i:=OG (v:=v) (e:=e) (st:=[]) (by simp) h
  have k:=i.2 d
  by_cases j:1<(qW v e []).2.length
  .have c:(1:Int)<((qW v e []).2.length:Int):=by omega
   simp [go_sem,xo,xp,xr,b,d,g,h,j,c]
  .have c:¬(1:Int)<((qW v e []).2.length:Int):=by omega
   obtain⟨a,l⟩:∃a,(qW v e []).2=[a]:=List.length_eq_one_iff.1 (by omega)
   simp [go_sem,xo,xp,xr,b,d,g,h,j,c,l]
 .simp [go_sem,xo,xp,xr,b,d,g,h]
end
@[go_sem] theorem ars{l:J D}:D.sv1 (.bR l)=some (.d (.bR l)):=rfl
def tt(A:J (J Int)):J T:=A.map λl=>.own (tl eI l)
theorem Mf:tt []=[]:=rfl
theorem art{A:J (J Int)}:dY 1 (tt A)=true:=by simp[tt,dY,T.nc]
theorem abE{A:J (J Int)}:List.take A.length (tt A)=tt A:=gy (by simp[tt])
theorem abF{A:J (J Int)}{l:J Int}:tt A++[.own (tl eI l)]=tt (A++[l]):=by grind [tt]
theorem agP{A:J (J Int)}:(tt A).length=A.length:=by simp[tt]
theorem aru{A:J (J Int)}{p:Nat}(h:p<(tt A).length):(tt A)[p]=.own (tl eI (A[p]'(by simpa [tt]using h))):=by simp[tt]
theorem agQ{A:J (J Int)}{i:Nat}{l:J Int}:(tt A).set i (.own (tl eI l))=tt (A.set i l):=by simp[tt,BT]
theorem agR{A:J (J Int)}{b:Bool}:T.aZ b (tt A)=some (List.map (fS b) A):=by
 induction A with
 |nil=>rfl
 |cons a A c=>
  have h:T.cR b (.own (tl eI a))=some (fS b a):=by simp [go_sem]
  grind [tt,T.aZ]
attribute [go_sem] agR art abE aru abF agP agQ
section
variable{ρ:Type}(m:ae)(x:bQ)(is:J aE)(rs:J bC)(i:Nat)(s:J Int)
def WD:J D:=[.sl true (List.map dB m.aa),.sl true (List.map dJ m.aq),.sl true (List.map dP m.ah),.sl true (List.map (dL true) m.ak),.sl true (List.map (fw true) m.aL),.sl true (List.map eI x.aq),.sl true (List.map eI x.ah),.sl true (List.map eI x.Insts),.int .i64 x.Cells,.sl true (List.map eI x.Lo),.sl true (List.map eI x.Hi),.sl true (List.map ij is),.sl true (List.map Be rs)]
def TD:D:=.bR [.bR (WD m x is rs),.int .i64 i,.sl true (List.map eI s)]
def qY(V:J (J Int))(L:J Int)(A:J (J Int)):(Nat×Nat)×T:=((3,0),.own [.agg [.own (tl (fS true) V),.own (tl eI L),.own [],.own (tt A),.d (.int .i64 0)]])
def qZ:(Nat×Nat)×T:=((2,0),.own [.agg [.own [],.own [],.own [],.own [],.d (.int .i64 0)]])
def rc(r:J (Nat×SV)):J (Nat×SV):=(0,.d (TD m x is rs i s))::(2,.loc (.l 2 0) [] 0 0)::(3,.loc (.l 3 0) [] 0 0)::r
def Mg(k:Nat)(V:J (J Int)):St:=⟨rc m x is rs i s [(22,.d (.sl true (List.map dJ m.aq))),(23,.d (.int .i64 m.aq.length)),(24,.d (.int .i64 k))],[qZ,qY V [] []],[]⟩
def Mh(k:Nat)(V:J (J Int))(L:J Int):St:=⟨rc m x is rs i s [(71,.d (.sl true (List.map eI x.ah))),(72,.d (.int .i64 x.ah.length)),(73,.d (.int .i64 k))],[qZ,qY V L []],[]⟩
def Mj(k:Nat)(V:J (J Int))(L:J Int)(A:J (J Int)):St:=⟨rc m x is rs i s [(97,.d (.sl true (List.map (dL true) m.ak))),(98,.d (.int .i64 m.ak.length)),(99,.d (.int .i64 k))],[qZ,qY V L A],[]⟩
def Ml(k:Nat)(V:J (J Int))(L:J Int)(A:J (J Int)):St:=⟨rc m x is rs i s [(118,.d (.sl true (List.map ij is))),(119,.d (.int .i64 is.length)),(120,.d (.int .i64 k))],[qZ,qY V L A],[]⟩
theorem ZM(V:J (J Int))(L:J Int)(k:Nat)(hk:k<x.ah.length)(hl:x.ah.length<=1000)(a:Nat)(ha:x.ah[k]=(a:Int))(hs:a<s.length)(e:L.length<=1000)(κ:Ex×St->U ρ):
  dI P hints eE kO 1 (Mh m x is rs i s k V L) κ=dI P hints eE kO 1 (Mh m x is rs i s (k+1) V (L++[s[a]])) κ:=by
 refine(ap XX.2).trans ?_
 have b:IntKind.i64.wrap ((k:Int)+1)=(k:Int)+1:=dE (by omega) (by omega)
 have d:(L.length+1) * 8<=140737488355328:=by omega
 have c:L.length<=9223372036854775806:=by omega
 simp [go_sem,Mh,rc,qY,qZ,TD,WD,hk,b,ha,hs,d,c]
theorem ZN(V:J (J Int))(L:J Int)(A:J (J Int))(k:Nat)(hk:k<m.ak.length)(hl:m.ak.length<=1000)(h0:0<=m.ak[k].bF)(h1:m.ak[k].bF<=1000)(d:A.length<=1000)(κ:Ex×St->U ρ):
  dI P hints eE kO 2 (Mj m x is rs i s k V L A) κ=dI P hints eE kO 2 (Mj m x is rs i s (k+1) V L (A++[List.replicate m.ak[k].bF.toNat 0])) κ:=by
 refine(ap X0.2).trans ?_
 have a:IntKind.i64.wrap ((k:Int)+1)=(k:Int)+1:=dE (by omega) (by omega)
 have c:(A.length+1) * 24<=140737488355328:=by omega
 have b:A.length<=9223372036854775806:=by omega
 have b3:8 * m.ak[k].bF<=281474976710656:=by omega
 have b4:m.ak[k].bF<=9223372036854775807:=by omega
 simp [go_sem,Mj,rc,qY,qZ,TD,WD,hk,a,h0,h1,c,b,b3,b4]
theorem ZO(V:J (J Int))(L:J Int)(A:J (J Int))(k:Nat)(hk:k<is.length)(hl:is.length<=1000)(p:Nat)(hp:is[k].cw=(p:Int))(b:p<A.length)(d:k<x.Insts.length)(a:Nat)(ha:x.Insts[k]=(a:Int))(hs:a<s.length)(q:Nat)(j:s[a]=(q:Int))(c:q<A[p].length)(h:0<=A[p][q])(f:A[p][q]<=1000)(κ:Ex×St->U ρ):
  dI P hints eE kO 3 (Ml m x is rs i s k V L A) κ=dI P hints eE kO 3 (Ml m x is rs i s (k+1) V L (A.set p (A[p].set q (A[p][q]+1)))) κ:=by
 refine(ap X1.2).trans ?_
 have g:IntKind.i64.wrap ((k:Int)+1)=(k:Int)+1:=dE (by omega) (by omega)
 have e:IntKind.i64.wrap (A[p][q]+1)=A[p][q]+1:=dE (by omega) (by omega)
 simp [go_sem,Ml,rc,qY,qZ,TD,WD,hk,g,hp,b,d,ha,hs,j,c,e]
theorem ZP(c:m.aa.length<=1000)(V:J (J Int))(k:Nat)(hk:k<m.aq.length)(hl:m.aq.length<=1000)(hx:k<x.aq.length)(a:Nat)(ha:x.aq[k]=(a:Int))(n:Nat)(hn:dN m m.aq[k]=(n:Int))(hs:a+n<=s.length)(f:s.length<=1000)(p:V.length<=1000)(κ:Ex×St->U ρ):
  dI P hints eE kO 0 (Mg m x is rs i s k V) κ=dI P hints eE kO 0 (Mg m x is rs i s (k+1) (V++[lC s a n])) κ:=by
 refine(ap XW.2).trans ?_
 have l:IntKind.i64.wrap ((k:Int)+1)=(k:Int)+1:=dE (by omega) (by omega)
 have j:(V.length+1) * 24<=140737488355328:=by omega
 have o:V.length<=9223372036854775806:=by omega
 have b:∀g:Int->U ρ,jK m.aq[k] m.aa g=g (n:Int):=λg=>by rw[Bx c,<-hn];rfl
 have d:IntKind.i64.wrap ((a:Int)+(n:Int))=(a:Int)+(n:Int):=dE (by omega) (by omega)
 have e:(0:Int)<=(a:Int)+(n:Int):=by omega
 have h:a<=((a:Int)+(n:Int)).toNat:=by omega
 have q3:(a:Int)+(n:Int)<=(s.length:Int):=by omega
 have q4:((a:Int)+(n:Int)).toNat - a=n:=by omega
 have q5:¬((a:Int)+(n:Int)<(a:Int)):=by omega
 simp [go_sem,Mg,rc,qY,qZ,TD,WD,hk,l,hx,ha,b,d,e,h,q3,q4,q5,j,o,lC]
def OH(V:J (J Int)):St:=⟨rc m x is rs i s [(22,.d (.sl true (List.map dJ m.aq))),(23,.d (.int .i64 m.aq.length)),(24,.d (.int .i64 m.aq.length)),(25,.d (.bool false))],[qZ,qY V [] []],[]⟩
def OI(V:J (J Int))(L:J Int):St:=⟨rc m x is rs i s [(71,.d (.sl true (List.map eI x.ah))),(72,.d (.int .i64 x.ah.length)),(73,.d (.int .i64 x.ah.length)),(74,.d (.bool false))],[qZ,qY V L []],[]⟩
def OJ(V:J (J Int))(L:J Int)(A:J (J Int)):St:=⟨rc m x is rs i s [(97,.d (.sl true (List.map (dL true) m.ak))),(98,.d (.int .i64 m.ak.length)),(99,.d (.int .i64 m.ak.length)),(100,.d (.bool false))],[qZ,qY V L A],[]⟩
def OK(V:J (J Int))(L:J Int)(A:J (J Int)):St:=⟨rc m x is rs i s [(118,.d (.sl true (List.map ij is))),(119,.d (.int .i64 is.length)),(120,.d (.int .i64 is.length)),(121,.d (.bool false))],[qZ,qY V L A],[]⟩
theorem ZQ(V:J (J Int))(κ:Ex×St->U ρ):dI P hints eE kO 0 (Mg m x is rs i s m.aq.length V) κ=κ (.exit 0,OH m x is rs i s V):=by
 refine(ap XW.2).trans ?_
 simp [go_sem,Mg,OH,rc,qY,qZ,TD]
theorem ZR(V:J (J Int))(L:J Int)(κ:Ex×St->U ρ):dI P hints eE kO 1 (Mh m x is rs i s x.ah.length V L) κ=κ (.exit 2,OI m x is rs i s V L):=by
 refine(ap XX.2).trans ?_
 simp [go_sem,Mh,OI,rc,qY,qZ,TD]
theorem ZS(V:J (J Int))(L:J Int)(A:J (J Int))(κ:Ex×St->U ρ):dI P hints eE kO 2 (Mj m x is rs i s m.ak.length V L A) κ=κ (.exit 4,OJ m x is rs i s V L A):=by
 refine(ap X0.2).trans ?_
 simp [go_sem,Mj,OJ,rc,qY,qZ,TD]
theorem ZT(V:J (J Int))(L:J Int)(A:J (J Int))(κ:Ex×St->U ρ):dI P hints eE kO 3 (Ml m x is rs i s is.length V L A) κ=κ (.exit 6,OK m x is rs i s V L A):=by
 refine(ap X1.2).trans ?_
 simp [go_sem,Ml,OK,rc,qY,qZ,TD]
theorem arv(V:J (J Int))(L:J Int)(A e:J (J Int))
  (h0:∀κ:Ex×St->U ρ,dI P hints eE kO 0 (Mg m x is rs i s 0 []) κ=κ (.exit 0,OH m x is rs i s V))
  (h1:∀κ:Ex×St->U ρ,dI P hints eE kO 1 (Mh m x is rs i s 0 V []) κ=κ (.exit 2,OI m x is rs i s V L))
  (h2:∀κ:Ex×St->U ρ,dI P hints eE kO 2 (Mj m x is rs i s 0 V L []) κ=κ (.exit 4,OJ m x is rs i s V L A))
  (h3:∀κ:Ex×St->U ρ,dI P hints eE kO 3 (Ml m x is rs i s 0 V L A) κ=κ (.exit 6,OK m x is rs i s V L e)) 
  (hi:i<is.length) (p:Nat) (hp:is[i].cw=(p:Int)) (b:p<m.ak.length) (c:i<x.Insts.length) (a:Nat) (ha:x.Insts[i]=(a:Int)) (hs:a+1+m.ak[p].aq.length<=s.length) (d:s.length<=1000) (κ:KT ρ):
  cbK (call 119 [TD m x is rs i s] []) κ=κ ([.d (afI true ⟨V,L,lC s (a+1) m.ak[p].aq.length,e,is[i].Elem⟩)],[]):=by
 simp only[Mg,OH,rc,qY,qZ,TD,WD,jb,Mf,eA]at h0
 simp only[Mh,OI,rc,qY,qZ,TD,WD,jb,Mf,eA]at h1
 simp only[Mj,OJ,rc,qY,qZ,TD,WD,jb,Mf,eA]at h2
 simp only[Ml,OK,rc,qY,qZ,TD,WD,jb,Mf,eA]at h3
 simp only[TD,WD]
 refine(alq _ _ _ rfl).trans ?_
 have h:IntKind.i64.wrap ((a:Int)+1)=(a:Int)+1:=dE (by omega) (by omega)
 have f:IntKind.i64.wrap ((a:Int)+1+(m.ak[p].aq.length:Int))=(a:Int)+1+(m.ak[p].aq.length:Int):=dE (by omega) (by omega)
 have k:(0:Int)<=(a:Int)+1:=by omega
 have g:(0:Int)<=(a:Int)+1+(m.ak[p].aq.length:Int):=by omega
 have j:a+1<=((a:Int)+1+(m.ak[p].aq.length:Int)).toNat:=by omega
 have q3:(a:Int)+1+(m.ak[p].aq.length:Int)<=(s.length:Int):=by omega
 have q4:((a:Int)+1+(m.ak[p].aq.length:Int)).toNat - (a+1)=m.ak[p].aq.length:=by omega
 have q5:¬((a:Int)+1+(m.ak[p].aq.length:Int)<(a:Int)+1):=by omega
 simp [go_sem,h0,h1,h2,h3,hi,hp,b,c,ha,hs,d,h,f,k,g,j,q3,q4,q5,lC]
end
end
section
theorem DV{a:Type}{F:Nat->a}{n:Nat}{z:a}(h:∀k,k<n->F k=F (k+1))(hn:F n=z):F 0=z:=by
 have:∀d k,k+d=n->F k=z:=λd=>by
  induction d with
  |zero=>grind
  |succ d b=>grind
 simp_all
theorem take_snoc{a:Type}{l:J a}{k:Nat}(h:k<l.length):l.take (k+1)=l.take k++[l[k]]:=by grind [List.take_add_one]
variable{m:ae}{s:J Int}
def mR(m:ae)(s:J Int)(k:Nat):J (J Int):=m.ak.zipIdx.map λ(p,j)=>(List.range p.bF.toNat).map λ(l:Nat)=>(((((dA m).zip (iAt m)).take k).countP λ(x,a)=>decide (x.cw=(j:Int))&&decide (s.getD a 0=(l:Int)):Nat):Int)
theorem agS:mR m s 0=m.ak.map λp=>List.replicate p.bF.toNat 0:=by
 refine List.ext_getElem (by simp[mR]) λj a b=> ?_
 simp only[mR,List.getElem_map,List.getElem_zipIdx];refine List.ext_getElem (by simp) λl h3 h4=> ?_
 simp
theorem ZU{n:Nat}(h:((dA m).zip (iAt m)).length<=n):mR m s n=(m.ak.zipIdx).map λ(p,i)=>aa2 m s i p:=by
 simp only[mR,gy h];rfl
theorem ZV{k:Nat}:(mR m s k).length=m.ak.length:=by simp[mR]
theorem Mm{k j:Nat}(h:j<(mR m s k).length)(b:j<m.ak.length):(mR m s k)[j]=(List.range m.ak[j].bF.toNat).map λ(l:Nat)=>(((((dA m).zip (iAt m)).take k).countP λ(x,a)=>decide (x.cw=(j:Int))&&decide (s.getD a 0=(l:Int)):Nat):Int):=by
 simp[mR]
theorem UZ{k:Nat}(hk:k<((dA m).zip (iAt m)).length){p:Nat}(hp:((dA m).zip (iAt m))[k].1.cw=(p:Int))(c:p<m.ak.length){q:Nat}(n:s.getD ((dA m).zip (iAt m))[k].2 0=(q:Int))(b:p<(mR m s k).length)(h:q<(mR m s k)[p].length):
  mR m s (k+1)=(mR m s k).set p ((mR m s k)[p].set q ((mR m s k)[p][q]+1)):=by
 refine List.ext_getElem (by simp[mR]) λj d i=> ?_
 have g:j<m.ak.length:=by simpa [mR]using d
 rw[Mm d g,List.getElem_set]
 have f:∀l:Nat,(((dA m).zip (iAt m)).take (k+1)).countP (λ(x,a)=>decide (x.cw=(j:Int))&&decide (s.getD a 0=(l:Int)))=(((dA m).zip (iAt m)).take k).countP (λ(x,a)=>decide (x.cw=(j:Int))&&decide (s.getD a 0=(l:Int)))+if p=j/\q=l then 1 else 0:=λl=>by
  grind [take_snoc]
 split
 .rename_i e
  subst e;refine List.ext_getElem (by simp[mR]) λl h3 h4=> ?_
  simp only[List.getElem_map,List.getElem_range,List.getElem_set,f,Mm b c]
  grind
 simp_all [mR]
section
variable{ρ:Type}
theorem arw(h:bq m)(hs:inB m s)(rs:J bC)(i:Nat)(hi:i<(dA m).length)(κ:KT ρ):cbK (call 119 [TD m (dW m) (dA m) rs i s] []) κ=κ ([.d (afI true (j8 m s i))],[]):=by
 have r:=h.may;have T:=hs.1;have hb:=iN r;have X:=qX r;have G:(iAt m).length=(dA m).length:=by simp[iAt,jx,ku]
 have z:(vAt m).length=m.aq.length:=by simp[vAt,jx,ef]
 have ag:(cAt m).length=m.ah.length:=by simp[cAt,jx,eF]
 have hv:=r.vn;have hc:=r.cn;have N:=r.pn
 -- the instances
 have g:∀k (hk:k<(dA m).length),∃p a q:Nat,(dA m)[k].cw=(p:Int)/\(iAt m)[k]? =some a/\a<s.length/\s.getD a 0=(q:Int)/\∃N:p<m.ak.length,q<m.ak[p].bF.toNat/\eQ m (dA m)[k]=m.ak[p]/\a+1+m.ak[p].aq.length<=s.length:=λk hk=>by
  have B:(dA m)[k]? =some (dA m)[k]:=xG hk;obtain⟨a,u,_,Y,D,_⟩:=UU B;obtain⟨j,p,hj,K,t,_⟩:=lT (eO hk);have I:=List.getElem?_eq_some_iff.1 hj;obtain⟨C,Q⟩:=I;have b:a<s.length:=by omega
  have f:s[a]? =some s[a]:=xG b;have R:=hs.2 a _ _ f D;have M:s.getD a 0=s[a]:=by simp[List.getD,f]
  simp only at R
  refine⟨j,a,s[a].toNat,K,u,b,by rw[M];omega,C,?_,?_,?_⟩
  .grind
  .rw[t,Q]
  grind
 have zl:((dA m).zip (iAt m)).length=(dA m).length:=by simp[G]
 have h0:∀κ:Ex×St->U ρ,dI P hints eE kO 0 (Mg m (dW m) (dA m) rs i s 0 []) κ=κ (.exit 0,OH m (dW m) (dA m) rs i s ((m.aq.zip (vAt m)).map λ(v,a)=>lC s a (dN m v).toNat)):=λκ=>by
  refine DV (F:=λk=>dI P hints eE kO 0 (Mg m (dW m) (dA m) rs i s k (((m.aq.zip (vAt m)).take k).map λ(v,a)=>lC s a (dN m v).toNat)) κ) (n:=m.aq.length) (λk hk=> ?_) ?_
  .have B:m.aq[k]? =some m.aq[k]:=xG hk
   obtain⟨a,u,ab,_⟩:=abp B;have E:=List.getElem?_eq_some_iff.1 u;obtain⟨l,y⟩:=E;have af:(ef m).flatten.length<=(eR m).length:=by simp only[eR,xP];omega
   have S:dN m m.aq[k]=((dN m m.aq[k]).toNat:Int):=by have:= @iJ m m.aq[k];omega
   simp only
   rw[take_snoc (by simp;omega),pM,List.map_singleton]
   have e:=ZP (ρ:=ρ) m (dW m) (dA m) rs i s (by have:=r.sn;omega) (((m.aq.zip (vAt m)).take k).map λ(v,a)=>lC s a (dN m v).toNat) k hk (by omega) (by grind [dW]) a (by grind [dW]) _ S (by omega) (by omega) (by simp;omega) κ
   grind
  grind [gy,ZQ]
 have h1:∀κ:Ex×St->U ρ,dI P hints eE kO 1 (Mh m (dW m) (dA m) rs i s 0 ((m.aq.zip (vAt m)).map λ(v,a)=>lC s a (dN m v).toNat) []) κ=κ (.exit 2,OI m (dW m) (dA m) rs i s ((m.aq.zip (vAt m)).map λ(v,a)=>lC s a (dN m v).toNat) ((cAt m).map λa=>s.getD a 0)):=λκ=>by
  generalize ((m.aq.zip (vAt m)).map λ(v,a)=>lC s a (dN m v).toNat)=V
  refine DV (F:=λk=>dI P hints eE kO 1 (Mh m (dW m) (dA m) rs i s k V (((cAt m).take k).map λa=>s.getD a 0)) κ) (n:=(dW m).ah.length) (λk hk=> ?_) ?_
  .have ac:k<(cAt m).length:=by simpa [dW,ofN]using hk
   have B:m.ah[k]? =some (m.ah[k]'(by omega)):=xG _
   grind [L7,take_snoc,ZM,dW]
  grind [dW,ZR]
 have Z:∀(V:J (J Int)) (L:J Int) (κ:Ex×St->U ρ),dI P hints eE kO 2 (Mj m (dW m) (dA m) rs i s 0 V L []) κ=κ (.exit 4,OJ m (dW m) (dA m) rs i s V L (mR m s 0)):=λV L κ=>by
  refine DV (F:=λk=>dI P hints eE kO 2 (Mj m (dW m) (dA m) rs i s k V L ((m.ak.take k).map λp=>List.replicate p.bF.toNat 0)) κ) (n:=m.ak.length) (λk hk=> ?_) ?_
  .have hl:=(r.p k _ (xG hk)).l
   grind [take_snoc,ZN]
  grind [agS,ZS]
 have h3:∀(V:J (J Int)) (L:J Int) (κ:Ex×St->U ρ),dI P hints eE kO 3 (Ml m (dW m) (dA m) rs i s 0 V L (mR m s 0)) κ=κ (.exit 6,OK m (dW m) (dA m) rs i s V L ((m.ak.zipIdx).map λ(p,i)=>aa2 m s i p)):=λV L κ=>by
  refine DV (F:=λk=>dI P hints eE kO 3 (Ml m (dW m) (dA m) rs i s k V L (mR m s k)) κ) (n:=(dA m).length) (λk hk=> ?_) ?_
  .obtain⟨p,a,q,N,u,b,W,d,A,t,_⟩:=g k hk
   obtain⟨l,y⟩:=List.getElem?_eq_some_iff.1 u;have hz:k<((dA m).zip (iAt m)).length:=by omega
   have w:p<(mR m s k).length:=by rw[ZV];exact d
   have o:=Mm (s:=s) (k:=k) w d;have H:q<(mR m s k)[p].length:=by rw[o];simpa using A
   have f:s[a]=(q:Int):=by rw[<-W];simp[List.getD,xG b]
   have x:∃c:Nat,(mR m s k)[p][q]=(c:Int)/\c<=30:=by
    refine⟨_,by simp only[o,List.getElem_map,List.getElem_range];rfl,?_⟩
    exact fj List.countP_le_length (by grind)
   obtain⟨c,ad,aa⟩:=x;rw[ZO (ρ:=ρ) m (dW m) (dA m) rs i s V L _ k hk (by omega) p N w (by grind [dW]) a (by grind [dW]) b q f H (by omega) (by omega) κ]
   grind [UZ]
  grind [ZU,ZT]
 obtain⟨p,a,q,O,u,b,W,d,A,t,z⟩:=g i hi;obtain⟨l,y⟩:=List.getElem?_eq_some_iff.1 u;rw[arv (ρ:=ρ) m (dW m) (dA m) rs i s _ _ _ _ h0 h1 (Z _ _) (h3 _ _) hi p O d (by grind [dW]) a (by grind [dW]) z (by omega) κ]
 grind [j8]
end
end
section
attribute [-simp] List.map_append List.map_take List.map_drop List.map_set
@[go_sem] theorem ZW{A B:J Ob}:∀R:J Ob,ej (R++A) (R++B)=ej A B
 | []=>rfl
 |o::R=>by cases o <;>simp[ej,ZW R]
section
variable{ρ:Type}(m:ae)(x:bQ)(is:J aE)(rs:J bC)(i:Nat)(s:J Int)(R:J Ob)
def WF:D:=.agg [.sl false (List.map dB m.aa),.sl false (List.map dJ m.aq),.sl false (List.map dP m.ah),.sl false (List.map (dL false) m.ak),.sl false (List.map (fw false) m.aL),.sl false (List.map eI x.aq),.sl false (List.map eI x.ah),.sl false (List.map eI x.Insts),.int .i64 x.Cells,.sl false (List.map eI x.Lo),.sl false (List.map eI x.Hi),.sl false (List.map ij is),.sl false (List.map Be rs)]
def HT:J Ob:=.box (.d (WF m x is rs))::(R++[.box (.agg [.d (.ptr 0),.d (.int .i64 i),.own (tl eI s)])])
theorem arx(c:Nat)(n:Int)(h1:c<x.Lo.length)(h2:c<x.Hi.length)(h3:c<s.length)(κ:KT ρ):cbK (call 251 [.ptr (R.length+1),.int .i64 c,.int .i64 n] (HT m x is rs i s R)) κ=if x.Lo[c]<=n/\n<=x.Hi[c]then κ ([.d (.bool true)],HT m x is rs i (s.set c n) R)else κ ([.d (.bool false)],HT m x is rs i s R):=by
 refine(ap2 _ _ _ rfl).trans ?_
 simp [go_sem,HT,WF,h1,h2,h3]
 by_cases a:n<x.Lo[c]
 .grind
 grind
theorem BD(b:Bool)(e:J aF):BY (roD (HT m x is rs i s R) 4) [.ptr (R.length+1),.sl b (List.map eN e)]=some [.bR [.bR (WF m x is rs).cells,.int .i64 i,.sl true (List.map eI s)],.sl b (List.map eN e)]:=by
 simp [go_sem,HT,WF,BY,roD,D.norm,D.bt,D.cells]
theorem BE(b:Bool)(e:J aF):D.bl [.bR [.bR (WF m x is rs).cells,.int .i64 i,.sl true (List.map eI s)],.sl b (List.map eN e)]=[TD m x is rs i s,.sl true (List.map eN e)]:=by
 simp [go_sem,WF,TD,WD,D.bl,D.bZ,D.cells]
theorem Ic(e:J aF):D.aQ 0 [TD m x is rs i s,.sl true (List.map eN e)]=true:=by
 simp [go_sem,WF,TD,WD,D.aQ,D.low,D.cells]
end
end
theorem tj{l:J aB}{n:Int}{s:au}{v:aB}(h:i4 l n s=some v):0<=n/\l[n.toNat]? =some v:=by
 grind [i4]
theorem OL{n:Int}{s:au}{c:aD}(h:vD n s=some c):0<=n/\s.ah[n.toNat]? =some c:=by
 grind [vD]
inductive ActIs(a:aO)(s:au):Prop
 |set (k:a.Kind=1) (p:0<=a.To) (v:aB) (h:s.aq[a.To.toNat]? =some v) (o:v.aG=0)
 |item (k:a.Kind=2) (p:0<=a.To) (v:aB) (h:s.aq[a.To.toNat]? =some v) (o:v.aG≠0)
 |own (k:a.Kind=3) (p:0<=a.To) (v:aB) (h:s.bB[a.To.toNat]? =some v)
 |send (k:a.Kind=4) (p:0<=a.To) (c:aD) (h:s.ah[a.To.toNat]? =some c)
 |recv (k:a.Kind=5) (p:0<=a.To) (c:aD) (h:s.ah[a.To.toNat]? =some c) (p':0<=a.Local) (v:aB) (h':s.bB[a.Local.toNat]? =some v)
theorem Mn{a:aO}{s:au}(h:D9 a s=0):ActIs a s:=by
 unfold D9 at h
 split at h
 .rename_i hk
  split at h
  .cases h
  .rename_i v b
   split at h
   .rename_i g
    split at h
    .cases h
    .rename_i f
     rw[if_neg (by omega)]at b
     obtain⟨e,d⟩:=tj b;exact .item g e v d f
   .rename_i g
    split at h
    .rename_i f
     by_cases h3:a.Kind=3
     .rw[if_pos h3]at b
      obtain⟨e,d⟩:=tj b;exact .own h3 e v d
     .rw[if_neg h3]at b
      obtain⟨e,d⟩:=tj b;exact .set (by omega) e v d f
    .cases h
 .split at h
  .rename_i hk
   split at h
   .cases h
   .rename_i c i
    obtain⟨e,d⟩:=OL i
    split at h
    .rename_i h5
     split at h
     .cases h
     .rename_i v b
      obtain⟨q3,q4⟩:=tj b;exact .recv h5 e c d q3 v q4
    .exact .send (by omega) e c d
  .cases h
structure RefAt(m:ae)(r:bC)(x:aE)(p:az)(c:aK)(i k j:Nat):Prop where
 hi:r.Inst=(i:Int)
 hj:r.Cmd=(j:Int)
 hx:(dA m)[i]? =some x
 hk:x.cw=(k:Int)
 hp:m.ak[k]? =some p
 o:eQ m x=p
 hc:p.aP[j]? =some c
 cm:mQ m r=c
 ok:CMay c p (eV m k)
theorem OM{m:ae}:∀{l:J aE} {n:Nat} {r:bC},r∈jw m n l->∃(i:Nat) (x:aE) (j:Nat),l[i]? =some x/\r.Inst=((n+i:Nat):Int)/\r.Cmd=(j:Int)/\j<(eQ m x).aP.length
 | [],n,r,h=>by simp[jw]at h
 |y::l,n,r,h=>by
  simp only[jw,xD,jC,List.mem_range]at h
  obtain⟨j,c,rfl⟩ |h:=h
  .grind
  .obtain⟨i,x,j,a,b,h3,h4⟩:=OM h
   exact⟨i+1,x,j,by simpa using a,by grind,h3,h4⟩
theorem Ie{m:ae}(l:May m){r:bC}(h:r∈dM m):∃x p c i k j,RefAt m r x p c i k j:=by
 obtain⟨i,x,j,g,e,h3,h4⟩:=OM h;rw[fu]at e
 obtain⟨k,p,b,o,f,_⟩:=lT (yS g);rw[f]at h4
 have d:=xG h4;have n:=l.p k p b;have hs:innerP p (eV m k)=eV m k:=by unfold eV innerP;rw[b]
 have a:=n.c _ (yS d);rw[hs]at a
 refine⟨x,p,p.aP[j],i,k,j,e,h3,g,o,b,f,d,?_,a⟩
 grind [mQ]
theorem oQ{m:ae}{k:Nat}{p:az}(h:m.ak[k]? =some p):(eV m k).aq=m.aq/\(eV m k).ah=m.ah/\(eV m k).bB=p.aq/\(eV m k).aa=m.aa:=by
 grind [eV]
theorem Mo{m:ae}(f:May m){r:bC}(hr:r∈dM m){s t:J Int}(h:cu m s)(e:mi m s r=some t):cu m t:=by
 obtain⟨x,p,c,i,k,j,d⟩:=Ie f hr;unfold mi at e;simp only[d.cm,d.hi,xV]at e
 split at e
 .simp only[xM]at e
  obtain⟨u,y,rfl⟩:=e;have z:=(oQ d.hp).1
  have o:=H6 f d.hx h (λa g hk=>by
   cases Mn (d.ok.a a g)with
   |set _ _ v q=>grind
   |_=>omega) y
  have n:=Sk d.hx;obtain⟨a,w,_,h3,h4,_⟩:=UU d.hx;have g:(iAt m).getD i 0=a:=by rw[List.getD,w];rfl
  rw[g]at n |-
  refine JQ f o (R9 o.b λb l=> ?_) (.inr n)
  rw[h4]at l
  simp only[xJ]at l
  subst l
  have:=d.ok.t
  rw[d.o]
  grind
 .cases e
theorem QI{m:ae}(f:May m){s t:J Int}{c:aK}{x:aD}(hx:m.ah[(kK c).2.toNat]? =some x)(h:cu m s)(e:cu m t):cu m (JP m s t c):=by
 obtain⟨a,d⟩:=jL f hx;have g:=iM d h.b.1;unfold JP;rw[d.at0];refine Ah f e d g.1 (Oy e.b (by rw[g.1,e.b.1];have:=d.f;omega) λk v b hk i=> ?_) (h.q _ _ hx)
 rw[g.2]at hk
 split at hk
 .exact h.b.2 _ _ _ hk i
 .cases hk
theorem QJ{m:ae}(a:May m){r:bC}(hr:r∈dM m){s t:J Int}(h:cu m s)(ht:t∈j9 m s r):cu m t:=by
 grind [j9,Mo,oO,QI]
theorem ON{m:ae}(b:May m){s:J Int}(h:cu m s):∀x∈fC m s,cu m x.To:=by
 have d:∀(l:J bC) (n:Nat),(∀r∈l,r∈dM m)->∀x∈fg m s n l,cu m x.To:=by
  intro l
  induction l with
  |nil=>intro n _ x a;cases a
  |cons r l f=>
   intro n c x a;simp only[fg,xD,jC]at a
   obtain⟨⟨t,w⟩,e,rfl⟩ |a:=a
   .exact QJ b (c r (by simp)) h (List.fst_mem_of_mem_zipIdx e)
   grind
 grind [fC]
section
attribute [-simp] List.map_append List.map_take List.map_drop List.map_set
variable{m:ae}{s:J Int}
theorem JS{lo hi:Int}(h:pD lo hi=true):-1048576<=lo/\hi<=1048576:=by
 grind [pD]
theorem ZX{l:J aw}{v:aB}(h:Aa l v=0):-1048576<=(fD l v).1/\(fD l v).2<=1048576:=by
 unfold Aa at h;unfold fD gb
 split at h;· cases h
 split at h
 .rename_i a
  rw[if_pos a]
  split at h
  .rename_i b;exact JS b.1
  .cases h
 .rename_i a
  rw[if_neg a]
  have:= @jv l v.aC
  grind
theorem ary(d:May m){b:Bd}(h:b∈eR m):-1048576<=b.1/\b.2<=1048576:=by
 simp only[eR,xD,List.mem_flatten,ef,eF,ku,jC]at h
 obtain⟨_,⟨v,e,rfl⟩,h⟩ |⟨_,⟨c,hc,rfl⟩,h⟩ |⟨_,⟨x,hx,rfl⟩,h⟩:=h
 .rw[(List.mem_replicate.1 h).2];exact ZX (d.v v e)
 .have a:=d.c c hc
  unfold tN at a
  split at a;· cases a
  split at a
  .rename_i i
   obtain rfl |h:=List.mem_cons.1 h
   .simp only;omega
   .rw[(List.mem_replicate.1 h).2]
    unfold gb;split
    .rename_i j
     have:=JS (i.2.2 j)
     grind
    .have:= @jv m.aa c.aC
     simp only;omega
  grind
 .obtain⟨k,p,hk,_,f,_⟩:=lT hx
  have g:=d.p k p hk;unfold kB at h;rw[f]at h
  obtain rfl |h:=List.mem_cons.1 h
  .have:=g.l;simp only;omega
  .obtain⟨v,e,rfl⟩:=List.mem_map.1 h
   have:=(g.v v e).1
   simp_all [oQ,ZX]
theorem QK(b:May m)(hs:inB m s){y:Int}(h:y∈s):okI y:=by
 obtain⟨i,a⟩:=List.getElem?_of_mem h;have e:=(List.getElem?_eq_some_iff.1 a).1;have c:(eR m)[i]? =some ((eR m)[i]'(by have:=hs.1;omega)):=xG _
 have d:=hs.2 i y _ a c;have f:=ary b (eO (l:=eR m) (n:=i) (by have:=hs.1;omega))
 exact⟨by omega,by omega⟩
theorem OO{s:J Int}{a n:Nat}{y:Int}(h:y∈lC s a n):y∈s:=List.mem_of_mem_drop (List.mem_of_mem_take h)
theorem CS(d:May m)(hs:inB m s)(i:Nat):EnvOK (j8 m s i):=by
 have f:∀a,okI (s.getD a 0):=λa=>by
  grind [CR,QK]
 refine⟨λl c y b=> ?_,λy b=> ?_,λy b=> ?_,λl c y b=> ?_,?_⟩
 .grind [j8,QK,OO]
 .grind [j8]
 .exact QK d hs (OO b)
 .simp only[j8,jC]at c
  obtain⟨⟨p,j⟩,_,rfl⟩:=c;simp only[aa2,jC]at b
  obtain⟨l,_,rfl⟩:=b;have e:((dA m).zip (iAt m)).length<=30:=by have:=qX d;rw[List.length_zip];omega
  have g:=List.countP_le_length (p:=λ(x:aE×Nat)=>decide (x.1.cw=(j:Int))&&decide (s.getD x.2 0=(l:Int))) (l:=(dA m).zip (iAt m))
  exact⟨by omega,by omega⟩
 .show okI ((dA m)[i]?.getD ⟨0,0⟩).Elem
  cases h:(dA m)[i]? with
  |none=>exact CR
  |some x=>
   obtain⟨_,_,_,_,_,e,g⟩:=lT (yS h)
   exact⟨by grind,by grind⟩
section
variable{ρ:Type}
theorem wN{i:Nat}(c:bq m)(hs:inB m s)(hv:EnvOK (j8 m s i))(rs:J bC)(hi:i<(dA m).length)(e:J aF)(d:∀x∈e,x.N<=9223372036854775807)(κ:KT ρ):cbK (call 88 [TD m (dW m) (dA m) rs i s,.sl true (List.map eN e)] []) κ=κ ([.d (.int .i64 (iR e (j8 m s i)).1),.d (.bool (decide ((iR e (j8 m s i)).2=0)))],[]):=by
 refine(avA _ _ _ rfl).trans ?_
 have a:=λκ=>arw (ρ:=ρ) c hs rs i hi κ
 have b:=λκ=>agO (ρ:=ρ) e (j8 m s i) hv d κ
 generalize j8 m s i=v at a b |-
 simp only[TD,WD,afI,Qk,fS,eI,eK]at a
 simp [go_sem,TD,WD,a,b]
end
end
section
attribute [-simp] List.map_append List.map_take List.map_drop List.map_set
variable{m:ae}{s:J Int}{R:J Ob}
section
variable{ρ:Type}
abbrev HM(m:ae)(R:J Ob)(i:Nat)(s:J Int):J Ob:=HT m (dW m) (dA m) (dM m) i s R
abbrev t5(b:Bool)(a:aO):D:=.agg [.int .i64 a.Kind,.int .i64 a.To,.int .i64 a.Local,.sl b (List.map eN a.Index),.sl b (List.map eN a.Value)]
theorem Ss{s:J Int}(a:s.length=(eR m).length)(i p:Nat)(b:Bd)(hb:(eR m)[p]? =some b)(n:Int)(κ:KT ρ):cbK (call 251 [.ptr (R.length+1),.int .i64 p,.int .i64 n] (HM m R i s)) κ=κ ([.d (.bool (wZ m s p n).isSome)],HM m R i ((wZ m s p n).getD s)):=by
 grind [arx,dW,wZ]
theorem arz(q:bq m)(hs:inB m s){i:Nat}(hi:i<(dA m).length)(b:Bool)(a:aO)(y:∀x∈a.Value,x.N<=9223372036854775807)(hk:a.Kind=1)(t:Nat)(ht:a.To=(t:Int))(o:t<m.aq.length)(h1:1<=(dN m (m.aq[t])).toNat)(κ:KT ρ):
  cbK (call 250 [t5 b a,.ptr (R.length+1)] (HM m R i s)) κ=κ ([.d (.bool (gQ m i s a).isSome)],HM m R i ((gQ m i s a).getD s)):=by
 refine(apZ _ _ _ rfl).trans ?_
 obtain⟨p,u,w,k⟩:=abp (xG o);have v:=k 0 (by omega)
 rw[kV]at v
 have g:=BD m (dW m) (dA m) (dM m) i s R b a.Value;have f:=BE m (dW m) (dA m) (dM m) i s b a.Value;have h:=Ic m (dW m) (dA m) (dM m) i s a.Value;have c:=λκ=>wN (ρ:=ρ) q hs (CS q.may hs i) (dM m) hi a.Value y κ
 have j:(dW m).aq[t]? =some (p:Int):=by simp[dW,ofN,u]
 have l:gQ m i s a=(vJ m s i a.Value).bind λn=>wZ m s p n:=by
  simp only[gQ,hk,if_true,ht,xV,List.getD,u,gZ]
 have d:vJ m s i a.Value=if(iR a.Value (j8 m s i)).2=0 then some (iR a.Value (j8 m s i)).1 else none:=rfl
 generalize iR a.Value (j8 m s i)=r at c d;have e:=λκ=>Ss (ρ:=ρ) (R:=R) hs.1 i p _ v r.1 κ
 simp only[HM,HT,WF,D.cells,TD,WD]at g f h c e
 rw[l,d]
 cases b <;>by_cases z:r.2=0 <;>simp [go_sem,HT,WF,g,f,h,c,e,ht,j,z]
theorem arA(k:bq m)(hs:inB m s){i:Nat}(hi:i<(dA m).length)(b:Bool)(a:aO)(B:∀x∈a.Value,x.N<=9223372036854775807)(hk:a.Kind=3)(t:Nat)(ht:a.To=(t:Int))(x:aE)(hx:(dA m)[i]? =some x)(q:t<(eQ m x).aq.length)(κ:KT ρ):
  cbK (call 253 [t5 b a,.ptr (R.length+1)] (HM m R i s)) κ=κ ([.d (.bool (gQ m i s a).isSome)],HM m R i ((gQ m i s a).getD s)):=by
 refine(ap8 _ _ _ rfl).trans ?_
 obtain⟨p,u,v,z,E,o⟩:=UU hx;have F:=o t _ (xG q);have g:=BD m (dW m) (dA m) (dM m) i s R b a.Value;have f:=BE m (dW m) (dA m) (dM m) i s b a.Value;have h:=Ic m (dW m) (dA m) (dM m) i s a.Value;have c:=λκ=>wN (ρ:=ρ) k hs (CS k.may hs i) (dM m) hi a.Value B κ
 have j:(dW m).Insts[i]? =some (p:Int):=by simp[dW,ofN,u]
 have A:=iN k.may;have y:IntKind.i64.wrap ((p:Int)+1)=(p:Int)+1:=dE (by omega) (by omega)
 have w:IntKind.i64.wrap ((p:Int)+1+(t:Int))=(p:Int)+1+(t:Int):=dE (by omega) (by omega)
 have l:gQ m i s a=(vJ m s i a.Value).bind λn=>wZ m s (p+1+t) n:=by
  simp only[gQ,hk,if_true,ht,xV,wL,List.getD,u,gZ];rfl
 have d:vJ m s i a.Value=if(iR a.Value (j8 m s i)).2=0 then some (iR a.Value (j8 m s i)).1 else none:=rfl
 generalize iR a.Value (j8 m s i)=r at c d;have e:=λκ=>Ss (ρ:=ρ) (R:=R) hs.1 i (p+1+t) _ F r.1 κ
 simp only[HM,HT,WF,D.cells,TD,WD,Int.natCast_add,Int.natCast_one]at g f h c e
 rw[l,d]
 cases b <;>by_cases C:r.2=0 <;>simp [go_sem,HT,WF,g,f,h,c,e,ht,j,y,w,C]
end
end
section
attribute [-simp] List.map_append List.map_take List.map_drop List.map_set
variable{m:ae}{s:J Int}{R:J Ob}
section
variable{ρ:Type}
theorem abG(z:bq m)(hs:inB m s){i:Nat}(hi:i<(dA m).length)(b:Bool)(a:aO)(H:∀x∈a.Index,x.N<=9223372036854775807)(S:∀x∈a.Value,x.N<=9223372036854775807)(hk:a.Kind=2)(t:Nat)(ht:a.To=(t:Int))(h:t<m.aq.length)(κ:KT ρ):
  cbK (call 252 [t5 b a,.ptr (R.length+1)] (HM m R i s)) κ=κ ([.d (.bool (gQ m i s a).isSome)],HM m R i ((gQ m i s a).getD s)):=by
 refine(ap5 _ _ _ rfl).trans ?_
 obtain⟨p,L,M,F⟩:=abp (xG h);have l:=λe=>BD m (dW m) (dA m) (dM m) i s R b e
 have j:=λe=>BE m (dW m) (dA m) (dM m) i s b e
 have o:=λe=>Ic m (dW m) (dA m) (dM m) i s e
 have d:=λκ=>wN (ρ:=ρ) z hs (CS z.may hs i) (dM m) hi a.Index H κ
 have f:=λκ=>wN (ρ:=ρ) z hs (CS z.may hs i) (dM m) hi a.Value S κ
 have C:(dW m).aq[t]? =some (p:Int):=by simp[dW,ofN,L]
 have I:m.aa.length<=1000:=by have:=z.may.sn;omega
 have c:∀g:Int->U ρ,jK m.aq[t] m.aa g=g (dN m m.aq[t]):=λg=>by rw[Bx I];rfl
 have T:= @iJ m m.aq[t];have Q:=iN z.may;have O:(ef m).flatten.length<=(eR m).length:=by simp only[eR,xP];omega
 have B:gQ m i s a=(vJ m s i a.Index).bind λk=>(vJ m s i a.Value).bind λn=>if 1<=k/\k<=dN m m.aq[t]then wZ m s (p+(k - 1).toNat) n else none:=by
  simp only[gQ,hk,if_true,ht,xV,List.getD,L,gZ,xG h,xS,show¬((2:Int)=1)by decide,if_false]
 have y:vJ m s i a.Index=if(iR a.Index (j8 m s i)).2=0 then some (iR a.Index (j8 m s i)).1 else none:=rfl
 have A:vJ m s i a.Value=if(iR a.Value (j8 m s i)).2=0 then some (iR a.Value (j8 m s i)).1 else none:=rfl
 rw[B,A,y];clear B A y;generalize iR a.Value (j8 m s i)=r at f |-
 generalize iR a.Index (j8 m s i)=r1 at d |-
 simp only[HM,HT,WF,D.cells,TD,WD]at l j o f d
 by_cases u:r1.2=0
 .by_cases E:r.2=0
  .by_cases J:r1.1<1
   .have v:¬(1<=r1.1/\r1.1<=dN m m.aq[t]):=by omega
    cases b <;>simp [go_sem,HT,WF,l,j,o,f,d,ht,h,u,E,J,v,c]
   .by_cases K:dN m m.aq[t]<r1.1
    .have v:¬(1<=r1.1/\r1.1<=dN m m.aq[t]):=by omega
     cases b <;>simp [go_sem,HT,WF,l,j,o,f,d,ht,h,u,E,J,K,v,c]
    .have v:1<=r1.1/\r1.1<=dN m m.aq[t]:=by omega
     have V:=F (r1.1 - 1).toNat (by omega)
     have w:=λκ=>Ss (ρ:=ρ) (R:=R) hs.1 i (p+(r1.1 - 1).toNat) _ V r.1 κ
     have e:((p+(r1.1 - 1).toNat:Nat):Int)=(p:Int)+r1.1 - 1:=by omega
     have P:IntKind.i64.wrap ((p:Int)+r1.1)=(p:Int)+r1.1:=dE (by omega) (by omega)
     have N:IntKind.i64.wrap ((p:Int)+r1.1 - 1)=(p:Int)+r1.1 - 1:=dE (by omega) (by omega)
     rw[e]at w
     generalize W:p+(r1.1 - 1).toNat=q at w;have G:p+(r1.1.toNat - 1)=q:=by omega
     simp only[HM,HT,WF]at w
     cases b <;>simp [go_sem,HT,WF,l,j,o,f,d,w,ht,h,C,u,E,J,K,v,c,P,N,G]
  .cases b <;>simp [go_sem,HT,WF,l,j,o,f,d,ht,h,u,E,c]
 .cases b <;>simp [go_sem,HT,WF,l,j,o,f,d,ht,h,u,c]
theorem Mp(c:Nat)(hc:c<m.ah.length)(H:J Ob)(h:H[0]? =some (.box (.d (WF m (dW m) (dA m) (dM m)))))(p:Nat)(hp:(cAt m)[c]? =some p)(h0:0<=m.ah[c].bc/\m.ah[c].bc<=4)(d:p<=1000)(κ:KT ρ):cbK (call 90 [.ptr 0,.int .i64 c] H) κ=κ ([.d (.int .i64 p),.d (.int .i64 ((p:Int)+1+m.ah[c].bc))],H):=by
 refine(avC _ _ _ rfl).trans ?_
 have a:(dW m).ah[c]? =some (p:Int):=by simp[dW,ofN,hp]
 have e:IntKind.i64.wrap ((p:Int)+1)=(p:Int)+1:=dE (by omega) (by omega)
 have b:IntKind.i64.wrap ((p:Int)+1+m.ah[c].bc)=(p:Int)+1+m.ah[c].bc:=dE (by omega) (by omega)
 simp only[WF]at h
 simp [go_sem,h,a,hc,e,b]
theorem ZY{off len:Nat}{xs es:J Int}{W:Ob}{d1 d2:D}{t:J Tr}{ct:J ((Nat×Nat)×T)}{b:Bool}(hl:xs.length=len)(hn:xs≠[])(h:off+len<=es.length):nZ P 29 (.aH (.o (R.length+1)) [(0,2)] off len) (.d (.sl b (List.map eI xs))) ⟨ct,W::(R++[.box (.agg [.d d1,.d d2,.own (tl eI es)])]),t⟩=some (.d (.int .i64 (len:Int)),⟨ct,W::(R++[.box (.agg [.d d1,.d d2,.own (tl eI (i6 es off xs))])]),t⟩):=by
 have a:Nat.min len len=len:=Nat.min_self len
 have:=Bg (P:=P) (t:=29) (u:=3) (by rfl) (by rfl) (r:=.o (R.length+1)) (p:=[(0,2)]) (off:=off) (len:=len) (xs:=xs) (es:=es) (b:=.d (.sl b (List.map eI xs))) (k:=⟨ct,W::(R++[.box (.agg [.d d1,.d d2,.own (tl eI es)])]),t⟩) (c:=.own [.agg [.d d1,.d d2,.own (tl eI es)]]) F2 (by simp[go_sem]) (by simp[go_sem]) (by grind)
 rw[this,hl,a,gy (by omega)]
 simp[go_sem,T.put,hn,i6,hl]
theorem Su{off len:Nat}{es:J Int}{W:Ob}{d1 d2:D}{t:J Tr}{ct:J ((Nat×Nat)×T)}{b:Bool}(h:off<=es.length):nZ P 29 (.aH (.o (R.length+1)) [(0,2)] off len) (.d (.sl b [])) ⟨ct,W::(R++[.box (.agg [.d d1,.d d2,.own (tl eI es)])]),t⟩=some (.d (.int .i64 0),⟨ct,W::(R++[.box (.agg [.d d1,.d d2,.own (tl eI es)])]),t⟩):=by
 have:=Bg (P:=P) (t:=29) (u:=3) (by rfl) (by rfl) (r:=.o (R.length+1)) (p:=[(0,2)]) (off:=off) (len:=len) (xs:=[]) (es:=es) (b:=.d (.sl b (List.map eI ([]:J Int)))) (k:=⟨ct,W::(R++[.box (.agg [.d d1,.d d2,.own (tl eI es)])]),t⟩) (c:=.own [.agg [.d d1,.d d2,.own (tl eI es)]]) F2 (by simp[go_sem]) (by simp[go_sem]) (by simpa using h)
 refine this.trans ?_
 simp
theorem abH(A:bq m)(hs:inB m s){i:Nat}(hi:i<(dA m).length)(b:Bool)(a:aO)(T:∀x∈a.Value,x.N<=9223372036854775807)(hk:a.Kind=4)(t:Nat)(ht:a.To=(t:Int))(f:t<m.ah.length)(κ:KT ρ):
  cbK (call 254 [t5 b a,.ptr (R.length+1)] (HM m R i s)) κ=κ ([.d (.bool (gQ m i s a).isSome)],HM m R i ((gQ m i s a).getD s)):=by
 refine(aqb _ _ _ rfl).trans ?_
 obtain⟨p,k⟩:=jL A.may (xG f);have S:=iN A.may;have Y:=k.f;have X:=k.cap
 have P:(cAt m)[t]? =some p:=by
  have Q:(cAt m).length=m.ah.length:=by simp[cAt,jx,eF]
  have M:=k.at0;rw[Eg,xG (by omega),gZ]at M
  rw[xG (by omega),M]
 have d:=λκ=>Mp (ρ:=ρ) t f (HM m R i s) rfl p P ⟨by omega,by omega⟩ (by omega) κ
 have v:=λe=>BD m (dW m) (dA m) (dM m) i s R b e
 have o:=λe=>BE m (dW m) (dA m) (dM m) i s b e
 have w:=λe=>Ic m (dW m) (dA m) (dM m) i s e
 have j:=λκ=>wN (ρ:=ρ) A hs (CS A.may hs i) (dM m) hi a.Value T κ
 have V:m.aa.length<=1000:=by have:=A.may.sn;omega
 have c:∀g:Int->Int->U ρ,j7 ⟨[],m.ah[t].aC,0,m.ah[t].Lo,m.ah[t].Hi,0⟩ m.aa g=g (fz m.aa m.ah[t]).1 (fz m.aa m.ah[t]).2:=λg=>by
  grind [wI,fz,gb]
 have B:gQ m i s a=(vJ m s i a.Value).bind λn=>if(fz m.aa m.ah[t]).1<=n/\n<=(fz m.aa m.ah[t]).2 then(Bz (fe m s t) n).map (i6 s p)else none:=by
  simp only[gQ,hk,if_true,ht,xV,k.at0,xG f,xS,show¬((4:Int)=1)by decide,show¬((4:Int)=2)by decide,show¬((4:Int)=3)by decide,if_false]
 have z:vJ m s i a.Value=if(iR a.Value (j8 m s i)).2=0 then some (iR a.Value (j8 m s i)).1 else none:=rfl
 rw[B,z];clear B z;generalize iR a.Value (j8 m s i)=r at j |-
 generalize fz m.aa m.ah[t]=bd at c |-
 simp only[HM,HT,WF,D.cells,TD,WD]at v o w j d
 have L:(0:Int)<=(p:Int)+1+m.ah[t].bc:=by omega
 have N:p<=((p:Int)+1+m.ah[t].bc).toNat:=by omega
 have q3:(p:Int)+1+m.ah[t].bc<=(s.length:Int):=by have:=hs.1;omega
 have q4:((p:Int)+1+m.ah[t].bc).toNat - p=m.ah[t].bc.toNat+1:=by omega
 have q5:¬((p:Int)+1+m.ah[t].bc<(p:Int)):=by omega
 by_cases E:r.2=0
 .by_cases F:r.1<bd.1
  .have u:¬(bd.1<=r.1/\r.1<=bd.2):=by omega
   cases b <;>simp [go_sem,HT,WF,v,o,w,j,ht,f,E,c,F,u]
  by_cases G:bd.2<r.1
  .have u:¬(bd.1<=r.1/\r.1<=bd.2):=by omega
   cases b <;>simp [go_sem,HT,WF,v,o,w,j,ht,f,E,c,F,G,u]
  have O:(fe m s t).length=m.ah[t].bc.toNat+1:=(iM k hs.1).1
  have C:List.take (m.ah[t].bc.toNat+1) (List.drop p s)=fe m s t:=by
   simp only[fe,k.at0,vK,xG f,lC]
  have l:=λβ κ=>QF (ρ:=ρ) β (fe m s t) r.1 (by omega) κ
  have q6:(p:Int)<=(p:Int)+1+m.ah[t].bc:=by omega
  have u:bd.1<=r.1/\r.1<=bd.2:=by omega
  have q7:p<=s.length:=by omega
  cases h:Bz (fe m s t) r.1 with
  |none=>
   rw[h]at l
   have y:=λ(b:Bool) (I:J Tr) (W:Ob) d1 d2 ct=>Su (R:=R) (off:=p) (len:=m.ah[t].bc.toNat+1) (es:=s) (W:=W) (d1:=d1) (d2:=d2) (t:=I) (ct:=ct) (b:=b) q7
   cases b <;>simp [go_sem,HT,WF,v,o,w,j,ht,f,E,c,F,G,d,L,N,q3,q4,q5,q6,C,l,y,h,u]
  |some q=>
   rw[h]at l
   have H:q.length=m.ah[t].bc.toNat+1:=by
    unfold Bz at h
    split at h
    .grind [jy,lU]
    .cases h
   have K:q≠[]:=λe=>by grind
   have y:=λ(b:Bool) (I:J Tr) (W:Ob) d1 d2 ct=>ZY (R:=R) (off:=p) (len:=m.ah[t].bc.toNat+1) (xs:=q) (es:=s) (W:=W) (d1:=d1) (d2:=d2) (t:=I) (ct:=ct) (b:=b) H K (by have:=hs.1;omega)
   cases b <;>simp [go_sem,HT,WF,v,o,w,j,ht,f,E,c,F,G,d,L,N,q3,q4,q5,q6,C,l,y,h,u,k.at0]
 .cases b <;>simp [go_sem,HT,WF,v,o,w,j,ht,f,E,c]
theorem abI(I:bq m)(hs:inB m s){i:Nat}(b:Bool)(a:aO)(hk:a.Kind=5)(t:Nat)(ht:a.To=(t:Int))(f:t<m.ah.length)(j:Nat)(D:a.Local=(j:Int))(x:aE)(hx:(dA m)[i]? =some x)(B:j<(eQ m x).aq.length):
  ∃s2,(∀κ:KT ρ,cbK (call 263 [t5 b a,.ptr (R.length+1)] (HM m R i s)) κ=κ ([.d (.bool (gQ m i s a).isSome)],HM m R i s2))/\∀u,gQ m i s a=some u->s2=u:=by
 obtain⟨p,d⟩:=jL I.may (xG f);have V:=iN I.may;have hf:=d.f;have Y:=d.cap
 have T:(cAt m)[t]? =some p:=by
  have U:(cAt m).length=m.ah.length:=by simp[cAt,jx,eF]
  have M:=d.at0;rw[Eg,xG (by omega),gZ]at M
  rw[xG (by omega),M]
 obtain⟨h,n,_,S,_,H⟩:=UU hx;have X:=H j _ (xG B);have z:(dW m).Insts[i]? =some (h:Int):=by simp[dW,ofN,n]
 have Q:IntKind.i64.wrap ((h:Int)+1)=(h:Int)+1:=dE (by omega) (by omega)
 have O:IntKind.i64.wrap ((h:Int)+1+(j:Int))=(h:Int)+1+(j:Int):=dE (by omega) (by omega)
 have v:gQ m i s a=(qU (fe m s t)).bind λq=>wZ m (i6 s p q.1) (h+1+j) q.2:=by
  simp only[gQ,hk,if_true,ht,D,xV,d.at0,wL,List.getD,n,gZ,show¬((5:Int)=1)by decide,show¬((5:Int)=2)by decide,show¬((5:Int)=3)by decide,show¬((5:Int)=4)by decide,if_false]
  congr 1;funext q
  rw[<-d.at0];rfl
 have c:=λκ=>Mp (ρ:=ρ) t f (HM m R i s) rfl p T ⟨by omega,by omega⟩ (by omega) κ
 simp only[HM,HT,WF]at c
 have K:(0:Int)<=(p:Int)+1+m.ah[t].bc:=by omega
 have N:p<=((p:Int)+1+m.ah[t].bc).toNat:=by omega
 have q3:(p:Int)+1+m.ah[t].bc<=(s.length:Int):=by have:=hs.1;omega
 have q4:((p:Int)+1+m.ah[t].bc).toNat - p=m.ah[t].bc.toNat+1:=by omega
 have q5:¬((p:Int)+1+m.ah[t].bc<(p:Int)):=by omega
 have q6:(p:Int)<=(p:Int)+1+m.ah[t].bc:=by omega
 have q7:p<=s.length:=by omega
 have P:(fe m s t).length=m.ah[t].bc.toNat+1:=(iM d hs.1).1
 have w:List.take (m.ah[t].bc.toNat+1) (List.drop p s)=fe m s t:=by
  simp only[fe,d.at0,vK,xG f,lC]
 have g:=λβ κ=>OE (ρ:=ρ) β (fe m s t) (by omega) κ
 rw[v];clear v
 cases l:qU (fe m s t)with
 |none=>
  rw[l]at g
  refine⟨s,λκ=>(adB _ _ _ rfl).trans ?_,λu L=>by cases L⟩
  have k:=λ(b:Bool) (F:J Tr) (W:Ob) d1 d2 ct=>Su (R:=R) (off:=p) (len:=m.ah[t].bc.toNat+1) (es:=s) (W:=W) (d1:=d1) (d2:=d2) (t:=F) (ct:=ct) (b:=b) q7
  cases b <;>simp [go_sem,HT,WF,ht,f,D,c,K,N,q3,q4,q5,q6,w,g,k]
 |some q=>
  rw[l]at g
  have E:q.1.length=m.ah[t].bc.toNat+1:=by
   unfold qU at l
   cases Z:fL (fe m s t)with
   |nil=>grind
   |cons y r=>
    grind [fL,xZ,lU]
  have G:q.1≠[]:=λe=>by grind
  have C:=hs.1;have k:=λ(b:Bool) (F:J Tr) (W:Ob) d1 d2 ct=>ZY (R:=R) (off:=p) (len:=m.ah[t].bc.toNat+1) (xs:=q.1) (es:=s) (W:=W) (d1:=d1) (d2:=d2) (t:=F) (ct:=ct) (b:=b) E G (by omega)
  have A:(i6 s p q.1).length=(eR m).length:=by rw[CN (by omega),C]
  have o:=λκ=>Ss (ρ:=ρ) (R:=R) A i (h+1+j) _ X q.2 κ
  simp only[HM,HT,WF,Int.natCast_add,Int.natCast_one]at o
  refine⟨(wZ m (i6 s p q.1) (h+1+j) q.2).getD (i6 s p q.1),λκ=>(adB _ _ _ rfl).trans ?_,λu L=>by grind⟩
  cases b <;>simp [go_sem,HT,WF,ht,f,D,c,K,N,q3,q4,q5,q6,w,g,k,o,z,Q,O]
end
end
section
attribute [-simp] List.map_append List.map_take List.map_drop List.map_set
variable{m:ae}{s:J Int}{R:J Ob}
section
variable{ρ:Type}
def kTy(k:Int):TypeId:=if k=1 then 197 else if k=2 then 198 else if k=3 then 199 else if k=4 then 200 else 201
def eDo(a:aO):D:=.iface (kTy a.Kind) (t5 false a)
def DS(l:J aO)(H:J Ob)(k:Nat):St:=⟨[(3,.aH (.l 3 0) [] 0 k),(6,.d (.sl false (List.map (jU false) l))),(7,.d (.int .i64 l.length)),(8,.d (.int .i64 k))],[((3,0),.own (tl eDo (l.take k)))],H⟩
def DX(l:J aO)(H:J Ob):St:=⟨[(3,.aH (.l 3 0) [] 0 l.length),(6,.d (.sl false (List.map (jU false) l))),(7,.d (.int .i64 l.length)),(8,.d (.int .i64 l.length)),(9,.d (.bool false))],[((3,0),.own (tl eDo l))],H⟩
theorem arB{x:D}:mU P 197 (.d x)=some (.d (.iface 197 x)):=qF (by kernel_rfl)
theorem arC{x:D}:mU P 198 (.d x)=some (.d (.iface 198 x)):=qF (by kernel_rfl)
theorem arD{x:D}:mU P 199 (.d x)=some (.d (.iface 199 x)):=qF (by kernel_rfl)
theorem arE{x:D}:mU P 200 (.d x)=some (.d (.iface 200 x)):=qF (by kernel_rfl)
theorem arF{x:D}:mU P 201 (.d x)=some (.d (.iface 201 x)):=qF (by kernel_rfl)
theorem OP{l:J aO}:dY 1 (tl eDo l)=true:=eU λx=>rfl
theorem agT(H:J Ob)(l:J aO)(hl:l.length<=1000)(k:Nat)(hk:k<l.length)(h:1<=l[k].Kind/\l[k].Kind<=5)(κ:Ex×St->U ρ):dI P hints si b89 0 (DS l H k) κ=dI P hints si b89 0 (DS l H (k+1)) κ:=by
 refine(ap adp.2).trans ?_
 have i:IntKind.i64.wrap ((k:Int)+1)=(k:Int)+1:=dE (by omega) (by omega)
 have g:(k+1) * 16<=140737488355328:=by omega
 have j:k<=9223372036854775806:=by omega
 have a:min k l.length=k:=by omega
 have m:l[k].Kind=1\/l[k].Kind=2\/l[k].Kind=3\/l[k].Kind=4\/l[k].Kind=5:=by omega
 have hs:l.take (k+1)=l.take k++[l[k]]:=by rw[List.take_add_one,xG hk];rfl
 have c:tl eDo (l.take (k+1))=tl eDo (l.take k)++[.d (.iface (kTy l[k].Kind) (t5 false l[k]))]:=by rw[hs,tl,pM];rfl
 have b:List.take k (List.take k l)=List.take k l:=by rw[List.take_take,Nat.min_self]
 have f:∀t x,(D.iface t x).nc=1:=λ_ _=>rfl
 have e:D.bX.nc=1:=rfl
 obtain d |d |d |d |d:=m
 .simp [go_sem,DS,hk,i,d,g,j,arB,OP,a,c,kTy,t5,b,f,e]
 .simp [go_sem,DS,hk,i,d,g,j,arC,OP,a,c,kTy,t5,b,f,e]
 .simp [go_sem,DS,hk,i,d,g,j,arD,OP,a,c,kTy,t5,b,f,e]
 .simp [go_sem,DS,hk,i,d,g,j,arE,OP,a,c,kTy,t5,b,f,e]
 .simp [go_sem,DS,hk,i,d,g,j,arF,OP,a,c,kTy,t5,b,f,e]
theorem agU(H:J Ob)(l:J aO)(κ:Ex×St->U ρ):dI P hints si b89 0 (DS l H l.length) κ=κ (.exit 0,DX l H):=by
 refine(ap adp.2).trans ?_
 simp [go_sem,DS,DX]
theorem abJ(H:J Ob)(l:J aO)(hl:l.length<=1000)(h:∀a∈l,1<=a.Kind/\a.Kind<=5)(κ:KT ρ):cbK (call 89 [.sl false (List.map (jU false) l)] H) κ=κ ([.d (.sl false (List.map eDo l))],H):=by
 refine(avB _ _ _ rfl).trans ?_
 have b:=λκ:Ex×St->U ρ=>DV (F:=λk=>dI P hints si b89 0 (DS l H k) κ) (n:=l.length) (λk hk=>agT H l hl k hk (h _ (eO hk)) κ) (agU H l κ)
 simp only[DS,DX,jB,eA,jb]at b
 have c:T.aZ false (tl eDo l)=some (List.map eDo l):=ii λx=>by grind [eDo,D.norm,D.bt]
 have d:D.aY (List.map eDo l)=true:=fR λx=>by simp[go_sem,eDo,D.cX]
 simp [go_sem,b,c,d]
theorem Mq(b:Bool)(l:J Int)(h:l≠[])(hl:l.length<=1000)(κ:KT ρ):cbK (call 53 [.sl b (List.map eI l)] []) κ=κ ([.own (tl eI l)],[]):=by
 have c:l.length * 8<=140737488355328:=by omega
 have a:l.length<=9223372036854775807:=by omega
 cases b <;>simp [go_sem,ava,h,c,a]
def doF(k:Int):FuncId:=if k=1 then 250 else if k=2 then 252 else if k=3 then 253 else if k=4 then 254 else 263
theorem ZZ(n:bq m)(hs:inB m s){r:bC}{x:aE}{p:az}{c:aK}{i k j:Nat}(h:RefAt m r x p c i k j)(b:Bool)(a:aO)(ha:a∈c.aM):
  (1<=a.Kind/\a.Kind<=5)/\∃s2,(∀κ:KT ρ,cbK (call (doF a.Kind) [t5 b a,.ptr (R.length+1)] (HM m R i s)) κ=κ ([.d (.bool (gQ m i s a).isSome)],HM m R i s2))/\∀u,gQ m i s a=some u->s2=u:=by
 have w:i<(dA m).length:=(List.getElem?_eq_some_iff.1 h.hx).1;have g:=(((n.e.p p (yS h.hp)).c c (yS h.hc)).1.a a ha);obtain⟨A,B,z,_⟩:=oQ h.hp;have done:∀f,f=doF a.Kind->(∀κ:KT ρ,cbK (call f [t5 b a,.ptr (R.length+1)] (HM m R i s)) κ=κ ([.d (.bool (gQ m i s a).isSome)],HM m R i ((gQ m i s a).getD s)))->∃s2,(∀κ:KT ρ,cbK (call (doF a.Kind) [t5 b a,.ptr (R.length+1)] (HM m R i s)) κ=κ ([.d (.bool (gQ m i s a).isSome)],HM m R i s2))/\∀u,gQ m i s a=some u->s2=u:=λf e G=>⟨_,e▸G,λu D=>by rw[D];rfl⟩
 cases Mn (h.ok.a a ha)with
 |set hk t v d C=>
  rw[A]at d
  obtain⟨l,q⟩:=List.getElem?_eq_some_iff.1 d
  refine⟨by omega,done 250 (by rw[hk];rfl) λκ=>arz n hs w b a g.v hk a.To.toNat (by omega) l ?_ κ⟩
  grind [dN]
 |item hk t v d C=>
  rw[A]at d
  obtain⟨l,q⟩:=List.getElem?_eq_some_iff.1 d
  exact⟨by omega,done 252 (by rw[hk];rfl) λκ=>abG n hs w b a g.i g.v hk a.To.toNat (by omega) l κ⟩
 |own hk t v d=>
  rw[z]at d
  obtain⟨l,q⟩:=List.getElem?_eq_some_iff.1 d
  exact⟨by omega,done 253 (by rw[hk];rfl) λκ=>arA n hs w b a g.v hk a.To.toNat (by omega) x h.hx (by rw[h.o];exact l) κ⟩
 |send hk t H d=>
  rw[B]at d
  obtain⟨l,q⟩:=List.getElem?_eq_some_iff.1 d
  exact⟨by omega,done 254 (by rw[hk];rfl) λκ=>abH n hs w b a g.v hk a.To.toNat (by omega) l κ⟩
 |recv hk t H d F v o=>
  rw[B]at d
  rw[z]at o
  obtain⟨l,q⟩:=List.getElem?_eq_some_iff.1 d;obtain⟨y,E⟩:=List.getElem?_eq_some_iff.1 o
  refine⟨by omega,?_⟩
  rw[show doF a.Kind=263 by rw[hk];rfl]
  exact abI n hs b a hk a.To.toNat (by omega) l a.Local.toNat (by omega) x h.hx (by rw[h.o];exact y)
end
end
section
attribute [-simp] List.map_append List.map_take List.map_drop List.map_set
variable{m:ae}{s:J Int}{R:J Ob}
section
variable{ρ:Type}
abbrev vO(c:aK):D:=.agg [.str c.Name,.int .i64 c.dm,.int .i64 c.To,.sl false (List.map eN c.Guard),.sl false (List.map (jU false) c.aM),.bool c.Fair]
def BS(m:ae)(R:J Ob)(i a:Nat)(c:aK)(k:Nat)(s:J Int):St:=⟨[(8,.loc (.l 8 0) [] 0 0),(10,.d (.ptr (R.length+1))),(11,.d (.int .i64 a)),(67,.d (.sl false (List.map eDo c.aM))),(68,.d (.int .i64 c.aM.length)),(69,.d (.int .i64 k))],[((8,0),.own [.d (vO c)])],HM m R i s⟩
def BX(m:ae)(R:J Ob)(i a:Nat)(c:aK)(s:J Int):St:=⟨[(8,.loc (.l 8 0) [] 0 0),(10,.d (.ptr (R.length+1))),(11,.d (.int .i64 a)),(67,.d (.sl false (List.map eDo c.aM))),(68,.d (.int .i64 c.aM.length)),(69,.d (.int .i64 c.aM.length)),(70,.d (.bool false))],[((8,0),.own [.d (vO c)])],HM m R i s⟩
def BF(m:ae)(R:J Ob)(i:Nat)(s:J Int):St:=⟨[(6,.aH (.l 6 0) [] 0 0),(7,.d (.bool false))],[((6,0),.own [])],HM m R i s⟩
theorem agV:w6 P 197 "lariat/fire.do" =some 250:=by kernel_rfl
theorem agW:w6 P 198 "lariat/fire.do" =some 252:=by kernel_rfl
theorem agX:w6 P 199 "lariat/fire.do" =some 253:=by kernel_rfl
theorem agY:w6 P 200 "lariat/fire.do" =some 254:=by kernel_rfl
theorem agZ:w6 P 201 "lariat/fire.do" =some 263:=by kernel_rfl
@[go_sem] theorem arG{t:TypeId}{x:D}:(D.iface t x).nc=1:=rfl
@[go_sem] theorem aeg{t:TypeId}{x:D}:(D.iface t x).cells=[D.iface t x]:=rfl
@[go_sem] theorem ajk{t:TypeId}{x:D}:(D.iface t x).sv1=some (.d (.iface t x)):=rfl
theorem ag0{k:Int}(h:1<=k/\k<=5):w6 P (kTy k) "lariat/fire.do" =some (doF k):=by
 have a:k=1\/k=2\/k=3\/k=4\/k=5:=by omega
 obtain rfl |rfl |rfl |rfl |rfl:=a
 .exact agV
 .exact agW
 .exact agX
 .exact agY
 .exact agZ
theorem Z0(i a:Nat)(c:aK)(k:Nat)(hk:k<c.aM.length)(hl:c.aM.length<=1000)(e:1<=c.aM[k].Kind/\c.aM[k].Kind<=5)(s s2:J Int)(d:Bool)(hd:∀κ:KT ρ,cbK (call (doF c.aM[k].Kind) [t5 false c.aM[k],.ptr (R.length+1)] (HM m R i s)) κ=κ ([.d (.bool d)],HM m R i s2))(κ:Ex×St->U ρ):
  dI P hints sg b58 0 (BS m R i a c k s) κ=if d=true then dI P hints sg b58 0 (BS m R i a c (k+1) s2) κ else κ (.ret,BF m R i s2):=by
 refine(ap acZ.2).trans ?_
 have f:IntKind.i64.wrap ((k:Int)+1)=(k:Int)+1:=dE (by omega) (by omega)
 have g:=ag0 e;have b:doF c.aM[k].Kind<1099511627776:=by unfold doF;repeat grind
 simp only[HM,HT,WF,t5]at hd
 cases d <;>simp [go_sem,BS,BF,HM,HT,WF,eDo,vO,t5,hk,f,g,b,hd]
theorem ag1(i a:Nat)(c:aK)(s:J Int)(κ:Ex×St->U ρ):dI P hints sg b58 0 (BS m R i a c c.aM.length s) κ=κ (.exit 0,BX m R i a c s):=by
 refine(ap acZ.2).trans ?_
 simp [go_sem,BS,BX]
theorem Z1(g:bq m){r:bC}{x:aE}{p:az}{c:aK}{i k j:Nat}(h:RefAt m r x p c i k j)(a:Nat):∀(d n:Nat) (s:J Int),inB m s->n+d=c.aM.length->
  ∃s2,∀κ:Ex×St->U ρ,dI P hints sg b58 0 (BS m R i a c n s) κ=match oN m i (c.aM.drop n) s with |some t=>κ (.exit 0,BX m R i a c t) |none=>κ (.ret,BF m R i s2)
 |0,n,s,hs,o=>by
  obtain rfl:n=c.aM.length:=by omega
  simp_all [ag1,oN]
 |d+1,n,s,hs,o=>by
  have b:n<c.aM.length:=by omega
  have l:c.aM.length<=1000:=by have:=h.ok.an;omega
  obtain⟨hk,s2,f,q⟩:=ZZ (ρ:=ρ) g hs h false c.aM[n] (eO b);rw[xW b,oN]
  cases e:gQ m i s c.aM[n]with
  |none=>
   rw[e]at f
   refine⟨s2,λκ=> ?_⟩
   rw[Z0 i a c n b l hk s s2 false f κ];rfl
  |some t=>
   rw[e]at f
   obtain rfl:=q t e
   obtain⟨s3,h3⟩:=Z1 g h a d (n+1) s2 (L8 g.may hs e) (by omega)
   refine⟨s3,λκ=> ?_⟩
   rw[Z0 i a c n b l hk s s2 true f κ,if_pos rfl,h3 κ];rfl
end
end
section
attribute [-simp] List.map_append List.map_take List.map_drop List.map_set
variable{m:ae}{s:J Int}{Q:J GStep}
section
variable{ρ:Type}
abbrev BQ(Q:J GStep):J Ob:=List.map (λ(x:GStep)=>Ob.box (.d (.agg [.int .i64 x.Cmd,.int .i64 x.Way]))) Q
abbrev HW(m:ae)(R:J Ob):J Ob:=.box (.d (WF m (dW m) (dA m) (dM m)))::R
theorem Z2(B:bq m)(hs:inB m s)(b:Bool)(n:Nat)(r:bC)(hr:(dM m)[n]? =some r)(κ:KT ρ):cbK (call 58 [.ptr 0,.sl b (List.map eI s),.int .i64 n] (HW m (BQ Q))) κ=κ ([.d (.sl false (List.map eI ((mi m s r).getD []))),.d (.bool (mi m s r).isSome)],HW m (BQ Q)):=by
 obtain⟨x,p,c,i,k,j,h⟩:=Ie B.may (yS hr)
 refine(ave _ _ _ rfl).trans ?_
 obtain⟨a,N,_,V,W,X⟩:=UU h.hx;have E:=h.hi;have I:=h.hj;have h3:=h.hx;have h4:=h.hk;have h5:=h.hp;have h6:=h.hc;have d:(dW m).Insts[i]? =some (a:Int):=by simp[dW,ofN,N]
 have U:=hs.1;have Y:=iN B.may;have f:a<s.length:=by omega
 have o:=λb κ=>Mq (ρ:=ρ) b s (λe=>by rw[e]at f;simp at f) (by omega) κ
 have A:=λH κ=>abJ (ρ:=ρ) H c.aM (by have:=h.ok.an;omega) (λa N=>(ZZ (ρ:=ρ) (R:=BQ Q) B hs h false a N).1) κ
 have M:mi m s r=if s[a]=c.dm/\CM m s i c.Guard=true then(oN m i c.aM s).map λt=>t.set a c.To else none:=by
  unfold mi;simp only[h.cm,E,xV,Eg,N,gZ,xG f]
 rw[M];clear M
 by_cases F:s[a]=c.dm
 .obtain⟨s3,g⟩:=Z1 (ρ:=ρ) (R:=BQ Q) B h a c.aM.length 0 s hs (fu _)
  simp only[BS,BX,BF,HM,HT,WF,vO,jg,eA,l7]at g
  have L:∀t,oN m i c.aM s=some t->a<t.length:=λt ht=>by rw[(HY B.may hs ht).1];omega
  by_cases C:c.Guard=[]
  .have K:CM m s i []=true:=rfl
   simp only[C,g9]at g
   cases G:oN m i c.aM s with
   |none=>
    rw[G]at g
    cases b <;>simp [go_sem,HW,WF,N6,hr,E,I,h3,h4,h5,h6,d,f,o,A,F,C,K,g]
   |some t=>
    rw[G]at g
    have S:=L t G;have J:List.take t.length (t.set a c.To)=t.set a c.To:=gy (by simp)
    cases b <;>simp [go_sem,HW,WF,N6,hr,E,I,h3,h4,h5,h6,d,f,o,A,F,C,K,g,S,J]
  .have P:c.Guard.isEmpty=false:=by cases hc:c.Guard with |nil=>exact absurd hc C |cons y l=>rfl
   have w:=BD m (dW m) (dA m) (dM m) i s (BQ Q) false c.Guard;have v:=BE m (dW m) (dA m) (dM m) i s false c.Guard;have z:=Ic m (dW m) (dA m) (dM m) i s c.Guard;have hi:i<(dA m).length:=(List.getElem?_eq_some_iff.1 h.hx).1;have Z:=((B.e.p p (yS h.hp)).c c (yS h.hc)).1.g;have u:=λκ=>wN (ρ:=ρ) B hs (CS B.may hs i) (dM m) hi c.Guard Z κ
   have K:CM m s i c.Guard=(decide ((iR c.Guard (j8 m s i)).2=0)&&decide ((iR c.Guard (j8 m s i)).1≠0)):=by
    unfold CM vJ;rw[P,Bool.false_or]
    by_cases q:(iR c.Guard (j8 m s i)).2=0 <;>simp[q]
   rw[K];clear K;generalize iR c.Guard (j8 m s i)=r1 at u |-
   simp only[HM,HT,WF,D.cells,TD,WD,l7]at w v z u
   by_cases O:r1.2=0
   .by_cases T:r1.1=0
    .cases b <;>simp [go_sem,HW,WF,N6,hr,E,I,h3,h4,h5,h6,d,f,o,F,C,w,v,z,u,O,T]
    .cases G:oN m i c.aM s with
     |none=>
      rw[G]at g
      cases b <;>simp [go_sem,HW,WF,N6,hr,E,I,h3,h4,h5,h6,d,f,o,A,F,C,w,v,z,u,O,T,g]
     |some t=>
      rw[G]at g
      have S:=L t G;have J:List.take t.length (t.set a c.To)=t.set a c.To:=gy (by simp)
      cases b <;>simp [go_sem,HW,WF,N6,hr,E,I,h3,h4,h5,h6,d,f,o,A,F,C,w,v,z,u,O,T,g,S,J]
   .cases b <;>simp [go_sem,HW,WF,N6,hr,E,I,h3,h4,h5,h6,d,f,o,F,C,w,v,z,u,O]
 .have aa:¬(s[a]=c.dm/\CM m s i c.Guard=true):=λq=>F q.1
  cases b <;>simp [go_sem,HW,WF,N6,hr,E,I,h3,h4,h5,h6,d,f,o,F]
end
end
end Go.Etx
