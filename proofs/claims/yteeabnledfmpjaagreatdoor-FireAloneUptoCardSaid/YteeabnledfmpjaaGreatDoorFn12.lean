/- A part of the proof: texts of mine, merged by a program (wip/dev/merge.py). -/
import Derived.Test.YteeabnledfmpjaaGreatDoorFn11
import GoSem.ClaimJoined
import Derived.Lib.LaidTab
import Derived.LaidLaws
import Derived.Test.YteeabnledfmpjaaGreatDoorRows
set_option linter.unusedSimpArgs false
set_option linter.unusedVariables false
namespace Go.Am
open Go
theorem jZ{b:Type}{Q:b->Prop}(f:b->D):∀(l:J D),(∀y∈l,∃a,y=f a/\Q a)->∃vs:J b,l=vs.map f/\∀a∈vs,Q a
 | [],_=>⟨[],rfl,by simp⟩
 |y::l,h=>by
  obtain⟨a,rfl,e⟩:=h y (by simp)
  obtain⟨vs,rfl,c⟩:=jZ f l (λz d=>h z (by simp[d]))
  exact⟨a::vs,rfl,by simpa using⟨e,c⟩⟩
theorem QC{b:Type}(f:b->D)(g:b->Nat)(h:∀x,(f x).bk=g x)(l:J b):D.bA (l.map f)=(l.map g).sum:=by
 induction l with
 |nil=>simp[D.bA]
 |cons a l c=>simp[D.bA,h,c]
theorem jC{a:Type}(f:a->D)(g:a->Nat)(h:∀x,(f x).bk=g x)(l:J a):D.bk (.sl false (l.map f))=(l.map g).sum+1:=by
 rw[D.bk,QC f g h]
theorem abX{b:Type}(g:b->Nat)(h:∀x,1<=g x)(l:J b):l.length<=(l.map g).sum:=by
 induction l with
 |nil=>simp
 |cons a l c=>have:=h a;simp;omega
theorem R9{b:Type}(g:b->Nat){l:J b}{x:b}(hx:x∈l):g x<=(l.map g).sum:=by
 induction l with
 |nil=>cases hx
 |cons a l c=>
  obtain rfl |hx:=List.mem_cons.1 hx
  .simp
  .have:=c hx;simp;omega
end Go.Am
namespace Go.Etd
open Go.Etx
open Go Go.Am Go.Proofs
set_option maxRecDepth 20000
def ok3(m:Int):Prop:=-9223372036854775808<=m/\m<=9223372036854775807
def bk3(_:Int):Nat:=1
theorem qW{n:Nat}{x:D}(h:Ty P (n+1) 3 x):∃v:Int,x=eI v/\ok3 v:=by
 have b:P.underlying 3=some (.int .i64):=un3;simp only[Ty,b]at h
 obtain⟨m,rfl,a,c⟩:=h
 exact⟨m,rfl,a,c⟩
theorem OM(v:Int):(eI v).bk=bk3 v:=rfl
def ok4(_:Bool):Prop:=True
def bk4(_:Bool):Nat:=1
theorem ars{n:Nat}{x:D}(h:Ty P (n+1) 4 x):∃v:Bool,x=eB v/\ok4 v:=by
 have a:P.underlying 4=some .bool:=un4;simp only[Ty,a]at h
 obtain⟨m,rfl⟩:=h
 exact⟨m,rfl,trivial⟩
theorem art(v:Bool):(eB v).bk=bk4 v:=rfl
def ok9(_:J UInt8):Prop:=True
def bk9(s:J UInt8):Nat:=s.length+1
theorem U4{n:Nat}{x:D}(h:Ty P (n+1) 9 x):∃v:J UInt8,x=eS v/\ok9 v:=by
 have a:P.underlying 9=some .string:=un9;simp only[Ty,a]at h
 obtain⟨m,rfl⟩:=h
 exact⟨m,rfl,trivial⟩
theorem U5(v:J UInt8):(eS v).bk=bk9 v:=rfl
def ok29(l:J Int):Prop:=∀a∈l,ok3 a
def aru(l:J Int):Nat:=(l.map bk3).sum+1
theorem arv{n:Nat}{x:D}(h:Ty P (n+2) 29 x):∃v:J Int,x=(fH false) v/\ok29 v:=by
 have c:P.underlying 29=some (.slice 3):=aup;rw[Ty]at h
 simp only[c]at h
 obtain⟨l,rfl,d⟩:=h;obtain⟨e,rfl,b⟩:=jZ eI l (λy a=>qW (n:=n+0) (d y a))
 exact⟨e,rfl,b⟩
theorem arw(v:J Int):((fH false) v).bk=aru v:=jC eI bk3 OM v
def arx(x:aB):Prop:=ok9 x.Name/\ok3 x.aC/\ok3 x.aH/\ok3 x.Lo/\ok3 x.Hi/\ok3 x.Init
def abY(x:aB):Nat:=bk9 x.Name+bk3 x.aC+bk3 x.aH+bk3 x.Lo+bk3 x.Hi+bk3 x.Init
theorem ary{n:Nat}{x:D}(h:Ty P (n+2) 53 x):∃v:aB,x=dH v/\arx v:=by
 have s:P.underlying 53=_:=Tryz.underlying53;rw[Ty]at h
 simp only[s]at h
 obtain⟨G,rfl,a⟩:=h;simp only[All2]at a
 obtain⟨H,J,rfl,b,d⟩:=a;obtain⟨p,rfl,i⟩:=U4 (n:=n+0) b;obtain⟨E,B,rfl,k,l⟩:=d;obtain⟨u,rfl,m⟩:=qW (n:=n+0) k;obtain⟨F,L,rfl,e,t⟩:=l;obtain⟨y,rfl,r⟩:=qW (n:=n+0) e;obtain⟨C,I,rfl,z,h3⟩:=t;obtain⟨o,rfl,w⟩:=qW (n:=n+0) z;obtain⟨M,K,rfl,f,h4⟩:=h3;obtain⟨g,rfl,c⟩:=qW (n:=n+0) f;obtain⟨N,O,rfl,A,h5⟩:=h4;obtain⟨q,rfl,j⟩:=qW (n:=n+0) A;subst h5
 exact⟨⟨p,u,y,o,g,q⟩,rfl,i,m,r,w,c,j⟩
theorem arz(v:aB):(dH v).bk=abY v:=by
 have h:=λ(l:J D)=>D.bk.eq_3 l
 simp only[dH,abY,D.bk,D.bA,<-U5,<-OM] <;>omega
def arA(x:aD):Prop:=ok9 x.Name/\ok3 x.aC/\ok3 x.bm/\ok3 x.Lo/\ok3 x.Hi/\ok4 x.Lossy
def abZ(x:aD):Nat:=bk9 x.Name+bk3 x.aC+bk3 x.bm+bk3 x.Lo+bk3 x.Hi+bk4 x.Lossy
theorem arB{n:Nat}{x:D}(h:Ty P (n+2) 55 x):∃v:aD,x=dM v/\arA v:=by
 have s:P.underlying 55=_:=Tryz.underlying55;rw[Ty]at h
 simp only[s]at h
 obtain⟨G,rfl,a⟩:=h;simp only[All2]at a
 obtain⟨H,J,rfl,b,d⟩:=a;obtain⟨p,rfl,i⟩:=U4 (n:=n+0) b;obtain⟨E,B,rfl,k,l⟩:=d;obtain⟨u,rfl,m⟩:=qW (n:=n+0) k;obtain⟨F,L,rfl,e,t⟩:=l;obtain⟨y,rfl,r⟩:=qW (n:=n+0) e;obtain⟨C,I,rfl,z,h3⟩:=t;obtain⟨o,rfl,w⟩:=qW (n:=n+0) z;obtain⟨M,K,rfl,f,h4⟩:=h3;obtain⟨g,rfl,c⟩:=qW (n:=n+0) f;obtain⟨N,O,rfl,A,h5⟩:=h4;obtain⟨q,rfl,j⟩:=ars (n:=n+0) A;subst h5
 exact⟨⟨p,u,y,o,g,q⟩,rfl,i,m,r,w,c,j⟩
theorem arC(v:aD):(dM v).bk=abZ v:=by
 have h:=λ(l:J D)=>D.bk.eq_3 l
 simp only[dM,abZ,D.bk,D.bA,<-U5,<-OM,<-art] <;>omega
def ad6(x:aw):Prop:=ok9 x.Name/\ok3 x.cS
def Sf(x:aw):Nat:=bk9 x.Name+bk3 x.cS
theorem ag5{n:Nat}{x:D}(h:Ty P (n+2) 102 x):∃v:aw,x=dz v/\ad6 v:=by
 have j:P.underlying 102=_:=Tryz.underlying102;rw[Ty]at h
 simp only[j]at h
 obtain⟨o,rfl,a⟩:=h;simp only[All2]at a
 obtain⟨p,q,rfl,b,c⟩:=a;obtain⟨i,rfl,d⟩:=U4 (n:=n+0) b;obtain⟨m,l,rfl,e,f⟩:=c;obtain⟨k,rfl,g⟩:=qW (n:=n+0) e;subst f
 exact⟨⟨i,k⟩,rfl,d,g⟩
theorem ag6(v:aw):(dz v).bk=Sf v:=by
 have h:=λ(l:J D)=>D.bk.eq_3 l
 simp only[dz,Sf,D.bk,D.bA,<-U5,<-OM] <;>omega
def ad7(x:aF):Prop:=ok3 x.Op/\ok3 x.N
def ON(x:aF):Nat:=bk3 x.Op+bk3 x.N
theorem ag7{n:Nat}{x:D}(h:Ty P (n+2) 115 x):∃v:aF,x=eH v/\ad7 v:=by
 have j:P.underlying 115=_:=Tryz.underlying115;rw[Ty]at h
 simp only[j]at h
 obtain⟨o,rfl,a⟩:=h;simp only[All2]at a
 obtain⟨p,q,rfl,b,c⟩:=a;obtain⟨i,rfl,d⟩:=qW (n:=n+0) b;obtain⟨m,l,rfl,e,f⟩:=c;obtain⟨k,rfl,g⟩:=qW (n:=n+0) e;subst f
 exact⟨⟨i,k⟩,rfl,d,g⟩
theorem ag8(v:aF):(eH v).bk=ON v:=by
 have h:=λ(l:J D)=>D.bk.eq_3 l
 simp only[eH,ON,D.bk,D.bA,<-OM] <;>omega
def arD(l:J aw):Prop:=∀a∈l,ad6 a
def arE(l:J aw):Nat:=(l.map Sf).sum+1
theorem arF{n:Nat}{x:D}(h:Ty P (n+3) 22 x):∃v:J aw,x=(fP false) v/\arD v:=by
 have c:P.underlying 22=some (.slice 102):=auk;rw[Ty]at h
 simp only[c]at h
 obtain⟨l,rfl,d⟩:=h;obtain⟨e,rfl,b⟩:=jZ dz l (λy a=>ag5 (n:=n+0) (d y a))
 exact⟨e,rfl,b⟩
theorem arG(v:J aw):((fP false) v).bk=arE v:=jC dz Sf ag6 v
def ag9(l:J aB):Prop:=∀a∈l,arx a
def aha(l:J aB):Nat:=(l.map abY).sum+1
theorem ad8{n:Nat}{x:D}(h:Ty P (n+3) 23 x):∃v:J aB,x=(tz false) v/\ag9 v:=by
 have c:P.underlying 23=some (.slice 53):=aul;rw[Ty]at h
 simp only[c]at h
 obtain⟨l,rfl,d⟩:=h;obtain⟨e,rfl,b⟩:=jZ dH l (λy a=>ary (n:=n+0) (d y a))
 exact⟨e,rfl,b⟩
theorem ad9(v:J aB):((tz false) v).bk=aha v:=jC dH abY arz v
def arH(l:J aD):Prop:=∀a∈l,arA a
def arI(l:J aD):Nat:=(l.map abZ).sum+1
theorem arJ{n:Nat}{x:D}(h:Ty P (n+3) 24 x):∃v:J aD,x=(zt false) v/\arH v:=by
 have c:P.underlying 24=some (.slice 55):=aum;rw[Ty]at h
 simp only[c]at h
 obtain⟨l,rfl,d⟩:=h;obtain⟨e,rfl,b⟩:=jZ dM l (λy a=>arB (n:=n+0) (d y a))
 exact⟨e,rfl,b⟩
theorem arK(v:J aD):((zt false) v).bk=arI v:=jC dM abZ arC v
def U6(l:J aF):Prop:=∀a∈l,ad7 a
def QD(l:J aF):Nat:=(l.map ON).sum+1
theorem Sg{n:Nat}{x:D}(h:Ty P (n+3) 43 x):∃v:J aF,x=(nT false) v/\U6 v:=by
 have c:P.underlying 43=some (.slice 115):=auq;rw[Ty]at h
 simp only[c]at h
 obtain⟨l,rfl,d⟩:=h;obtain⟨e,rfl,b⟩:=jZ eH l (λy a=>ag7 (n:=n+0) (d y a))
 exact⟨e,rfl,b⟩
theorem d_(v:J aF):((nT false) v).bk=QD v:=jC eH ON ag8 v
def aea(x:aP):Prop:=ok3 x.Kind/\ok3 x.To/\ok3 x.Local/\U6 x.Index/\U6 x.Value
def OO(x:aP):Nat:=bk3 x.Kind+bk3 x.To+bk3 x.Local+QD x.Index+QD x.Value
theorem ahb{n:Nat}{x:D}(h:Ty P (n+4) 100 x):∃v:aP,x=(jL false) v/\aea v:=by
 have q:P.underlying 100=_:=Tryz.underlying100;rw[Ty]at h
 simp only[q]at h
 obtain⟨C,rfl,a⟩:=h;simp only[All2]at a
 obtain⟨E,G,rfl,b,d⟩:=a;obtain⟨o,rfl,i⟩:=qW (n:=n+2) b;obtain⟨A,y,rfl,j,k⟩:=d;obtain⟨s,rfl,l⟩:=qW (n:=n+2) j;obtain⟨B,I,rfl,e,r⟩:=k;obtain⟨u,rfl,p⟩:=qW (n:=n+2) e;obtain⟨z,F,rfl,w,h3⟩:=r;obtain⟨m,rfl,t⟩:=Sg (n:=n+0) w;obtain⟨J,H,rfl,f,h4⟩:=h3;obtain⟨g,rfl,c⟩:=Sg (n:=n+0) f;subst h4
 exact⟨⟨o,s,u,m,g⟩,rfl,i,l,p,t,c⟩
theorem ahc(v:aP):((jL false) v).bk=OO v:=by
 have h:=λ(l:J D)=>D.bk.eq_3 l
 simp only[jL,OO,D.bk,D.bA,<-OM,<-d_] <;>omega
def aeb(x:aW):Prop:=ok9 x.Name/\U6 x.Expr
def Sh(x:aW):Nat:=bk9 x.Name+QD x.Expr
theorem ahd{n:Nat}{x:D}(h:Ty P (n+4) 143 x):∃v:aW,x=(e9 false) v/\aeb v:=by
 have j:P.underlying 143=_:=Tryz.underlying143;rw[Ty]at h
 simp only[j]at h
 obtain⟨o,rfl,a⟩:=h;simp only[All2]at a
 obtain⟨p,q,rfl,b,c⟩:=a;obtain⟨i,rfl,d⟩:=U4 (n:=n+2) b;obtain⟨m,l,rfl,e,f⟩:=c;obtain⟨k,rfl,g⟩:=Sg (n:=n+0) e;subst f
 exact⟨⟨i,k⟩,rfl,d,g⟩
theorem ahe(v:aW):((e9 false) v).bk=Sh v:=by
 have h:=λ(l:J D)=>D.bk.eq_3 l
 simp only[e9,Sh,D.bk,D.bA,<-U5,<-d_] <;>omega
def arL(l:J aW):Prop:=∀a∈l,aeb a
def arM(l:J aW):Nat:=(l.map Sh).sum+1
theorem arN{n:Nat}{x:D}(h:Ty P (n+5) 26 x):∃v:J aW,x=(P5 false) v/\arL v:=by
 have c:P.underlying 26=some (.slice 143):=auo;rw[Ty]at h
 simp only[c]at h
 obtain⟨l,rfl,d⟩:=h;obtain⟨e,rfl,b⟩:=jZ (e9 false) l (λy a=>ahd (n:=n+0) (d y a))
 exact⟨e,rfl,b⟩
theorem arO(v:J aW):((P5 false) v).bk=arM v:=jC (e9 false) Sh ahe v
def arP(l:J aP):Prop:=∀a∈l,aea a
def ahf(l:J aP):Nat:=(l.map OO).sum+1
theorem arQ{n:Nat}{x:D}(h:Ty P (n+5) 44 x):∃v:J aP,x=(Jt false) v/\arP v:=by
 have c:P.underlying 44=some (.slice 100):=aur;rw[Ty]at h
 simp only[c]at h
 obtain⟨l,rfl,d⟩:=h;obtain⟨e,rfl,b⟩:=jZ (jL false) l (λy a=>ahb (n:=n+0) (d y a))
 exact⟨e,rfl,b⟩
theorem arR(v:J aP):((Jt false) v).bk=ahf v:=jC (jL false) OO ahc v
def arS(x:aK):Prop:=ok9 x.Name/\ok3 x.dk/\ok3 x.To/\U6 x.Guard/\arP x.aM/\ok4 x.Fair
def d?(x:aK):Nat:=bk9 x.Name+bk3 x.dk+bk3 x.To+QD x.Guard+ahf x.aM+bk4 x.Fair
theorem arT{n:Nat}{x:D}(h:Ty P (n+6) 46 x):∃v:aK,x=(fQ false) v/\arS v:=by
 have s:P.underlying 46=_:=Tryz.underlying46;rw[Ty]at h
 simp only[s]at h
 obtain⟨G,rfl,a⟩:=h;simp only[All2]at a
 obtain⟨H,J,rfl,b,d⟩:=a;obtain⟨p,rfl,i⟩:=U4 (n:=n+4) b;obtain⟨E,B,rfl,k,l⟩:=d;obtain⟨u,rfl,m⟩:=qW (n:=n+4) k;obtain⟨F,L,rfl,e,t⟩:=l;obtain⟨y,rfl,r⟩:=qW (n:=n+4) e;obtain⟨C,I,rfl,z,h3⟩:=t;obtain⟨o,rfl,w⟩:=Sg (n:=n+2) z;obtain⟨M,K,rfl,f,h4⟩:=h3;obtain⟨g,rfl,c⟩:=arQ (n:=n+0) f;obtain⟨N,O,rfl,A,h5⟩:=h4;obtain⟨q,rfl,j⟩:=ars (n:=n+4) A;subst h5
 exact⟨⟨p,u,y,o,g,q⟩,rfl,i,m,r,w,c,j⟩
theorem arU(v:aK):((fQ false) v).bk=d? v:=by
 have h:=λ(l:J D)=>D.bk.eq_3 l
 simp only[fQ,d?,D.bk,D.bA,<-U5,<-OM,<-d_,<-arR,<-art] <;>omega
def arV(l:J aK):Prop:=∀a∈l,arS a
def ahg(l:J aK):Nat:=(l.map d?).sum+1
theorem arW{n:Nat}{x:D}(h:Ty P (n+7) 70 x):∃v:J aK,x=(XX false) v/\arV v:=by
 have c:P.underlying 70=some (.slice 46):=aus;rw[Ty]at h
 simp only[c]at h
 obtain⟨l,rfl,d⟩:=h;obtain⟨e,rfl,b⟩:=jZ (fQ false) l (λy a=>arT (n:=n+0) (d y a))
 exact⟨e,rfl,b⟩
theorem arX(v:J aK):((XX false) v).bk=ahg v:=jC (fQ false) d? arU v
def arY(x:az):Prop:=ok9 x.Name/\ok3 x.aH/\ok3 x.bE/\ag9 x.aq/\arV x.aO
def U7(x:az):Nat:=bk9 x.Name+bk3 x.aH+bk3 x.bE+aha x.aq+ahg x.aO
theorem arZ{n:Nat}{x:D}(h:Ty P (n+8) 72 x):∃v:az,x=(dI false) v/\arY v:=by
 have q:P.underlying 72=_:=Tryz.underlying72;rw[Ty]at h
 simp only[q]at h
 obtain⟨C,rfl,a⟩:=h;simp only[All2]at a
 obtain⟨E,G,rfl,b,d⟩:=a;obtain⟨o,rfl,i⟩:=U4 (n:=n+6) b;obtain⟨A,y,rfl,j,k⟩:=d;obtain⟨s,rfl,l⟩:=qW (n:=n+6) j;obtain⟨B,I,rfl,e,r⟩:=k;obtain⟨u,rfl,p⟩:=qW (n:=n+6) e;obtain⟨z,F,rfl,w,h3⟩:=r;obtain⟨m,rfl,t⟩:=ad8 (n:=n+4) w;obtain⟨J,H,rfl,f,h4⟩:=h3;obtain⟨g,rfl,c⟩:=arW (n:=n+0) f;subst h4
 exact⟨⟨o,s,u,m,g⟩,rfl,i,l,p,t,c⟩
theorem ar0(v:az):((dI false) v).bk=U7 v:=by
 have h:=λ(l:J D)=>D.bk.eq_3 l
 simp only[dI,U7,D.bk,D.bA,<-U5,<-OM,<-ad9,<-arX] <;>omega
def ar1(l:J az):Prop:=∀a∈l,arY a
def ahh(l:J az):Nat:=(l.map U7).sum+1
theorem ar2{n:Nat}{x:D}(h:Ty P (n+9) 25 x):∃v:J az,x=(LH false) v/\ar1 v:=by
 have c:P.underlying 25=some (.slice 72):=aun;rw[Ty]at h
 simp only[c]at h
 obtain⟨l,rfl,d⟩:=h;obtain⟨e,rfl,b⟩:=jZ (dI false) l (λy a=>arZ (n:=n+0) (d y a))
 exact⟨e,rfl,b⟩
theorem ar3(v:J az):((LH false) v).bk=ahh v:=jC (dI false) U7 ar0 v
def ahi(x:ae):Prop:=arD x.aa/\ag9 x.aq/\arH x.ah/\ar1 x.ak/\arL x.aL
def d!(x:ae):Nat:=arE x.aa+aha x.aq+arI x.ah+ahh x.ak+arM x.aL
theorem ar4{n:Nat}{x:D}(h:Ty P (n+10) 28 x):∃v:ae,x=(gv false) v/\ahi v:=by
 have q:P.underlying 28=_:=Tryz.underlying28;rw[Ty]at h
 simp only[q]at h
 obtain⟨C,rfl,a⟩:=h;simp only[All2]at a
 obtain⟨E,G,rfl,b,d⟩:=a;obtain⟨o,rfl,i⟩:=arF (n:=n+6) b;obtain⟨A,y,rfl,j,k⟩:=d;obtain⟨s,rfl,l⟩:=ad8 (n:=n+6) j;obtain⟨B,I,rfl,e,r⟩:=k;obtain⟨u,rfl,p⟩:=arJ (n:=n+6) e;obtain⟨z,F,rfl,w,h3⟩:=r;obtain⟨m,rfl,t⟩:=ar2 (n:=n+0) w;obtain⟨J,H,rfl,f,h4⟩:=h3;obtain⟨g,rfl,c⟩:=arN (n:=n+4) f;subst h4
 exact⟨⟨o,s,u,m,g⟩,rfl,i,l,p,t,c⟩
theorem ar5(v:ae):((gv false) v).bk=d! v:=by
 have h:=λ(l:J D)=>D.bk.eq_3 l
 simp only[gv,d!,D.bk,D.bA,<-arG,<-ad9,<-arK,<-ar3,<-arO] <;>omega
end Go.Etd
namespace Go.Am
open Go Go.ChangeShapes
def QE{H:Type}(ss:J (J UInt8)):DataW H:=.agg (ss.map λs=>.lit (.string s))
theorem Ii{H:Type}{enc:TypeId×Vz->H}{P:Pz}{w:Wz}{b:Nat}{x:Nat->Bool}{ahk:Bool}{c:Nat}{t e:TypeId}{n:Nat}{cs:J Vz}{ss:J (J UInt8)}{p:J MemPlace}
  (ht:P.underlying t=some (.array n e)) (z:P.underlying e=some .string) (d:P.cellsOf e=1) (u:P.cellsOf t=n)
  (h:DataW.trod enc P w b x ahk c t cs=some (QE ss,p)):cs=ss.map λs=>Value.string ⟨s.toArray⟩:=by
 obtain⟨r,m,rfl,o,C,B,f⟩:=DataW.trod_array ht h;simp only[QE,pJ,DataW.agg.injEq]at o
 obtain⟨a,_⟩:=o
 have v:ss.length=n:=by
  have:=congrArg List.length a
  simp at this;omega
 apply As;intro i
 by_cases y:i<n
 .have l:=f i y
  rw[d,Nat.mul_one,xG (by omega)]at l
  obtain⟨s,A,g,_⟩:=DataW.trod_string z l
  have q:cs[i]? =some (.string s):=by
   have:=congrArg (·[0]?) A
   simpa [xU,jq]using this
  have j:(r.map (·.1))[i]? =some (DataW.lit (.string s.data.toList):DataW H):=by
   rw[List.getElem?_map,xG (by omega)]
   simp[g]
  rw[<-a]at j
  simp only[List.getElem?_map,xM,DataW.lit.injEq,Lit.string.injEq]at j
  obtain⟨D,k,rfl⟩:=j;rw[q,List.getElem?_map,k]
  simp
 .rw[lL (by omega),lL (by simp;omega)]
theorem JO(c:Cx):∀ss:J (J UInt8),aR c (ss.map D.str) (ss.map λs=>Value.string ⟨s.toArray⟩)
 | []=>by simp[aR]
 |s::ss=>by
  simp only[eJ,aR]
  exact⟨_,_,rfl,by simp[VC],JO c ss⟩
theorem IA{P:Pz}{l:J (String×DataW Unit)}{W:Wz}(hp:(l.filter λx=>x.2.handleName?.isSome)=[])(h:laidMetH P l W):laidMet P l W:=by
 unfold laidMetH at h;rw[hp]at h
 exact h
theorem U8{P:Pz}{e:String}{d:DataW Unit}{r:J (String×DataW Unit)}{W:Wz}{g:Nat}{t:TypeId}(k:P.globalNamed e=some g)(j:(P.globals[g]?).map (·.type)=some t)(h:laidMet P ((e,d)::r) W):
  ∃(cs:Array Vz) (b:Nat) (p:J MemPlace),W.var? P e=some cs/\GH W g cs.toList/\DataW.trod (λ_=>()) P W 0 (λ_=>true) false b t cs.toList=some (d,p):=by
 obtain⟨u,⟨s,v,cs,b,p,q,f,i,a,l,_,_⟩,_⟩:=h
 obtain rfl:=Option.some.inj (k.symm.trans f)
 obtain rfl:=Option.some.inj (j.symm.trans i)
 refine⟨cs,b,p,a,?_,l⟩
 unfold World.var? at a;simp only[k,xS]at a
 split at a
 .rename_i c n o m
  simp only[xJ]at a
  subst a
  exact⟨n,o,by simpa using m⟩
 .cases a
theorem QF{P:Pz}{a:String}{g:Nat}{t e:TypeId}{n:Nat}{ss:J (J UInt8)}{W:Wz}(m:P.globalNamed a=some g)(j:(P.globals[g]?).map (·.type)=some t)(ht:P.underlying t=some (.array n e))(o:P.underlying e=some .string)(d:P.cellsOf e=1)(i:P.cellsOf t=n)
  {b:J (String×DataW Unit)} (h:laidMet P ((a,QE ss)::b) W):∃vs,GH W g vs/\GV (.agg (ss.map D.str)) vs:=by
 obtain⟨r,k,p,_,l,q⟩:=U8 m j h;have f:=Ii ht o d i q
 exact⟨_,l,λ_ c=>by rw[f];exact JO c ss,λh=>by cases h⟩
end Go.Am
namespace Go.Etx
open Go Go.Am Go.Proofs Go.Etd
set_option maxRecDepth 20000
set_option maxHeartbeats 40000000
theorem e_{a:Type}(o:U a):cbK o some=o:=by grind [cbK]
theorem Mf{e:J aF}(h:U6 e):∀x∈e,x.N<=9223372036854775807:=λx a=>(h x a).2.2
theorem DV{m:ae}(h:mX m=true):m.aa.length<=10/\m.aq.length<=30/\m.ah.length<=20/\m.ak.length<=20/\m.aL.length<=20/\∀p∈m.ak,p.aq.length<=20/\p.aO.length<=30/\∀c∈p.aO,c.aM.length<=20/\c.Guard.length<=60:=by
 grind [mX,R5,abz]
theorem ar6(l:J aF):l.length<=QD l:=by
 grind [abX,ON,bk3,QD]
theorem ahj{m:ae}(h:ahi m)(b:mX m=true):MoE m:=⟨λp hp=>⟨λc hc=>by
  have h4:=(h.2.2.2.1 p hp).2.2.2.2 c hc;have h5:=((DV b).2.2.2.2.2 p hp).2.2 c hc
  exact⟨⟨Mf h4.2.2.2.1,λa ha=>⟨Mf (h4.2.2.2.2.1 a ha).2.2.2.1,Mf (h4.2.2.2.2.1 a ha).2.2.2.2⟩⟩,by omega⟩⟩,λp hp=>Mf (h.2.2.2.2 p hp).2⟩
theorem ab0{m:ae}(hb:d! m<=1048576)(e:mX m=true):cC m:=by
 obtain⟨l,o,h3,h4,h5,h6⟩:=DV e
 refine⟨by omega,by omega,by omega,by omega,by omega,λp b=> ?_⟩
 obtain⟨j,g,f⟩:=h6 p b
 refine⟨by omega,by omega,λc d=> ?_⟩
 obtain⟨k,n⟩:=f c d
 refine⟨by omega,by omega,λa h=> ?_⟩
 have i:=R9 U7 b
 grind [R9,d?,OO,ar6,d!,ahh,U7,ahg,ahf]
theorem IB(m:ae)(s:J Int)(h:ahi m)(b:Etd.ok29 s)(hb:d! m+aru s<=1048576):call 6 [gv false m,fH false s] []=some ([.d (.bool true)],[]):=by
 have e:=abV (ρ:=J T×J Ob) (m:=m) (s:=s) (λa=>⟨ab0 (by omega) a,ahj h a⟩) some
 rw[e_]at e
 exact e
theorem e?{d:Type}{p:d->Prop}{c:Prop}[Decidable c]{a:c->d}{b:¬c->d}(ha:∀h,p (a h))(hb:∀h,p (b h)):p (dite c a b):=by
 grind
def GLk(h:Hint):Prop:=∀g d,h.gl g=some d->PX g=some d
theorem ar7{h:Hint}(e:h.gl=PX):GLk h:=by
 intro g d a;rw[e]at a
 exact a
theorem aec{h:Hint}(e:h.gl=λ_=>none):GLk h:=by
 intro g d a;rw[e]at a
 cases a
theorem e!:∀f g d,(hints f).gl g=some d->PX g=some d:=by
 intro f;show GLk (hints f);unfold hints hints.match_1
 repeat' refine e? (p:=GLk) (λh=> ?_) (λh=> ?_)
 all_goals first |(subst h;first |exact ar7 rfl |exact aec rfl) |exact aec rfl
def EXk(h:Hint):Prop:=h.ext=none
theorem f_:∀f,EXk (hints f):=by
 intro f;unfold hints hints.match_1
 repeat' refine e? (p:=EXk) (λh=> ?_) (λh=> ?_)
 all_goals first |(subst h;exact rfl) |exact rfl
theorem U9:∀f F,(hints f).ext=some F->Wf Tryz.prog PX f F:=λf F h=>by
 rw[show(hints f).ext=none from f_ f]at h
 cases h
theorem ar8:Tryz.prog.globalNamed "lariat/lex.own" =some 0:=by kernel_rfl
theorem ar9:(Tryz.prog.globals[0]?).map (·.type)=some 250:=by kernel_rfl
open Go.Proofs.YteeabnledfmpjaaGreatDoor in
theorem ahk{W:Wz}(ho:laidMet Tryz.prog Rows.fireAloneUptoRow.laid W):GA PX (A0 W):=by
 have key:∀g d,(∃vs:J Vz,GH W g vs/\GV d vs)->g<(A0 W).w0.heap.size/\¬(A0 W).O0 g/\(∀t,¬(A0 W).F t g)/\∃vs:J Vz,GH (A0 W).w0 g vs/\GV d vs:=by
  rintro g d ⟨vs,h1,h2⟩
  refine⟨?_,id,λ_=>id,vs,h1,h2⟩
  obtain⟨t,fr,h3⟩:=h1
  exact(Array.getElem?_eq_some_iff.1 h3).1
 intro g d e;refine key g d ?_;simp only[PX,Am.look]at e
 split at e
 .rename_i hg
  simp only[xJ]at e
  subst e;rw[<-hg];exact QF (ss:=[[115,101,108,102],[110,111,110,101],[108,101,110],[97,116]]) ar8 ar9 Tryz.underlying250 Tryz.underlying9 (by kernel_rfl) (by kernel_rfl) ho
 .cases e
end Go.Etx
