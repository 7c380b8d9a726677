/- A part of the proof: texts of mine, merged by a program (wip/dev/merge.py). -/
import Derived.Test.YteeabnledfmpjaaGreatDoorFr11
import GoSem.ClaimJoined
import Derived.Lib.LaidTab
import Derived.LaidLaws
import Derived.Test.YteeabnledfmpjaaGreatDoorRows
set_option linter.unusedSimpArgs false
set_option linter.unusedVariables false
namespace Go.Am
open Go
theorem kb{b:Type}{Q:b->Prop}(f:b->D):∀(l:J D),(∀y∈l,∃a,y=f a/\Q a)->∃vs:J b,l=vs.map f/\∀a∈vs,Q a
 | [],_=>⟨[],rfl,by simp⟩
 |y::l,h=>by
  obtain⟨a,rfl,d⟩:=h y (by simp)
  obtain⟨vs,rfl,e⟩:=kb f l (λz c=>h z (by simp[c]))
  exact⟨a::vs,rfl,by simpa using⟨d,e⟩⟩
theorem QV{b:Type}(f:b->D)(g:b->Nat)(h:∀x,(f x).bk=g x)(l:J b):D.bA (l.map f)=(l.map g).sum:=by
 induction l with
 |nil=>simp[D.bA]
 |cons a l c=>simp[D.bA,h,c]
theorem jN{a:Type}(f:a->D)(g:a->Nat)(h:∀x,(f x).bk=g x)(l:J a):D.bk (.sl false (l.map f))=(l.map g).sum+1:=by
 rw[D.bk,QV f g h]
theorem ace{b:Type}(g:b->Nat)(h:∀x,1<=g x)(l:J b):l.length<=(l.map g).sum:=by
 induction l with
 |nil=>simp
 |cons a l c=>have:=h a;simp;omega
theorem SK{b:Type}(g:b->Nat){l:J b}{x:b}(hx:x∈l):g x<=(l.map g).sum:=by
 induction l with
 |nil=>cases hx
 |cons a l c=>
  obtain rfl |hx:=List.mem_cons.1 hx
  .simp
  .have:=c hx;simp;omega
end Go.Am
namespace Go.Etd
open Go.Etx
open Go Go.Am Go.Proofs
set_option maxRecDepth 20000
def ok3(m:Int):Prop:=-9223372036854775808<=m/\m<=9223372036854775807
def bk3(_:Int):Nat:=1
theorem rh{n:Nat}{x:D}(h:Ty P (n+1) 3 x):∃v:Int,x=eI v/\ok3 v:=by
 have b:P.underlying 3=some (.int .i64):=un3;simp only[Ty,b]at h
 obtain⟨m,rfl,a,c⟩:=h
 exact⟨m,rfl,a,c⟩
theorem O5(v:Int):(eI v).bk=bk3 v:=rfl
def ok4(_:Bool):Prop:=True
def bk4(_:Bool):Nat:=1
theorem arL{n:Nat}{x:D}(h:Ty P (n+1) 4 x):∃v:Bool,x=eB v/\ok4 v:=by
 have a:P.underlying 4=some .bool:=un4;simp only[Ty,a]at h
 obtain⟨m,rfl⟩:=h
 exact⟨m,rfl,trivial⟩
theorem arM(v:Bool):(eB v).bk=bk4 v:=rfl
def ok9(_:J UInt8):Prop:=True
def bk9(s:J UInt8):Nat:=s.length+1
theorem Vo{n:Nat}{x:D}(h:Ty P (n+1) 9 x):∃v:J UInt8,x=eS v/\ok9 v:=by
 have a:P.underlying 9=some .string:=un9;simp only[Ty,a]at h
 obtain⟨m,rfl⟩:=h
 exact⟨m,rfl,trivial⟩
theorem Vp(v:J UInt8):(eS v).bk=bk9 v:=rfl
def ok29(l:J Int):Prop:=∀a∈l,ok3 a
def arN(l:J Int):Nat:=(l.map bk3).sum+1
theorem arO{n:Nat}{x:D}(h:Ty P (n+2) 29 x):∃v:J Int,x=(fS false) v/\ok29 v:=by
 have a:P.underlying 29=some (.slice 3):=auI;rw[Ty]at h
 simp only[a]at h
 obtain⟨l,rfl,b⟩:=h;obtain⟨d,rfl,e⟩:=kb eI l (λy c=>rh (n:=n+0) (b y c))
 exact⟨d,rfl,e⟩
theorem arP(v:J Int):((fS false) v).bk=arN v:=jN eI bk3 O5 v
def arQ(x:aB):Prop:=ok9 x.Name/\ok3 x.aC/\ok3 x.aG/\ok3 x.Lo/\ok3 x.Hi/\ok3 x.Init
def acf(x:aB):Nat:=bk9 x.Name+bk3 x.aC+bk3 x.aG+bk3 x.Lo+bk3 x.Hi+bk3 x.Init
theorem arR{n:Nat}{x:D}(h:Ty P (n+2) 53 x):∃v:aB,x=dJ v/\arQ v:=by
 have i:P.underlying 53=_:=Tryz.underlying53;rw[Ty]at h
 simp only[i]at h
 obtain⟨F,rfl,a⟩:=h;simp only[All2]at a
 obtain⟨B,G,rfl,y,j⟩:=a;obtain⟨p,rfl,m⟩:=Vo (n:=n+0) y;obtain⟨H,L,rfl,f,t⟩:=j;obtain⟨b,rfl,l⟩:=rh (n:=n+0) f;obtain⟨I,K,rfl,o,d⟩:=t;obtain⟨e,rfl,z⟩:=rh (n:=n+0) o;obtain⟨C,M,rfl,q,h3⟩:=d;obtain⟨u,rfl,r⟩:=rh (n:=n+0) q;obtain⟨J,E,rfl,g,h4⟩:=h3;obtain⟨A,rfl,s⟩:=rh (n:=n+0) g;obtain⟨N,O,rfl,c,h5⟩:=h4;obtain⟨w,rfl,k⟩:=rh (n:=n+0) c;subst h5
 exact⟨⟨p,b,e,u,A,w⟩,rfl,m,l,z,r,s,k⟩
theorem arS(v:aB):(dJ v).bk=acf v:=by
 have h:=λ(l:J D)=>D.bk.eq_3 l
 simp only[dJ,acf,D.bk,D.bA,<-Vp,<-O5] <;>omega
def arT(x:aD):Prop:=ok9 x.Name/\ok3 x.aC/\ok3 x.bc/\ok3 x.Lo/\ok3 x.Hi/\ok4 x.Lossy
def acg(x:aD):Nat:=bk9 x.Name+bk3 x.aC+bk3 x.bc+bk3 x.Lo+bk3 x.Hi+bk4 x.Lossy
theorem arU{n:Nat}{x:D}(h:Ty P (n+2) 55 x):∃v:aD,x=dP v/\arT v:=by
 have i:P.underlying 55=_:=Tryz.underlying55;rw[Ty]at h
 simp only[i]at h
 obtain⟨F,rfl,a⟩:=h;simp only[All2]at a
 obtain⟨B,G,rfl,y,j⟩:=a;obtain⟨p,rfl,m⟩:=Vo (n:=n+0) y;obtain⟨H,L,rfl,f,t⟩:=j;obtain⟨b,rfl,l⟩:=rh (n:=n+0) f;obtain⟨I,K,rfl,o,d⟩:=t;obtain⟨e,rfl,z⟩:=rh (n:=n+0) o;obtain⟨C,M,rfl,q,h3⟩:=d;obtain⟨u,rfl,r⟩:=rh (n:=n+0) q;obtain⟨J,E,rfl,g,h4⟩:=h3;obtain⟨A,rfl,s⟩:=rh (n:=n+0) g;obtain⟨N,O,rfl,c,h5⟩:=h4;obtain⟨w,rfl,k⟩:=arL (n:=n+0) c;subst h5
 exact⟨⟨p,b,e,u,A,w⟩,rfl,m,l,z,r,s,k⟩
theorem arV(v:aD):(dP v).bk=acg v:=by
 have h:=λ(l:J D)=>D.bk.eq_3 l
 simp only[dP,acg,D.bk,D.bA,<-Vp,<-O5,<-arM] <;>omega
def aen(x:aw):Prop:=ok9 x.Name/\ok3 x.cV
def SM(x:aw):Nat:=bk9 x.Name+bk3 x.cV
theorem ahm{n:Nat}{x:D}(h:Ty P (n+2) 102 x):∃v:aw,x=dB v/\aen v:=by
 have d:P.underlying 102=_:=Tryz.underlying102;rw[Ty]at h
 simp only[d]at h
 obtain⟨m,rfl,a⟩:=h;simp only[All2]at a
 obtain⟨l,o,rfl,k,e⟩:=a;obtain⟨i,rfl,g⟩:=Vo (n:=n+0) k;obtain⟨p,q,rfl,c,j⟩:=e;obtain⟨b,rfl,f⟩:=rh (n:=n+0) c;subst j
 exact⟨⟨i,b⟩,rfl,g,f⟩
theorem ahn(v:aw):(dB v).bk=SM v:=by
 have h:=λ(l:J D)=>D.bk.eq_3 l
 simp only[dB,SM,D.bk,D.bA,<-Vp,<-O5] <;>omega
def aeo(x:aF):Prop:=ok3 x.Op/\ok3 x.N
def O6(x:aF):Nat:=bk3 x.Op+bk3 x.N
theorem aho{n:Nat}{x:D}(h:Ty P (n+2) 115 x):∃v:aF,x=eN v/\aeo v:=by
 have d:P.underlying 115=_:=Tryz.underlying115;rw[Ty]at h
 simp only[d]at h
 obtain⟨m,rfl,a⟩:=h;simp only[All2]at a
 obtain⟨l,o,rfl,k,e⟩:=a;obtain⟨i,rfl,g⟩:=rh (n:=n+0) k;obtain⟨p,q,rfl,c,j⟩:=e;obtain⟨b,rfl,f⟩:=rh (n:=n+0) c;subst j
 exact⟨⟨i,b⟩,rfl,g,f⟩
theorem ahp(v:aF):(eN v).bk=O6 v:=by
 have h:=λ(l:J D)=>D.bk.eq_3 l
 simp only[eN,O6,D.bk,D.bA,<-O5] <;>omega
def arW(l:J aw):Prop:=∀a∈l,aen a
def arX(l:J aw):Nat:=(l.map SM).sum+1
theorem arY{n:Nat}{x:D}(h:Ty P (n+3) 22 x):∃v:J aw,x=(fT false) v/\arW v:=by
 have a:P.underlying 22=some (.slice 102):=auD;rw[Ty]at h
 simp only[a]at h
 obtain⟨l,rfl,b⟩:=h;obtain⟨d,rfl,e⟩:=kb dB l (λy c=>ahm (n:=n+0) (b y c))
 exact⟨d,rfl,e⟩
theorem arZ(v:J aw):((fT false) v).bk=arX v:=jN dB SM ahn v
def ahq(l:J aB):Prop:=∀a∈l,arQ a
def ahr(l:J aB):Nat:=(l.map acf).sum+1
theorem aep{n:Nat}{x:D}(h:Ty P (n+3) 23 x):∃v:J aB,x=(tG false) v/\ahq v:=by
 have a:P.underlying 23=some (.slice 53):=auE;rw[Ty]at h
 simp only[a]at h
 obtain⟨l,rfl,b⟩:=h;obtain⟨d,rfl,e⟩:=kb dJ l (λy c=>arR (n:=n+0) (b y c))
 exact⟨d,rfl,e⟩
theorem aeq(v:J aB):((tG false) v).bk=ahr v:=jN dJ acf arS v
def ar0(l:J aD):Prop:=∀a∈l,arT a
def ar1(l:J aD):Nat:=(l.map acg).sum+1
theorem ar2{n:Nat}{x:D}(h:Ty P (n+3) 24 x):∃v:J aD,x=(zD false) v/\ar0 v:=by
 have a:P.underlying 24=some (.slice 55):=auF;rw[Ty]at h
 simp only[a]at h
 obtain⟨l,rfl,b⟩:=h;obtain⟨d,rfl,e⟩:=kb dP l (λy c=>arU (n:=n+0) (b y c))
 exact⟨d,rfl,e⟩
theorem ar3(v:J aD):((zD false) v).bk=ar1 v:=jN dP acg arV v
def Vq(l:J aF):Prop:=∀a∈l,aeo a
def QW(l:J aF):Nat:=(l.map O6).sum+1
theorem SN{n:Nat}{x:D}(h:Ty P (n+3) 43 x):∃v:J aF,x=(oa false) v/\Vq v:=by
 have a:P.underlying 43=some (.slice 115):=auJ;rw[Ty]at h
 simp only[a]at h
 obtain⟨l,rfl,b⟩:=h;obtain⟨d,rfl,e⟩:=kb eN l (λy c=>aho (n:=n+0) (b y c))
 exact⟨d,rfl,e⟩
theorem j?(v:J aF):((oa false) v).bk=QW v:=jN eN O6 ahp v
def aer(x:aO):Prop:=ok3 x.Kind/\ok3 x.To/\ok3 x.Local/\Vq x.Index/\Vq x.Value
def O7(x:aO):Nat:=bk3 x.Kind+bk3 x.To+bk3 x.Local+QW x.Index+QW x.Value
theorem ahs{n:Nat}{x:D}(h:Ty P (n+4) 100 x):∃v:aO,x=(jU false) v/\aer v:=by
 have g:P.underlying 100=_:=Tryz.underlying100;rw[Ty]at h
 simp only[g]at h
 obtain⟨B,rfl,a⟩:=h;simp only[All2]at a
 obtain⟨y,C,rfl,t,i⟩:=a;obtain⟨m,rfl,k⟩:=rh (n:=n+2) t;obtain⟨E,I,rfl,e,r⟩:=i;obtain⟨b,rfl,j⟩:=rh (n:=n+2) e;obtain⟨F,H,rfl,l,c⟩:=r;obtain⟨d,rfl,u⟩:=rh (n:=n+2) l;obtain⟨z,J,rfl,o,h3⟩:=c;obtain⟨s,rfl,p⟩:=SN (n:=n+0) o;obtain⟨G,A,rfl,f,h4⟩:=h3;obtain⟨w,rfl,q⟩:=SN (n:=n+0) f;subst h4
 exact⟨⟨m,b,d,s,w⟩,rfl,k,j,u,p,q⟩
theorem aht(v:aO):((jU false) v).bk=O7 v:=by
 have h:=λ(l:J D)=>D.bk.eq_3 l
 simp only[jU,O7,D.bk,D.bA,<-O5,<-j?] <;>omega
def aes(x:aX):Prop:=ok9 x.Name/\Vq x.Expr
def SS(x:aX):Nat:=bk9 x.Name+QW x.Expr
theorem ahu{n:Nat}{x:D}(h:Ty P (n+4) 143 x):∃v:aX,x=(fw false) v/\aes v:=by
 have d:P.underlying 143=_:=Tryz.underlying143;rw[Ty]at h
 simp only[d]at h
 obtain⟨m,rfl,a⟩:=h;simp only[All2]at a
 obtain⟨l,o,rfl,k,e⟩:=a;obtain⟨i,rfl,g⟩:=Vo (n:=n+2) k;obtain⟨p,q,rfl,c,j⟩:=e;obtain⟨b,rfl,f⟩:=SN (n:=n+0) c;subst j
 exact⟨⟨i,b⟩,rfl,g,f⟩
theorem ahv(v:aX):((fw false) v).bk=SS v:=by
 have h:=λ(l:J D)=>D.bk.eq_3 l
 simp only[fw,SS,D.bk,D.bA,<-Vp,<-j?] <;>omega
def ar4(l:J aX):Prop:=∀a∈l,aes a
def ar5(l:J aX):Nat:=(l.map SS).sum+1
theorem ar6{n:Nat}{x:D}(h:Ty P (n+5) 26 x):∃v:J aX,x=(Qm false) v/\ar4 v:=by
 have a:P.underlying 26=some (.slice 143):=auH;rw[Ty]at h
 simp only[a]at h
 obtain⟨l,rfl,b⟩:=h;obtain⟨d,rfl,e⟩:=kb (fw false) l (λy c=>ahu (n:=n+0) (b y c))
 exact⟨d,rfl,e⟩
theorem ar7(v:J aX):((Qm false) v).bk=ar5 v:=jN (fw false) SS ahv v
def ar8(l:J aO):Prop:=∀a∈l,aer a
def ahw(l:J aO):Nat:=(l.map O7).sum+1
theorem ar9{n:Nat}{x:D}(h:Ty P (n+5) 44 x):∃v:J aO,x=(JB false) v/\ar8 v:=by
 have a:P.underlying 44=some (.slice 100):=auK;rw[Ty]at h
 simp only[a]at h
 obtain⟨l,rfl,b⟩:=h;obtain⟨d,rfl,e⟩:=kb (jU false) l (λy c=>ahs (n:=n+0) (b y c))
 exact⟨d,rfl,e⟩
theorem asa(v:J aO):((JB false) v).bk=ahw v:=jN (jU false) O7 aht v
def asb(x:aK):Prop:=ok9 x.Name/\ok3 x.dm/\ok3 x.To/\Vq x.Guard/\ar8 x.aM/\ok4 x.Fair
def j!(x:aK):Nat:=bk9 x.Name+bk3 x.dm+bk3 x.To+QW x.Guard+ahw x.aM+bk4 x.Fair
theorem asc{n:Nat}{x:D}(h:Ty P (n+6) 46 x):∃v:aK,x=(fU false) v/\asb v:=by
 have i:P.underlying 46=_:=Tryz.underlying46;rw[Ty]at h
 simp only[i]at h
 obtain⟨F,rfl,a⟩:=h;simp only[All2]at a
 obtain⟨B,G,rfl,y,j⟩:=a;obtain⟨p,rfl,m⟩:=Vo (n:=n+4) y;obtain⟨H,L,rfl,f,t⟩:=j;obtain⟨b,rfl,l⟩:=rh (n:=n+4) f;obtain⟨I,K,rfl,o,d⟩:=t;obtain⟨e,rfl,z⟩:=rh (n:=n+4) o;obtain⟨C,M,rfl,q,h3⟩:=d;obtain⟨u,rfl,r⟩:=SN (n:=n+2) q;obtain⟨J,E,rfl,g,h4⟩:=h3;obtain⟨A,rfl,s⟩:=ar9 (n:=n+0) g;obtain⟨N,O,rfl,c,h5⟩:=h4;obtain⟨w,rfl,k⟩:=arL (n:=n+4) c;subst h5
 exact⟨⟨p,b,e,u,A,w⟩,rfl,m,l,z,r,s,k⟩
theorem asd(v:aK):((fU false) v).bk=j! v:=by
 have h:=λ(l:J D)=>D.bk.eq_3 l
 simp only[fU,j!,D.bk,D.bA,<-Vp,<-O5,<-j?,<-asa,<-arM] <;>omega
def ase(l:J aK):Prop:=∀a∈l,asb a
def ahx(l:J aK):Nat:=(l.map j!).sum+1
theorem asf{n:Nat}{x:D}(h:Ty P (n+7) 70 x):∃v:J aK,x=(Yh false) v/\ase v:=by
 have a:P.underlying 70=some (.slice 46):=auL;rw[Ty]at h
 simp only[a]at h
 obtain⟨l,rfl,b⟩:=h;obtain⟨d,rfl,e⟩:=kb (fU false) l (λy c=>asc (n:=n+0) (b y c))
 exact⟨d,rfl,e⟩
theorem asg(v:J aK):((Yh false) v).bk=ahx v:=jN (fU false) j! asd v
def ash(x:az):Prop:=ok9 x.Name/\ok3 x.aG/\ok3 x.bF/\ahq x.aq/\ase x.aP
def Vr(x:az):Nat:=bk9 x.Name+bk3 x.aG+bk3 x.bF+ahr x.aq+ahx x.aP
theorem asi{n:Nat}{x:D}(h:Ty P (n+8) 72 x):∃v:az,x=(dL false) v/\ash v:=by
 have g:P.underlying 72=_:=Tryz.underlying72;rw[Ty]at h
 simp only[g]at h
 obtain⟨B,rfl,a⟩:=h;simp only[All2]at a
 obtain⟨y,C,rfl,t,i⟩:=a;obtain⟨m,rfl,k⟩:=Vo (n:=n+6) t;obtain⟨E,I,rfl,e,r⟩:=i;obtain⟨b,rfl,j⟩:=rh (n:=n+6) e;obtain⟨F,H,rfl,l,c⟩:=r;obtain⟨d,rfl,u⟩:=rh (n:=n+6) l;obtain⟨z,J,rfl,o,h3⟩:=c;obtain⟨s,rfl,p⟩:=aep (n:=n+4) o;obtain⟨G,A,rfl,f,h4⟩:=h3;obtain⟨w,rfl,q⟩:=asf (n:=n+0) f;subst h4
 exact⟨⟨m,b,d,s,w⟩,rfl,k,j,u,p,q⟩
theorem asj(v:az):((dL false) v).bk=Vr v:=by
 have h:=λ(l:J D)=>D.bk.eq_3 l
 simp only[dL,Vr,D.bk,D.bA,<-Vp,<-O5,<-aeq,<-asg] <;>omega
def asl(l:J az):Prop:=∀a∈l,ash a
def ahy(l:J az):Nat:=(l.map Vr).sum+1
theorem asm{n:Nat}{x:D}(h:Ty P (n+9) 25 x):∃v:J az,x=(LU false) v/\asl v:=by
 have a:P.underlying 25=some (.slice 72):=auG;rw[Ty]at h
 simp only[a]at h
 obtain⟨l,rfl,b⟩:=h;obtain⟨d,rfl,e⟩:=kb (dL false) l (λy c=>asi (n:=n+0) (b y c))
 exact⟨d,rfl,e⟩
theorem asn(v:J az):((LU false) v).bk=ahy v:=jN (dL false) Vr asj v
def ahz(x:ae):Prop:=arW x.aa/\ahq x.aq/\ar0 x.ah/\asl x.ak/\ar4 x.aL
def k_(x:ae):Nat:=arX x.aa+ahr x.aq+ar1 x.ah+ahy x.ak+ar5 x.aL
theorem aso{n:Nat}{x:D}(h:Ty P (n+10) 28 x):∃v:ae,x=(gM false) v/\ahz v:=by
 have g:P.underlying 28=_:=Tryz.underlying28;rw[Ty]at h
 simp only[g]at h
 obtain⟨B,rfl,a⟩:=h;simp only[All2]at a
 obtain⟨y,C,rfl,t,i⟩:=a;obtain⟨m,rfl,k⟩:=arY (n:=n+6) t;obtain⟨E,I,rfl,e,r⟩:=i;obtain⟨b,rfl,j⟩:=aep (n:=n+6) e;obtain⟨F,H,rfl,l,c⟩:=r;obtain⟨d,rfl,u⟩:=ar2 (n:=n+6) l;obtain⟨z,J,rfl,o,h3⟩:=c;obtain⟨s,rfl,p⟩:=asm (n:=n+0) o;obtain⟨G,A,rfl,f,h4⟩:=h3;obtain⟨w,rfl,q⟩:=ar6 (n:=n+4) f;subst h4
 exact⟨⟨m,b,d,s,w⟩,rfl,k,j,u,p,q⟩
theorem asp(v:ae):((gM false) v).bk=k_ v:=by
 have h:=λ(l:J D)=>D.bk.eq_3 l
 simp only[gM,k_,D.bk,D.bA,<-arZ,<-aeq,<-ar3,<-asn,<-ar7] <;>omega
end Go.Etd
namespace Go.Am
open Go Go.ChangeShapes
def QX{H:Type}(ss:J (J UInt8)):DataW H:=.agg (ss.map λs=>.lit (.string s))
theorem Iq{H:Type}{enc:TypeId×Vz->H}{P:Pz}{w:Wz}{a:Nat}{z:Nat->Bool}{ahB:Bool}{c:Nat}{t e:TypeId}{n:Nat}{cs:J Vz}{ss:J (J UInt8)}{p:J MemPlace}
  (ht:P.underlying t=some (.array n e)) (u:P.underlying e=some .string) (k:P.cellsOf e=1) (A:P.cellsOf t=n)
  (h:DataW.trod enc P w a z ahB c t cs=some (QX ss,p)):cs=ss.map λs=>Value.string ⟨s.toArray⟩:=by
 obtain⟨r,m,rfl,l,D,y,f⟩:=DataW.trod_array ht h;simp only[QX,pJ,DataW.agg.injEq]at l
 obtain⟨b,_⟩:=l
 have B:ss.length=n:=by
  have:=congrArg List.length b
  simp at this;omega
 apply rm;intro i
 by_cases v:i<n
 .have o:=f i v
  rw[k,Nat.mul_one,xG (by omega)]at o
  obtain⟨s,q,j,_⟩:=DataW.trod_string u o
  have x:cs[i]? =some (.string s):=by
   have:=congrArg (·[0]?) q
   simpa [xU,jA]using this
  have d:(r.map (·.1))[i]? =some (DataW.lit (.string s.data.toList):DataW H):=by
   rw[List.getElem?_map,xG (by omega)]
   simp[j]
  rw[<-b]at d
  simp only[List.getElem?_map,xM,DataW.lit.injEq,Lit.string.injEq]at d
  obtain⟨C,g,rfl⟩:=d;rw[x,List.getElem?_map,g]
  simp
 .rw[lX (by omega),lX (by simp;omega)]
theorem JZ(c:Cx):∀ss:J (J UInt8),aR c (ss.map D.str) (ss.map λs=>Value.string ⟨s.toArray⟩)
 | []=>by simp[aR]
 |s::ss=>by
  simp only[eG,aR]
  exact⟨_,_,rfl,by simp[VC],JZ c ss⟩
theorem II{P:Pz}{l:J (String×DataW Unit)}{W:Wz}(hp:(l.filter λx=>x.2.handleName?.isSome)=[])(h:laidMetH P l W):laidMet P l W:=by
 unfold laidMetH at h;rw[hp]at h
 exact h
theorem Vs{P:Pz}{b:String}{d:DataW Unit}{r:J (String×DataW Unit)}{W:Wz}{g:Nat}{t:TypeId}(k:P.globalNamed b=some g)(j:(P.globals[g]?).map (·.type)=some t)(h:laidMet P ((b,d)::r) W):
  ∃(cs:Array Vz) (e:Nat) (p:J MemPlace),W.var? P b=some cs/\GH W g cs.toList/\DataW.trod (λ_=>()) P W 0 (λ_=>true) false e t cs.toList=some (d,p):=by
 obtain⟨s,⟨v,u,cs,e,p,q,f,i,a,l,_,_⟩,_⟩:=h
 obtain rfl:=Option.some.inj (k.symm.trans f)
 obtain rfl:=Option.some.inj (j.symm.trans i)
 refine⟨cs,e,p,a,?_,l⟩
 unfold World.var? at a;simp only[k,xS]at a
 split at a
 .rename_i c o m n
  simp only[xJ]at a
  subst a
  exact⟨o,m,by simpa using n⟩
 .cases a
theorem QY{P:Pz}{a:String}{g:Nat}{t e:TypeId}{n:Nat}{ss:J (J UInt8)}{W:Wz}(o:P.globalNamed a=some g)(j:(P.globals[g]?).map (·.type)=some t)(ht:P.underlying t=some (.array n e))(l:P.underlying e=some .string)(f:P.cellsOf e=1)(d:P.cellsOf t=n)
  {b:J (String×DataW Unit)} (h:laidMet P ((a,QX ss)::b) W):∃vs,GH W g vs/\GV (.agg (ss.map D.str)) vs:=by
 obtain⟨r,k,p,_,q,m⟩:=Vs o j h;have i:=Iq ht l f d m
 exact⟨_,q,λ_ c=>by rw[i];exact JZ c ss,λh=>by cases h⟩
end Go.Am
namespace Go.Etx
open Go Go.Am Go.Proofs Go.Etd
set_option maxRecDepth 20000
set_option maxHeartbeats 40000000
theorem k?{a:Type}(o:U a):cbK o some=o:=by grind [cbK]
theorem Mx{e:J aF}(h:Vq e):∀x∈e,x.N<=9223372036854775807:=λx a=>(h x a).2.2
theorem DZ{m:ae}(h:lV m=true):m.aa.length<=10/\m.aq.length<=30/\m.ah.length<=20/\m.ak.length<=20/\m.aL.length<=20/\∀p∈m.ak,p.aq.length<=20/\p.aP.length<=30/\∀c∈p.aP,c.aM.length<=20/\c.Guard.length<=60:=by
 grind [lV,SG,abX]
theorem asq(l:J aF):l.length<=QW l:=by
 grind [ace,O6,bk3,QW]
theorem ahA{m:ae}(h:ahz m)(b:lV m=true):MoE m:=⟨λp hp=>⟨λc hc=>by
  have h4:=(h.2.2.2.1 p hp).2.2.2.2 c hc;have h5:=((DZ b).2.2.2.2.2 p hp).2.2 c hc
  exact⟨⟨Mx h4.2.2.2.1,λa ha=>⟨Mx (h4.2.2.2.2.1 a ha).2.2.2.1,Mx (h4.2.2.2.2.1 a ha).2.2.2.2⟩⟩,by omega⟩⟩,λp hp=>Mx (h.2.2.2.2 p hp).2⟩
theorem ach{m:ae}(hb:k_ m<=1048576)(f:lV m=true):cE m:=by
 obtain⟨o,g,h3,h4,h5,h6⟩:=DZ f
 refine⟨by omega,by omega,by omega,by omega,by omega,λp b=> ?_⟩
 obtain⟨j,n,e⟩:=h6 p b
 refine⟨by omega,by omega,λc d=> ?_⟩
 obtain⟨l,i⟩:=e c d
 refine⟨by omega,by omega,λa h=> ?_⟩
 have k:=SK Vr b
 grind [SK,j!,O7,asq,k_,ahy,Vr,ahx,ahw]
theorem IJ(m:ae)(s:J Int)(h:ahz m)(b:Etd.ok29 s)(hb:k_ m+arN s<=1048576):call 8 [gM false m,fS false s] []=some ([.d (.bool true)],[]):=by
 have e:=acb (ρ:=J T×J Ob) (m:=m) (s:=s) (λa=>⟨ach (by omega) a,ahA h a⟩) some
 rw[k?]at e
 exact e
theorem k!{d:Type}{p:d->Prop}{c:Prop}[Decidable c]{a:c->d}{b:¬c->d}(ha:∀h,p (a h))(hb:∀h,p (b h)):p (dite c a b):=by
 grind
def GLk(h:Hint):Prop:=∀g d,h.gl g=some d->Qe g=some d
theorem asr{h:Hint}(e:h.gl=Qe):GLk h:=by
 intro g d a;rw[e]at a
 exact a
theorem aet{h:Hint}(e:h.gl=λ_=>none):GLk h:=by
 intro g d a;rw[e]at a
 cases a
theorem l_:∀f g d,(hints f).gl g=some d->Qe g=some d:=by
 intro f;show GLk (hints f);unfold hints hints.match_1
 repeat' refine k! (p:=GLk) (λh=> ?_) (λh=> ?_)
 all_goals first |(subst h;first |exact asr rfl |exact aet rfl) |exact aet rfl
def EXk(h:Hint):Prop:=h.ext=none
theorem l?:∀f,EXk (hints f):=by
 intro f;unfold hints hints.match_1
 repeat' refine k! (p:=EXk) (λh=> ?_) (λh=> ?_)
 all_goals first |(subst h;exact rfl) |exact rfl
theorem Vt:∀f F,(hints f).ext=some F->Wy Tryz.prog Qe f F:=λf F h=>by
 rw[show(hints f).ext=none from l? f]at h
 cases h
theorem ass:Tryz.prog.globalNamed "lariat/lex.own" =some 0:=by kernel_rfl
theorem ast:(Tryz.prog.globals[0]?).map (·.type)=some 250:=by kernel_rfl
open Go.Proofs.YteeabnledfmpjaaGreatDoor in
theorem ahB{W:Wz}(ho:laidMet Tryz.prog Rows.fireRightUptoRow.laid W):GA Qe (A0 W):=by
 have key:∀g d,(∃vs:J Vz,GH W g vs/\GV d vs)->g<(A0 W).w0.heap.size/\¬(A0 W).O0 g/\(∀t,¬(A0 W).F t g)/\∃vs:J Vz,GH (A0 W).w0 g vs/\GV d vs:=by
  rintro g d ⟨vs,h1,h2⟩
  refine⟨?_,id,λ_=>id,vs,h1,h2⟩
  obtain⟨t,fr,h3⟩:=h1
  exact(Array.getElem?_eq_some_iff.1 h3).1
 intro g d e;refine key g d ?_;simp only[Qe,Am.look]at e
 split at e
 .rename_i hg
  simp only[xJ]at e
  subst e;rw[<-hg];exact QY (ss:=[[115,101,108,102],[110,111,110,101],[108,101,110],[97,116]]) ass ast Tryz.underlying250 Tryz.underlying9 (by kernel_rfl) (by kernel_rfl) ho
 .cases e
end Go.Etx
