/- A part of the proof. -/
import Derived.Test.YtlcnolfmpbdgpaaGreatDoorTl11
import GoSem.ClaimJoined
import Derived.Lib.LaidTab
import Derived.LaidLaws
import Derived.Test.YtlcnolfmpbdgpaaGreatDoorRows
set_option linter.unusedSimpArgs false
set_option linter.unusedVariables false
namespace Go.Am
open Go
theorem ek{α:Type}{Q:α→Prop}(f:α→D):∀(l:List D),(∀y∈l,∃a,y=f a∧Q a)→∃vs:List α,l=vs.map f∧∀a∈vs,Q a
 | [],_=>⟨[],rfl,by simp⟩
 |y::l,h=>by
  obtain⟨a,rfl,ha⟩:=h y (by simp)
  obtain⟨vs,rfl,hs⟩:=ek f l (fun z hz=>h z (by simp[hz]))
  exact⟨a::vs,rfl,by simpa using⟨ha,hs⟩⟩
theorem Fk{α:Type}(f:α→D)(g:α→Nat)(h:∀x,(f x).bulk=g x)(l:List α):D.bulks (l.map f)=(l.map g).sum:=by
 induction l with
 |nil=>simp[D.bulks]
 |cons a l ih=>simp[D.bulks,h,ih]
theorem dV{α:Type}(f:α→D)(g:α→Nat)(h:∀x,(f x).bulk=g x)(l:List α):D.bulk (.sl false (l.map f))=(l.map g).sum+1:=by
 rw[D.bulk,Fk f g h]
end Go.Am
namespace Go.Etd
open Go.Etx
open Go Go.Am Go.Proofs
set_option maxRecDepth 20000
def ok3(m:Int):Prop:=-9223372036854775808≤m∧m≤9223372036854775807
def bk3(_:Int):Nat:=1
theorem jV{n:Nat}{x:D}(h:Ty P (n+1) 3 x):∃v:Int,x=eI v∧ok3 v:=by
 have hu:P.underlying 3=some (.int .i64):=un3;simp only[Ty,hu]at h
 obtain⟨m,rfl,h1,h2⟩:=h
 exact⟨m,rfl,h1,h2⟩
theorem DP(v:Int):(eI v).bulk=bk3 v:=rfl
def ok4(_:Bool):Prop:=True
def bk4(_:Bool):Nat:=1
theorem abC{n:Nat}{x:D}(h:Ty P (n+1) 4 x):∃v:Bool,x=eB v∧ok4 v:=by
 have hu:P.underlying 4=some .bool:=un4;simp only[Ty,hu]at h
 obtain⟨m,rfl⟩:=h
 exact⟨m,rfl,trivial⟩
theorem abD(v:Bool):(eB v).bulk=bk4 v:=rfl
def ok5(m:Int):Prop:=0≤m∧m≤255
def bk5(_:Int):Nat:=1
theorem afN{n:Nat}{x:D}(h:Ty P (n+1) 5 x):∃v:Int,x=(eK .u8) v∧ok5 v:=by
 have hu:P.underlying 5=some (.int .u8):=un5;simp only[Ty,hu]at h
 obtain⟨m,rfl,h1,h2⟩:=h
 exact⟨m,rfl,h1,h2⟩
theorem afO(v:Int):((eK .u8) v).bulk=bk5 v:=rfl
def ok9(_:List UInt8):Prop:=True
def bk9(s:List UInt8):Nat:=s.length+1
theorem Im{n:Nat}{x:D}(h:Ty P (n+1) 9 x):∃v:List UInt8,x=eS v∧ok9 v:=by
 have hu:P.underlying 9=some .string:=un9;simp only[Ty,hu]at h
 obtain⟨m,rfl⟩:=h
 exact⟨m,rfl,trivial⟩
theorem In(v:List UInt8):(eS v).bulk=bk9 v:=rfl
def abE(x:Etx.GStep):Prop:=ok3 x.Cmd∧ok3 x.Way
def Qa(x:Etx.GStep):Nat:=bk3 x.Cmd+bk3 x.Way
theorem abF{n:Nat}{x:D}(h:Ty P (n+2) 52 x):∃v:Etx.GStep,x=cf v∧abE v:=by
 have hu:P.underlying 52=_:=Tryz.underlying52;rw[Ty]at h
 simp only[hu]at h
 obtain⟨ys,rfl,hy⟩:=h;simp only[All2]at hy
 obtain⟨a0,r0,rfl,g0,h0⟩:=hy;obtain⟨v0,rfl,k0⟩:=jV (n:=n+0) g0;obtain⟨a1,r1,rfl,g1,h1⟩:=h0;obtain⟨v1,rfl,k1⟩:=jV (n:=n+0) g1;subst h1
 exact⟨⟨v0,v1⟩,rfl,k0,k1⟩
theorem abG(v:Etx.GStep):(cf v).bulk=Qa v:=by
 have h:=fun(l:List D)=>D.bulk.eq_3 l
 simp only[cf,Qa,D.bulk,D.bulks,←DP] <;>omega
def abH(x:GNode):Prop:=ok3 x.Op∧ok3 x.N
def Qb(x:GNode):Nat:=bk3 x.Op+bk3 x.N
theorem abI{n:Nat}{x:D}(h:Ty P (n+2) 78 x):∃v:GNode,x=bh v∧abH v:=by
 have hu:P.underlying 78=_:=Tryz.underlying78;rw[Ty]at h
 simp only[hu]at h
 obtain⟨ys,rfl,hy⟩:=h;simp only[All2]at hy
 obtain⟨a0,r0,rfl,g0,h0⟩:=hy;obtain⟨v0,rfl,k0⟩:=jV (n:=n+0) g0;obtain⟨a1,r1,rfl,g1,h1⟩:=h0;obtain⟨v1,rfl,k1⟩:=jV (n:=n+0) g1;subst h1
 exact⟨⟨v0,v1⟩,rfl,k0,k1⟩
theorem abJ(v:GNode):(bh v).bulk=Qb v:=by
 have h:=fun(l:List D)=>D.bulk.eq_3 l
 simp only[bh,Qb,D.bulk,D.bulks,←DP] <;>omega
def RG(x:GVar):Prop:=ok9 x.Name∧ok3 x.Scalar∧ok3 x.Over∧ok3 x.Lo∧ok3 x.Hi∧ok3 x.Init
def Gh(x:GVar):Nat:=bk9 x.Name+bk3 x.Scalar+bk3 x.Over+bk3 x.Lo+bk3 x.Hi+bk3 x.Init
theorem UK{n:Nat}{x:D}(h:Ty P (n+2) 125 x):∃v:GVar,x=aq v∧RG v:=by
 have hu:P.underlying 125=_:=Tryz.underlying125;rw[Ty]at h
 simp only[hu]at h
 obtain⟨ys,rfl,hy⟩:=h;simp only[All2]at hy
 obtain⟨a0,r0,rfl,g0,h0⟩:=hy;obtain⟨v0,rfl,k0⟩:=Im (n:=n+0) g0;obtain⟨a1,r1,rfl,g1,h1⟩:=h0;obtain⟨v1,rfl,k1⟩:=jV (n:=n+0) g1;obtain⟨a2,r2,rfl,g2,h2⟩:=h1;obtain⟨v2,rfl,k2⟩:=jV (n:=n+0) g2;obtain⟨a3,r3,rfl,g3,h3⟩:=h2;obtain⟨v3,rfl,k3⟩:=jV (n:=n+0) g3;obtain⟨a4,r4,rfl,g4,h4⟩:=h3;obtain⟨v4,rfl,k4⟩:=jV (n:=n+0) g4;obtain⟨a5,r5,rfl,g5,h5⟩:=h4;obtain⟨v5,rfl,k5⟩:=jV (n:=n+0) g5;subst h5
 exact⟨⟨v0,v1,v2,v3,v4,v5⟩,rfl,k0,k1,k2,k3,k4,k5⟩
theorem UL(v:GVar):(aq v).bulk=Gh v:=by
 have h:=fun(l:List D)=>D.bulk.eq_3 l
 simp only[aq,Gh,D.bulk,D.bulks,←In,←DP] <;>omega
def RH(x:GChan):Prop:=ok9 x.Name∧ok3 x.Scalar∧ok3 x.Cap∧ok3 x.Lo∧ok3 x.Hi∧ok4 x.Lossy
def Gi(x:GChan):Nat:=bk9 x.Name+bk3 x.Scalar+bk3 x.Cap+bk3 x.Lo+bk3 x.Hi+bk4 x.Lossy
theorem UM{n:Nat}{x:D}(h:Ty P (n+2) 140 x):∃v:GChan,x=ay v∧RH v:=by
 have hu:P.underlying 140=_:=Tryz.underlying140;rw[Ty]at h
 simp only[hu]at h
 obtain⟨ys,rfl,hy⟩:=h;simp only[All2]at hy
 obtain⟨a0,r0,rfl,g0,h0⟩:=hy;obtain⟨v0,rfl,k0⟩:=Im (n:=n+0) g0;obtain⟨a1,r1,rfl,g1,h1⟩:=h0;obtain⟨v1,rfl,k1⟩:=jV (n:=n+0) g1;obtain⟨a2,r2,rfl,g2,h2⟩:=h1;obtain⟨v2,rfl,k2⟩:=jV (n:=n+0) g2;obtain⟨a3,r3,rfl,g3,h3⟩:=h2;obtain⟨v3,rfl,k3⟩:=jV (n:=n+0) g3;obtain⟨a4,r4,rfl,g4,h4⟩:=h3;obtain⟨v4,rfl,k4⟩:=jV (n:=n+0) g4;obtain⟨a5,r5,rfl,g5,h5⟩:=h4;obtain⟨v5,rfl,k5⟩:=abC (n:=n+0) g5;subst h5
 exact⟨⟨v0,v1,v2,v3,v4,v5⟩,rfl,k0,k1,k2,k3,k4,k5⟩
theorem UN(v:GChan):(ay v).bulk=Gi v:=by
 have h:=fun(l:List D)=>D.bulk.eq_3 l
 simp only[ay,Gi,D.bulk,D.bulks,←In,←DP,←abD] <;>omega
def RI(x:GScalar):Prop:=ok9 x.Name∧ok3 x.Size
def Gj(x:GScalar):Nat:=bk9 x.Name+bk3 x.Size
theorem UO{n:Nat}{x:D}(h:Ty P (n+2) 156 x):∃v:GScalar,x=ae v∧RI v:=by
 have hu:P.underlying 156=_:=Tryz.underlying156;rw[Ty]at h
 simp only[hu]at h
 obtain⟨ys,rfl,hy⟩:=h;simp only[All2]at hy
 obtain⟨a0,r0,rfl,g0,h0⟩:=hy;obtain⟨v0,rfl,k0⟩:=Im (n:=n+0) g0;obtain⟨a1,r1,rfl,g1,h1⟩:=h0;obtain⟨v1,rfl,k1⟩:=jV (n:=n+0) g1;subst h1
 exact⟨⟨v0,v1⟩,rfl,k0,k1⟩
theorem UP(v:GScalar):(ae v).bulk=Gj v:=by
 have h:=fun(l:List D)=>D.bulk.eq_3 l
 simp only[ae,Gj,D.bulk,D.bulks,←In,←DP] <;>omega
def abK(l:List GScalar):Prop:=∀a∈l,RI a
def abL(l:List GScalar):Nat:=(l.map Gj).sum+1
theorem abM{n:Nat}{x:D}(h:Ty P (n+3) 22 x):∃v:List GScalar,x=(bR false) v∧abK v:=by
 have hu:P.underlying 22=some (.slice 156):=aeE;rw[Ty]at h
 simp only[hu]at h
 obtain⟨l,rfl,hl⟩:=h;obtain⟨vs,rfl,hs⟩:=ek ae l (fun y hy=>UO (n:=n+0) (hl y hy))
 exact⟨vs,rfl,hs⟩
theorem abN(v:List GScalar):((bR false) v).bulk=abL v:=dV ae Gj UP v
def UQ(l:List GVar):Prop:=∀a∈l,RG a
def UR(l:List GVar):Nat:=(l.map Gh).sum+1
theorem RJ{n:Nat}{x:D}(h:Ty P (n+3) 23 x):∃v:List GVar,x=(lT false) v∧UQ v:=by
 have hu:P.underlying 23=some (.slice 125):=aeF;rw[Ty]at h
 simp only[hu]at h
 obtain⟨l,rfl,hl⟩:=h;obtain⟨vs,rfl,hs⟩:=ek aq l (fun y hy=>UK (n:=n+0) (hl y hy))
 exact⟨vs,rfl,hs⟩
theorem RK(v:List GVar):((lT false) v).bulk=UR v:=dV aq Gh UL v
def abO(l:List GChan):Prop:=∀a∈l,RH a
def abP(l:List GChan):Nat:=(l.map Gi).sum+1
theorem abQ{n:Nat}{x:D}(h:Ty P (n+3) 24 x):∃v:List GChan,x=(sY false) v∧abO v:=by
 have hu:P.underlying 24=some (.slice 140):=aeG;rw[Ty]at h
 simp only[hu]at h
 obtain⟨l,rfl,hl⟩:=h;obtain⟨vs,rfl,hs⟩:=ek ay l (fun y hy=>UM (n:=n+0) (hl y hy))
 exact⟨vs,rfl,hs⟩
theorem abR(v:List GChan):((sY false) v).bulk=abP v:=dV ay Gi UN v
def ok29(l:List Etx.GStep):Prop:=∀a∈l,abE a
def abS(l:List Etx.GStep):Nat:=(l.map Qa).sum+1
theorem abT{n:Nat}{x:D}(h:Ty P (n+3) 29 x):∃v:List Etx.GStep,x=(BO false) v∧ok29 v:=by
 have hu:P.underlying 29=some (.slice 52):=aeJ;rw[Ty]at h
 simp only[hu]at h
 obtain⟨l,rfl,hl⟩:=h;obtain⟨vs,rfl,hs⟩:=ek cf l (fun y hy=>abF (n:=n+0) (hl y hy))
 exact⟨vs,rfl,hs⟩
theorem abU(v:List Etx.GStep):((BO false) v).bulk=abS v:=dV cf Qa abG v
def Io(l:List GNode):Prop:=∀a∈l,abH a
def LZ(l:List GNode):Nat:=(l.map Qb).sum+1
theorem Gk{n:Nat}{x:D}(h:Ty P (n+3) 44 x):∃v:List GNode,x=(iu false) v∧Io v:=by
 have hu:P.underlying 44=some (.slice 78):=aeL;rw[Ty]at h
 simp only[hu]at h
 obtain⟨l,rfl,hl⟩:=h;obtain⟨vs,rfl,hs⟩:=ek bh l (fun y hy=>abI (n:=n+0) (hl y hy))
 exact⟨vs,rfl,hs⟩
theorem L4(v:List GNode):((iu false) v).bulk=LZ v:=dV bh Qb abJ v
def abV(x:GProp):Prop:=ok9 x.Name∧Io x.Expr
def Qc(x:GProp):Nat:=bk9 x.Name+LZ x.Expr
theorem abW{n:Nat}{x:D}(h:Ty P (n+4) 49 x):∃v:GProp,x=(cu false) v∧abV v:=by
 have hu:P.underlying 49=_:=Tryz.underlying49;rw[Ty]at h
 simp only[hu]at h
 obtain⟨ys,rfl,hy⟩:=h;simp only[All2]at hy
 obtain⟨a0,r0,rfl,g0,h0⟩:=hy;obtain⟨v0,rfl,k0⟩:=Im (n:=n+2) g0;obtain⟨a1,r1,rfl,g1,h1⟩:=h0;obtain⟨v1,rfl,k1⟩:=Gk (n:=n+0) g1;subst h1
 exact⟨⟨v0,v1⟩,rfl,k0,k1⟩
theorem abX(v:GProp):((cu false) v).bulk=Qc v:=by
 have h:=fun(l:List D)=>D.bulk.eq_3 l
 simp only[cu,Qc,D.bulk,D.bulks,←In,←L4] <;>omega
def abY(x:GAct):Prop:=ok3 x.Kind∧ok3 x.To∧ok3 x.Local∧Io x.Index∧Io x.Value
def Qd(x:GAct):Nat:=bk3 x.Kind+bk3 x.To+bk3 x.Local+LZ x.Index+LZ x.Value
theorem abZ{n:Nat}{x:D}(h:Ty P (n+4) 76 x):∃v:GAct,x=(ff false) v∧abY v:=by
 have hu:P.underlying 76=_:=Tryz.underlying76;rw[Ty]at h
 simp only[hu]at h
 obtain⟨ys,rfl,hy⟩:=h;simp only[All2]at hy
 obtain⟨a0,r0,rfl,g0,h0⟩:=hy;obtain⟨v0,rfl,k0⟩:=jV (n:=n+2) g0;obtain⟨a1,r1,rfl,g1,h1⟩:=h0;obtain⟨v1,rfl,k1⟩:=jV (n:=n+2) g1;obtain⟨a2,r2,rfl,g2,h2⟩:=h1;obtain⟨v2,rfl,k2⟩:=jV (n:=n+2) g2;obtain⟨a3,r3,rfl,g3,h3⟩:=h2;obtain⟨v3,rfl,k3⟩:=Gk (n:=n+0) g3;obtain⟨a4,r4,rfl,g4,h4⟩:=h3;obtain⟨v4,rfl,k4⟩:=Gk (n:=n+0) g4;subst h4
 exact⟨⟨v0,v1,v2,v3,v4⟩,rfl,k0,k1,k2,k3,k4⟩
theorem ab0(v:GAct):((ff false) v).bulk=Qd v:=by
 have h:=fun(l:List D)=>D.bulk.eq_3 l
 simp only[ff,Qd,D.bulk,D.bulks,←DP,←L4] <;>omega
def ab1(l:List GProp):Prop:=∀a∈l,abV a
def ab2(l:List GProp):Nat:=(l.map Qc).sum+1
theorem ab3{n:Nat}{x:D}(h:Ty P (n+5) 26 x):∃v:List GProp,x=(E0 false) v∧ab1 v:=by
 have hu:P.underlying 26=some (.slice 49):=aeI;rw[Ty]at h
 simp only[hu]at h
 obtain⟨l,rfl,hl⟩:=h;obtain⟨vs,rfl,hs⟩:=ek (cu false) l (fun y hy=>abW (n:=n+0) (hl y hy))
 exact⟨vs,rfl,hs⟩
theorem ab4(v:List GProp):((E0 false) v).bulk=ab2 v:=dV (cu false) Qc abX v
def ab5(l:List GAct):Prop:=∀a∈l,abY a
def ab6(l:List GAct):Nat:=(l.map Qd).sum+1
theorem ab7{n:Nat}{x:D}(h:Ty P (n+5) 45 x):∃v:List GAct,x=(Ah false) v∧ab5 v:=by
 have hu:P.underlying 45=some (.slice 76):=aeM;rw[Ty]at h
 simp only[hu]at h
 obtain⟨l,rfl,hl⟩:=h;obtain⟨vs,rfl,hs⟩:=ek (ff false) l (fun y hy=>abZ (n:=n+0) (hl y hy))
 exact⟨vs,rfl,hs⟩
theorem ab8(v:List GAct):((Ah false) v).bulk=ab6 v:=dV (ff false) Qd ab0 v
def ab9(x:GCmd):Prop:=ok9 x.Name∧ok3 x.From∧ok3 x.To∧Io x.Guard∧ab5 x.Acts∧ok4 x.Fair
def Qe(x:GCmd):Nat:=bk9 x.Name+bk3 x.From+bk3 x.To+LZ x.Guard+ab6 x.Acts+bk4 x.Fair
theorem aca{n:Nat}{x:D}(h:Ty P (n+6) 47 x):∃v:GCmd,x=(bS false) v∧ab9 v:=by
 have hu:P.underlying 47=_:=Tryz.underlying47;rw[Ty]at h
 simp only[hu]at h
 obtain⟨ys,rfl,hy⟩:=h;simp only[All2]at hy
 obtain⟨a0,r0,rfl,g0,h0⟩:=hy;obtain⟨v0,rfl,k0⟩:=Im (n:=n+4) g0;obtain⟨a1,r1,rfl,g1,h1⟩:=h0;obtain⟨v1,rfl,k1⟩:=jV (n:=n+4) g1;obtain⟨a2,r2,rfl,g2,h2⟩:=h1;obtain⟨v2,rfl,k2⟩:=jV (n:=n+4) g2;obtain⟨a3,r3,rfl,g3,h3⟩:=h2;obtain⟨v3,rfl,k3⟩:=Gk (n:=n+2) g3;obtain⟨a4,r4,rfl,g4,h4⟩:=h3;obtain⟨v4,rfl,k4⟩:=ab7 (n:=n+0) g4;obtain⟨a5,r5,rfl,g5,h5⟩:=h4;obtain⟨v5,rfl,k5⟩:=abC (n:=n+4) g5;subst h5
 exact⟨⟨v0,v1,v2,v3,v4,v5⟩,rfl,k0,k1,k2,k3,k4,k5⟩
theorem acb(v:GCmd):((bS false) v).bulk=Qe v:=by
 have h:=fun(l:List D)=>D.bulk.eq_3 l
 simp only[bS,Qe,D.bulk,D.bulks,←In,←DP,←L4,←ab8,←abD] <;>omega
def acd(l:List GCmd):Prop:=∀a∈l,ab9 a
def ace(l:List GCmd):Nat:=(l.map Qe).sum+1
theorem acf{n:Nat}{x:D}(h:Ty P (n+7) 40 x):∃v:List GCmd,x=(Kl false) v∧acd v:=by
 have hu:P.underlying 40=some (.slice 47):=aeK;rw[Ty]at h
 simp only[hu]at h
 obtain⟨l,rfl,hl⟩:=h;obtain⟨vs,rfl,hs⟩:=ek (bS false) l (fun y hy=>aca (n:=n+0) (hl y hy))
 exact⟨vs,rfl,hs⟩
theorem acg(v:List GCmd):((Kl false) v).bulk=ace v:=dV (bS false) Qe acb v
def ach(x:GProc):Prop:=ok9 x.Name∧ok3 x.Over∧ok3 x.Locs∧UQ x.Vars∧acd x.Cmds
def Qf(x:GProc):Nat:=bk9 x.Name+bk3 x.Over+bk3 x.Locs+UR x.Vars+ace x.Cmds
theorem aci{n:Nat}{x:D}(h:Ty P (n+8) 42 x):∃v:GProc,x=(au false) v∧ach v:=by
 have hu:P.underlying 42=_:=Tryz.underlying42;rw[Ty]at h
 simp only[hu]at h
 obtain⟨ys,rfl,hy⟩:=h;simp only[All2]at hy
 obtain⟨a0,r0,rfl,g0,h0⟩:=hy;obtain⟨v0,rfl,k0⟩:=Im (n:=n+6) g0;obtain⟨a1,r1,rfl,g1,h1⟩:=h0;obtain⟨v1,rfl,k1⟩:=jV (n:=n+6) g1;obtain⟨a2,r2,rfl,g2,h2⟩:=h1;obtain⟨v2,rfl,k2⟩:=jV (n:=n+6) g2;obtain⟨a3,r3,rfl,g3,h3⟩:=h2;obtain⟨v3,rfl,k3⟩:=RJ (n:=n+4) g3;obtain⟨a4,r4,rfl,g4,h4⟩:=h3;obtain⟨v4,rfl,k4⟩:=acf (n:=n+0) g4;subst h4
 exact⟨⟨v0,v1,v2,v3,v4⟩,rfl,k0,k1,k2,k3,k4⟩
theorem acj(v:GProc):((au false) v).bulk=Qf v:=by
 have h:=fun(l:List D)=>D.bulk.eq_3 l
 simp only[au,Qf,D.bulk,D.bulks,←In,←DP,←RK,←acg] <;>omega
def ack(l:List GProc):Prop:=∀a∈l,ach a
def acl(l:List GProc):Nat:=(l.map Qf).sum+1
theorem acm{n:Nat}{x:D}(h:Ty P (n+9) 25 x):∃v:List GProc,x=(BP false) v∧ack v:=by
 have hu:P.underlying 25=some (.slice 42):=aeH;rw[Ty]at h
 simp only[hu]at h
 obtain⟨l,rfl,hl⟩:=h;obtain⟨vs,rfl,hs⟩:=ek (au false) l (fun y hy=>aci (n:=n+0) (hl y hy))
 exact⟨vs,rfl,hs⟩
theorem acn(v:List GProc):((BP false) v).bulk=acl v:=dV (au false) Qf acj v
def aco(x:GModel):Prop:=abK x.Scalars∧UQ x.Vars∧abO x.Chans∧ack x.Procs∧ab1 x.Props
def US(x:GModel):Nat:=abL x.Scalars+UR x.Vars+abP x.Chans+acl x.Procs+ab2 x.Props
theorem acp{n:Nat}{x:D}(h:Ty P (n+10) 28 x):∃v:GModel,x=(eD false) v∧aco v:=by
 have hu:P.underlying 28=_:=Tryz.underlying28;rw[Ty]at h
 simp only[hu]at h
 obtain⟨ys,rfl,hy⟩:=h;simp only[All2]at hy
 obtain⟨a0,r0,rfl,g0,h0⟩:=hy;obtain⟨v0,rfl,k0⟩:=abM (n:=n+6) g0;obtain⟨a1,r1,rfl,g1,h1⟩:=h0;obtain⟨v1,rfl,k1⟩:=RJ (n:=n+6) g1;obtain⟨a2,r2,rfl,g2,h2⟩:=h1;obtain⟨v2,rfl,k2⟩:=abQ (n:=n+6) g2;obtain⟨a3,r3,rfl,g3,h3⟩:=h2;obtain⟨v3,rfl,k3⟩:=acm (n:=n+0) g3;obtain⟨a4,r4,rfl,g4,h4⟩:=h3;obtain⟨v4,rfl,k4⟩:=ab3 (n:=n+4) g4;subst h4
 exact⟨⟨v0,v1,v2,v3,v4⟩,rfl,k0,k1,k2,k3,k4⟩
theorem acq(v:GModel):((eD false) v).bulk=US v:=by
 have h:=fun(l:List D)=>D.bulk.eq_3 l
 simp only[eD,US,D.bulk,D.bulks,←abN,←RK,←abR,←acn,←ab4] <;>omega
end Go.Etd
namespace Go.Am
open Go Go.ChangeShapes
def Fl{H:Type}(ss:List (List UInt8)):DataW H:=.agg (ss.map fun s=>.lit (.string s))
theorem yH{H:Type}{enc:TypeId×Value→H}{P:Program}{w:World}{base:Nat}{sp:Nat→Bool}{UT:Bool}{fuel:Nat}{t e:TypeId}{n:Nat}{cs:List Value}{ss:List (List UInt8)}{p:List MemPlace}
  (ht:P.underlying t=some (.array n e)) (he:P.underlying e=some .string) (hce:P.cellsOf e=1) (hct:P.cellsOf t=n)
  (h:DataW.trod enc P w base sp UT fuel t cs=some (Fl ss,p)):cs=ss.map fun s=>Value.string ⟨s.toArray⟩:=by
 obtain⟨xs,m,rfl,hx,hl,hxl,hel⟩:=DataW.trod_array ht h;simp only[Fl,pJ,DataW.agg.injEq]at hx
 obtain⟨hxs,_⟩:=hx
 have hzl:ss.length=n:=by
  have:=congrArg List.length hxs
  simp at this;omega
 apply List.ext_getElem?;intro i
 by_cases hi:i<n
 ·have hb:=hel i hi
  rw[hce,Nat.mul_one,xG (by omega)]at hb
  obtain⟨s,hc,hxe,_⟩:=DataW.trod_string he hb
  have h1:cs[i]? =some (.string s):=by
   have:=congrArg (·[0]?) hc
   simpa [xU,List.getElem?_drop]using this
  have h2:(xs.map (·.1))[i]? =some (DataW.lit (.string s.data.toList):DataW H):=by
   rw[List.getElem?_map,xG (by omega)]
   simp[hxe]
  rw[←hxs]at h2
  simp only[List.getElem?_map,xM,DataW.lit.injEq,Lit.string.injEq]at h2
  obtain⟨s',hs',rfl⟩:=h2;rw[h1,List.getElem?_map,hs']
  simp
 ·rw[List.getElem?_eq_none (by omega),List.getElem?_eq_none (by simp;omega)]
theorem Az(c:Cx):∀ss:List (List UInt8),VCs c (ss.map D.str) (ss.map fun s=>Value.string ⟨s.toArray⟩)
 | []=>by simp[VCs]
 |s::ss=>by
  simp only[List.map_cons,VCs]
  exact⟨_,_,rfl,by simp[VC],Az c ss⟩
theorem zi{P:Program}{l:List (String×DataW Unit)}{W:World}(hp:(l.filter fun x=>x.2.handleName?.isSome)=[])(h:laidMetH P l W):laidMet P l W:=by
 unfold laidMetH at h;rw[hp]at h
 exact h
theorem ic{P:Program}{x:String×DataW Unit}{r:List (String×DataW Unit)}{W:World}(h:laidMet P (x::r) W):laidMet P r W:=by
 obtain⟨ps,⟨g,t,cs,fuel,p,q,_,_,_,_,hr,rfl⟩,hn,hc⟩:=h
 exact⟨q,hr,(List.nodup_append.1 hn).2.1,fun b off hm=>hc b off (xR _ hm)⟩
theorem tC{P:Program}{name:String}{d:DataW Unit}{r:List (String×DataW Unit)}{W:World}{g:Nat}{t:TypeId}(hg:P.globalNamed name=some g)(hty:(P.globals[g]?).map (·.type)=some t)(h:laidMet P ((name,d)::r) W):
  ∃(cs:Array Value) (fuel:Nat) (p:List MemPlace),W.var? P name=some cs∧GH W g cs.toList∧DataW.trod (fun _=>()) P W 0 (fun _=>true) false fuel t cs.toList=some (d,p):=by
 obtain⟨ps,⟨g',t',cs,fuel,p,q,hg',ht',hvar,hd,_,_⟩,_⟩:=h
 obtain rfl:=Option.some.inj (hg.symm.trans hg')
 obtain rfl:=Option.some.inj (hty.symm.trans ht')
 refine⟨cs,fuel,p,hvar,?_,hd⟩
 unfold World.var? at hvar;simp only[hg,xS]at hvar
 split at hvar
 ·rename_i c ty fr hh
  simp only[xJ]at hvar
  subst hvar
  exact⟨ty,fr,by simpa using hh⟩
 ·cases hvar
theorem Fm{P:Program}{name:String}{g:Nat}{t e:TypeId}{n:Nat}{ss:List (List UInt8)}{W:World}(hg:P.globalNamed name=some g)(hty:(P.globals[g]?).map (·.type)=some t)(ht:P.underlying t=some (.array n e))(he:P.underlying e=some .string)(hce:P.cellsOf e=1)(hct:P.cellsOf t=n)
  {rest:List (String×DataW Unit)} (h:laidMet P ((name,Fl ss)::rest) W):∃vs,GH W g vs∧GV (.agg (ss.map D.str)) vs:=by
 obtain⟨cs,fuel,p,_,h1,h2⟩:=tC hg hty h;have hcs:=yH ht he hce hct h2
 exact⟨_,h1,fun _ c=>by rw[hcs];exact Az c ss,fun h=>by cases h⟩
theorem DQ(c:Cx)(k:IntKind):∀zs:List Int,VCs c (zs.map (D.int k)) (zs.map fun z=>Value.int k z)
 | []=>by simp[VCs]
 |z::zs=>by
  simp only[List.map_cons,VCs]
  exact⟨_,_,rfl,by simp[VC],DQ c k zs⟩
theorem Ip{P:Program}{name:String}{g:Nat}{t e:TypeId}{n:Nat}{k:IntKind}{zs:List Int}{W:World}(hg:P.globalNamed name=some g)(hty:(P.globals[g]?).map (·.type)=some t)(ht:P.underlying t=some (.array n e))(he:P.underlying e=some (.int k))(hce:P.cellsOf e=1)(hct:P.cellsOf t=n)
  {rest:List (String×DataW Unit)} (h:laidMet P ((name,Lib.tabData k zs)::rest) W):∃vs,GH W g vs∧GV (.agg (zs.map (D.int k))) vs:=by
 obtain⟨cs,fuel,p,_,h1,h2⟩:=tC hg hty h;have hcs:=Lib.cells_of_tab ht he hce hct h2
 exact⟨_,h1,fun _ c=>by rw[hcs];exact DQ c k zs,fun h=>by cases h⟩
theorem yI{P:Program}{name nm:String}{g:Nat}{t:TypeId}{ms:Array (String×TypeId)}{d:DataW Unit}{W:World}(hg:P.globalNamed name=some g)(hty:(P.globals[g]?).map (·.type)=some t)(ht:P.underlying t=some (.interface ms))
  {rest:List (String×DataW Unit)} (h:laidMet P ((name,.iface nm d)::rest) W):∃vs,GH W g vs∧GV .nilf vs:=by
 obtain⟨cs,fuel,p,_,h1,h2⟩:=tC hg hty h;obtain⟨_,u,v,hc,_,_⟩:=iface_of_trod ht h2
 exact⟨_,h1,⟨(fun q=>by cases q),fun _=>⟨u,v,hc⟩⟩⟩
end Go.Am
namespace Go.Etx
open Go Go.Am Go.Proofs Go.Tr7 Go.Etd
set_option maxRecDepth 20000
set_option maxHeartbeats 40000000
theorem B3{e:List GNode}(h:Io e):∀x∈e,x.N≤9223372036854775807:=fun x hx=>(h x hx).2.2
theorem zj(m:GModel)(l:List GStep)(k:Int)(h:aco m)(_h1:Etd.ok29 l)(h2:ok5 k)(_hb:US m+abS l+bk5 k≤1048576):call 3 [eD false m,.sl false (List.map cf l),.int .u8 k] []=some ([.d (.bool true)],[]):=by
 have e:=DM (ρ:=List T×List Ob) m (fun p hp c hc=>by
  have h4:=(h.2.2.2.1 p hp).2.2.2.2 c hc
  exact⟨B3 h4.2.2.2.1,fun a ha=>⟨B3 (h4.2.2.2.2.1 a ha).2.2.2.1,B3 (h4.2.2.2.2.1 a ha).2.2.2.2⟩⟩) (fun p hp=>B3 (h.2.2.2.2 p hp).2) l k h2.1 h2.2 some
 rw[LV]at e
 exact e
def gl8:Nat→Option D:=fun g=>Am.look [(1,.agg ([[115,101,108,102],[110,111,110,101],[108,101,110],[97,116]].map D.str)),(2,.nilf),(3,.nilf),(4,.agg (Lib.pow10Tab.map (D.int .u64)))] g
theorem L5:Vars gl8:=⟨rfl,rfl,rfl⟩
theorem L6{α:Type}{p:α→Prop}{c:Prop}[Decidable c]{a:c→α}{b:¬c→α}(ha:∀h,p (a h))(hb:∀h,p (b h)):p (dite c a b):=by
 by_cases h:c
 ·rw[dif_pos h];exact ha h
 ·rw[dif_neg h];exact hb h
def GLk(h:Hint):Prop:=∀g d,h.gl g=some d→gl8 g=some d
theorem acr{h:Hint}(e:h.gl=NB):GLk h:=by
 intro g d hh;rw[e]at hh
 simp only[NB,gl8,Am.look]at hh ⊢
 split at hh
 ·rename_i hg
  rw[if_pos hg];exact hh
 ·cases hh
theorem RL{h:Hint}(e:h.gl=fun _=>none):GLk h:=by
 intro g d hh;rw[e]at hh
 cases hh
theorem L7:∀f g d,(hints f).gl g=some d→gl8 g=some d:=by
 intro f;show GLk (hints f);unfold hints hints.match_1
 repeat' refine L6 (p:=GLk) (fun h=> ?_) (fun h=> ?_)
 all_goals first |(subst h;first |exact acr rfl |exact RL rfl) |exact RL rfl
def EXk(f:FuncId)(h:Hint):Prop:=∀F,h.ext=some F→ri Tryz.prog gl8 f F
theorem RM{f:FuncId}{h:Hint}(e:h.ext=none):EXk f h:=by
 intro F hh;rw[e]at hh
 cases hh
theorem L8{f:FuncId}{h:Hint}{F:List D→Option (List T)}(e:h.ext=some F)(hF:ri Tryz.prog gl8 f F):EXk f h:=by
 intro F' hh;rw[e]at hh
 cases hh;exact hF
theorem Iq:∀f F,(hints f).ext=some F→ri Tryz.prog gl8 f F:=by
 intro f;show EXk f (hints f);unfold hints hints.match_1
 repeat' refine L6 (p:=EXk f) (fun h=> ?_) (fun h=> ?_)
 all_goals first |(subst h;first |exact RM rfl |exact L8 rfl (ES L5) |exact L8 rfl (HA L5) |exact L8 rfl (Hz L5)) |exact RM rfl
theorem acs:Tryz.prog.globalNamed "lariat/lex.own" =some 1:=by kernel_rfl
theorem acu:(Tryz.prog.globals[1]?).map (·.type)=some 207:=by kernel_rfl
theorem acv:Tryz.prog.globalNamed "strconv.ErrSyntax" =some 2:=by kernel_rfl
theorem acw:(Tryz.prog.globals[2]?).map (·.type)=some 89:=by kernel_rfl
theorem acx:Tryz.prog.globalNamed "strconv.ErrRange" =some 3:=by kernel_rfl
theorem acy:(Tryz.prog.globals[3]?).map (·.type)=some 89:=by kernel_rfl
theorem acz:Tryz.prog.globalNamed "internal/strconv.uint64pow10" =some 4:=by kernel_rfl
theorem acA:(Tryz.prog.globals[4]?).map (·.type)=some 304:=by kernel_rfl
open Go.Proofs.YtlcnolfmpbdgpaaGreatDoor in
theorem UT{W:World}(h:laidMet Tryz.prog Rows.traceLongUptoRow.laid W):GA gl8 (A0 W):=by
 have hp:=ic (ic h);have hr:=ic (ic hp);have hs:=ic hr;have ho:=ic hs
 have key:∀g d,(∃vs:List Value,GH W g vs∧GV d vs)→g<(A0 W).w0.heap.size∧¬(A0 W).O0 g∧(∀t,¬(A0 W).F t g)∧∃vs:List Value,GH (A0 W).w0 g vs∧GV d vs:=by
  rintro g d ⟨vs,h1,h2⟩
  refine⟨?_,id,fun _=>id,vs,h1,h2⟩
  obtain⟨t,fr,h3⟩:=h1
  exact(Array.getElem?_eq_some_iff.1 h3).1
 intro g d e;refine key g d ?_;simp only[gl8,Am.look]at e
 split at e
 ·rename_i hg
  simp only[xJ]at e
  subst e;rw[←hg];exact Fm acs acu Tryz.underlying207 Tryz.underlying9 (by kernel_rfl) (by kernel_rfl) ho
 ·split at e
  ·rename_i hg
   simp only[xJ]at e
   subst e;rw[←hg];exact yI acv acw Tryz.underlying89 hs
  ·split at e
   ·rename_i hg
    simp only[xJ]at e
    subst e;rw[←hg];exact yI acx acy Tryz.underlying89 hr
   ·split at e
    ·rename_i hg
     simp only[xJ]at e
     subst e;rw[←hg];exact Ip acz acA Tryz.underlying304 Tryz.underlying12 (by kernel_rfl) (by kernel_rfl) hp
    ·cases e
end Go.Etx
