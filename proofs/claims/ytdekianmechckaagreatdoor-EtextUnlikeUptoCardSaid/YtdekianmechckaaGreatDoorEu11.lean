/- 'EtextUnlikeUptoCardSaid': two expressions that differ, not in N of nodes that have none alone, have unlike texts. Condition: what is read is of bulk at most 1048576; the listed variables hold what the program's text lays them with (tied by the card). -/
import Derived.Test.YtdekianmechckaaGreatDoorEu10
import GoSem.ClaimJoined
import Derived.Lib.LaidTab
import Derived.LaidLaws
import Derived.Test.YtdekianmechckaaGreatDoorRows
import Derived.Test.YtdekianmechckaaGreatDoorCards
import Derived.Test.YtdekianmechckaaGreatDoorTie
import Derived.Deep.DeepHandedRow
import Derived.Deep.DeepLaidRun
set_option linter.unusedSimpArgs false
set_option linter.unusedVariables false
namespace Go.Am
open Go
theorem dec_list{α:Type}{Q:α→Prop}(f:α→D):∀(l:List D),(∀y∈l,∃a,y=f a∧Q a)→∃vs:List α,l=vs.map f∧∀a∈vs,Q a
 | [],_=>⟨[],rfl,by simp⟩
 |y::l,h=>by
  obtain⟨a,rfl,ha⟩:=h y (by simp)
  obtain⟨vs,rfl,hs⟩:=dec_list f l (fun z hz=>h z (by simp[hz]))
  exact⟨a::vs,rfl,by simpa using⟨ha,hs⟩⟩
theorem bulks_list{α:Type}(f:α→D)(g:α→Nat)(h:∀x,(f x).bulk=g x)(l:List α):D.bulks (l.map f)=(l.map g).sum:=by
 induction l with
 |nil=>simp[D.bulks]
 |cons a l ih=>simp[D.bulks,h,ih]
theorem bulk_list{α:Type}(f:α→D)(g:α→Nat)(h:∀x,(f x).bulk=g x)(l:List α):D.bulk (.sl false (l.map f))=(l.map g).sum+1:=by
 rw[D.bulk,bulks_list f g h]
end Go.Am
namespace Go.Etx
open Go Go.Am Go.Proofs
set_option maxRecDepth 20000
def ok3(m:Int):Prop:=-9223372036854775808≤m∧m≤9223372036854775807
def bk3(_:Int):Nat:=1
theorem dec3{n:Nat}{x:D}(h:Ty P (n+1) 3 x):∃v:Int,x=eI v∧ok3 v:=by
 have hu:P.underlying 3=some (.int .i64):=un3
 simp only[Ty,hu]at h
 obtain⟨m,rfl,h1,h2⟩:=h
 exact⟨m,rfl,h1,h2⟩
theorem bkE3(v:Int):(eI v).bulk=bk3 v:=rfl
def ok4(_:Bool):Prop:=True
def bk4(_:Bool):Nat:=1
theorem dec4{n:Nat}{x:D}(h:Ty P (n+1) 4 x):∃v:Bool,x=eB v∧ok4 v:=by
 have hu:P.underlying 4=some .bool:=un4
 simp only[Ty,hu]at h
 obtain⟨m,rfl⟩:=h
 exact⟨m,rfl,trivial⟩
theorem bkE4(v:Bool):(eB v).bulk=bk4 v:=rfl
def ok9(_:List UInt8):Prop:=True
def bk9(s:List UInt8):Nat:=s.length+1
theorem dec9{n:Nat}{x:D}(h:Ty P (n+1) 9 x):∃v:List UInt8,x=eS v∧ok9 v:=by
 have hu:P.underlying 9=some .string:=un9
 simp only[Ty,hu]at h
 obtain⟨m,rfl⟩:=h
 exact⟨m,rfl,trivial⟩
theorem bkE9(v:List UInt8):(eS v).bulk=bk9 v:=rfl
def ok37(x:GNode):Prop:=ok3 x.Op∧ok3 x.N
def bk37(x:GNode):Nat:=bk3 x.Op+bk3 x.N
theorem dec37{n:Nat}{x:D}(h:Ty P (n+2) 37 x):∃v:GNode,x=eNode v∧ok37 v:=by
 have hu:P.underlying 37=_:=Tryz.underlying37
 rw[Ty]at h
 simp only[hu]at h
 obtain⟨ys,rfl,hy⟩:=h
 simp only[All2]at hy
 obtain⟨a0,r0,rfl,g0,h0⟩:=hy
 obtain⟨v0,rfl,k0⟩:=dec3 (n:=n+0) g0
 obtain⟨a1,r1,rfl,g1,h1⟩:=h0
 obtain⟨v1,rfl,k1⟩:=dec3 (n:=n+0) g1
 subst h1
 exact⟨⟨v0,v1⟩,rfl,k0,k1⟩
theorem bkE37(v:GNode):(eNode v).bulk=bk37 v:=by
 have h:=fun(l:List D)=>D.bulk.eq_3 l
 simp only[eNode,bk37,D.bulk,D.bulks,←bkE3] <;>omega
def ok55(x:GVar):Prop:=ok9 x.Name∧ok3 x.Scalar∧ok3 x.Over∧ok3 x.Lo∧ok3 x.Hi∧ok3 x.Init
def bk55(x:GVar):Nat:=bk9 x.Name+bk3 x.Scalar+bk3 x.Over+bk3 x.Lo+bk3 x.Hi+bk3 x.Init
theorem dec55{n:Nat}{x:D}(h:Ty P (n+2) 55 x):∃v:GVar,x=eVar v∧ok55 v:=by
 have hu:P.underlying 55=_:=Tryz.underlying55
 rw[Ty]at h
 simp only[hu]at h
 obtain⟨ys,rfl,hy⟩:=h
 simp only[All2]at hy
 obtain⟨a0,r0,rfl,g0,h0⟩:=hy
 obtain⟨v0,rfl,k0⟩:=dec9 (n:=n+0) g0
 obtain⟨a1,r1,rfl,g1,h1⟩:=h0
 obtain⟨v1,rfl,k1⟩:=dec3 (n:=n+0) g1
 obtain⟨a2,r2,rfl,g2,h2⟩:=h1
 obtain⟨v2,rfl,k2⟩:=dec3 (n:=n+0) g2
 obtain⟨a3,r3,rfl,g3,h3⟩:=h2
 obtain⟨v3,rfl,k3⟩:=dec3 (n:=n+0) g3
 obtain⟨a4,r4,rfl,g4,h4⟩:=h3
 obtain⟨v4,rfl,k4⟩:=dec3 (n:=n+0) g4
 obtain⟨a5,r5,rfl,g5,h5⟩:=h4
 obtain⟨v5,rfl,k5⟩:=dec3 (n:=n+0) g5
 subst h5
 exact⟨⟨v0,v1,v2,v3,v4,v5⟩,rfl,k0,k1,k2,k3,k4,k5⟩
theorem bkE55(v:GVar):(eVar v).bulk=bk55 v:=by
 have h:=fun(l:List D)=>D.bulk.eq_3 l
 simp only[eVar,bk55,D.bulk,D.bulks,←bkE9,←bkE3] <;>omega
def ok79(x:GChan):Prop:=ok9 x.Name∧ok3 x.Scalar∧ok3 x.Cap∧ok3 x.Lo∧ok3 x.Hi∧ok4 x.Lossy
def bk79(x:GChan):Nat:=bk9 x.Name+bk3 x.Scalar+bk3 x.Cap+bk3 x.Lo+bk3 x.Hi+bk4 x.Lossy
theorem dec79{n:Nat}{x:D}(h:Ty P (n+2) 79 x):∃v:GChan,x=eChan v∧ok79 v:=by
 have hu:P.underlying 79=_:=Tryz.underlying79
 rw[Ty]at h
 simp only[hu]at h
 obtain⟨ys,rfl,hy⟩:=h
 simp only[All2]at hy
 obtain⟨a0,r0,rfl,g0,h0⟩:=hy
 obtain⟨v0,rfl,k0⟩:=dec9 (n:=n+0) g0
 obtain⟨a1,r1,rfl,g1,h1⟩:=h0
 obtain⟨v1,rfl,k1⟩:=dec3 (n:=n+0) g1
 obtain⟨a2,r2,rfl,g2,h2⟩:=h1
 obtain⟨v2,rfl,k2⟩:=dec3 (n:=n+0) g2
 obtain⟨a3,r3,rfl,g3,h3⟩:=h2
 obtain⟨v3,rfl,k3⟩:=dec3 (n:=n+0) g3
 obtain⟨a4,r4,rfl,g4,h4⟩:=h3
 obtain⟨v4,rfl,k4⟩:=dec3 (n:=n+0) g4
 obtain⟨a5,r5,rfl,g5,h5⟩:=h4
 obtain⟨v5,rfl,k5⟩:=dec4 (n:=n+0) g5
 subst h5
 exact⟨⟨v0,v1,v2,v3,v4,v5⟩,rfl,k0,k1,k2,k3,k4,k5⟩
theorem bkE79(v:GChan):(eChan v).bulk=bk79 v:=by
 have h:=fun(l:List D)=>D.bulk.eq_3 l
 simp only[eChan,bk79,D.bulk,D.bulks,←bkE9,←bkE3,←bkE4] <;>omega
def ok85(x:GScalar):Prop:=ok9 x.Name∧ok3 x.Size
def bk85(x:GScalar):Nat:=bk9 x.Name+bk3 x.Size
theorem dec85{n:Nat}{x:D}(h:Ty P (n+2) 85 x):∃v:GScalar,x=eScalar v∧ok85 v:=by
 have hu:P.underlying 85=_:=Tryz.underlying85
 rw[Ty]at h
 simp only[hu]at h
 obtain⟨ys,rfl,hy⟩:=h
 simp only[All2]at hy
 obtain⟨a0,r0,rfl,g0,h0⟩:=hy
 obtain⟨v0,rfl,k0⟩:=dec9 (n:=n+0) g0
 obtain⟨a1,r1,rfl,g1,h1⟩:=h0
 obtain⟨v1,rfl,k1⟩:=dec3 (n:=n+0) g1
 subst h1
 exact⟨⟨v0,v1⟩,rfl,k0,k1⟩
theorem bkE85(v:GScalar):(eScalar v).bulk=bk85 v:=by
 have h:=fun(l:List D)=>D.bulk.eq_3 l
 simp only[eScalar,bk85,D.bulk,D.bulks,←bkE9,←bkE3] <;>omega
def ok22(l:List GNode):Prop:=∀a∈l,ok37 a
def bk22(l:List GNode):Nat:=(l.map bk37).sum+1
theorem dec22{n:Nat}{x:D}(h:Ty P (n+3) 22 x):∃v:List GNode,x=(esNode false) v∧ok22 v:=by
 have hu:P.underlying 22=some (.slice 37):=un22
 rw[Ty]at h
 simp only[hu]at h
 obtain⟨l,rfl,hl⟩:=h
 obtain⟨vs,rfl,hs⟩:=dec_list eNode l (fun y hy=>dec37 (n:=n+0) (hl y hy))
 exact⟨vs,rfl,hs⟩
theorem bkE22(v:List GNode):((esNode false) v).bulk=bk22 v:=bulk_list eNode bk37 bkE37 v
def ok23(l:List GScalar):Prop:=∀a∈l,ok85 a
def bk23(l:List GScalar):Nat:=(l.map bk85).sum+1
theorem dec23{n:Nat}{x:D}(h:Ty P (n+3) 23 x):∃v:List GScalar,x=(esScalar false) v∧ok23 v:=by
 have hu:P.underlying 23=some (.slice 85):=un23
 rw[Ty]at h
 simp only[hu]at h
 obtain⟨l,rfl,hl⟩:=h
 obtain⟨vs,rfl,hs⟩:=dec_list eScalar l (fun y hy=>dec85 (n:=n+0) (hl y hy))
 exact⟨vs,rfl,hs⟩
theorem bkE23(v:List GScalar):((esScalar false) v).bulk=bk23 v:=bulk_list eScalar bk85 bkE85 v
def ok24(l:List GVar):Prop:=∀a∈l,ok55 a
def bk24(l:List GVar):Nat:=(l.map bk55).sum+1
theorem dec24{n:Nat}{x:D}(h:Ty P (n+3) 24 x):∃v:List GVar,x=(esVar false) v∧ok24 v:=by
 have hu:P.underlying 24=some (.slice 55):=un24
 rw[Ty]at h
 simp only[hu]at h
 obtain⟨l,rfl,hl⟩:=h
 obtain⟨vs,rfl,hs⟩:=dec_list eVar l (fun y hy=>dec55 (n:=n+0) (hl y hy))
 exact⟨vs,rfl,hs⟩
theorem bkE24(v:List GVar):((esVar false) v).bulk=bk24 v:=bulk_list eVar bk55 bkE55 v
def ok25(l:List GChan):Prop:=∀a∈l,ok79 a
def bk25(l:List GChan):Nat:=(l.map bk79).sum+1
theorem dec25{n:Nat}{x:D}(h:Ty P (n+3) 25 x):∃v:List GChan,x=(esChan false) v∧ok25 v:=by
 have hu:P.underlying 25=some (.slice 79):=un25
 rw[Ty]at h
 simp only[hu]at h
 obtain⟨l,rfl,hl⟩:=h
 obtain⟨vs,rfl,hs⟩:=dec_list eChan l (fun y hy=>dec79 (n:=n+0) (hl y hy))
 exact⟨vs,rfl,hs⟩
theorem bkE25(v:List GChan):((esChan false) v).bulk=bk25 v:=bulk_list eChan bk79 bkE79 v
def ok215(x:GAct):Prop:=ok3 x.Kind∧ok3 x.To∧ok3 x.Local∧ok22 x.Index∧ok22 x.Value
def bk215(x:GAct):Nat:=bk3 x.Kind+bk3 x.To+bk3 x.Local+bk22 x.Index+bk22 x.Value
theorem dec215{n:Nat}{x:D}(h:Ty P (n+4) 215 x):∃v:GAct,x=(eAct false) v∧ok215 v:=by
 have hu:P.underlying 215=_:=Tryz.underlying215
 rw[Ty]at h
 simp only[hu]at h
 obtain⟨ys,rfl,hy⟩:=h
 simp only[All2]at hy
 obtain⟨a0,r0,rfl,g0,h0⟩:=hy
 obtain⟨v0,rfl,k0⟩:=dec3 (n:=n+2) g0
 obtain⟨a1,r1,rfl,g1,h1⟩:=h0
 obtain⟨v1,rfl,k1⟩:=dec3 (n:=n+2) g1
 obtain⟨a2,r2,rfl,g2,h2⟩:=h1
 obtain⟨v2,rfl,k2⟩:=dec3 (n:=n+2) g2
 obtain⟨a3,r3,rfl,g3,h3⟩:=h2
 obtain⟨v3,rfl,k3⟩:=dec22 (n:=n+0) g3
 obtain⟨a4,r4,rfl,g4,h4⟩:=h3
 obtain⟨v4,rfl,k4⟩:=dec22 (n:=n+0) g4
 subst h4
 exact⟨⟨v0,v1,v2,v3,v4⟩,rfl,k0,k1,k2,k3,k4⟩
theorem bkE215(v:GAct):((eAct false) v).bulk=bk215 v:=by
 have h:=fun(l:List D)=>D.bulk.eq_3 l
 simp only[eAct,bk215,D.bulk,D.bulks,←bkE3,←bkE22] <;>omega
def ok210(l:List GAct):Prop:=∀a∈l,ok215 a
def bk210(l:List GAct):Nat:=(l.map bk215).sum+1
theorem dec210{n:Nat}{x:D}(h:Ty P (n+5) 210 x):∃v:List GAct,x=(esAct false) v∧ok210 v:=by
 have hu:P.underlying 210=some (.slice 215):=un210
 rw[Ty]at h
 simp only[hu]at h
 obtain⟨l,rfl,hl⟩:=h
 obtain⟨vs,rfl,hs⟩:=dec_list (eAct false) l (fun y hy=>dec215 (n:=n+0) (hl y hy))
 exact⟨vs,rfl,hs⟩
theorem bkE210(v:List GAct):((esAct false) v).bulk=bk210 v:=bulk_list (eAct false) bk215 bkE215 v
def ok212(x:GCmd):Prop:=ok9 x.Name∧ok3 x.From∧ok3 x.To∧ok22 x.Guard∧ok210 x.Acts∧ok4 x.Fair
def bk212(x:GCmd):Nat:=bk9 x.Name+bk3 x.From+bk3 x.To+bk22 x.Guard+bk210 x.Acts+bk4 x.Fair
theorem dec212{n:Nat}{x:D}(h:Ty P (n+6) 212 x):∃v:GCmd,x=(eCmd false) v∧ok212 v:=by
 have hu:P.underlying 212=_:=Tryz.underlying212
 rw[Ty]at h
 simp only[hu]at h
 obtain⟨ys,rfl,hy⟩:=h
 simp only[All2]at hy
 obtain⟨a0,r0,rfl,g0,h0⟩:=hy
 obtain⟨v0,rfl,k0⟩:=dec9 (n:=n+4) g0
 obtain⟨a1,r1,rfl,g1,h1⟩:=h0
 obtain⟨v1,rfl,k1⟩:=dec3 (n:=n+4) g1
 obtain⟨a2,r2,rfl,g2,h2⟩:=h1
 obtain⟨v2,rfl,k2⟩:=dec3 (n:=n+4) g2
 obtain⟨a3,r3,rfl,g3,h3⟩:=h2
 obtain⟨v3,rfl,k3⟩:=dec22 (n:=n+2) g3
 obtain⟨a4,r4,rfl,g4,h4⟩:=h3
 obtain⟨v4,rfl,k4⟩:=dec210 (n:=n+0) g4
 obtain⟨a5,r5,rfl,g5,h5⟩:=h4
 obtain⟨v5,rfl,k5⟩:=dec4 (n:=n+4) g5
 subst h5
 exact⟨⟨v0,v1,v2,v3,v4,v5⟩,rfl,k0,k1,k2,k3,k4,k5⟩
theorem bkE212(v:GCmd):((eCmd false) v).bulk=bk212 v:=by
 have h:=fun(l:List D)=>D.bulk.eq_3 l
 simp only[eCmd,bk212,D.bulk,D.bulks,←bkE9,←bkE3,←bkE22,←bkE210,←bkE4] <;>omega
def ok81(l:List GCmd):Prop:=∀a∈l,ok212 a
def bk81(l:List GCmd):Nat:=(l.map bk212).sum+1
theorem dec81{n:Nat}{x:D}(h:Ty P (n+7) 81 x):∃v:List GCmd,x=(esCmd false) v∧ok81 v:=by
 have hu:P.underlying 81=some (.slice 212):=un81
 rw[Ty]at h
 simp only[hu]at h
 obtain⟨l,rfl,hl⟩:=h
 obtain⟨vs,rfl,hs⟩:=dec_list (eCmd false) l (fun y hy=>dec212 (n:=n+0) (hl y hy))
 exact⟨vs,rfl,hs⟩
theorem bkE81(v:List GCmd):((esCmd false) v).bulk=bk81 v:=bulk_list (eCmd false) bk212 bkE212 v
def ok83(x:GProc):Prop:=ok9 x.Name∧ok3 x.Over∧ok3 x.Locs∧ok24 x.Vars∧ok81 x.Cmds
def bk83(x:GProc):Nat:=bk9 x.Name+bk3 x.Over+bk3 x.Locs+bk24 x.Vars+bk81 x.Cmds
theorem dec83{n:Nat}{x:D}(h:Ty P (n+8) 83 x):∃v:GProc,x=(eProc false) v∧ok83 v:=by
 have hu:P.underlying 83=_:=Tryz.underlying83
 rw[Ty]at h
 simp only[hu]at h
 obtain⟨ys,rfl,hy⟩:=h
 simp only[All2]at hy
 obtain⟨a0,r0,rfl,g0,h0⟩:=hy
 obtain⟨v0,rfl,k0⟩:=dec9 (n:=n+6) g0
 obtain⟨a1,r1,rfl,g1,h1⟩:=h0
 obtain⟨v1,rfl,k1⟩:=dec3 (n:=n+6) g1
 obtain⟨a2,r2,rfl,g2,h2⟩:=h1
 obtain⟨v2,rfl,k2⟩:=dec3 (n:=n+6) g2
 obtain⟨a3,r3,rfl,g3,h3⟩:=h2
 obtain⟨v3,rfl,k3⟩:=dec24 (n:=n+4) g3
 obtain⟨a4,r4,rfl,g4,h4⟩:=h3
 obtain⟨v4,rfl,k4⟩:=dec81 (n:=n+0) g4
 subst h4
 exact⟨⟨v0,v1,v2,v3,v4⟩,rfl,k0,k1,k2,k3,k4⟩
theorem bkE83(v:GProc):((eProc false) v).bulk=bk83 v:=by
 have h:=fun(l:List D)=>D.bulk.eq_3 l
 simp only[eProc,bk83,D.bulk,D.bulks,←bkE9,←bkE3,←bkE24,←bkE81] <;>omega
def ok26(l:List GProc):Prop:=∀a∈l,ok83 a
def bk26(l:List GProc):Nat:=(l.map bk83).sum+1
theorem dec26{n:Nat}{x:D}(h:Ty P (n+9) 26 x):∃v:List GProc,x=(esProc false) v∧ok26 v:=by
 have hu:P.underlying 26=some (.slice 83):=un26
 rw[Ty]at h
 simp only[hu]at h
 obtain⟨l,rfl,hl⟩:=h
 obtain⟨vs,rfl,hs⟩:=dec_list (eProc false) l (fun y hy=>dec83 (n:=n+0) (hl y hy))
 exact⟨vs,rfl,hs⟩
theorem bkE26(v:List GProc):((esProc false) v).bulk=bk26 v:=bulk_list (eProc false) bk83 bkE83 v
def ok28(x:GScope):Prop:=ok23 x.Scalars∧ok24 x.Vars∧ok25 x.Chans∧ok26 x.Procs∧ok24 x.Locals∧ok3 x.Self
def bk28(x:GScope):Nat:=bk23 x.Scalars+bk24 x.Vars+bk25 x.Chans+bk26 x.Procs+bk24 x.Locals+bk3 x.Self
theorem dec28{n:Nat}{x:D}(h:Ty P (n+10) 28 x):∃v:GScope,x=(eScope false) v∧ok28 v:=by
 have hu:P.underlying 28=_:=Tryz.underlying28
 rw[Ty]at h
 simp only[hu]at h
 obtain⟨ys,rfl,hy⟩:=h
 simp only[All2]at hy
 obtain⟨a0,r0,rfl,g0,h0⟩:=hy
 obtain⟨v0,rfl,k0⟩:=dec23 (n:=n+6) g0
 obtain⟨a1,r1,rfl,g1,h1⟩:=h0
 obtain⟨v1,rfl,k1⟩:=dec24 (n:=n+6) g1
 obtain⟨a2,r2,rfl,g2,h2⟩:=h1
 obtain⟨v2,rfl,k2⟩:=dec25 (n:=n+6) g2
 obtain⟨a3,r3,rfl,g3,h3⟩:=h2
 obtain⟨v3,rfl,k3⟩:=dec26 (n:=n+0) g3
 obtain⟨a4,r4,rfl,g4,h4⟩:=h3
 obtain⟨v4,rfl,k4⟩:=dec24 (n:=n+6) g4
 obtain⟨a5,r5,rfl,g5,h5⟩:=h4
 obtain⟨v5,rfl,k5⟩:=dec3 (n:=n+8) g5
 subst h5
 exact⟨⟨v0,v1,v2,v3,v4,v5⟩,rfl,k0,k1,k2,k3,k4,k5⟩
theorem bkE28(v:GScope):((eScope false) v).bulk=bk28 v:=by
 have h:=fun(l:List D)=>D.bulk.eq_3 l
 simp only[eScope,bk28,D.bulk,D.bulks,←bkE23,←bkE24,←bkE25,←bkE26,←bkE3] <;>omega
end Go.Etx
namespace Go.Am
open Go Go.ChangeShapes
def textsW{H:Type}(ss:List (List UInt8)):DataW H:=.agg (ss.map fun s=>.lit (.string s))
theorem cells_of_texts{H:Type}{enc:TypeId×Value→H}{P:Program}{w:World}{base:Nat}{sp:Nat→Bool}{held:Bool}{fuel:Nat}{t e:TypeId}{n:Nat}{cs:List Value}{ss:List (List UInt8)}{p:List MemPlace}
  (ht:P.underlying t=some (.array n e)) (he:P.underlying e=some .string) (hce:P.cellsOf e=1) (hct:P.cellsOf t=n)
  (h:DataW.trod enc P w base sp held fuel t cs=some (textsW ss,p)):cs=ss.map fun s=>Value.string ⟨s.toArray⟩:=by
 obtain⟨xs,m,rfl,hx,hl,hxl,hel⟩:=DataW.trod_array ht h
 simp only[textsW,pJ,DataW.agg.injEq]at hx
 obtain⟨hxs,_⟩:=hx
 have hzl:ss.length=n:=by
  have:=congrArg List.length hxs
  simp at this
  omega
 apply List.ext_getElem?
 intro i
 by_cases hi:i<n
 ·have hb:=hel i hi
  rw[hce,Nat.mul_one,xG (by omega)]at hb
  obtain⟨s,hc,hxe,_⟩:=DataW.trod_string he hb
  have h1:cs[i]? =some (.string s):=by
   have:=congrArg (·[0]?) hc
   simpa [xU,List.getElem?_drop]using this
  have h2:(xs.map (·.1))[i]? =some (DataW.lit (.string s.data.toList):DataW H):=by
   rw[List.getElem?_map,xG (by omega)]
   simp[hxe]
  rw[←hxs]at h2
  simp only[List.getElem?_map,xM,DataW.lit.injEq,Lit.string.injEq]at h2
  obtain⟨s',hs',rfl⟩:=h2
  rw[h1,List.getElem?_map,hs']
  simp
 ·rw[List.getElem?_eq_none (by omega),List.getElem?_eq_none (by simp;omega)]
theorem vcs_texts(c:Cx):∀ss:List (List UInt8),VCs c (ss.map D.str) (ss.map fun s=>Value.string ⟨s.toArray⟩)
 | []=>by simp[VCs]
 |s::ss=>by
  simp only[List.map_cons,VCs]
  exact⟨_,_,rfl,by simp[VC],vcs_texts c ss⟩
theorem laid_of_plain{P:Program}{l:List (String×DataW Unit)}{W:World}(hp:(l.filter fun x=>x.2.handleName?.isSome)=[])(h:laidMetH P l W):laidMet P l W:=by
 unfold laidMetH at h
 rw[hp]at h
 exact h
theorem laid_tail{P:Program}{x:String×DataW Unit}{r:List (String×DataW Unit)}{W:World}(h:laidMet P (x::r) W):laidMet P r W:=by
 obtain⟨ps,⟨g,t,cs,fuel,p,q,_,_,_,_,hr,rfl⟩,hn,hc⟩:=h
 exact⟨q,hr,(List.nodup_append.1 hn).2.1,fun b off hm=>hc b off (xR _ hm)⟩
theorem laid_head{P:Program}{name:String}{d:DataW Unit}{r:List (String×DataW Unit)}{W:World}{g:Nat}{t:TypeId}(hg:P.globalNamed name=some g)(hty:(P.globals[g]?).map (·.type)=some t)(h:laidMet P ((name,d)::r) W):
  ∃(cs:Array Value) (fuel:Nat) (p:List MemPlace),W.var? P name=some cs∧GH W g cs.toList∧DataW.trod (fun _=>()) P W 0 (fun _=>true) false fuel t cs.toList=some (d,p):=by
 obtain⟨ps,⟨g',t',cs,fuel,p,q,hg',ht',hvar,hd,_,_⟩,_⟩:=h
 obtain rfl:=Option.some.inj (hg.symm.trans hg')
 obtain rfl:=Option.some.inj (hty.symm.trans ht')
 refine⟨cs,fuel,p,hvar,?_,hd⟩
 unfold World.var? at hvar
 simp only[hg,xS]at hvar
 split at hvar
 ·rename_i c ty fr hh
  simp only[xJ]at hvar
  subst hvar
  exact⟨ty,fr,by simpa using hh⟩
 ·cases hvar
theorem laid_texts{P:Program}{name:String}{g:Nat}{t e:TypeId}{n:Nat}{ss:List (List UInt8)}{W:World}(hg:P.globalNamed name=some g)(hty:(P.globals[g]?).map (·.type)=some t)(ht:P.underlying t=some (.array n e))(he:P.underlying e=some .string)(hce:P.cellsOf e=1)(hct:P.cellsOf t=n)
  {rest:List (String×DataW Unit)} (h:laidMet P ((name,textsW ss)::rest) W):∃vs,GH W g vs∧GV (.agg (ss.map D.str)) vs:=by
 obtain⟨cs,fuel,p,_,h1,h2⟩:=laid_head hg hty h
 have hcs:=cells_of_texts ht he hce hct h2
 exact⟨_,h1,fun _ c=>by rw[hcs];exact vcs_texts c ss,fun h=>by cases h⟩
theorem vcs_ints(c:Cx)(k:IntKind):∀zs:List Int,VCs c (zs.map (D.int k)) (zs.map fun z=>Value.int k z)
 | []=>by simp[VCs]
 |z::zs=>by
  simp only[List.map_cons,VCs]
  exact⟨_,_,rfl,by simp[VC],vcs_ints c k zs⟩
theorem laid_ints{P:Program}{name:String}{g:Nat}{t e:TypeId}{n:Nat}{k:IntKind}{zs:List Int}{W:World}(hg:P.globalNamed name=some g)(hty:(P.globals[g]?).map (·.type)=some t)(ht:P.underlying t=some (.array n e))(he:P.underlying e=some (.int k))(hce:P.cellsOf e=1)(hct:P.cellsOf t=n)
  {rest:List (String×DataW Unit)} (h:laidMet P ((name,Lib.tabData k zs)::rest) W):∃vs,GH W g vs∧GV (.agg (zs.map (D.int k))) vs:=by
 obtain⟨cs,fuel,p,_,h1,h2⟩:=laid_head hg hty h
 have hcs:=Lib.cells_of_tab ht he hce hct h2
 exact⟨_,h1,fun _ c=>by rw[hcs];exact vcs_ints c k zs,fun h=>by cases h⟩
theorem laid_iface{P:Program}{name nm:String}{g:Nat}{t:TypeId}{ms:Array (String×TypeId)}{d:DataW Unit}{W:World}(hg:P.globalNamed name=some g)(hty:(P.globals[g]?).map (·.type)=some t)(ht:P.underlying t=some (.interface ms))
  {rest:List (String×DataW Unit)} (h:laidMet P ((name,.iface nm d)::rest) W):∃vs,GH W g vs∧GV .nilf vs:=by
 obtain⟨cs,fuel,p,_,h1,h2⟩:=laid_head hg hty h
 obtain⟨_,u,v,hc,_,_⟩:=iface_of_trod ht h2
 exact⟨_,h1,⟨(fun q=>by cases q),fun _=>⟨u,v,hc⟩⟩⟩
end Go.Am
namespace Go.Etx
open Go Go.Am Go.Proofs Go.Tr7
set_option maxHeartbeats 4000000
set_option maxRecDepth 20000
theorem cbK_some{α:Type}(o:Option α):cbK o some=o:=by unfold cbK;cases o <;>rfl
theorem works_eq{ρ:Type}(κ:List T×List Ob→Option ρ):cbK (call 6 [] []) κ=κ ([.d (.bool true)],[]):=by
 have h:call 6 [] []=some ([.d (.bool true)],[]):=M9
 rw[h];rfl
def lightB(e:List GNode)(s:GScope):Bool:=decide (e.length≤60)&&decide (s.Scalars.length≤10)&&decide (s.Vars.length≤30)&&decide (s.Chans.length≤20)&&decide (s.Procs.length≤20)&&decide (s.Locals.length≤20)
theorem light_eq{ρ:Type}(e:List GNode)(s:GScope)(g:Int→Option ρ):f_law11_Light e s g=if lightB e s=true then g 1 else g 0:=by
 simp only[f_law11_Light,F_law11_Light,mkF]
 by_cases h0:(60:Int)<(e.length:Int)
 ·have hn:¬e.length≤60:=by omega
  have hb:lightB e s=false:=by simp[lightB,hn]
  simp[h0,hb]
 by_cases h1:(10:Int)<(s.Scalars.length:Int)
 ·have hn:¬s.Scalars.length≤10:=by omega
  have hb:lightB e s=false:=by simp[lightB,hn]
  simp[h0,h1,hb]
 by_cases h2:(30:Int)<(s.Vars.length:Int)
 ·have hn:¬s.Vars.length≤30:=by omega
  have hb:lightB e s=false:=by simp[lightB,hn]
  simp[h0,h1,h2,hb]
 by_cases h3:(20:Int)<(s.Chans.length:Int)
 ·have hn:¬s.Chans.length≤20:=by omega
  have hb:lightB e s=false:=by simp[lightB,hn]
  simp[h0,h1,h2,h3,hb]
 by_cases h4:(20:Int)<(s.Procs.length:Int)
 ·have hn:¬s.Procs.length≤20:=by omega
  have hb:lightB e s=false:=by simp[lightB,hn]
  simp[h0,h1,h2,h3,h4,hb]
 by_cases h5:(20:Int)<(s.Locals.length:Int)
 ·have hn:¬s.Locals.length≤20:=by omega
  have hb:lightB e s=false:=by simp[lightB,hn]
  simp[h0,h1,h2,h3,h4,h5,hb]
 have hb:lightB e s=true:=by
  simp only[lightB,xA,yD]
  omega
 simp[h0,h1,h2,h3,h4,h5,hb]
theorem few_of{e:List GNode}{s:GScope}(h:lightB e s=true):Few s:=by
 simp only[lightB,xA,yD]at h
 constructor <;>omega
theorem inr_of{l:List GNode}(h:ok22 l):∀x∈l,Tr7.inR x.N=true:=fun x hx=>by
 have:=(h x hx).2
 simp only[ok3]at this
 simp only[inR,xA,yD]
 exact this
def gl8:Nat→Option D:=fun g=>Am.look [(0,.agg (ownL.map D.str)),(1,.agg (sgL.map D.str)),(2,.nilf),(3,.nilf),(4,.agg (Lib.pow10Tab.map (D.int .u64)))] g
theorem vars8:Vars gl8:=⟨rfl,rfl,rfl⟩
theorem hints_gl:∀f g d,(hints f).gl g=some d→gl8 g=some d:=by
 intro f g d h
 have key:glob g=some d→gl8 g=some d:=by
  intro h
  simp only[glob,gl8,Am.look]at h ⊢
  split at h
  ·rename_i hg
   rw[if_pos hg]
   exact h
  ·rename_i hg
   rw[if_neg hg]
   split at h
   ·rename_i hg1
    rw[if_pos hg1]
    exact h
   ·cases h
 unfold hints at h
 split at h <;>first |exact key h |cases h
theorem hints_ext:∀f F,(hints f).ext=some F→ExtOK Tryz.prog gl8 f F:=by
 intro f F h
 unfold hints at h
 split at h <;>first |(cases h;done) |(cases h;exact given_num vars8) |(cases h;exact given_dec vars8)
theorem g_own:Tryz.prog.globalNamed "lariat/lex.own" =some 0:=by kernel_rfl
theorem t_own:(Tryz.prog.globals[0]?).map (·.type)=some 88:=by kernel_rfl
theorem g_sgn:Tryz.prog.globalNamed "lariat/lex.signs" =some 1:=by kernel_rfl
theorem t_sgn:(Tryz.prog.globals[1]?).map (·.type)=some 136:=by kernel_rfl
theorem g_syn:Tryz.prog.globalNamed "strconv.ErrSyntax" =some 2:=by kernel_rfl
theorem t_syn:(Tryz.prog.globals[2]?).map (·.type)=some 150:=by kernel_rfl
theorem g_rng:Tryz.prog.globalNamed "strconv.ErrRange" =some 3:=by kernel_rfl
theorem t_rng:(Tryz.prog.globals[3]?).map (·.type)=some 150:=by kernel_rfl
theorem g_pow:Tryz.prog.globalNamed "internal/strconv.uint64pow10" =some 4:=by kernel_rfl
theorem t_pow:(Tryz.prog.globals[4]?).map (·.type)=some 185:=by kernel_rfl
open Go.Proofs.YtdekianmechckaaGreatDoor in
theorem held{W:World}(h:laidMet Tryz.prog Rows.etextTellsUptoRow.laid W):GA gl8 (A0 W):=by
 have hp:=laid_tail (laid_tail h)
 have hr:=laid_tail hp
 have hs:=laid_tail hr
 have hg:=laid_tail hs
 have ho:=laid_tail hg
 have key:∀g d,(∃vs:List Value,GH W g vs∧GV d vs)→g<(A0 W).w0.heap.size∧¬(A0 W).O0 g∧(∀t,¬(A0 W).F t g)∧∃vs:List Value,GH (A0 W).w0 g vs∧GV d vs:=by
  rintro g d ⟨vs,h1,h2⟩
  refine⟨?_,id,fun _=>id,vs,h1,h2⟩
  obtain⟨t,fr,h3⟩:=h1
  exact(Array.getElem?_eq_some_iff.1 h3).1
 intro g d e
 refine key g d ?_
 simp only[gl8,Am.look]at e
 split at e
 ·rename_i hh
  simp only[xJ]at e
  subst e
  rw[←hh]
  exact laid_texts g_own t_own Tryz.underlying88 Tryz.underlying9 (by kernel_rfl) (by kernel_rfl) ho
 ·split at e
  ·rename_i hh
   simp only[xJ]at e
   subst e
   rw[←hh]
   exact laid_texts g_sgn t_sgn Tryz.underlying136 Tryz.underlying9 (by kernel_rfl) (by kernel_rfl) hg
  ·split at e
   ·rename_i hh
    simp only[xJ]at e
    subst e
    rw[←hh]
    exact laid_iface g_syn t_syn Tryz.underlying150 hs
   ·split at e
    ·rename_i hh
     simp only[xJ]at e
     subst e
     rw[←hh]
     exact laid_iface g_rng t_rng Tryz.underlying150 hr
    ·split at e
     ·rename_i hh
      simp only[xJ]at e
      subst e
      rw[←hh]
      exact laid_ints g_pow t_pow Tryz.underlying185 Tryz.underlying173 (by kernel_rfl) (by kernel_rfl) hp
     ·cases e
end Go.Etx
namespace Go.Etx
open Go Go.Am Go.Proofs Go.Tr7
set_option maxHeartbeats 4000000
set_option maxRecDepth 20000
theorem bare_eq'{ρ:Type}(e:List GNode)(h:e.length≤60)(g:List GNode→Option ρ):f_law11_bare e g=g (e.map bareN):=by
 simp only[f_law11_bare,F_law11_bare,mkF]
 rw[loop_runE e.length (fun i=>((i:Int),(e.take i).map bareN)) (by simp)]
 ·simp
 ·intro i k hi
  have hl:((e.take i).map bareN).length=i:=by simp;omega
  have hn:(e.take i).map bareN++[bareN e[i]]=(e.take (i+1)).map bareN:=by rw[List.take_succ_eq_append_getElem hi,List.map_append];rfl
  have hs:IntKind.i64.wrap ((i:Int)+1)=((i+1:Nat):Int):=wrapS (by omega)
  simp only[xV,xG hi,xS,hl,hs]
  rw[if_pos (by omega),if_pos (by omega)]
  rw[←hn]
  by_cases h4:e[i].Op≤4
  ·have:bareN e[i]=⟨e[i].Op,e[i].N⟩:=by unfold bareN;rw[if_pos (.inl h4)]
   rw[if_pos h4,if_pos (by omega),if_pos (by omega),this]
  rw[if_neg h4]
  by_cases h6:6≤e[i].Op
  ·rw[if_pos h6]
   by_cases h8:e[i].Op≤8
   ·have:bareN e[i]=⟨e[i].Op,e[i].N⟩:=by unfold bareN;rw[if_pos (.inr ⟨h6,h8⟩)]
    rw[if_pos h8,if_pos (by omega),if_pos (by omega),this]
   ·have:bareN e[i]=⟨e[i].Op,0⟩:=by unfold bareN;rw[if_neg (by omega)]
    rw[if_neg h8,if_pos (by omega),this]
  ·have:bareN e[i]=⟨e[i].Op,0⟩:=by unfold bareN;rw[if_neg (by omega)]
   rw[if_neg h6,if_pos (by omega),this]
 ·intro k
  simp
theorem equal_eq{ρ:Type}(a b:List GNode)(h:a.length<4611686018427387904)(g:Bool→Option ρ):f_eN a b g=g (decide (a=b)):=by
 simp only[f_eN,F_eN,mkF]
 by_cases hl:a.length=b.length
 ·rw[if_pos (by omega)]
  rw[show(0:Int)=((0:Nat):Int)from rfl,loop_all a.length (fun i=>(i:Int)) (fun i=>decide (a[i]? =b[i]?)) (g false)]
  ·by_cases hab:a=b
   ·subst hab;simp
   ·rw[if_neg,decide_eq_false hab]
    intro hq
    refine hab (List.ext_getElem? fun i=> ?_)
    by_cases hi:i<a.length
    ·simpa using hq i hi
    ·rw[List.getElem?_eq_none (by omega),List.getElem?_eq_none (by omega)]
  ·intro i k hi
   have hi':i<b.length:=by omega
   have hs:IntKind.i64.wrap ((i:Int)+1)=((i+1:Nat):Int):=wrapS (by omega)
   simp only[xV,xG hi,xG hi',xS,hs,xJ]
   rw[if_pos (by omega),if_pos (by omega),if_pos (by omega)]
   by_cases hq:a[i]=b[i]
   ·rw[if_neg (by rw[hq];simp),if_pos (by simpa using hq)]
   ·have:¬a[i].Op=b[i].Op∨¬a[i].N=b[i].N:=by
     cases ha:a[i]
     cases hb:b[i]
     rw[ha,hb]at hq
     simp only[GNode.mk.injEq]at hq
     simp only
     omega
    rw[if_pos this,if_neg (by simpa using hq)]
  ·intro k;simp
 ·have hab:a≠b:=fun h=>hl (by rw[h])
  rw[if_neg (by omega),decide_eq_false hab]
theorem law_EtextUnlike(a b:List GNode)(s:GScope)(ha:ok22 a)(hb:ok22 b)(_hs:ok28 s)(_hb:bk22 a+(bk22 b+bk28 s)≤1048576):call 4 [esNode false a,esNode false b,eScope false s] []=some ([.d (.bool true)],[]):=by
 rw[←cbK_some (call 4 _ _)]
 refine(ge4 _ _ _ rfl).trans ?_
 cases hl:lightB a s with
 |true=>
  cases hl':lightB b s with
  |true=>
   have h7:=fun κ=>Text_eq (ρ:=List T×List Ob) false a s (few_of hl) (inr_of ha) κ
   have h8:=fun κ=>Text_eq (ρ:=List T×List Ob) false b s (few_of hl) (inr_of hb) κ
   have la:a.length≤60:=by simp only[lightB,xA,yD]at hl;omega
   have lb:b.length≤60:=by simp only[lightB,xA,yD]at hl';omega
   have e1:=fun g=>bare_eq' (ρ:=List T×List Ob) a la g
   have e2:=fun g=>bare_eq' (ρ:=List T×List Ob) b lb g
   have e3:=fun g=>equal_eq (ρ:=List T×List Ob) (a.map bareN) (b.map bareN) (by simp;omega) g
   have e4:=fun g=>equal_eq (ρ:=List T×List Ob) (b.map bareN) (b.map bareN) (by simp;omega) g
   have hu:=fun fa fb=>unlike (s:=s) (inr_of ha) (inr_of hb) fa fb
   by_cases fa:(textK a s).2=0
   ·by_cases fb:(textK b s).2=0
    ·have hu:=hu fa fb
     by_cases hq:a.map bareN=b.map bareN
     ·have ht:=hu.2 hq
      simp -implicitDefEqProofs (maxSteps:=1000000) [go_sem,light_eq,hl,hl',h7,h8,fa,fb,e1,e2,e4,hq,ht,works_eq,-List.map_append,-List.map_take,-List.map_drop,-List.map_set]
     ·have ht:¬(textK a s).1=(textK b s).1:=fun h=>hq (hu.1 h)
      simp -implicitDefEqProofs (maxSteps:=1000000) [go_sem,light_eq,hl,hl',h7,h8,fa,fb,e1,e2,e3,hq,ht,works_eq,-List.map_append,-List.map_take,-List.map_drop,-List.map_set]
    ·simp -implicitDefEqProofs (maxSteps:=1000000) [go_sem,light_eq,hl,hl',h7,h8,fa,fb,works_eq,-List.map_append,-List.map_take,-List.map_drop,-List.map_set]
   ·simp -implicitDefEqProofs (maxSteps:=1000000) [go_sem,light_eq,hl,hl',h7,h8,fa,works_eq,-List.map_append,-List.map_take,-List.map_drop,-List.map_set]
  |false=>
   simp -implicitDefEqProofs (maxSteps:=1000000) [go_sem,light_eq,hl,hl',works_eq,-List.map_append,-List.map_take,-List.map_drop,-List.map_set]
 |false=>
  simp -implicitDefEqProofs (maxSteps:=1000000) [go_sem,light_eq,hl,works_eq,-List.map_append,-List.map_take,-List.map_drop,-List.map_set]
end Go.Etx
namespace Go.Proofs.YtdekianmechckaaGreatDoor
open Go Go.Am Go.Etx Go.ChangeShapes Go.WideShapes Go.ChangeAt Go.RowKit
set_option maxRecDepth 20000
namespace EtextUnlikeLaw
theorem own:ownKnob Tryz.prog.godebug=none:=by kernel_rfl
theorem follows:Tryz.prog.follows .mixedOrders=true:=by kernel_rfl
theorem laid:laidOutB Tryz.prog=true:=by kernel_rfl
theorem okT22:tyOk Tryz.prog 10 22=true:=by kernel_rfl
theorem rdT22:(Tryz.prog.readableRec 22&&decide (22<Tryz.prog.types.size))=true:=by kernel_rfl
theorem okT28:tyOk Tryz.prog 10 28=true:=by kernel_rfl
theorem rdT28:(Tryz.prog.readableRec 28&&decide (28<Tryz.prog.types.size))=true:=by kernel_rfl
theorem contract(H:Type)(enc:TypeId×Value→H)(W:World)(base:Nat)(args:Array Value)(ds gs:List (DataW H))(before:List MemPlace)
  (hval:∀(j:Nat) t v,Tryz.f4.params[j]? =some t→args[j]? =some v→Value.okWide Tryz.prog W .any base t v)
  (hW:DataW.Whole enc Tryz.prog Tryz.f4.params.toList Rows.etextUnlikeSpec.vars false W args.toList ds gs before) (hk:Rows.uptoSmall H (ds++gs)=true) (hL:laidMetH Tryz.prog Rows.etextUnlikeUptoRow.laid W):
  Calls Tryz.prog 4 args W fun e W'=>∃v,e=.returned v∧Rows.etextUnlikeSpec.post enc Tryz.prog Tryz.f4 false true false false W args v W':=by
 have hW':=hW
 obtain⟨p,q,hA0,hV,rfl,hfz,hnd⟩:=hW
 have hA:DataW.TrodAll enc Tryz.prog W 0 (fun _=>true) true Tryz.f4.params.toList args.toList ds p:=hA0
 obtain⟨rfl,rfl⟩:=trodVars_none hV
 have hb:Rows.uptoBulkAll ds≤1048576:=of_decide_eq_true (by simpa [Rows.uptoSmall]using hk)
 have hp:Tryz.f4.params.toList=[22,22,28]:=by rw[Tryz.params4]
 obtain⟨xs,hv,ht,hbk⟩:=readAll_ok (P:=Tryz.prog) (n:=10) Tryz.f4.params.toList args.toList ds p (by rw[hp];simp[okT22,okT28]) (fun j t v h1 h2=>⟨base,hval j t v (by simpa using h1) (by simpa using h2)⟩) hA
 rw[hp]at ht
 obtain⟨a0,r0,rfl,h0,a1,r1,rfl,h1,a2,r2,rfl,h2,rfl⟩:=ht
 obtain⟨x0,rfl,k0⟩:=dec22 (n:=7) h0
 obtain⟨x1,rfl,k1⟩:=dec22 (n:=7) h1
 obtain⟨x2,rfl,k2⟩:=dec28 (n:=0) h2
 have hbk2:=Nat.le_trans hbk hb
 simp only[D.bulks,bkE22,bkE28,Nat.add_zero]at hbk2
 obtain⟨n,hn⟩:=callX_iff.1 (law_EtextUnlike x0 x1 x2 k0 k1 k2 (by omega))
 refine(calls_true follows hints_gl hints_ext (show¬YB≤4 by unfold YB;omega) hn (held (laid_of_plain (by kernel_rfl) hL)) hv).mono fun e W' ⟨he,hbl⟩=> ?_
 subst he
 obtain⟨d0,d1,d2,rfl⟩:∃d0 d1 d2,ds=[d0,d1,d2]:=by
  rw[hp]at hA
  obtain⟨v0,vs0,d0,ds0,p0,q0,_,rfl,rfl,_,g0⟩:=trodAll_cons hA
  obtain⟨v1,vs1,d1,ds1,p1,q1,_,rfl,rfl,_,g1⟩:=trodAll_cons g0
  obtain⟨v2,vs2,d2,ds2,p2,q2,_,rfl,rfl,_,g2⟩:=trodAll_cons g1
  obtain⟨_,rfl,_⟩:=trodAll_nil g2
  exact⟨d0,d1,d2,rfl⟩
 exact⟨_,rfl,law_post hW' rfl rfl hbl laid (by
  rw[hp]
  intro t ht
  simp only[xY,List.not_mem_nil,or_false]at ht
  rcases ht with rfl |rfl |rfl
  ·simpa using rdT22
  ·simpa using rdT22
  ·simpa using rdT28) (by kernel_rfl) Tryz.underlying4⟩
noncomputable def low:Nat:=(World.holding Tryz.prog default ⟨#[], #[],[]⟩).heap.size
def cell1:DataW Unit→List Value
 | .lit (.int k n)=>[.int k n]
 | .lit (.string s)=>[.string ⟨s.toArray⟩]
 |_=>[]
def cell2:DataW Unit→List Value
 | .agg l=>l.flatMap cell1
 |x=>cell1 x
def cells:DataW Unit→Array Value
 | .agg l=>(l.flatMap cell2).toArray
 |_=> #[]
noncomputable def laidWorld(os:Os):World:=
 let w0:=World.holding Tryz.prog os ⟨#[.cells #[.string ⟨#[118,97,108,117,101,32,111,117,116,32,111,102,32,114,97,110,103,101]⟩] 193,.cells #[.string ⟨#[105,110,118,97,108,105,100,32,115,121,110,116,97,120]⟩] 193], #[],[]⟩
 let put (g:Nat) (vs:Array Value) (h:Array Obj):Array Obj:=h.modify g fun
  | .cells _ t frozen=>.cells vs t frozen
  |o=>o
 {w0 with heap:=put 0 (cells Rows.laid_lariat_lex_own) (put 1 (cells Rows.laid_lariat_lex_signs) (put 2 #[.iface 191 (.pointer (some ⟨low+1,0,none⟩))] (put 3 #[.iface 191 (.pointer (some ⟨low,0,none⟩))] (put 4 (cells Rows.laid_internal_strconv_uint64pow10) (put 5 (cells Rows.laid_math_bits_deBruijn32tab) (put 6 (cells Rows.laid_math_bits_deBruijn64tab) w0.heap))))))}
theorem laid_met(os:Os):laidMet Tryz.prog Rows.etextUnlikeUptoRow.laid ((laidWorld os).forCall (fun _ _=>0) ⟨#[], #[.slice none 0 0,.slice none 0 0,.agg #[.slice none 0 0,.slice none 0 0,.slice none 0 0,.slice none 0 0,.slice none 0 0,.int .i64 0]],[]⟩).memory:=
 laidMet_of_run3 8 (by kernel_rfl) (by kernel_rfl) (by kernel_rfl)
theorem reads(os:Os){H:Type}(enc:TypeId×Value→H):∃places,DataW.whole enc Tryz.prog ((laidWorld os).forCall (fun _ _=>0) ⟨#[], #[.slice none 0 0,.slice none 0 0,.agg #[.slice none 0 0,.slice none 0 0,.slice none 0 0,.slice none 0 0,.slice none 0 0,.int .i64 0]],[]⟩).memory Tryz.f4.params.toList Rows.etextUnlikeSpec.vars false (#[.slice none 0 0,.slice none 0 0,.agg #[.slice none 0 0,.slice none 0 0,.slice none 0 0,.slice none 0 0,.slice none 0 0,.int .i64 0]]:Array Value).toList 10=some ([.nil,.nil,.agg [.nil,.nil,.nil,.nil,.nil,.lit (.int .i64 0)]],[],places):=
 ⟨[],by kernel_rfl⟩
set_option maxRecDepth 100000 in
theorem lifted(os:Os)(started:os.Started)(H:Type)(enc:TypeId×Value→H)(F:Stop.Interp):
  ReturnsInHanded {} Tryz.checked os 4 .any ((Rows.OpenSpec.upto Rows.etextUnlikeSpec).preRow enc Tryz.prog Tryz.f4 Rows.etextUnlikeUptoRow.domain false Rows.etextUnlikeUptoRow.laid) (((Rows.OpenSpec.upto Rows.etextUnlikeSpec).at F).post enc Tryz.prog Tryz.f4 false true false false):=by
 obtain⟨places,hx⟩:=reads os enc
 refine returnsInHanded_of_row (C:=Tryz.checked) (s:=Rows.OpenSpec.upto Rows.etextUnlikeSpec) own started (by kernel_rfl) Tryz.func4
  (witness_row_at (enc:=enc) (C:=Tryz.checked) false (laidWorld os) #[.slice none 0 0,.slice none 0 0,.agg #[.slice none 0 0,.slice none 0 0,.slice none 0 0,.slice none 0 0,.slice none 0 0,.int .i64 0]] rfl (by kernel_rfl) (by kernel_rfl) (by kernel_rfl)
   (OpenSpec.preRow_of_cond 10 hx (by kernel_rfl) (fun k hk=>by cases hk;kernel_rfl) (by kernel_rfl) (laid_met os))) ?_
 intro W base args ds gs before hval hW _ hcond _ hL _ _
 exact contract H enc W base args ds gs before hval hW (hcond _ rfl) hL
theorem saidUpto:Rows.EtextUnlikeUptoSaid:=
 OpenClaim.holds_of_cond 4 Tryz.f4 rfl rfl rfl rfl rfl rfl rfl ⟨rfl,rfl,rfl,rfl,rfl⟩ rfl rfl rfl rfl rfl (by kernel_rfl) Tryz.func4 (by kernel_rfl)
  (of_decide_eq_true (by kernel_rfl)) (by unfold Func.isWrapper;first |(rw[if_pos (by decide +kernel)];kernel_rfl) |(rw[if_neg (by decide +kernel)];exact⟨rfl,rfl⟩))
  (fun os started H enc _ F=>by rw[OpenClaim.pre_eq_preRow];exact lifted os started H enc F)
theorem plain(f:FuncId)(fn:Func)(hf:Tryz.pinned.checked.prog.funcNamed "lariat/lariatlaw11.EtextUnlike" =some f)(hfn:Tryz.pinned.checked.prog.funcs[f]? =some fn):
  true=Tryz.pinned.checked.prog.looks []∧∀(j:Nat) t,fn.params[j]? =some t→Tryz.pinned.checked.prog.wantsStandIn t=false:=by
 obtain rfl:f=4:=Option.some.inj ((show Tryz.prog.funcNamed "lariat/lariatlaw11.EtextUnlike" =some 4 by kernel_rfl).symm.trans hf) |>.symm
 obtain rfl:fn=Tryz.f4:=(Option.some.inj (Tryz.func4.symm.trans hfn)).symm
 refine⟨by kernel_rfl,fun j t ht=> ?_⟩
 rw[Tryz.params4]at ht
 have hm:t∈[22,22,28]:=by simpa using Array.mem_of_getElem? ht
 have hall:([22,22,28].all fun u=> !Tryz.prog.wantsStandIn u)=true:=by kernel_rfl
 exact(show Tryz.prog.wantsStandIn t=false by simpa using List.all_eq_true.1 hall t hm)
end EtextUnlikeLaw
theorem etextUnlike_uptoCard:Rows.EtextUnlikeUptoCardSaid:=
 Claim7.holds_tied_plain_at .later [] _ _ _ _ EtextUnlikeLaw.saidUpto (fun _ h=>by cases h) (by kernel_rfl) (fun _ h=>by cases h) etextUnlikeUpto_row_tie rfl ⟨rfl,rfl⟩ (by kernel_rfl) rfl EtextUnlikeLaw.plain (by kernel_rfl)
end Go.Proofs.YtdekianmechckaaGreatDoor
