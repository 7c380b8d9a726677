/- 'EtextBackUptoCardSaid': the text of an expression is read as it, but for N of nodes that have none. Condition: what is read is of bulk at most 1048576; the listed variables hold what the program's text lays them with (tied by the card). -/
import Derived.Test.YtngkjkmjoieecaaGreatDoorEb10
import GoSem.ClaimJoined
import Derived.Lib.LaidTab
import Derived.LaidLaws
import Derived.Test.YtngkjkmjoieecaaGreatDoorRows
import Derived.Test.YtngkjkmjoieecaaGreatDoorCards
import Derived.Test.YtngkjkmjoieecaaGreatDoorTie
import Derived.Deep.DeepHandedRow
import Derived.Deep.DeepLaidRun
set_option linter.unusedSimpArgs false
set_option linter.unusedVariables false
namespace Go.Am
open Go
theorem dec_list{α:Type}{Q:α→Prop}(f:α→D):∀(l:List D),(∀y∈l,∃a,y=f a∧Q a)→∃vs:List α,l=vs.map f∧∀a∈vs,Q a
 | [],_=>⟨[],rfl,by simp⟩
 |y::l,h=>by
  obtain⟨a,rfl,ha⟩:=h y (by simp)
  obtain⟨vs,rfl,hs⟩:=dec_list f l (fun z hz=>h z (by simp[hz]))
  exact⟨a::vs,rfl,by simpa using⟨ha,hs⟩⟩
theorem bulks_list{α:Type}(f:α→D)(g:α→Nat)(h:∀x,(f x).bulk=g x)(l:List α):D.bulks (l.map f)=(l.map g).sum:=by
 induction l with
 |nil=>simp[D.bulks]
 |cons a l ih=>simp[D.bulks,h,ih]
theorem bulk_list{α:Type}(f:α→D)(g:α→Nat)(h:∀x,(f x).bulk=g x)(l:List α):D.bulk (.sl false (l.map f))=(l.map g).sum+1:=by
 rw[D.bulk,bulks_list f g h]
end Go.Am
namespace Go.Etx
open Go Go.Am Go.Proofs
set_option maxRecDepth 20000
def ok3(m:Int):Prop:=-9223372036854775808≤m∧m≤9223372036854775807
def bk3(_:Int):Nat:=1
theorem dec3{n:Nat}{x:D}(h:Ty P (n+1) 3 x):∃v:Int,x=eI v∧ok3 v:=by
 have hu:P.underlying 3=some (.int .i64):=un3
 simp only[Ty,hu]at h
 obtain⟨m,rfl,h1,h2⟩:=h
 exact⟨m,rfl,h1,h2⟩
theorem bkE3(v:Int):(eI v).bulk=bk3 v:=rfl
def ok4(_:Bool):Prop:=True
def bk4(_:Bool):Nat:=1
theorem dec4{n:Nat}{x:D}(h:Ty P (n+1) 4 x):∃v:Bool,x=eB v∧ok4 v:=by
 have hu:P.underlying 4=some .bool:=un4
 simp only[Ty,hu]at h
 obtain⟨m,rfl⟩:=h
 exact⟨m,rfl,trivial⟩
theorem bkE4(v:Bool):(eB v).bulk=bk4 v:=rfl
def ok9(_:List UInt8):Prop:=True
def bk9(s:List UInt8):Nat:=s.length+1
theorem dec9{n:Nat}{x:D}(h:Ty P (n+1) 9 x):∃v:List UInt8,x=eS v∧ok9 v:=by
 have hu:P.underlying 9=some .string:=un9
 simp only[Ty,hu]at h
 obtain⟨m,rfl⟩:=h
 exact⟨m,rfl,trivial⟩
theorem bkE9(v:List UInt8):(eS v).bulk=bk9 v:=rfl
def ok41(x:GNode):Prop:=ok3 x.Op∧ok3 x.N
def bk41(x:GNode):Nat:=bk3 x.Op+bk3 x.N
theorem dec41{n:Nat}{x:D}(h:Ty P (n+2) 41 x):∃v:GNode,x=eNode v∧ok41 v:=by
 have hu:P.underlying 41=_:=Tryz.underlying41
 rw[Ty]at h
 simp only[hu]at h
 obtain⟨ys,rfl,hy⟩:=h
 simp only[All2]at hy
 obtain⟨a0,r0,rfl,g0,h0⟩:=hy
 obtain⟨v0,rfl,k0⟩:=dec3 (n:=n+0) g0
 obtain⟨a1,r1,rfl,g1,h1⟩:=h0
 obtain⟨v1,rfl,k1⟩:=dec3 (n:=n+0) g1
 subst h1
 exact⟨⟨v0,v1⟩,rfl,k0,k1⟩
theorem bkE41(v:GNode):(eNode v).bulk=bk41 v:=by
 have h:=fun(l:List D)=>D.bulk.eq_3 l
 simp only[eNode,bk41,D.bulk,D.bulks,←bkE3] <;>omega
def ok76(x:GVar):Prop:=ok9 x.Name∧ok3 x.Scalar∧ok3 x.Over∧ok3 x.Lo∧ok3 x.Hi∧ok3 x.Init
def bk76(x:GVar):Nat:=bk9 x.Name+bk3 x.Scalar+bk3 x.Over+bk3 x.Lo+bk3 x.Hi+bk3 x.Init
theorem dec76{n:Nat}{x:D}(h:Ty P (n+2) 76 x):∃v:GVar,x=eVar v∧ok76 v:=by
 have hu:P.underlying 76=_:=Tryz.underlying76
 rw[Ty]at h
 simp only[hu]at h
 obtain⟨ys,rfl,hy⟩:=h
 simp only[All2]at hy
 obtain⟨a0,r0,rfl,g0,h0⟩:=hy
 obtain⟨v0,rfl,k0⟩:=dec9 (n:=n+0) g0
 obtain⟨a1,r1,rfl,g1,h1⟩:=h0
 obtain⟨v1,rfl,k1⟩:=dec3 (n:=n+0) g1
 obtain⟨a2,r2,rfl,g2,h2⟩:=h1
 obtain⟨v2,rfl,k2⟩:=dec3 (n:=n+0) g2
 obtain⟨a3,r3,rfl,g3,h3⟩:=h2
 obtain⟨v3,rfl,k3⟩:=dec3 (n:=n+0) g3
 obtain⟨a4,r4,rfl,g4,h4⟩:=h3
 obtain⟨v4,rfl,k4⟩:=dec3 (n:=n+0) g4
 obtain⟨a5,r5,rfl,g5,h5⟩:=h4
 obtain⟨v5,rfl,k5⟩:=dec3 (n:=n+0) g5
 subst h5
 exact⟨⟨v0,v1,v2,v3,v4,v5⟩,rfl,k0,k1,k2,k3,k4,k5⟩
theorem bkE76(v:GVar):(eVar v).bulk=bk76 v:=by
 have h:=fun(l:List D)=>D.bulk.eq_3 l
 simp only[eVar,bk76,D.bulk,D.bulks,←bkE9,←bkE3] <;>omega
def ok96(x:GChan):Prop:=ok9 x.Name∧ok3 x.Scalar∧ok3 x.Cap∧ok3 x.Lo∧ok3 x.Hi∧ok4 x.Lossy
def bk96(x:GChan):Nat:=bk9 x.Name+bk3 x.Scalar+bk3 x.Cap+bk3 x.Lo+bk3 x.Hi+bk4 x.Lossy
theorem dec96{n:Nat}{x:D}(h:Ty P (n+2) 96 x):∃v:GChan,x=eChan v∧ok96 v:=by
 have hu:P.underlying 96=_:=Tryz.underlying96
 rw[Ty]at h
 simp only[hu]at h
 obtain⟨ys,rfl,hy⟩:=h
 simp only[All2]at hy
 obtain⟨a0,r0,rfl,g0,h0⟩:=hy
 obtain⟨v0,rfl,k0⟩:=dec9 (n:=n+0) g0
 obtain⟨a1,r1,rfl,g1,h1⟩:=h0
 obtain⟨v1,rfl,k1⟩:=dec3 (n:=n+0) g1
 obtain⟨a2,r2,rfl,g2,h2⟩:=h1
 obtain⟨v2,rfl,k2⟩:=dec3 (n:=n+0) g2
 obtain⟨a3,r3,rfl,g3,h3⟩:=h2
 obtain⟨v3,rfl,k3⟩:=dec3 (n:=n+0) g3
 obtain⟨a4,r4,rfl,g4,h4⟩:=h3
 obtain⟨v4,rfl,k4⟩:=dec3 (n:=n+0) g4
 obtain⟨a5,r5,rfl,g5,h5⟩:=h4
 obtain⟨v5,rfl,k5⟩:=dec4 (n:=n+0) g5
 subst h5
 exact⟨⟨v0,v1,v2,v3,v4,v5⟩,rfl,k0,k1,k2,k3,k4,k5⟩
theorem bkE96(v:GChan):(eChan v).bulk=bk96 v:=by
 have h:=fun(l:List D)=>D.bulk.eq_3 l
 simp only[eChan,bk96,D.bulk,D.bulks,←bkE9,←bkE3,←bkE4] <;>omega
def ok102(x:GScalar):Prop:=ok9 x.Name∧ok3 x.Size
def bk102(x:GScalar):Nat:=bk9 x.Name+bk3 x.Size
theorem dec102{n:Nat}{x:D}(h:Ty P (n+2) 102 x):∃v:GScalar,x=eScalar v∧ok102 v:=by
 have hu:P.underlying 102=_:=Tryz.underlying102
 rw[Ty]at h
 simp only[hu]at h
 obtain⟨ys,rfl,hy⟩:=h
 simp only[All2]at hy
 obtain⟨a0,r0,rfl,g0,h0⟩:=hy
 obtain⟨v0,rfl,k0⟩:=dec9 (n:=n+0) g0
 obtain⟨a1,r1,rfl,g1,h1⟩:=h0
 obtain⟨v1,rfl,k1⟩:=dec3 (n:=n+0) g1
 subst h1
 exact⟨⟨v0,v1⟩,rfl,k0,k1⟩
theorem bkE102(v:GScalar):(eScalar v).bulk=bk102 v:=by
 have h:=fun(l:List D)=>D.bulk.eq_3 l
 simp only[eScalar,bk102,D.bulk,D.bulks,←bkE9,←bkE3] <;>omega
def ok22(l:List GScalar):Prop:=∀a∈l,ok102 a
def bk22(l:List GScalar):Nat:=(l.map bk102).sum+1
theorem dec22{n:Nat}{x:D}(h:Ty P (n+3) 22 x):∃v:List GScalar,x=(esScalar false) v∧ok22 v:=by
 have hu:P.underlying 22=some (.slice 102):=un22
 rw[Ty]at h
 simp only[hu]at h
 obtain⟨l,rfl,hl⟩:=h
 obtain⟨vs,rfl,hs⟩:=dec_list eScalar l (fun y hy=>dec102 (n:=n+0) (hl y hy))
 exact⟨vs,rfl,hs⟩
theorem bkE22(v:List GScalar):((esScalar false) v).bulk=bk22 v:=bulk_list eScalar bk102 bkE102 v
def ok23(l:List GVar):Prop:=∀a∈l,ok76 a
def bk23(l:List GVar):Nat:=(l.map bk76).sum+1
theorem dec23{n:Nat}{x:D}(h:Ty P (n+3) 23 x):∃v:List GVar,x=(esVar false) v∧ok23 v:=by
 have hu:P.underlying 23=some (.slice 76):=un23
 rw[Ty]at h
 simp only[hu]at h
 obtain⟨l,rfl,hl⟩:=h
 obtain⟨vs,rfl,hs⟩:=dec_list eVar l (fun y hy=>dec76 (n:=n+0) (hl y hy))
 exact⟨vs,rfl,hs⟩
theorem bkE23(v:List GVar):((esVar false) v).bulk=bk23 v:=bulk_list eVar bk76 bkE76 v
def ok24(l:List GChan):Prop:=∀a∈l,ok96 a
def bk24(l:List GChan):Nat:=(l.map bk96).sum+1
theorem dec24{n:Nat}{x:D}(h:Ty P (n+3) 24 x):∃v:List GChan,x=(esChan false) v∧ok24 v:=by
 have hu:P.underlying 24=some (.slice 96):=un24
 rw[Ty]at h
 simp only[hu]at h
 obtain⟨l,rfl,hl⟩:=h
 obtain⟨vs,rfl,hs⟩:=dec_list eChan l (fun y hy=>dec96 (n:=n+0) (hl y hy))
 exact⟨vs,rfl,hs⟩
theorem bkE24(v:List GChan):((esChan false) v).bulk=bk24 v:=bulk_list eChan bk96 bkE96 v
def ok30(l:List GNode):Prop:=∀a∈l,ok41 a
def bk30(l:List GNode):Nat:=(l.map bk41).sum+1
theorem dec30{n:Nat}{x:D}(h:Ty P (n+3) 30 x):∃v:List GNode,x=(esNode false) v∧ok30 v:=by
 have hu:P.underlying 30=some (.slice 41):=un30
 rw[Ty]at h
 simp only[hu]at h
 obtain⟨l,rfl,hl⟩:=h
 obtain⟨vs,rfl,hs⟩:=dec_list eNode l (fun y hy=>dec41 (n:=n+0) (hl y hy))
 exact⟨vs,rfl,hs⟩
theorem bkE30(v:List GNode):((esNode false) v).bulk=bk30 v:=bulk_list eNode bk41 bkE41 v
def ok228(x:GAct):Prop:=ok3 x.Kind∧ok3 x.To∧ok3 x.Local∧ok30 x.Index∧ok30 x.Value
def bk228(x:GAct):Nat:=bk3 x.Kind+bk3 x.To+bk3 x.Local+bk30 x.Index+bk30 x.Value
theorem dec228{n:Nat}{x:D}(h:Ty P (n+4) 228 x):∃v:GAct,x=(eAct false) v∧ok228 v:=by
 have hu:P.underlying 228=_:=Tryz.underlying228
 rw[Ty]at h
 simp only[hu]at h
 obtain⟨ys,rfl,hy⟩:=h
 simp only[All2]at hy
 obtain⟨a0,r0,rfl,g0,h0⟩:=hy
 obtain⟨v0,rfl,k0⟩:=dec3 (n:=n+2) g0
 obtain⟨a1,r1,rfl,g1,h1⟩:=h0
 obtain⟨v1,rfl,k1⟩:=dec3 (n:=n+2) g1
 obtain⟨a2,r2,rfl,g2,h2⟩:=h1
 obtain⟨v2,rfl,k2⟩:=dec3 (n:=n+2) g2
 obtain⟨a3,r3,rfl,g3,h3⟩:=h2
 obtain⟨v3,rfl,k3⟩:=dec30 (n:=n+0) g3
 obtain⟨a4,r4,rfl,g4,h4⟩:=h3
 obtain⟨v4,rfl,k4⟩:=dec30 (n:=n+0) g4
 subst h4
 exact⟨⟨v0,v1,v2,v3,v4⟩,rfl,k0,k1,k2,k3,k4⟩
theorem bkE228(v:GAct):((eAct false) v).bulk=bk228 v:=by
 have h:=fun(l:List D)=>D.bulk.eq_3 l
 simp only[eAct,bk228,D.bulk,D.bulks,←bkE3,←bkE30] <;>omega
def ok223(l:List GAct):Prop:=∀a∈l,ok228 a
def bk223(l:List GAct):Nat:=(l.map bk228).sum+1
theorem dec223{n:Nat}{x:D}(h:Ty P (n+5) 223 x):∃v:List GAct,x=(esAct false) v∧ok223 v:=by
 have hu:P.underlying 223=some (.slice 228):=un223
 rw[Ty]at h
 simp only[hu]at h
 obtain⟨l,rfl,hl⟩:=h
 obtain⟨vs,rfl,hs⟩:=dec_list (eAct false) l (fun y hy=>dec228 (n:=n+0) (hl y hy))
 exact⟨vs,rfl,hs⟩
theorem bkE223(v:List GAct):((esAct false) v).bulk=bk223 v:=bulk_list (eAct false) bk228 bkE228 v
def ok225(x:GCmd):Prop:=ok9 x.Name∧ok3 x.From∧ok3 x.To∧ok30 x.Guard∧ok223 x.Acts∧ok4 x.Fair
def bk225(x:GCmd):Nat:=bk9 x.Name+bk3 x.From+bk3 x.To+bk30 x.Guard+bk223 x.Acts+bk4 x.Fair
theorem dec225{n:Nat}{x:D}(h:Ty P (n+6) 225 x):∃v:GCmd,x=(eCmd false) v∧ok225 v:=by
 have hu:P.underlying 225=_:=Tryz.underlying225
 rw[Ty]at h
 simp only[hu]at h
 obtain⟨ys,rfl,hy⟩:=h
 simp only[All2]at hy
 obtain⟨a0,r0,rfl,g0,h0⟩:=hy
 obtain⟨v0,rfl,k0⟩:=dec9 (n:=n+4) g0
 obtain⟨a1,r1,rfl,g1,h1⟩:=h0
 obtain⟨v1,rfl,k1⟩:=dec3 (n:=n+4) g1
 obtain⟨a2,r2,rfl,g2,h2⟩:=h1
 obtain⟨v2,rfl,k2⟩:=dec3 (n:=n+4) g2
 obtain⟨a3,r3,rfl,g3,h3⟩:=h2
 obtain⟨v3,rfl,k3⟩:=dec30 (n:=n+2) g3
 obtain⟨a4,r4,rfl,g4,h4⟩:=h3
 obtain⟨v4,rfl,k4⟩:=dec223 (n:=n+0) g4
 obtain⟨a5,r5,rfl,g5,h5⟩:=h4
 obtain⟨v5,rfl,k5⟩:=dec4 (n:=n+4) g5
 subst h5
 exact⟨⟨v0,v1,v2,v3,v4,v5⟩,rfl,k0,k1,k2,k3,k4,k5⟩
theorem bkE225(v:GCmd):((eCmd false) v).bulk=bk225 v:=by
 have h:=fun(l:List D)=>D.bulk.eq_3 l
 simp only[eCmd,bk225,D.bulk,D.bulks,←bkE9,←bkE3,←bkE30,←bkE223,←bkE4] <;>omega
def ok98(l:List GCmd):Prop:=∀a∈l,ok225 a
def bk98(l:List GCmd):Nat:=(l.map bk225).sum+1
theorem dec98{n:Nat}{x:D}(h:Ty P (n+7) 98 x):∃v:List GCmd,x=(esCmd false) v∧ok98 v:=by
 have hu:P.underlying 98=some (.slice 225):=un98
 rw[Ty]at h
 simp only[hu]at h
 obtain⟨l,rfl,hl⟩:=h
 obtain⟨vs,rfl,hs⟩:=dec_list (eCmd false) l (fun y hy=>dec225 (n:=n+0) (hl y hy))
 exact⟨vs,rfl,hs⟩
theorem bkE98(v:List GCmd):((esCmd false) v).bulk=bk98 v:=bulk_list (eCmd false) bk225 bkE225 v
def ok100(x:GProc):Prop:=ok9 x.Name∧ok3 x.Over∧ok3 x.Locs∧ok23 x.Vars∧ok98 x.Cmds
def bk100(x:GProc):Nat:=bk9 x.Name+bk3 x.Over+bk3 x.Locs+bk23 x.Vars+bk98 x.Cmds
theorem dec100{n:Nat}{x:D}(h:Ty P (n+8) 100 x):∃v:GProc,x=(eProc false) v∧ok100 v:=by
 have hu:P.underlying 100=_:=Tryz.underlying100
 rw[Ty]at h
 simp only[hu]at h
 obtain⟨ys,rfl,hy⟩:=h
 simp only[All2]at hy
 obtain⟨a0,r0,rfl,g0,h0⟩:=hy
 obtain⟨v0,rfl,k0⟩:=dec9 (n:=n+6) g0
 obtain⟨a1,r1,rfl,g1,h1⟩:=h0
 obtain⟨v1,rfl,k1⟩:=dec3 (n:=n+6) g1
 obtain⟨a2,r2,rfl,g2,h2⟩:=h1
 obtain⟨v2,rfl,k2⟩:=dec3 (n:=n+6) g2
 obtain⟨a3,r3,rfl,g3,h3⟩:=h2
 obtain⟨v3,rfl,k3⟩:=dec23 (n:=n+4) g3
 obtain⟨a4,r4,rfl,g4,h4⟩:=h3
 obtain⟨v4,rfl,k4⟩:=dec98 (n:=n+0) g4
 subst h4
 exact⟨⟨v0,v1,v2,v3,v4⟩,rfl,k0,k1,k2,k3,k4⟩
theorem bkE100(v:GProc):((eProc false) v).bulk=bk100 v:=by
 have h:=fun(l:List D)=>D.bulk.eq_3 l
 simp only[eProc,bk100,D.bulk,D.bulks,←bkE9,←bkE3,←bkE23,←bkE98] <;>omega
def ok25(l:List GProc):Prop:=∀a∈l,ok100 a
def bk25(l:List GProc):Nat:=(l.map bk100).sum+1
theorem dec25{n:Nat}{x:D}(h:Ty P (n+9) 25 x):∃v:List GProc,x=(esProc false) v∧ok25 v:=by
 have hu:P.underlying 25=some (.slice 100):=un25
 rw[Ty]at h
 simp only[hu]at h
 obtain⟨l,rfl,hl⟩:=h
 obtain⟨vs,rfl,hs⟩:=dec_list (eProc false) l (fun y hy=>dec100 (n:=n+0) (hl y hy))
 exact⟨vs,rfl,hs⟩
theorem bkE25(v:List GProc):((esProc false) v).bulk=bk25 v:=bulk_list (eProc false) bk100 bkE100 v
def ok27(x:GScope):Prop:=ok22 x.Scalars∧ok23 x.Vars∧ok24 x.Chans∧ok25 x.Procs∧ok23 x.Locals∧ok3 x.Self
def bk27(x:GScope):Nat:=bk22 x.Scalars+bk23 x.Vars+bk24 x.Chans+bk25 x.Procs+bk23 x.Locals+bk3 x.Self
theorem dec27{n:Nat}{x:D}(h:Ty P (n+10) 27 x):∃v:GScope,x=(eScope false) v∧ok27 v:=by
 have hu:P.underlying 27=_:=Tryz.underlying27
 rw[Ty]at h
 simp only[hu]at h
 obtain⟨ys,rfl,hy⟩:=h
 simp only[All2]at hy
 obtain⟨a0,r0,rfl,g0,h0⟩:=hy
 obtain⟨v0,rfl,k0⟩:=dec22 (n:=n+6) g0
 obtain⟨a1,r1,rfl,g1,h1⟩:=h0
 obtain⟨v1,rfl,k1⟩:=dec23 (n:=n+6) g1
 obtain⟨a2,r2,rfl,g2,h2⟩:=h1
 obtain⟨v2,rfl,k2⟩:=dec24 (n:=n+6) g2
 obtain⟨a3,r3,rfl,g3,h3⟩:=h2
 obtain⟨v3,rfl,k3⟩:=dec25 (n:=n+0) g3
 obtain⟨a4,r4,rfl,g4,h4⟩:=h3
 obtain⟨v4,rfl,k4⟩:=dec23 (n:=n+6) g4
 obtain⟨a5,r5,rfl,g5,h5⟩:=h4
 obtain⟨v5,rfl,k5⟩:=dec3 (n:=n+8) g5
 subst h5
 exact⟨⟨v0,v1,v2,v3,v4,v5⟩,rfl,k0,k1,k2,k3,k4,k5⟩
theorem bkE27(v:GScope):((eScope false) v).bulk=bk27 v:=by
 have h:=fun(l:List D)=>D.bulk.eq_3 l
 simp only[eScope,bk27,D.bulk,D.bulks,←bkE22,←bkE23,←bkE24,←bkE25,←bkE3] <;>omega
end Go.Etx
namespace Go.Am
open Go Go.ChangeShapes
def textsW{H:Type}(ss:List (List UInt8)):DataW H:=.agg (ss.map fun s=>.lit (.string s))
theorem cells_of_texts{H:Type}{enc:TypeId×Value→H}{P:Program}{w:World}{base:Nat}{sp:Nat→Bool}{held:Bool}{fuel:Nat}{t e:TypeId}{n:Nat}{cs:List Value}{ss:List (List UInt8)}{p:List MemPlace}
  (ht:P.underlying t=some (.array n e)) (he:P.underlying e=some .string) (hce:P.cellsOf e=1) (hct:P.cellsOf t=n)
  (h:DataW.trod enc P w base sp held fuel t cs=some (textsW ss,p)):cs=ss.map fun s=>Value.string ⟨s.toArray⟩:=by
 obtain⟨xs,m,rfl,hx,hl,hxl,hel⟩:=DataW.trod_array ht h
 simp only[textsW,pJ,DataW.agg.injEq]at hx
 obtain⟨hxs,_⟩:=hx
 have hzl:ss.length=n:=by
  have:=congrArg List.length hxs
  simp at this
  omega
 apply List.ext_getElem?
 intro i
 by_cases hi:i<n
 ·have hb:=hel i hi
  rw[hce,Nat.mul_one,xG (by omega)]at hb
  obtain⟨s,hc,hxe,_⟩:=DataW.trod_string he hb
  have h1:cs[i]? =some (.string s):=by
   have:=congrArg (·[0]?) hc
   simpa [xU,List.getElem?_drop]using this
  have h2:(xs.map (·.1))[i]? =some (DataW.lit (.string s.data.toList):DataW H):=by
   rw[List.getElem?_map,xG (by omega)]
   simp[hxe]
  rw[←hxs]at h2
  simp only[List.getElem?_map,xM,DataW.lit.injEq,Lit.string.injEq]at h2
  obtain⟨s',hs',rfl⟩:=h2
  rw[h1,List.getElem?_map,hs']
  simp
 ·rw[List.getElem?_eq_none (by omega),List.getElem?_eq_none (by simp;omega)]
theorem vcs_texts(c:Cx):∀ss:List (List UInt8),VCs c (ss.map D.str) (ss.map fun s=>Value.string ⟨s.toArray⟩)
 | []=>by simp[VCs]
 |s::ss=>by
  simp only[List.map_cons,VCs]
  exact⟨_,_,rfl,by simp[VC],vcs_texts c ss⟩
theorem laid_of_plain{P:Program}{l:List (String×DataW Unit)}{W:World}(hp:(l.filter fun x=>x.2.handleName?.isSome)=[])(h:laidMetH P l W):laidMet P l W:=by
 unfold laidMetH at h
 rw[hp]at h
 exact h
theorem laid_tail{P:Program}{x:String×DataW Unit}{r:List (String×DataW Unit)}{W:World}(h:laidMet P (x::r) W):laidMet P r W:=by
 obtain⟨ps,⟨g,t,cs,fuel,p,q,_,_,_,_,hr,rfl⟩,hn,hc⟩:=h
 exact⟨q,hr,(List.nodup_append.1 hn).2.1,fun b off hm=>hc b off (xR _ hm)⟩
theorem laid_head{P:Program}{name:String}{d:DataW Unit}{r:List (String×DataW Unit)}{W:World}{g:Nat}{t:TypeId}(hg:P.globalNamed name=some g)(hty:(P.globals[g]?).map (·.type)=some t)(h:laidMet P ((name,d)::r) W):
  ∃(cs:Array Value) (fuel:Nat) (p:List MemPlace),W.var? P name=some cs∧GH W g cs.toList∧DataW.trod (fun _=>()) P W 0 (fun _=>true) false fuel t cs.toList=some (d,p):=by
 obtain⟨ps,⟨g',t',cs,fuel,p,q,hg',ht',hvar,hd,_,_⟩,_⟩:=h
 obtain rfl:=Option.some.inj (hg.symm.trans hg')
 obtain rfl:=Option.some.inj (hty.symm.trans ht')
 refine⟨cs,fuel,p,hvar,?_,hd⟩
 unfold World.var? at hvar
 simp only[hg,xS]at hvar
 split at hvar
 ·rename_i c ty fr hh
  simp only[xJ]at hvar
  subst hvar
  exact⟨ty,fr,by simpa using hh⟩
 ·cases hvar
theorem laid_texts{P:Program}{name:String}{g:Nat}{t e:TypeId}{n:Nat}{ss:List (List UInt8)}{W:World}(hg:P.globalNamed name=some g)(hty:(P.globals[g]?).map (·.type)=some t)(ht:P.underlying t=some (.array n e))(he:P.underlying e=some .string)(hce:P.cellsOf e=1)(hct:P.cellsOf t=n)
  {rest:List (String×DataW Unit)} (h:laidMet P ((name,textsW ss)::rest) W):∃vs,GH W g vs∧GV (.agg (ss.map D.str)) vs:=by
 obtain⟨cs,fuel,p,_,h1,h2⟩:=laid_head hg hty h
 have hcs:=cells_of_texts ht he hce hct h2
 exact⟨_,h1,fun _ c=>by rw[hcs];exact vcs_texts c ss,fun h=>by cases h⟩
theorem vcs_ints(c:Cx)(k:IntKind):∀zs:List Int,VCs c (zs.map (D.int k)) (zs.map fun z=>Value.int k z)
 | []=>by simp[VCs]
 |z::zs=>by
  simp only[List.map_cons,VCs]
  exact⟨_,_,rfl,by simp[VC],vcs_ints c k zs⟩
theorem laid_ints{P:Program}{name:String}{g:Nat}{t e:TypeId}{n:Nat}{k:IntKind}{zs:List Int}{W:World}(hg:P.globalNamed name=some g)(hty:(P.globals[g]?).map (·.type)=some t)(ht:P.underlying t=some (.array n e))(he:P.underlying e=some (.int k))(hce:P.cellsOf e=1)(hct:P.cellsOf t=n)
  {rest:List (String×DataW Unit)} (h:laidMet P ((name,Lib.tabData k zs)::rest) W):∃vs,GH W g vs∧GV (.agg (zs.map (D.int k))) vs:=by
 obtain⟨cs,fuel,p,_,h1,h2⟩:=laid_head hg hty h
 have hcs:=Lib.cells_of_tab ht he hce hct h2
 exact⟨_,h1,fun _ c=>by rw[hcs];exact vcs_ints c k zs,fun h=>by cases h⟩
theorem laid_iface{P:Program}{name nm:String}{g:Nat}{t:TypeId}{ms:Array (String×TypeId)}{d:DataW Unit}{W:World}(hg:P.globalNamed name=some g)(hty:(P.globals[g]?).map (·.type)=some t)(ht:P.underlying t=some (.interface ms))
  {rest:List (String×DataW Unit)} (h:laidMet P ((name,.iface nm d)::rest) W):∃vs,GH W g vs∧GV .nilf vs:=by
 obtain⟨cs,fuel,p,_,h1,h2⟩:=laid_head hg hty h
 obtain⟨_,u,v,hc,_,_⟩:=iface_of_trod ht h2
 exact⟨_,h1,⟨(fun q=>by cases q),fun _=>⟨u,v,hc⟩⟩⟩
end Go.Am
namespace Go.Etx
open Go Go.Am Go.Proofs Go.Tr7
set_option maxHeartbeats 4000000
set_option maxRecDepth 20000
theorem cbK_some{α:Type}(o:Option α):cbK o some=o:=by unfold cbK;cases o <;>rfl
theorem works_eq{ρ:Type}(κ:List T×List Ob→Option ρ):cbK (call 7 [] []) κ=κ ([.d (.bool true)],[]):=by
 have h:call 7 [] []=some ([.d (.bool true)],[]):=M9
 rw[h];rfl
def lightB(e:List GNode)(s:GScope):Bool:=decide (e.length≤60)&&decide (s.Scalars.length≤10)&&decide (s.Vars.length≤30)&&decide (s.Chans.length≤20)&&decide (s.Procs.length≤20)&&decide (s.Locals.length≤20)
theorem light_eq{ρ:Type}(e:List GNode)(s:GScope)(g:Int→Option ρ):f_law11_Light e s g=if lightB e s=true then g 1 else g 0:=by
 simp only[f_law11_Light,F_law11_Light,mkF]
 by_cases h0:(60:Int)<(e.length:Int)
 ·have hn:¬e.length≤60:=by omega
  have hb:lightB e s=false:=by simp[lightB,hn]
  simp[h0,hb]
 by_cases h1:(10:Int)<(s.Scalars.length:Int)
 ·have hn:¬s.Scalars.length≤10:=by omega
  have hb:lightB e s=false:=by simp[lightB,hn]
  simp[h0,h1,hb]
 by_cases h2:(30:Int)<(s.Vars.length:Int)
 ·have hn:¬s.Vars.length≤30:=by omega
  have hb:lightB e s=false:=by simp[lightB,hn]
  simp[h0,h1,h2,hb]
 by_cases h3:(20:Int)<(s.Chans.length:Int)
 ·have hn:¬s.Chans.length≤20:=by omega
  have hb:lightB e s=false:=by simp[lightB,hn]
  simp[h0,h1,h2,h3,hb]
 by_cases h4:(20:Int)<(s.Procs.length:Int)
 ·have hn:¬s.Procs.length≤20:=by omega
  have hb:lightB e s=false:=by simp[lightB,hn]
  simp[h0,h1,h2,h3,h4,hb]
 by_cases h5:(20:Int)<(s.Locals.length:Int)
 ·have hn:¬s.Locals.length≤20:=by omega
  have hb:lightB e s=false:=by simp[lightB,hn]
  simp[h0,h1,h2,h3,h4,h5,hb]
 have hb:lightB e s=true:=by
  simp only[lightB,xA,yD]
  omega
 simp[h0,h1,h2,h3,h4,h5,hb]
theorem few_of{e:List GNode}{s:GScope}(h:lightB e s=true):Few s:=by
 simp only[lightB,xA,yD]at h
 constructor <;>omega
def gl8:Nat→Option D:=fun g=>Am.look [(0,.agg (ownL.map D.str)),(1,.agg (sgL.map D.str)),(2,.nilf),(3,.nilf),(4,.agg (Lib.pow10Tab.map (D.int .u64)))] g
theorem vars8:Vars gl8:=⟨rfl,rfl,rfl⟩
theorem hints_gl:∀f g d,(hints f).gl g=some d→gl8 g=some d:=by
 intro f g d h
 have key:glob g=some d→gl8 g=some d:=by
  intro h
  simp only[glob,gl8,Am.look]at h ⊢
  split at h
  ·rename_i hg
   rw[if_pos hg]
   exact h
  ·rename_i hg
   rw[if_neg hg]
   split at h
   ·rename_i hg1
    rw[if_pos hg1]
    exact h
   ·cases h
 unfold hints at h
 split at h <;>first |exact key h |cases h
theorem hints_ext:∀f F,(hints f).ext=some F→ExtOK Tryz.prog gl8 f F:=by
 intro f F h
 unfold hints at h
 split at h <;>first |(cases h;done) |(cases h;exact given_num vars8) |(cases h;exact given_dec vars8)
theorem g_own:Tryz.prog.globalNamed "lariat/lex.own" =some 0:=by kernel_rfl
theorem t_own:(Tryz.prog.globals[0]?).map (·.type)=some 105:=by kernel_rfl
theorem g_sgn:Tryz.prog.globalNamed "lariat/lex.signs" =some 1:=by kernel_rfl
theorem t_sgn:(Tryz.prog.globals[1]?).map (·.type)=some 125:=by kernel_rfl
theorem g_syn:Tryz.prog.globalNamed "strconv.ErrSyntax" =some 2:=by kernel_rfl
theorem t_syn:(Tryz.prog.globals[2]?).map (·.type)=some 155:=by kernel_rfl
theorem g_rng:Tryz.prog.globalNamed "strconv.ErrRange" =some 3:=by kernel_rfl
theorem t_rng:(Tryz.prog.globals[3]?).map (·.type)=some 155:=by kernel_rfl
theorem g_pow:Tryz.prog.globalNamed "internal/strconv.uint64pow10" =some 4:=by kernel_rfl
theorem t_pow:(Tryz.prog.globals[4]?).map (·.type)=some 203:=by kernel_rfl
end Go.Etx
namespace Go.Etx
open Go Go.Am Go.Proofs Go.Tr7
set_option maxHeartbeats 4000000
set_option maxRecDepth 20000
theorem bare_eq'{ρ:Type}(e:List GNode)(h:e.length≤60)(g:List GNode→Option ρ):f_law11_bare e g=g (e.map bareN):=by
 simp only[f_law11_bare,F_law11_bare,mkF]
 rw[loop_runE e.length (fun i=>((i:Int),(e.take i).map bareN)) (by simp)]
 ·simp
 ·intro i k hi
  have hl:((e.take i).map bareN).length=i:=by simp;omega
  have hn:(e.take i).map bareN++[bareN e[i]]=(e.take (i+1)).map bareN:=by rw[List.take_succ_eq_append_getElem hi,List.map_append];rfl
  have hs:IntKind.i64.wrap ((i:Int)+1)=((i+1:Nat):Int):=wrapS (by omega)
  simp only[xV,xG hi,xS,hl,hs]
  rw[if_pos (by omega),if_pos (by omega)]
  rw[←hn]
  by_cases h4:e[i].Op≤4
  ·have:bareN e[i]=⟨e[i].Op,e[i].N⟩:=by unfold bareN;rw[if_pos (.inl h4)]
   rw[if_pos h4,if_pos (by omega),if_pos (by omega),this]
  rw[if_neg h4]
  by_cases h6:6≤e[i].Op
  ·rw[if_pos h6]
   by_cases h8:e[i].Op≤8
   ·have:bareN e[i]=⟨e[i].Op,e[i].N⟩:=by unfold bareN;rw[if_pos (.inr ⟨h6,h8⟩)]
    rw[if_pos h8,if_pos (by omega),if_pos (by omega),this]
   ·have:bareN e[i]=⟨e[i].Op,0⟩:=by unfold bareN;rw[if_neg (by omega)]
    rw[if_neg h8,if_pos (by omega),this]
  ·have:bareN e[i]=⟨e[i].Op,0⟩:=by unfold bareN;rw[if_neg (by omega)]
   rw[if_neg h6,if_pos (by omega),this]
 ·intro k
  simp
theorem equal_eq{ρ:Type}(a b:List GNode)(h:a.length<4611686018427387904)(g:Bool→Option ρ):f_eN a b g=g (decide (a=b)):=by
 simp only[f_eN,F_eN,mkF]
 by_cases hl:a.length=b.length
 ·rw[if_pos (by omega)]
  rw[show(0:Int)=((0:Nat):Int)from rfl,loop_all a.length (fun i=>(i:Int)) (fun i=>decide (a[i]? =b[i]?)) (g false)]
  ·by_cases hab:a=b
   ·subst hab;simp
   ·rw[if_neg,decide_eq_false hab]
    intro hq
    refine hab (List.ext_getElem? fun i=> ?_)
    by_cases hi:i<a.length
    ·simpa using hq i hi
    ·rw[List.getElem?_eq_none (by omega),List.getElem?_eq_none (by omega)]
  ·intro i k hi
   have hi':i<b.length:=by omega
   have hs:IntKind.i64.wrap ((i:Int)+1)=((i+1:Nat):Int):=wrapS (by omega)
   simp only[xV,xG hi,xG hi',xS,hs,xJ]
   rw[if_pos (by omega),if_pos (by omega),if_pos (by omega)]
   by_cases hq:a[i]=b[i]
   ·rw[if_neg (by rw[hq];simp),if_pos (by simpa using hq)]
   ·have:¬a[i].Op=b[i].Op∨¬a[i].N=b[i].N:=by
     cases ha:a[i]
     cases hb:b[i]
     rw[ha,hb]at hq
     simp only[GNode.mk.injEq]at hq
     simp only
     omega
    rw[if_pos this,if_neg (by simpa using hq)]
  ·intro k;simp
 ·have hab:a≠b:=fun h=>hl (by rw[h])
  rw[if_neg (by omega),decide_eq_false hab]
theorem inr_of{l:List GNode}(h:ok30 l):∀x∈l,Tr7.inR x.N=true:=fun x hx=>by
 have:=(h x hx).2
 simp only[ok3]at this
 simp only[inR,xA,yD]
 exact this
theorem law_EtextBack(e:List GNode)(s:GScope)(h:ok30 e)(_hs:ok27 s)(_hb:bk30 e+bk27 s≤1048576):call 5 [esNode false e,eScope false s] []=some ([.d (.bool true)],[]):=by
 rw[←cbK_some (call 5 _ _)]
 refine(ge5 _ _ _ rfl).trans ?_
 cases hl:lightB e s with
 |true=>
  have hf:=few_of hl
  have h7:=fun κ=>Text_eq (ρ:=List T×List Ob) false e s hf (inr_of h) κ
  by_cases fa:(textK e s).2=0
  ·obtain⟨b1,b2⟩:=back (inr_of h) fa
   have hp:=fun κ=>Parse_eq (ρ:=List T×List Ob) (textK e s).1 s hf (by omega) κ
   rw[b1]at hp
   have le:e.length≤60:=by simp only[lightB,xA,yD]at hl;omega
   have e1:=fun g=>bare_eq' (ρ:=List T×List Ob) e le g
   have e4:=fun g=>equal_eq (ρ:=List T×List Ob) (e.map bareN) (e.map bareN) (by simp;omega) g
   simp -implicitDefEqProofs (maxSteps:=1000000) [go_sem,light_eq,hl,h7,fa,hp,e1,e4,works_eq,-List.map_map,-List.map_append,-List.map_take,-List.map_drop,-List.map_set]
  ·simp -implicitDefEqProofs (maxSteps:=1000000) [go_sem,light_eq,hl,h7,fa,works_eq,-List.map_append,-List.map_take,-List.map_drop,-List.map_set]
 |false=>
  simp -implicitDefEqProofs (maxSteps:=1000000) [go_sem,light_eq,hl,works_eq,-List.map_append,-List.map_take,-List.map_drop,-List.map_set]
open Go.Proofs.YtngkjkmjoieecaaGreatDoor in
theorem held{W:World}(h:laidMet Tryz.prog Rows.etextBackUptoRow.laid W):GA gl8 (A0 W):=by
 have hp:=laid_tail (laid_tail h)
 have hr:=laid_tail hp
 have hs:=laid_tail hr
 have hg:=laid_tail hs
 have ho:=laid_tail hg
 have key:∀g d,(∃vs:List Value,GH W g vs∧GV d vs)→g<(A0 W).w0.heap.size∧¬(A0 W).O0 g∧(∀t,¬(A0 W).F t g)∧∃vs:List Value,GH (A0 W).w0 g vs∧GV d vs:=by
  rintro g d ⟨vs,h1,h2⟩
  refine⟨?_,id,fun _=>id,vs,h1,h2⟩
  obtain⟨t,fr,h3⟩:=h1
  exact(Array.getElem?_eq_some_iff.1 h3).1
 intro g d e
 refine key g d ?_
 simp only[gl8,Am.look]at e
 split at e
 ·rename_i hh
  simp only[xJ]at e
  subst e
  rw[←hh]
  exact laid_texts g_own t_own Tryz.underlying105 Tryz.underlying9 (by kernel_rfl) (by kernel_rfl) ho
 ·split at e
  ·rename_i hh
   simp only[xJ]at e
   subst e
   rw[←hh]
   exact laid_texts g_sgn t_sgn Tryz.underlying125 Tryz.underlying9 (by kernel_rfl) (by kernel_rfl) hg
  ·split at e
   ·rename_i hh
    simp only[xJ]at e
    subst e
    rw[←hh]
    exact laid_iface g_syn t_syn Tryz.underlying155 hs
   ·split at e
    ·rename_i hh
     simp only[xJ]at e
     subst e
     rw[←hh]
     exact laid_iface g_rng t_rng Tryz.underlying155 hr
    ·split at e
     ·rename_i hh
      simp only[xJ]at e
      subst e
      rw[←hh]
      exact laid_ints g_pow t_pow Tryz.underlying203 Tryz.underlying185 (by kernel_rfl) (by kernel_rfl) hp
     ·cases e
end Go.Etx
namespace Go.Proofs.YtngkjkmjoieecaaGreatDoor
open Go Go.Am Go.Etx Go.ChangeShapes Go.WideShapes Go.ChangeAt Go.RowKit
set_option maxRecDepth 20000
namespace EtextBackLaw
theorem own:ownKnob Tryz.prog.godebug=none:=by kernel_rfl
theorem follows:Tryz.prog.follows .mixedOrders=true:=by kernel_rfl
theorem laid:laidOutB Tryz.prog=true:=by kernel_rfl
theorem okT27:tyOk Tryz.prog 10 27=true:=by kernel_rfl
theorem rdT27:(Tryz.prog.readableRec 27&&decide (27<Tryz.prog.types.size))=true:=by kernel_rfl
theorem okT30:tyOk Tryz.prog 10 30=true:=by kernel_rfl
theorem rdT30:(Tryz.prog.readableRec 30&&decide (30<Tryz.prog.types.size))=true:=by kernel_rfl
theorem contract(H:Type)(enc:TypeId×Value→H)(W:World)(base:Nat)(args:Array Value)(ds gs:List (DataW H))(before:List MemPlace)
  (hval:∀(j:Nat) t v,Tryz.f5.params[j]? =some t→args[j]? =some v→Value.okWide Tryz.prog W .any base t v)
  (hW:DataW.Whole enc Tryz.prog Tryz.f5.params.toList Rows.etextBackSpec.vars false W args.toList ds gs before) (hk:Rows.uptoSmall H (ds++gs)=true) (hL:laidMetH Tryz.prog Rows.etextBackUptoRow.laid W):
  Calls Tryz.prog 5 args W fun e W'=>∃v,e=.returned v∧Rows.etextBackSpec.post enc Tryz.prog Tryz.f5 false true false false W args v W':=by
 have hW':=hW
 obtain⟨p,q,hA0,hV,rfl,hfz,hnd⟩:=hW
 have hA:DataW.TrodAll enc Tryz.prog W 0 (fun _=>true) true Tryz.f5.params.toList args.toList ds p:=hA0
 obtain⟨rfl,rfl⟩:=trodVars_none hV
 have hb:Rows.uptoBulkAll ds≤1048576:=of_decide_eq_true (by simpa [Rows.uptoSmall]using hk)
 have hp:Tryz.f5.params.toList=[30,27]:=by rw[Tryz.params5]
 obtain⟨xs,hv,ht,hbk⟩:=readAll_ok (P:=Tryz.prog) (n:=10) Tryz.f5.params.toList args.toList ds p (by rw[hp];simp[okT27,okT30]) (fun j t v h1 h2=>⟨base,hval j t v (by simpa using h1) (by simpa using h2)⟩) hA
 rw[hp]at ht
 obtain⟨a0,r0,rfl,h0,a1,r1,rfl,h1,rfl⟩:=ht
 obtain⟨x0,rfl,k0⟩:=dec30 (n:=7) h0
 obtain⟨x1,rfl,k1⟩:=dec27 (n:=0) h1
 have hbk2:=Nat.le_trans hbk hb
 simp only[D.bulks,bkE27,bkE30,Nat.add_zero]at hbk2
 obtain⟨n,hn⟩:=callX_iff.1 (law_EtextBack x0 x1 k0 k1 (by omega))
 refine(calls_true follows hints_gl hints_ext (show¬YB≤5 by unfold YB;omega) hn (held (laid_of_plain (by kernel_rfl) hL)) hv).mono fun e W' ⟨he,hbl⟩=> ?_
 subst he
 obtain⟨d0,d1,rfl⟩:∃d0 d1,ds=[d0,d1]:=by
  rw[hp]at hA
  obtain⟨v0,vs0,d0,ds0,p0,q0,_,rfl,rfl,_,g0⟩:=trodAll_cons hA
  obtain⟨v1,vs1,d1,ds1,p1,q1,_,rfl,rfl,_,g1⟩:=trodAll_cons g0
  obtain⟨_,rfl,_⟩:=trodAll_nil g1
  exact⟨d0,d1,rfl⟩
 exact⟨_,rfl,law_post hW' rfl rfl hbl laid (by
  rw[hp]
  intro t ht
  simp only[xY,List.not_mem_nil,or_false]at ht
  rcases ht with rfl |rfl
  ·simpa using rdT30
  ·simpa using rdT27) (by kernel_rfl) Tryz.underlying4⟩
noncomputable def low:Nat:=(World.holding Tryz.prog default ⟨#[], #[],[]⟩).heap.size
def cell1:DataW Unit→List Value
 | .lit (.int k n)=>[.int k n]
 | .lit (.string s)=>[.string ⟨s.toArray⟩]
 |_=>[]
def cell2:DataW Unit→List Value
 | .agg l=>l.flatMap cell1
 |x=>cell1 x
def cells:DataW Unit→Array Value
 | .agg l=>(l.flatMap cell2).toArray
 |_=> #[]
noncomputable def laidWorld(os:Os):World:=
 let w0:=World.holding Tryz.prog os ⟨#[.cells #[.string ⟨#[118,97,108,117,101,32,111,117,116,32,111,102,32,114,97,110,103,101]⟩] 202,.cells #[.string ⟨#[105,110,118,97,108,105,100,32,115,121,110,116,97,120]⟩] 202], #[],[]⟩
 let put (g:Nat) (vs:Array Value) (h:Array Obj):Array Obj:=h.modify g fun
  | .cells _ t frozen=>.cells vs t frozen
  |o=>o
 {w0 with heap:=put 0 (cells Rows.laid_lariat_lex_own) (put 1 (cells Rows.laid_lariat_lex_signs) (put 2 #[.iface 200 (.pointer (some ⟨low+1,0,none⟩))] (put 3 #[.iface 200 (.pointer (some ⟨low,0,none⟩))] (put 4 (cells Rows.laid_internal_strconv_uint64pow10) (put 5 (cells Rows.laid_math_bits_deBruijn32tab) (put 6 (cells Rows.laid_math_bits_deBruijn64tab) w0.heap))))))}
theorem laid_met(os:Os):laidMet Tryz.prog Rows.etextBackUptoRow.laid ((laidWorld os).forCall (fun _ _=>0) ⟨#[], #[.slice none 0 0,.agg #[.slice none 0 0,.slice none 0 0,.slice none 0 0,.slice none 0 0,.slice none 0 0,.int .i64 0]],[]⟩).memory:=
 laidMet_of_run3 8 (by kernel_rfl) (by kernel_rfl) (by kernel_rfl)
theorem reads(os:Os){H:Type}(enc:TypeId×Value→H):∃places,DataW.whole enc Tryz.prog ((laidWorld os).forCall (fun _ _=>0) ⟨#[], #[.slice none 0 0,.agg #[.slice none 0 0,.slice none 0 0,.slice none 0 0,.slice none 0 0,.slice none 0 0,.int .i64 0]],[]⟩).memory Tryz.f5.params.toList Rows.etextBackSpec.vars false (#[.slice none 0 0,.agg #[.slice none 0 0,.slice none 0 0,.slice none 0 0,.slice none 0 0,.slice none 0 0,.int .i64 0]]:Array Value).toList 10=some ([.nil,.agg [.nil,.nil,.nil,.nil,.nil,.lit (.int .i64 0)]],[],places):=
 ⟨[],by kernel_rfl⟩
set_option maxRecDepth 100000 in
theorem lifted(os:Os)(started:os.Started)(H:Type)(enc:TypeId×Value→H)(F:Stop.Interp):
  ReturnsInHanded {} Tryz.checked os 5 .any ((Rows.OpenSpec.upto Rows.etextBackSpec).preRow enc Tryz.prog Tryz.f5 Rows.etextBackUptoRow.domain false Rows.etextBackUptoRow.laid) (((Rows.OpenSpec.upto Rows.etextBackSpec).at F).post enc Tryz.prog Tryz.f5 false true false false):=by
 obtain⟨places,hx⟩:=reads os enc
 refine returnsInHanded_of_row (C:=Tryz.checked) (s:=Rows.OpenSpec.upto Rows.etextBackSpec) own started (by kernel_rfl) Tryz.func5
  (witness_row_at (enc:=enc) (C:=Tryz.checked) false (laidWorld os) #[.slice none 0 0,.agg #[.slice none 0 0,.slice none 0 0,.slice none 0 0,.slice none 0 0,.slice none 0 0,.int .i64 0]] rfl (by kernel_rfl) (by kernel_rfl) (by kernel_rfl)
   (OpenSpec.preRow_of_cond 10 hx (by kernel_rfl) (fun k hk=>by cases hk;kernel_rfl) (by kernel_rfl) (laid_met os))) ?_
 intro W base args ds gs before hval hW _ hcond _ hL _ _
 exact contract H enc W base args ds gs before hval hW (hcond _ rfl) hL
theorem saidUpto:Rows.EtextBackUptoSaid:=
 OpenClaim.holds_of_cond 5 Tryz.f5 rfl rfl rfl rfl rfl rfl rfl ⟨rfl,rfl,rfl,rfl,rfl⟩ rfl rfl rfl rfl rfl (by kernel_rfl) Tryz.func5 (by kernel_rfl)
  (of_decide_eq_true (by kernel_rfl)) (by unfold Func.isWrapper;first |(rw[if_pos (by decide +kernel)];kernel_rfl) |(rw[if_neg (by decide +kernel)];exact⟨rfl,rfl⟩))
  (fun os started H enc _ F=>by rw[OpenClaim.pre_eq_preRow];exact lifted os started H enc F)
theorem plain(f:FuncId)(fn:Func)(hf:Tryz.pinned.checked.prog.funcNamed "lariat/lariatlaw11.EtextBack" =some f)(hfn:Tryz.pinned.checked.prog.funcs[f]? =some fn):
  true=Tryz.pinned.checked.prog.looks []∧∀(j:Nat) t,fn.params[j]? =some t→Tryz.pinned.checked.prog.wantsStandIn t=false:=by
 obtain rfl:f=5:=Option.some.inj ((show Tryz.prog.funcNamed "lariat/lariatlaw11.EtextBack" =some 5 by kernel_rfl).symm.trans hf) |>.symm
 obtain rfl:fn=Tryz.f5:=(Option.some.inj (Tryz.func5.symm.trans hfn)).symm
 refine⟨by kernel_rfl,fun j t ht=> ?_⟩
 rw[Tryz.params5]at ht
 have hm:t∈[30,27]:=by simpa using Array.mem_of_getElem? ht
 have hall:([30,27].all fun u=> !Tryz.prog.wantsStandIn u)=true:=by kernel_rfl
 exact(show Tryz.prog.wantsStandIn t=false by simpa using List.all_eq_true.1 hall t hm)
end EtextBackLaw
theorem etextBack_uptoCard:Rows.EtextBackUptoCardSaid:=
 Claim7.holds_tied_plain_at .later [] _ _ _ _ EtextBackLaw.saidUpto (fun _ h=>by cases h) (by kernel_rfl) (fun _ h=>by cases h) etextBackUpto_row_tie rfl ⟨rfl,rfl⟩ (by kernel_rfl) rfl EtextBackLaw.plain (by kernel_rfl)
end Go.Proofs.YtngkjkmjoieecaaGreatDoor
