/- A part of the proof: texts of mine, merged by a program (wip/dev/merge.py). -/
import Derived.Test.YtngkjkmjoieecaaGreatDoorEr9
import GoSem.ClaimJoined
import Derived.Lib.LaidTab
import Derived.LaidLaws
import Derived.Test.YtngkjkmjoieecaaGreatDoorRows
set_option linter.unusedSimpArgs false
set_option linter.unusedVariables false
namespace Go.Am
open Go
theorem dec_list{α:Type}{Q:α→Prop}(f:α→D):∀(l:List D),(∀y∈l,∃a,y=f a∧Q a)→∃vs:List α,l=vs.map f∧∀a∈vs,Q a
 | [],_=>⟨[],rfl,by simp⟩
 |y::l,h=>by
  obtain⟨a,rfl,ha⟩:=h y (by simp)
  obtain⟨vs,rfl,hs⟩:=dec_list f l (fun z hz=>h z (by simp[hz]))
  exact⟨a::vs,rfl,by simpa using⟨ha,hs⟩⟩
theorem bulks_list{α:Type}(f:α→D)(g:α→Nat)(h:∀x,(f x).bulk=g x)(l:List α):D.bulks (l.map f)=(l.map g).sum:=by
 induction l with
 |nil=>simp[D.bulks]
 |cons a l ih=>simp[D.bulks,h,ih]
theorem bulk_list{α:Type}(f:α→D)(g:α→Nat)(h:∀x,(f x).bulk=g x)(l:List α):D.bulk (.sl false (l.map f))=(l.map g).sum+1:=by
 rw[D.bulk,bulks_list f g h]
end Go.Am
namespace Go.Etx
open Go Go.Am Go.Proofs
set_option maxRecDepth 20000
def ok3(m:Int):Prop:=-9223372036854775808≤m∧m≤9223372036854775807
def bk3(_:Int):Nat:=1
theorem dec3{n:Nat}{x:D}(h:Ty P (n+1) 3 x):∃v:Int,x=eI v∧ok3 v:=by
 have hu:P.underlying 3=some (.int .i64):=un3
 simp only[Ty,hu]at h
 obtain⟨m,rfl,h1,h2⟩:=h
 exact⟨m,rfl,h1,h2⟩
theorem bkE3(v:Int):(eI v).bulk=bk3 v:=rfl
def ok4(_:Bool):Prop:=True
def bk4(_:Bool):Nat:=1
theorem dec4{n:Nat}{x:D}(h:Ty P (n+1) 4 x):∃v:Bool,x=eB v∧ok4 v:=by
 have hu:P.underlying 4=some .bool:=un4
 simp only[Ty,hu]at h
 obtain⟨m,rfl⟩:=h
 exact⟨m,rfl,trivial⟩
theorem bkE4(v:Bool):(eB v).bulk=bk4 v:=rfl
def ok9(_:List UInt8):Prop:=True
def bk9(s:List UInt8):Nat:=s.length+1
theorem dec9{n:Nat}{x:D}(h:Ty P (n+1) 9 x):∃v:List UInt8,x=eS v∧ok9 v:=by
 have hu:P.underlying 9=some .string:=un9
 simp only[Ty,hu]at h
 obtain⟨m,rfl⟩:=h
 exact⟨m,rfl,trivial⟩
theorem bkE9(v:List UInt8):(eS v).bulk=bk9 v:=rfl
def ok41(x:GNode):Prop:=ok3 x.Op∧ok3 x.N
def bk41(x:GNode):Nat:=bk3 x.Op+bk3 x.N
theorem dec41{n:Nat}{x:D}(h:Ty P (n+2) 41 x):∃v:GNode,x=eNode v∧ok41 v:=by
 have hu:P.underlying 41=_:=Tryz.underlying41
 rw[Ty]at h
 simp only[hu]at h
 obtain⟨ys,rfl,hy⟩:=h
 simp only[All2]at hy
 obtain⟨a0,r0,rfl,g0,h0⟩:=hy
 obtain⟨v0,rfl,k0⟩:=dec3 (n:=n+0) g0
 obtain⟨a1,r1,rfl,g1,h1⟩:=h0
 obtain⟨v1,rfl,k1⟩:=dec3 (n:=n+0) g1
 subst h1
 exact⟨⟨v0,v1⟩,rfl,k0,k1⟩
theorem bkE41(v:GNode):(eNode v).bulk=bk41 v:=by
 have h:=fun(l:List D)=>D.bulk.eq_3 l
 simp only[eNode,bk41,D.bulk,D.bulks,←bkE3] <;>omega
def ok76(x:GVar):Prop:=ok9 x.Name∧ok3 x.Scalar∧ok3 x.Over∧ok3 x.Lo∧ok3 x.Hi∧ok3 x.Init
def bk76(x:GVar):Nat:=bk9 x.Name+bk3 x.Scalar+bk3 x.Over+bk3 x.Lo+bk3 x.Hi+bk3 x.Init
theorem dec76{n:Nat}{x:D}(h:Ty P (n+2) 76 x):∃v:GVar,x=eVar v∧ok76 v:=by
 have hu:P.underlying 76=_:=Tryz.underlying76
 rw[Ty]at h
 simp only[hu]at h
 obtain⟨ys,rfl,hy⟩:=h
 simp only[All2]at hy
 obtain⟨a0,r0,rfl,g0,h0⟩:=hy
 obtain⟨v0,rfl,k0⟩:=dec9 (n:=n+0) g0
 obtain⟨a1,r1,rfl,g1,h1⟩:=h0
 obtain⟨v1,rfl,k1⟩:=dec3 (n:=n+0) g1
 obtain⟨a2,r2,rfl,g2,h2⟩:=h1
 obtain⟨v2,rfl,k2⟩:=dec3 (n:=n+0) g2
 obtain⟨a3,r3,rfl,g3,h3⟩:=h2
 obtain⟨v3,rfl,k3⟩:=dec3 (n:=n+0) g3
 obtain⟨a4,r4,rfl,g4,h4⟩:=h3
 obtain⟨v4,rfl,k4⟩:=dec3 (n:=n+0) g4
 obtain⟨a5,r5,rfl,g5,h5⟩:=h4
 obtain⟨v5,rfl,k5⟩:=dec3 (n:=n+0) g5
 subst h5
 exact⟨⟨v0,v1,v2,v3,v4,v5⟩,rfl,k0,k1,k2,k3,k4,k5⟩
theorem bkE76(v:GVar):(eVar v).bulk=bk76 v:=by
 have h:=fun(l:List D)=>D.bulk.eq_3 l
 simp only[eVar,bk76,D.bulk,D.bulks,←bkE9,←bkE3] <;>omega
def ok96(x:GChan):Prop:=ok9 x.Name∧ok3 x.Scalar∧ok3 x.Cap∧ok3 x.Lo∧ok3 x.Hi∧ok4 x.Lossy
def bk96(x:GChan):Nat:=bk9 x.Name+bk3 x.Scalar+bk3 x.Cap+bk3 x.Lo+bk3 x.Hi+bk4 x.Lossy
theorem dec96{n:Nat}{x:D}(h:Ty P (n+2) 96 x):∃v:GChan,x=eChan v∧ok96 v:=by
 have hu:P.underlying 96=_:=Tryz.underlying96
 rw[Ty]at h
 simp only[hu]at h
 obtain⟨ys,rfl,hy⟩:=h
 simp only[All2]at hy
 obtain⟨a0,r0,rfl,g0,h0⟩:=hy
 obtain⟨v0,rfl,k0⟩:=dec9 (n:=n+0) g0
 obtain⟨a1,r1,rfl,g1,h1⟩:=h0
 obtain⟨v1,rfl,k1⟩:=dec3 (n:=n+0) g1
 obtain⟨a2,r2,rfl,g2,h2⟩:=h1
 obtain⟨v2,rfl,k2⟩:=dec3 (n:=n+0) g2
 obtain⟨a3,r3,rfl,g3,h3⟩:=h2
 obtain⟨v3,rfl,k3⟩:=dec3 (n:=n+0) g3
 obtain⟨a4,r4,rfl,g4,h4⟩:=h3
 obtain⟨v4,rfl,k4⟩:=dec3 (n:=n+0) g4
 obtain⟨a5,r5,rfl,g5,h5⟩:=h4
 obtain⟨v5,rfl,k5⟩:=dec4 (n:=n+0) g5
 subst h5
 exact⟨⟨v0,v1,v2,v3,v4,v5⟩,rfl,k0,k1,k2,k3,k4,k5⟩
theorem bkE96(v:GChan):(eChan v).bulk=bk96 v:=by
 have h:=fun(l:List D)=>D.bulk.eq_3 l
 simp only[eChan,bk96,D.bulk,D.bulks,←bkE9,←bkE3,←bkE4] <;>omega
def ok102(x:GScalar):Prop:=ok9 x.Name∧ok3 x.Size
def bk102(x:GScalar):Nat:=bk9 x.Name+bk3 x.Size
theorem dec102{n:Nat}{x:D}(h:Ty P (n+2) 102 x):∃v:GScalar,x=eScalar v∧ok102 v:=by
 have hu:P.underlying 102=_:=Tryz.underlying102
 rw[Ty]at h
 simp only[hu]at h
 obtain⟨ys,rfl,hy⟩:=h
 simp only[All2]at hy
 obtain⟨a0,r0,rfl,g0,h0⟩:=hy
 obtain⟨v0,rfl,k0⟩:=dec9 (n:=n+0) g0
 obtain⟨a1,r1,rfl,g1,h1⟩:=h0
 obtain⟨v1,rfl,k1⟩:=dec3 (n:=n+0) g1
 subst h1
 exact⟨⟨v0,v1⟩,rfl,k0,k1⟩
theorem bkE102(v:GScalar):(eScalar v).bulk=bk102 v:=by
 have h:=fun(l:List D)=>D.bulk.eq_3 l
 simp only[eScalar,bk102,D.bulk,D.bulks,←bkE9,←bkE3] <;>omega
def ok22(l:List GScalar):Prop:=∀a∈l,ok102 a
def bk22(l:List GScalar):Nat:=(l.map bk102).sum+1
theorem dec22{n:Nat}{x:D}(h:Ty P (n+3) 22 x):∃v:List GScalar,x=(esScalar false) v∧ok22 v:=by
 have hu:P.underlying 22=some (.slice 102):=un22
 rw[Ty]at h
 simp only[hu]at h
 obtain⟨l,rfl,hl⟩:=h
 obtain⟨vs,rfl,hs⟩:=dec_list eScalar l (fun y hy=>dec102 (n:=n+0) (hl y hy))
 exact⟨vs,rfl,hs⟩
theorem bkE22(v:List GScalar):((esScalar false) v).bulk=bk22 v:=bulk_list eScalar bk102 bkE102 v
def ok23(l:List GVar):Prop:=∀a∈l,ok76 a
def bk23(l:List GVar):Nat:=(l.map bk76).sum+1
theorem dec23{n:Nat}{x:D}(h:Ty P (n+3) 23 x):∃v:List GVar,x=(esVar false) v∧ok23 v:=by
 have hu:P.underlying 23=some (.slice 76):=un23
 rw[Ty]at h
 simp only[hu]at h
 obtain⟨l,rfl,hl⟩:=h
 obtain⟨vs,rfl,hs⟩:=dec_list eVar l (fun y hy=>dec76 (n:=n+0) (hl y hy))
 exact⟨vs,rfl,hs⟩
theorem bkE23(v:List GVar):((esVar false) v).bulk=bk23 v:=bulk_list eVar bk76 bkE76 v
def ok24(l:List GChan):Prop:=∀a∈l,ok96 a
def bk24(l:List GChan):Nat:=(l.map bk96).sum+1
theorem dec24{n:Nat}{x:D}(h:Ty P (n+3) 24 x):∃v:List GChan,x=(esChan false) v∧ok24 v:=by
 have hu:P.underlying 24=some (.slice 96):=un24
 rw[Ty]at h
 simp only[hu]at h
 obtain⟨l,rfl,hl⟩:=h
 obtain⟨vs,rfl,hs⟩:=dec_list eChan l (fun y hy=>dec96 (n:=n+0) (hl y hy))
 exact⟨vs,rfl,hs⟩
theorem bkE24(v:List GChan):((esChan false) v).bulk=bk24 v:=bulk_list eChan bk96 bkE96 v
def ok30(l:List GNode):Prop:=∀a∈l,ok41 a
def bk30(l:List GNode):Nat:=(l.map bk41).sum+1
theorem dec30{n:Nat}{x:D}(h:Ty P (n+3) 30 x):∃v:List GNode,x=(esNode false) v∧ok30 v:=by
 have hu:P.underlying 30=some (.slice 41):=un30
 rw[Ty]at h
 simp only[hu]at h
 obtain⟨l,rfl,hl⟩:=h
 obtain⟨vs,rfl,hs⟩:=dec_list eNode l (fun y hy=>dec41 (n:=n+0) (hl y hy))
 exact⟨vs,rfl,hs⟩
theorem bkE30(v:List GNode):((esNode false) v).bulk=bk30 v:=bulk_list eNode bk41 bkE41 v
def ok228(x:GAct):Prop:=ok3 x.Kind∧ok3 x.To∧ok3 x.Local∧ok30 x.Index∧ok30 x.Value
def bk228(x:GAct):Nat:=bk3 x.Kind+bk3 x.To+bk3 x.Local+bk30 x.Index+bk30 x.Value
theorem dec228{n:Nat}{x:D}(h:Ty P (n+4) 228 x):∃v:GAct,x=(eAct false) v∧ok228 v:=by
 have hu:P.underlying 228=_:=Tryz.underlying228
 rw[Ty]at h
 simp only[hu]at h
 obtain⟨ys,rfl,hy⟩:=h
 simp only[All2]at hy
 obtain⟨a0,r0,rfl,g0,h0⟩:=hy
 obtain⟨v0,rfl,k0⟩:=dec3 (n:=n+2) g0
 obtain⟨a1,r1,rfl,g1,h1⟩:=h0
 obtain⟨v1,rfl,k1⟩:=dec3 (n:=n+2) g1
 obtain⟨a2,r2,rfl,g2,h2⟩:=h1
 obtain⟨v2,rfl,k2⟩:=dec3 (n:=n+2) g2
 obtain⟨a3,r3,rfl,g3,h3⟩:=h2
 obtain⟨v3,rfl,k3⟩:=dec30 (n:=n+0) g3
 obtain⟨a4,r4,rfl,g4,h4⟩:=h3
 obtain⟨v4,rfl,k4⟩:=dec30 (n:=n+0) g4
 subst h4
 exact⟨⟨v0,v1,v2,v3,v4⟩,rfl,k0,k1,k2,k3,k4⟩
theorem bkE228(v:GAct):((eAct false) v).bulk=bk228 v:=by
 have h:=fun(l:List D)=>D.bulk.eq_3 l
 simp only[eAct,bk228,D.bulk,D.bulks,←bkE3,←bkE30] <;>omega
def ok223(l:List GAct):Prop:=∀a∈l,ok228 a
def bk223(l:List GAct):Nat:=(l.map bk228).sum+1
theorem dec223{n:Nat}{x:D}(h:Ty P (n+5) 223 x):∃v:List GAct,x=(esAct false) v∧ok223 v:=by
 have hu:P.underlying 223=some (.slice 228):=un223
 rw[Ty]at h
 simp only[hu]at h
 obtain⟨l,rfl,hl⟩:=h
 obtain⟨vs,rfl,hs⟩:=dec_list (eAct false) l (fun y hy=>dec228 (n:=n+0) (hl y hy))
 exact⟨vs,rfl,hs⟩
theorem bkE223(v:List GAct):((esAct false) v).bulk=bk223 v:=bulk_list (eAct false) bk228 bkE228 v
def ok225(x:GCmd):Prop:=ok9 x.Name∧ok3 x.From∧ok3 x.To∧ok30 x.Guard∧ok223 x.Acts∧ok4 x.Fair
def bk225(x:GCmd):Nat:=bk9 x.Name+bk3 x.From+bk3 x.To+bk30 x.Guard+bk223 x.Acts+bk4 x.Fair
theorem dec225{n:Nat}{x:D}(h:Ty P (n+6) 225 x):∃v:GCmd,x=(eCmd false) v∧ok225 v:=by
 have hu:P.underlying 225=_:=Tryz.underlying225
 rw[Ty]at h
 simp only[hu]at h
 obtain⟨ys,rfl,hy⟩:=h
 simp only[All2]at hy
 obtain⟨a0,r0,rfl,g0,h0⟩:=hy
 obtain⟨v0,rfl,k0⟩:=dec9 (n:=n+4) g0
 obtain⟨a1,r1,rfl,g1,h1⟩:=h0
 obtain⟨v1,rfl,k1⟩:=dec3 (n:=n+4) g1
 obtain⟨a2,r2,rfl,g2,h2⟩:=h1
 obtain⟨v2,rfl,k2⟩:=dec3 (n:=n+4) g2
 obtain⟨a3,r3,rfl,g3,h3⟩:=h2
 obtain⟨v3,rfl,k3⟩:=dec30 (n:=n+2) g3
 obtain⟨a4,r4,rfl,g4,h4⟩:=h3
 obtain⟨v4,rfl,k4⟩:=dec223 (n:=n+0) g4
 obtain⟨a5,r5,rfl,g5,h5⟩:=h4
 obtain⟨v5,rfl,k5⟩:=dec4 (n:=n+4) g5
 subst h5
 exact⟨⟨v0,v1,v2,v3,v4,v5⟩,rfl,k0,k1,k2,k3,k4,k5⟩
theorem bkE225(v:GCmd):((eCmd false) v).bulk=bk225 v:=by
 have h:=fun(l:List D)=>D.bulk.eq_3 l
 simp only[eCmd,bk225,D.bulk,D.bulks,←bkE9,←bkE3,←bkE30,←bkE223,←bkE4] <;>omega
def ok98(l:List GCmd):Prop:=∀a∈l,ok225 a
def bk98(l:List GCmd):Nat:=(l.map bk225).sum+1
theorem dec98{n:Nat}{x:D}(h:Ty P (n+7) 98 x):∃v:List GCmd,x=(esCmd false) v∧ok98 v:=by
 have hu:P.underlying 98=some (.slice 225):=un98
 rw[Ty]at h
 simp only[hu]at h
 obtain⟨l,rfl,hl⟩:=h
 obtain⟨vs,rfl,hs⟩:=dec_list (eCmd false) l (fun y hy=>dec225 (n:=n+0) (hl y hy))
 exact⟨vs,rfl,hs⟩
theorem bkE98(v:List GCmd):((esCmd false) v).bulk=bk98 v:=bulk_list (eCmd false) bk225 bkE225 v
def ok100(x:GProc):Prop:=ok9 x.Name∧ok3 x.Over∧ok3 x.Locs∧ok23 x.Vars∧ok98 x.Cmds
def bk100(x:GProc):Nat:=bk9 x.Name+bk3 x.Over+bk3 x.Locs+bk23 x.Vars+bk98 x.Cmds
theorem dec100{n:Nat}{x:D}(h:Ty P (n+8) 100 x):∃v:GProc,x=(eProc false) v∧ok100 v:=by
 have hu:P.underlying 100=_:=Tryz.underlying100
 rw[Ty]at h
 simp only[hu]at h
 obtain⟨ys,rfl,hy⟩:=h
 simp only[All2]at hy
 obtain⟨a0,r0,rfl,g0,h0⟩:=hy
 obtain⟨v0,rfl,k0⟩:=dec9 (n:=n+6) g0
 obtain⟨a1,r1,rfl,g1,h1⟩:=h0
 obtain⟨v1,rfl,k1⟩:=dec3 (n:=n+6) g1
 obtain⟨a2,r2,rfl,g2,h2⟩:=h1
 obtain⟨v2,rfl,k2⟩:=dec3 (n:=n+6) g2
 obtain⟨a3,r3,rfl,g3,h3⟩:=h2
 obtain⟨v3,rfl,k3⟩:=dec23 (n:=n+4) g3
 obtain⟨a4,r4,rfl,g4,h4⟩:=h3
 obtain⟨v4,rfl,k4⟩:=dec98 (n:=n+0) g4
 subst h4
 exact⟨⟨v0,v1,v2,v3,v4⟩,rfl,k0,k1,k2,k3,k4⟩
theorem bkE100(v:GProc):((eProc false) v).bulk=bk100 v:=by
 have h:=fun(l:List D)=>D.bulk.eq_3 l
 simp only[eProc,bk100,D.bulk,D.bulks,←bkE9,←bkE3,←bkE23,←bkE98] <;>omega
def ok25(l:List GProc):Prop:=∀a∈l,ok100 a
def bk25(l:List GProc):Nat:=(l.map bk100).sum+1
theorem dec25{n:Nat}{x:D}(h:Ty P (n+9) 25 x):∃v:List GProc,x=(esProc false) v∧ok25 v:=by
 have hu:P.underlying 25=some (.slice 100):=un25
 rw[Ty]at h
 simp only[hu]at h
 obtain⟨l,rfl,hl⟩:=h
 obtain⟨vs,rfl,hs⟩:=dec_list (eProc false) l (fun y hy=>dec100 (n:=n+0) (hl y hy))
 exact⟨vs,rfl,hs⟩
theorem bkE25(v:List GProc):((esProc false) v).bulk=bk25 v:=bulk_list (eProc false) bk100 bkE100 v
def ok27(x:GScope):Prop:=ok22 x.Scalars∧ok23 x.Vars∧ok24 x.Chans∧ok25 x.Procs∧ok23 x.Locals∧ok3 x.Self
def bk27(x:GScope):Nat:=bk22 x.Scalars+bk23 x.Vars+bk24 x.Chans+bk25 x.Procs+bk23 x.Locals+bk3 x.Self
theorem dec27{n:Nat}{x:D}(h:Ty P (n+10) 27 x):∃v:GScope,x=(eScope false) v∧ok27 v:=by
 have hu:P.underlying 27=_:=Tryz.underlying27
 rw[Ty]at h
 simp only[hu]at h
 obtain⟨ys,rfl,hy⟩:=h
 simp only[All2]at hy
 obtain⟨a0,r0,rfl,g0,h0⟩:=hy
 obtain⟨v0,rfl,k0⟩:=dec22 (n:=n+6) g0
 obtain⟨a1,r1,rfl,g1,h1⟩:=h0
 obtain⟨v1,rfl,k1⟩:=dec23 (n:=n+6) g1
 obtain⟨a2,r2,rfl,g2,h2⟩:=h1
 obtain⟨v2,rfl,k2⟩:=dec24 (n:=n+6) g2
 obtain⟨a3,r3,rfl,g3,h3⟩:=h2
 obtain⟨v3,rfl,k3⟩:=dec25 (n:=n+0) g3
 obtain⟨a4,r4,rfl,g4,h4⟩:=h3
 obtain⟨v4,rfl,k4⟩:=dec23 (n:=n+6) g4
 obtain⟨a5,r5,rfl,g5,h5⟩:=h4
 obtain⟨v5,rfl,k5⟩:=dec3 (n:=n+8) g5
 subst h5
 exact⟨⟨v0,v1,v2,v3,v4,v5⟩,rfl,k0,k1,k2,k3,k4,k5⟩
theorem bkE27(v:GScope):((eScope false) v).bulk=bk27 v:=by
 have h:=fun(l:List D)=>D.bulk.eq_3 l
 simp only[eScope,bk27,D.bulk,D.bulks,←bkE22,←bkE23,←bkE24,←bkE25,←bkE3] <;>omega
end Go.Etx
namespace Go.Am
open Go Go.ChangeShapes
def textsW{H:Type}(ss:List (List UInt8)):DataW H:=.agg (ss.map fun s=>.lit (.string s))
theorem cells_of_texts{H:Type}{enc:TypeId×Value→H}{P:Program}{w:World}{base:Nat}{sp:Nat→Bool}{held:Bool}{fuel:Nat}{t e:TypeId}{n:Nat}{cs:List Value}{ss:List (List UInt8)}{p:List MemPlace}
  (ht:P.underlying t=some (.array n e)) (he:P.underlying e=some .string) (hce:P.cellsOf e=1) (hct:P.cellsOf t=n)
  (h:DataW.trod enc P w base sp held fuel t cs=some (textsW ss,p)):cs=ss.map fun s=>Value.string ⟨s.toArray⟩:=by
 obtain⟨xs,m,rfl,hx,hl,hxl,hel⟩:=DataW.trod_array ht h
 simp only[textsW,pJ,DataW.agg.injEq]at hx
 obtain⟨hxs,_⟩:=hx
 have hzl:ss.length=n:=by
  have:=congrArg List.length hxs
  simp at this
  omega
 apply List.ext_getElem?
 intro i
 by_cases hi:i<n
 ·have hb:=hel i hi
  rw[hce,Nat.mul_one,xG (by omega)]at hb
  obtain⟨s,hc,hxe,_⟩:=DataW.trod_string he hb
  have h1:cs[i]? =some (.string s):=by
   have:=congrArg (·[0]?) hc
   simpa [xU,List.getElem?_drop]using this
  have h2:(xs.map (·.1))[i]? =some (DataW.lit (.string s.data.toList):DataW H):=by
   rw[List.getElem?_map,xG (by omega)]
   simp[hxe]
  rw[←hxs]at h2
  simp only[List.getElem?_map,xM,DataW.lit.injEq,Lit.string.injEq]at h2
  obtain⟨s',hs',rfl⟩:=h2
  rw[h1,List.getElem?_map,hs']
  simp
 ·rw[List.getElem?_eq_none (by omega),List.getElem?_eq_none (by simp;omega)]
theorem vcs_texts(c:Cx):∀ss:List (List UInt8),VCs c (ss.map D.str) (ss.map fun s=>Value.string ⟨s.toArray⟩)
 | []=>by simp[VCs]
 |s::ss=>by
  simp only[List.map_cons,VCs]
  exact⟨_,_,rfl,by simp[VC],vcs_texts c ss⟩
theorem laid_of_plain{P:Program}{l:List (String×DataW Unit)}{W:World}(hp:(l.filter fun x=>x.2.handleName?.isSome)=[])(h:laidMetH P l W):laidMet P l W:=by
 unfold laidMetH at h
 rw[hp]at h
 exact h
theorem laid_tail{P:Program}{x:String×DataW Unit}{r:List (String×DataW Unit)}{W:World}(h:laidMet P (x::r) W):laidMet P r W:=by
 obtain⟨ps,⟨g,t,cs,fuel,p,q,_,_,_,_,hr,rfl⟩,hn,hc⟩:=h
 exact⟨q,hr,(List.nodup_append.1 hn).2.1,fun b off hm=>hc b off (xR _ hm)⟩
theorem laid_head{P:Program}{name:String}{d:DataW Unit}{r:List (String×DataW Unit)}{W:World}{g:Nat}{t:TypeId}(hg:P.globalNamed name=some g)(hty:(P.globals[g]?).map (·.type)=some t)(h:laidMet P ((name,d)::r) W):
  ∃(cs:Array Value) (fuel:Nat) (p:List MemPlace),W.var? P name=some cs∧GH W g cs.toList∧DataW.trod (fun _=>()) P W 0 (fun _=>true) false fuel t cs.toList=some (d,p):=by
 obtain⟨ps,⟨g',t',cs,fuel,p,q,hg',ht',hvar,hd,_,_⟩,_⟩:=h
 obtain rfl:=Option.some.inj (hg.symm.trans hg')
 obtain rfl:=Option.some.inj (hty.symm.trans ht')
 refine⟨cs,fuel,p,hvar,?_,hd⟩
 unfold World.var? at hvar
 simp only[hg,xS]at hvar
 split at hvar
 ·rename_i c ty fr hh
  simp only[xJ]at hvar
  subst hvar
  exact⟨ty,fr,by simpa using hh⟩
 ·cases hvar
theorem laid_texts{P:Program}{name:String}{g:Nat}{t e:TypeId}{n:Nat}{ss:List (List UInt8)}{W:World}(hg:P.globalNamed name=some g)(hty:(P.globals[g]?).map (·.type)=some t)(ht:P.underlying t=some (.array n e))(he:P.underlying e=some .string)(hce:P.cellsOf e=1)(hct:P.cellsOf t=n)
  {rest:List (String×DataW Unit)} (h:laidMet P ((name,textsW ss)::rest) W):∃vs,GH W g vs∧GV (.agg (ss.map D.str)) vs:=by
 obtain⟨cs,fuel,p,_,h1,h2⟩:=laid_head hg hty h
 have hcs:=cells_of_texts ht he hce hct h2
 exact⟨_,h1,fun _ c=>by rw[hcs];exact vcs_texts c ss,fun h=>by cases h⟩
theorem vcs_ints(c:Cx)(k:IntKind):∀zs:List Int,VCs c (zs.map (D.int k)) (zs.map fun z=>Value.int k z)
 | []=>by simp[VCs]
 |z::zs=>by
  simp only[List.map_cons,VCs]
  exact⟨_,_,rfl,by simp[VC],vcs_ints c k zs⟩
theorem laid_ints{P:Program}{name:String}{g:Nat}{t e:TypeId}{n:Nat}{k:IntKind}{zs:List Int}{W:World}(hg:P.globalNamed name=some g)(hty:(P.globals[g]?).map (·.type)=some t)(ht:P.underlying t=some (.array n e))(he:P.underlying e=some (.int k))(hce:P.cellsOf e=1)(hct:P.cellsOf t=n)
  {rest:List (String×DataW Unit)} (h:laidMet P ((name,Lib.tabData k zs)::rest) W):∃vs,GH W g vs∧GV (.agg (zs.map (D.int k))) vs:=by
 obtain⟨cs,fuel,p,_,h1,h2⟩:=laid_head hg hty h
 have hcs:=Lib.cells_of_tab ht he hce hct h2
 exact⟨_,h1,fun _ c=>by rw[hcs];exact vcs_ints c k zs,fun h=>by cases h⟩
theorem laid_iface{P:Program}{name nm:String}{g:Nat}{t:TypeId}{ms:Array (String×TypeId)}{d:DataW Unit}{W:World}(hg:P.globalNamed name=some g)(hty:(P.globals[g]?).map (·.type)=some t)(ht:P.underlying t=some (.interface ms))
  {rest:List (String×DataW Unit)} (h:laidMet P ((name,.iface nm d)::rest) W):∃vs,GH W g vs∧GV .nilf vs:=by
 obtain⟨cs,fuel,p,_,h1,h2⟩:=laid_head hg hty h
 obtain⟨_,u,v,hc,_,_⟩:=iface_of_trod ht h2
 exact⟨_,h1,⟨(fun q=>by cases q),fun _=>⟨u,v,hc⟩⟩⟩
end Go.Am
namespace Go.Etx
open Go Go.Am Go.Proofs Go.Tr7
set_option maxHeartbeats 4000000
set_option maxRecDepth 20000
theorem cbK_some{α:Type}(o:Option α):cbK o some=o:=by unfold cbK;cases o <;>rfl
theorem works_eq{ρ:Type}(κ:List T×List Ob→Option ρ):cbK (call 7 [] []) κ=κ ([.d (.bool true)],[]):=by
 have h:call 7 [] []=some ([.d (.bool true)],[]):=M9
 rw[h];rfl
def lightB(e:List GNode)(s:GScope):Bool:=decide (e.length≤60)&&decide (s.Scalars.length≤10)&&decide (s.Vars.length≤30)&&decide (s.Chans.length≤20)&&decide (s.Procs.length≤20)&&decide (s.Locals.length≤20)
theorem light_eq{ρ:Type}(e:List GNode)(s:GScope)(g:Int→Option ρ):f_law11_Light e s g=if lightB e s=true then g 1 else g 0:=by
 simp only[f_law11_Light,F_law11_Light,mkF]
 by_cases h0:(60:Int)<(e.length:Int)
 ·have hn:¬e.length≤60:=by omega
  have hb:lightB e s=false:=by simp[lightB,hn]
  simp[h0,hb]
 by_cases h1:(10:Int)<(s.Scalars.length:Int)
 ·have hn:¬s.Scalars.length≤10:=by omega
  have hb:lightB e s=false:=by simp[lightB,hn]
  simp[h0,h1,hb]
 by_cases h2:(30:Int)<(s.Vars.length:Int)
 ·have hn:¬s.Vars.length≤30:=by omega
  have hb:lightB e s=false:=by simp[lightB,hn]
  simp[h0,h1,h2,hb]
 by_cases h3:(20:Int)<(s.Chans.length:Int)
 ·have hn:¬s.Chans.length≤20:=by omega
  have hb:lightB e s=false:=by simp[lightB,hn]
  simp[h0,h1,h2,h3,hb]
 by_cases h4:(20:Int)<(s.Procs.length:Int)
 ·have hn:¬s.Procs.length≤20:=by omega
  have hb:lightB e s=false:=by simp[lightB,hn]
  simp[h0,h1,h2,h3,h4,hb]
 by_cases h5:(20:Int)<(s.Locals.length:Int)
 ·have hn:¬s.Locals.length≤20:=by omega
  have hb:lightB e s=false:=by simp[lightB,hn]
  simp[h0,h1,h2,h3,h4,h5,hb]
 have hb:lightB e s=true:=by
  simp only[lightB,xA,yD]
  omega
 simp[h0,h1,h2,h3,h4,h5,hb]
theorem few_of{e:List GNode}{s:GScope}(h:lightB e s=true):Few s:=by
 simp only[lightB,xA,yD]at h
 constructor <;>omega
def gl8:Nat→Option D:=fun g=>Am.look [(0,.agg (ownL.map D.str)),(1,.agg (sgL.map D.str)),(2,.nilf),(3,.nilf),(4,.agg (Lib.pow10Tab.map (D.int .u64)))] g
theorem vars8:Vars gl8:=⟨rfl,rfl,rfl⟩
theorem hints_gl:∀f g d,(hints f).gl g=some d→gl8 g=some d:=by
 intro f g d h
 have key:glob g=some d→gl8 g=some d:=by
  intro h
  simp only[glob,gl8,Am.look]at h ⊢
  split at h
  ·rename_i hg
   rw[if_pos hg]
   exact h
  ·rename_i hg
   rw[if_neg hg]
   split at h
   ·rename_i hg1
    rw[if_pos hg1]
    exact h
   ·cases h
 unfold hints at h
 split at h <;>first |exact key h |cases h
theorem hints_ext:∀f F,(hints f).ext=some F→ExtOK Tryz.prog gl8 f F:=by
 intro f F h
 unfold hints at h
 split at h <;>first |(cases h;done) |(cases h;exact given_num vars8) |(cases h;exact given_dec vars8)
theorem g_own:Tryz.prog.globalNamed "lariat/lex.own" =some 0:=by kernel_rfl
theorem t_own:(Tryz.prog.globals[0]?).map (·.type)=some 105:=by kernel_rfl
theorem g_sgn:Tryz.prog.globalNamed "lariat/lex.signs" =some 1:=by kernel_rfl
theorem t_sgn:(Tryz.prog.globals[1]?).map (·.type)=some 125:=by kernel_rfl
theorem g_syn:Tryz.prog.globalNamed "strconv.ErrSyntax" =some 2:=by kernel_rfl
theorem t_syn:(Tryz.prog.globals[2]?).map (·.type)=some 155:=by kernel_rfl
theorem g_rng:Tryz.prog.globalNamed "strconv.ErrRange" =some 3:=by kernel_rfl
theorem t_rng:(Tryz.prog.globals[3]?).map (·.type)=some 155:=by kernel_rfl
theorem g_pow:Tryz.prog.globalNamed "internal/strconv.uint64pow10" =some 4:=by kernel_rfl
theorem t_pow:(Tryz.prog.globals[4]?).map (·.type)=some 203:=by kernel_rfl
end Go.Etx
namespace Go.Etx
open Go Go.Am Go.Proofs
set_option maxHeartbeats 4000000
set_option maxRecDepth 20000
noncomputable section
def FK1(x0 x1:Int)(p2:List GScalar)(p3:List GVar)(p4:List GChan)(p5:List GProc)(p6:List GVar)(p7:Int)(st:List Int){ρ:Type}:
  {Φ:(Int→Int→Option ρ)→Option ρ // ∀(β:Bool) (κ:List T×List Ob→Option ρ) (g:Int→Int→Option ρ),(∀y0 y1,κ ([.d (.int IntKind.i64 y0),.d (.int IntKind.i64 y1)],[Ob.box (.d (.agg [.sl β (List.map eScalar p2),.sl β (List.map eVar p3),.sl β (List.map eChan p4),.sl β (List.map (eProc β) p5),.sl β (List.map eVar p6),.int IntKind.i64 p7])),.box (.agg [.own (tl eI st),.d (.map (3))]),.box (.d (.ptr (1))),.map (opsL),.box (.d (.fn (Fn.func 120) [] [])),.box (.d (.fn (Fn.func 121) [] [])),.box (.d (.fn (Fn.func 122) [] [])),.box (.d (.fn (Fn.func 123) [] [])),.box (.d (.fn (Fn.func 124) [] [])),.box (.d (.fn (Fn.func 125) [] []))])=g y0 y1)→
   cbK (call 37 [.agg [.int .i64 x0,.int .i64 x1],.ptr 2,.ptr 0] ([Ob.box (.d (.agg [.sl β (List.map eScalar p2),.sl β (List.map eVar p3),.sl β (List.map eChan p4),.sl β (List.map (eProc β) p5),.sl β (List.map eVar p6),.int IntKind.i64 p7])),.box (.agg [.own (tl eI st),.d (.map (3))]),.box (.d (.ptr (1))),.map (opsL),.box (.d (.fn (Fn.func 120) [] [])),.box (.d (.fn (Fn.func 121) [] [])),.box (.d (.fn (Fn.func 122) [] [])),.box (.d (.fn (Fn.func 123) [] [])),.box (.d (.fn (Fn.func 124) [] [])),.box (.d (.fn (Fn.func 125) [] []))])) κ=Φ g}:=by
 refine⟨?Φ,?h⟩
 case h=>
  intro β κ g hg
  refine(ge37 _ _ _ rfl).trans ?_
  try simp only[go_sem]at hg
  refine viaR fun r hr=> ?_
  cases β
  all_goals (simp -implicitDefEqProofs (maxSteps:=1000000) [go_sem,hg,ge38,ge76,-List.map_append,-List.map_take,-List.map_drop,-List.map_set];exact hr)
def fK1(x0 x1:Int)(p2:List GScalar)(p3:List GVar)(p4:List GChan)(p5:List GProc)(p6:List GVar)(p7:Int)(st:List Int){ρ:Type}(g:Int→Int→Option ρ):Option ρ:=(FK1 x0 x1 p2 p3 p4 p5 p6 p7 st).1 g
@[go_sem] theorem WK1(x0 x1:Int)(p2:List GScalar)(p3:List GVar)(p4:List GChan)(p5:List GProc)(p6:List GVar)(p7:Int)(st:List Int){ρ:Type}(β:Bool)(κ:List T×List Ob→Option ρ):
   cbK (call 37 [.agg [.int .i64 x0,.int .i64 x1],.ptr 2,.ptr 0] ([Ob.box (.d (.agg [.sl β (List.map eScalar p2),.sl β (List.map eVar p3),.sl β (List.map eChan p4),.sl β (List.map (eProc β) p5),.sl β (List.map eVar p6),.int IntKind.i64 p7])),.box (.agg [.own (tl eI st),.d (.map (3))]),.box (.d (.ptr (1))),.map (opsL),.box (.d (.fn (Fn.func 120) [] [])),.box (.d (.fn (Fn.func 121) [] [])),.box (.d (.fn (Fn.func 122) [] [])),.box (.d (.fn (Fn.func 123) [] [])),.box (.d (.fn (Fn.func 124) [] [])),.box (.d (.fn (Fn.func 125) [] []))])) κ=fK1 x0 x1 p2 p3 p4 p5 p6 p7 st fun y0 y1=>κ ([.d (.int IntKind.i64 y0),.d (.int IntKind.i64 y1)],[Ob.box (.d (.agg [.sl β (List.map eScalar p2),.sl β (List.map eVar p3),.sl β (List.map eChan p4),.sl β (List.map (eProc β) p5),.sl β (List.map eVar p6),.int IntKind.i64 p7])),.box (.agg [.own (tl eI st),.d (.map (3))]),.box (.d (.ptr (1))),.map (opsL),.box (.d (.fn (Fn.func 120) [] [])),.box (.d (.fn (Fn.func 121) [] [])),.box (.d (.fn (Fn.func 122) [] [])),.box (.d (.fn (Fn.func 123) [] [])),.box (.d (.fn (Fn.func 124) [] [])),.box (.d (.fn (Fn.func 125) [] []))]):=
 (FK1 x0 x1 p2 p3 p4 p5 p6 p7 st).2 β κ _ fun _ _=>rfl
theorem ok29_end{nt:Int}{l:List Int}{i:Nat}(h:l.length≤i):ok29 nt l i=true:=by simp[ok29,List.drop_eq_nil_of_le h]
theorem ok29_at{nt:Int}{l:List Int}{i:Nat}(h:i<l.length):ok29 nt l i=((decide (nt=-1) || decide (l[i]=nt))&&decide (l[0]? =some l[i])&&ok29 nt l (i+1)):=by
 simp only[ok29,xW h,List.all_cons]
theorem turn29{ρ:Type}(np nt nm:Int)(l:List Int)(fn:Nat)(cp:List D)(c:Bool)(H:List Ob)(κ:Ex×St→Option ρ)(i:Int):
  goLp P hints hint39 b39 0 ((⟨[(1,SV.d (D.sl c (List.map eI l))),(2,SV.loc (Root.l 2 0) [] 0 0),(8,SV.d (D.sl c (List.map eI l))),(9,SV.d (D.int IntKind.i64 (List.length l))),(10,SV.d (D.int IntKind.i64 i))],[((2,0),T.own [T.d (D.agg [D.int IntKind.i64 np,D.int IntKind.i64 nt,D.int IntKind.i64 nm,D.fn (Fn.func fn) [] cp])])],H⟩:St)) κ=if i<(l.length:Int)then(if 0≤i then(l[i.toNat]?).bind fun y=>if nt=-1 then(l[0]?).bind fun y1=>if y=y1 then goLp P hints hint39 b39 0 ((⟨[(1,SV.d (D.sl c (List.map eI l))),(2,SV.loc (Root.l 2 0) [] 0 0),(8,SV.d (D.sl c (List.map eI l))),(9,SV.d (D.int IntKind.i64 (List.length l))),(10,SV.d (D.int IntKind.i64 (IntKind.i64.wrap (i+1))))],[((2,0),T.own [T.d (D.agg [D.int IntKind.i64 np,D.int IntKind.i64 nt,D.int IntKind.i64 nm,D.fn (Fn.func fn) [] cp])])],H⟩:St)) κ else κ (.ret,⟨[(4,.d (.int .i64 0)),(5,.d (.int .i64 9))],[],H⟩)else if y=nt then(l[0]?).bind fun y1=>if y=y1 then goLp P hints hint39 b39 0 ((⟨[(1,SV.d (D.sl c (List.map eI l))),(2,SV.loc (Root.l 2 0) [] 0 0),(8,SV.d (D.sl c (List.map eI l))),(9,SV.d (D.int IntKind.i64 (List.length l))),(10,SV.d (D.int IntKind.i64 (IntKind.i64.wrap (i+1))))],[((2,0),T.own [T.d (D.agg [D.int IntKind.i64 np,D.int IntKind.i64 nt,D.int IntKind.i64 nm,D.fn (Fn.func fn) [] cp])])],H⟩:St)) κ else κ (.ret,⟨[(4,.d (.int .i64 0)),(5,.d (.int .i64 9))],[],H⟩)else κ (.ret,⟨[(4,.d (.int .i64 0)),(5,.d (.int .i64 9))],[],H⟩)else none)
   else κ (.exit 0,⟨[(1,SV.d (D.sl c (List.map eI l))),(2,SV.loc (Root.l 2 0) [] 0 0),(8,SV.d (D.sl c (List.map eI l))),(9,SV.d (D.int IntKind.i64 (List.length l))),(10,SV.d (D.int IntKind.i64 i)),(11,SV.d (D.bool false))],[((2,0),T.own [T.d (D.agg [D.int IntKind.i64 np,D.int IntKind.i64 nt,D.int IntKind.i64 nm,D.fn (Fn.func fn) [] cp])])],H⟩):=by
 refine(goLp_turn q39_0.2).trans ?_
 simp -implicitDefEqProofs (maxSteps:=1000000) [go_sem,-List.map_append,-List.map_take,-List.map_drop,-List.map_set]
theorem lp29{ρ:Type}(np nt nm:Int)(l:List Int)(hl:l.length≤1000)(fn:Nat)(cp:List D)(c:Bool)(H:List Ob)(κ:Ex×St→Option ρ):∀(n i:Nat),l.length - i=n→i≤l.length→
  goLp P hints hint39 b39 0 ((⟨[(1,SV.d (D.sl c (List.map eI l))),(2,SV.loc (Root.l 2 0) [] 0 0),(8,SV.d (D.sl c (List.map eI l))),(9,SV.d (D.int IntKind.i64 (List.length l))),(10,SV.d (D.int IntKind.i64 i))],[((2,0),T.own [T.d (D.agg [D.int IntKind.i64 np,D.int IntKind.i64 nt,D.int IntKind.i64 nm,D.fn (Fn.func fn) [] cp])])],H⟩:St)) κ=if ok29 nt l i=true then κ (.exit 0,⟨[(1,SV.d (D.sl c (List.map eI l))),(2,SV.loc (Root.l 2 0) [] 0 0),(8,SV.d (D.sl c (List.map eI l))),(9,SV.d (D.int IntKind.i64 (List.length l))),(10,SV.d (D.int IntKind.i64 (List.length l))),(11,SV.d (D.bool false))],[((2,0),T.own [T.d (D.agg [D.int IntKind.i64 np,D.int IntKind.i64 nt,D.int IntKind.i64 nm,D.fn (Fn.func fn) [] cp])])],H⟩)else κ (.ret,⟨[(4,.d (.int .i64 0)),(5,.d (.int .i64 9))],[],H⟩):=by
 intro n
 induction n with
 |zero=>
  intro i hn hi
  obtain rfl:i=l.length:=by omega
  rw[turn29,if_neg (by omega),ok29_end (Nat.le_refl _),if_pos rfl]
 |succ n ih=>
  intro i hn hi
  have hlt:i<l.length:=by omega
  have hw:IntKind.i64.wrap ((i:Int)+1)=((i+1:Nat):Int):=by exact wrapS (by omega)
  rw[turn29,if_pos (by omega),if_pos (by omega),xV,xG hlt,xS,hw,ih (i+1) (by omega) (by omega),ok29_at hlt,xG (Nat.lt_of_le_of_lt (Nat.zero_le _) hlt),xS]
  simp only[xJ]
  by_cases h1:nt=-1
  ·simp only[h1,decide_true,Bool.true_or,Bool.true_and,if_true]
   by_cases h2:l[0]=l[i]
   ·simp[h2]
   ·simp[h2,Ne.symm h2,eq_comm]
  ·simp only[h1,decide_false,Bool.false_or,if_false]
   by_cases h2:l[i]=nt
   ·rw[if_pos h2]
    by_cases h3:l[i]=l[0]
    ·rw[if_pos h3];simp only[h2,decide_true,Bool.true_and,show(l[0]=l[i])from h3.symm]
    ·rw[if_neg h3];simp only[show¬(l[0]=l[i])from fun e=>h3 e.symm,decide_false,Bool.and_false,Bool.false_and,xH,if_false]
   ·rw[if_neg h2];simp only[h2,decide_false,Bool.false_and,xH,if_false]
def x29{ρ:Type}(np nt nm:Int)(l:List Int)(fn:Nat)(cp:List D)(c:Bool)(H:List Ob)(κ:List T×List Ob→Option ρ):Option ρ:=cbK (call 39 [.agg [.int .i64 np,.int .i64 nt,.int .i64 nm,.fn (.func fn) [] cp],.sl c (List.map eI l)] H) κ
theorem W29{ρ:Type}(np nt nm:Int)(l:List Int)(fn:Nat)(cp:List D)(c:Bool)(H:List Ob)(κ:List T×List Ob→Option ρ):cbK (call 39 [.agg [.int .i64 np,.int .i64 nt,.int .i64 nm,.fn (.func fn) [] cp],.sl c (List.map eI l)] H) κ=
  if l.length≤1000 then(if ok29 nt l 0=true then κ ([.d (.int .i64 nm),.d (.int .i64 0)],H)else κ ([.d (.int .i64 0),.d (.int .i64 9)],H))else x29 np nt nm l fn cp c H κ:=by
 by_cases hl:l.length≤1000
 ·rw[if_pos hl]
  refine(ge39 _ _ _ rfl).trans ?_
  have h:=fun κ=>lp29 (ρ:=ρ) np nt nm l hl fn cp c H κ _ 0 rfl (Nat.zero_le _)
  simp only[Int.natCast_zero]at h
  simp -implicitDefEqProofs (maxSteps:=1000000) [go_sem,h,-List.map_append,-List.map_take,-List.map_drop,-List.map_set]
 ·rw[if_neg hl];rfl
attribute [go_sem] W29
attribute [irreducible] x29
theorem ops_imm:(opsL.all fun e=>e.1.imm&&e.2.imm)=true:=rfl
theorem fK1_eq(x0 x1:Int)(s:GScope)(hs:s.Scalars.length≤1000)(hN:x1≤9223372036854775807)(st:List Int)(hst:st.length≤12)(hx:x0=3→st≠[]){ρ:Type}(g:Int→Int→Option ρ)(ht:takesK x0=0∨x0=3):
  fK1 x0 x1 s.Scalars s.Vars s.Chans s.Procs s.Locals s.Self st g=g (nodeK ⟨x0,x1⟩ s st).1 (nodeK ⟨x0,x1⟩ s st).2:=by
 have hsc:GScope.mk s.Scalars s.Vars s.Chans s.Procs s.Locals s.Self=s:=rfl
 simp only[fK1,FK1,hsc,addx_eq,nodeK]
 rcases ht with ht |ht
 ·have h3:¬x0=3:=fun e=>by subst e;simp[takesK]at ht
  simp only[h3,if_false,ht,if_true,leafK]
  have vr:∀l:List GVar,(f_expr_variable l x1 s fun y0_0 y0_1 y0_2=>if y0_2=false then g 0 8 else if y0_1=0 then g y0_0 0 else g 0 9)=g (varK (varAt l x1 s)).1 (varK (varAt l x1 s)).2:=fun l=>by
   rw[varx_eq (e:=g 0 8) (fun _ _=>by simp)]
   cases hv:varAt l x1 s with
   |none=>rfl
   |some v=>
    have hsv:scOk v.Over s=true:=by
     unfold varAt at hv
     split at hv
     ·simp only[xB]at hv
      obtain⟨u,_,hu⟩:=hv
      split at hu
      ·rename_i hb
       simp only[xJ]at hu
       subst hu
       simp only[xA]at hb
       exact hb.2
      ·cases hu
     ·cases hv
    simp only[Bool.true_eq_false,if_false,kOf_0 hs hsv,varK]
    by_cases h:v.Over=0 <;>simp[h]
  by_cases h1:x0=1
  ·simp only[h1,if_true]
   by_cases h:numK x1=(0,0)
   ·simp[h]
   ·rw[if_neg h]
    unfold numK at h ⊢
    split
    ·rename_i q;exact absurd (if_pos q) h
    ·rfl
  ·by_cases h4:x0=4
   ·subst h4
    simpa using vr s.Locals
   ·by_cases h2:x0=2
    ·subst h2
     simpa using vr s.Vars
    ·simp only[h1,h4,h2,if_false]
     exact namedx_eq (x:=⟨x0,x1⟩) hN
 ·subst ht
  have hne:=hx rfl
  obtain⟨k,hk⟩:∃k,st.getLast? =some k:=by cases h:st.getLast? with |none=>exact absurd (List.getLast?_eq_none_iff.1 h) hne |some k=>exact⟨k,rfl⟩
  have hpos:0<st.length:=List.length_pos_iff.2 hne
  have hw:IntKind.i64.wrap ((st.length:Int) - 1)=((st.length - 1:Nat):Int):=subN (m:=1) (by omega) (by omega)
  have hk':st[st.length - 1]? =some k:=by rw[←List.getLast?_eq_getElem?];exact hk
  simp only[show¬((3:Int)=1)by decide,show¬((3:Int)=4)by decide,show¬((3:Int)=2)by decide,if_false,if_true,hk,itemK_def]
  rw[varx_eq (e:=g 0 8) (fun _ _=>by simp)]
  cases hv:varAt s.Vars x1 s with
  |none=>rfl
  |some v=>
   have hsv:scOk v.Over s=true:=by
    unfold varAt at hv
    split at hv
    ·simp only[xB]at hv
     obtain⟨u,_,hu⟩:=hv
     split at hu
     ·rename_i hb
      simp only[xJ]at hu
      subst hu
      simp only[xA]at hb
      exact hb.2
     ·cases hu
    ·cases hv
   simp only[Bool.true_eq_false,if_false,kOf_0 hs hsv,hw,xV,hk',xS,show(0:Int)≤((st.length - 1:Nat):Int)by omega,show((st.length - 1:Nat):Int)<(st.length:Int)by omega,and_self,if_true]
   by_cases h:v.Over=0
   ·simp[h]
   ·have hko:kOf v.Over=w64 (1+v.Over):=by simp[kOf,h]
    simp only[h,if_false,hko]
    by_cases hkk:k=w64 (1+v.Over) <;>simp[hkk]
def outK{ρ:Type}(β:Bool)(s:GScope)(κ:List T×List Ob→Option ρ)(p:Int×List Int):Option ρ:=κ ([.d (.int IntKind.i64 p.1)],[Ob.box (.d (.agg [.sl β (List.map eScalar s.Scalars),.sl β (List.map eVar s.Vars),.sl β (List.map eChan s.Chans),.sl β (List.map (eProc β) s.Procs),.sl β (List.map eVar s.Locals),.int IntKind.i64 s.Self])),.box (.agg [.own (tl eI p.2),.d (.map (3))]),.box (.d (.ptr (1))),.map (opsL),.box (.d (.fn (Fn.func 120) [] [])),.box (.d (.fn (Fn.func 121) [] [])),.box (.d (.fn (Fn.func 122) [] [])),.box (.d (.fn (Fn.func 123) [] [])),.box (.d (.fn (Fn.func 124) [] [])),.box (.d (.fn (Fn.func 125) [] []))])
set_option maxHeartbeats 8000000 in
theorem op60(β:Bool)(x0 x1:Int)(s:GScope)(st:List Int)(hst:st.length≤12)(m:Nat)(hm:1≤m)(hm2:m≤2)(hP:opP x0=(m:Int))(hx:9≤x0∧x0≤19)(hl:m≤st.length){ρ:Type}(κ:List T×List Ob→Option ρ):
   cbK (call 72 [.ptr 1,.agg [.int .i64 x0,.int .i64 x1],.fn (.func 37) [] [.ptr 2,.ptr 0],.fn (.func 39) [] []] ([Ob.box (.d (.agg [.sl β (List.map eScalar s.Scalars),.sl β (List.map eVar s.Vars),.sl β (List.map eChan s.Chans),.sl β (List.map (eProc β) s.Procs),.sl β (List.map eVar s.Locals),.int IntKind.i64 s.Self])),.box (.agg [.own (tl eI st),.d (.map (3))]),.box (.d (.ptr (1))),.map (opsL),.box (.d (.fn (Fn.func 120) [] [])),.box (.d (.fn (Fn.func 121) [] [])),.box (.d (.fn (Fn.func 122) [] [])),.box (.d (.fn (Fn.func 123) [] [])),.box (.d (.fn (Fn.func 124) [] [])),.box (.d (.fn (Fn.func 125) [] []))])) κ=
    outK β s κ (if(opsK x0 (st.drop (st.length - m))).2≠0 then((opsK x0 (st.drop (st.length - m))).2,st)else(if 12<st.length - m+1 then 12 else 0,st.take (st.length - m)++[(opsK x0 (st.drop (st.length - m))).1])):=by
 refine(ge72 _ _ _ rfl).trans ?_
 have hH:opH x0=true:=opH_iff.2 hx
 have e3:¬x0=3:=by omega
 have e8:¬x0≤8:=by omega
 have n0:¬(m:Int)<0:=by omega
 have nl:¬(st.length:Int)<(m:Int):=by omega
 have hw:IntKind.i64.wrap ((st.length:Int) - (m:Int))=((st.length - m:Nat):Int):=subN hl (by omega)
 have q1:(0:Int)≤((st.length - m:Nat):Int):=by omega
 have q2:((st.length - m:Nat):Int)≤(st.length:Int):=by omega
 have q3:st.length≤1000+(st.length - m):=by omega
 have b1:(st.length - m+1) * 8≤140737488355328:=by omega
 have b2:st.length≤9223372036854775806+m:=by omega
 have hd:st.length - (st.length - m)=m:=by omega
 have q4:m≤1000:=by omega
 have htk:List.take m (List.drop (st.length - m) st)=List.drop (st.length - m) st:=List.take_of_length_le (by simp;omega)
 have h12:¬12<st.length - m+1:=by omega
 have h12':¬(12:Int)<((st.length - m:Nat):Int)+1:=by omega
 by_cases hk:ok29 (opT x0) (st.drop (st.length - m)) 0=true
 ·have hz:opsK x0 (st.drop (st.length - m))=(opM x0,0):=by rw[opsK,if_pos hk]
  rw[hz]
  cases β <;>simp -implicitDefEqProofs (maxSteps:=1000000) [go_sem,ge126,hH,hP,e3,e8,n0,nl,hw,q1,q2,q3,b1,b2,hd,htk,q4,hk,h12,h12',ops_imm,outK,-List.map_append,-List.map_take,-List.map_drop,-List.map_set]
 ·have hz:opsK x0 (st.drop (st.length - m))=(0,9):=by rw[opsK,if_neg hk]
  rw[hz]
  cases β <;>simp -implicitDefEqProofs (maxSteps:=1000000) [go_sem,ge126,hH,hP,e3,e8,n0,nl,hw,q1,q2,q3,b1,b2,hd,htk,q4,hk,h12,h12',ops_imm,outK,-List.map_append,-List.map_take,-List.map_drop,-List.map_set]
set_option maxHeartbeats 8000000 in
theorem WS60(β:Bool)(x0 x1:Int)(s:GScope)(hs:s.Scalars.length≤1000)(hN:x1≤9223372036854775807)(st:List Int)(hst:st.length≤12){ρ:Type}(κ:List T×List Ob→Option ρ):
   cbK (call 72 [.ptr 1,.agg [.int .i64 x0,.int .i64 x1],.fn (.func 37) [] [.ptr 2,.ptr 0],.fn (.func 39) [] []] ([Ob.box (.d (.agg [.sl β (List.map eScalar s.Scalars),.sl β (List.map eVar s.Vars),.sl β (List.map eChan s.Chans),.sl β (List.map (eProc β) s.Procs),.sl β (List.map eVar s.Locals),.int IntKind.i64 s.Self])),.box (.agg [.own (tl eI st),.d (.map (3))]),.box (.d (.ptr (1))),.map (opsL),.box (.d (.fn (Fn.func 120) [] [])),.box (.d (.fn (Fn.func 121) [] [])),.box (.d (.fn (Fn.func 122) [] [])),.box (.d (.fn (Fn.func 123) [] [])),.box (.d (.fn (Fn.func 124) [] [])),.box (.d (.fn (Fn.func 125) [] []))])) κ=outK β s κ (stepK ⟨x0,x1⟩ s st):=by
 refine(ge72 _ _ _ rfl).trans ?_
 have key:∀n:Nat,n≤st.length→n≤2→IntKind.i64.wrap ((st.length:Int) - (n:Int))=((st.length - n:Nat):Int):=fun n hn h2=>subN hn (by omega)
 have stp:∀n:Nat,takesK x0=(n:Int)→n≤st.length→stepK ⟨x0,x1⟩ s st=if(nodeK ⟨x0,x1⟩ s st).2≠0 then((nodeK ⟨x0,x1⟩ s st).2,st)else(if 12<st.length - n+1 then 12 else 0,st.take (st.length - n)++[(nodeK ⟨x0,x1⟩ s st).1]):=fun n ht hn=>by
  unfold stepK
  rw[ht,if_neg (by omega),if_neg (by omega),xV]
 rcases takes_cases x0 with⟨h,q⟩ |⟨h,q⟩ |⟨h,q⟩ |⟨h,q⟩
 ·-- none
  have hH:¬opH x0=true:=fun hh=>by have:=opH_iff.1 hh;omega
  have e3:¬x0=3:=by omega
  have e18:¬(1≤x0∧x0≤8):=by omega
  have hstep:stepK ⟨x0,x1⟩ s st=(3,st):=by unfold stepK;rw[h,if_pos (by omega)]
  rw[hstep]
  by_cases e1:1≤x0
  ·have e8:¬x0≤8:=fun q=>e18 ⟨e1,q⟩
   cases β <;>simp -implicitDefEqProofs (maxSteps:=1000000) [go_sem,ge126,hH,e3,e1,e8,outK,-List.map_append,-List.map_take,-List.map_drop,-List.map_set]
  ·cases β <;>simp -implicitDefEqProofs (maxSteps:=1000000) [go_sem,ge126,hH,e3,e1,outK,-List.map_append,-List.map_take,-List.map_drop,-List.map_set]
 ·-- a leaf
  have hH:¬opH x0=true:=fun hh=>by have:=opH_iff.1 hh;omega
  have hHf:opH x0=false:=by simpa using hH
  have e3:¬x0=3:=by omega
  have e1:1≤x0:=q.1
  have e8:x0≤8:=q.2.1
  have hw:=key 0 (Nat.zero_le _) (by omega)
  have hw':IntKind.i64.wrap ((st.length:Int))=(st.length:Int):=by simpa using hw
  have hcall:=fun g=>fK1_eq x0 x1 s hs hN st hst (fun e=>absurd e e3) (ρ:=ρ) g (.inl h)
  have n0:¬(st.length:Int)<0:=by omega
  have b1:(st.length+1) * 8≤140737488355328:=by omega
  have b2:st.length≤9223372036854775806:=by omega
  rw[stp 0 h (Nat.zero_le _)]
  by_cases hz:(nodeK ⟨x0,x1⟩ s st).2=0
  ·by_cases h12:12<st.length+1
   ·have h12':(12:Int)<(st.length:Int)+1:=by omega
    cases β <;>simp -implicitDefEqProofs (maxSteps:=1000000) [go_sem,ge126,hH,hHf,e3,e1,e8,hw',hcall,ops_imm,n0,b1,b2,hz,h12,h12',outK,-List.map_append,-List.map_take,-List.map_drop,-List.map_set]
   ·have h12':¬(12:Int)<(st.length:Int)+1:=by omega
    cases β <;>simp -implicitDefEqProofs (maxSteps:=1000000) [go_sem,ge126,hH,hHf,e3,e1,e8,hw',hcall,ops_imm,n0,b1,b2,hz,h12,h12',outK,-List.map_append,-List.map_take,-List.map_drop,-List.map_set]
  ·cases β <;>simp -implicitDefEqProofs (maxSteps:=1000000) [go_sem,ge126,hH,hHf,e3,e1,e8,hw',hcall,ops_imm,n0,b1,b2,hz,outK,-List.map_append,-List.map_take,-List.map_drop,-List.map_set]
 ·by_cases hlt:st.length<1
  ·have hstep:stepK ⟨x0,x1⟩ s st=(4,st):=by unfold stepK;rw[h,if_neg (by omega),if_pos (by omega)]
   have hlt':(st.length:Int)<1:=by omega
   rw[hstep]
   rcases q with q |q
   ·cases β <;>simp -implicitDefEqProofs (maxSteps:=1000000) [go_sem,ge126,q,hlt',outK,-List.map_append,-List.map_take,-List.map_drop,-List.map_set]
   ·have hH:opH x0=true:=opH_iff.2 (by omega)
    have e3:¬x0=3:=by omega
    have e8:¬x0≤8:=by omega
    have hP:opP x0=1:=by rw[opP_eq (by omega),if_pos (by omega)]
    cases β <;>simp -implicitDefEqProofs (maxSteps:=1000000) [go_sem,ge126,hH,hP,e3,e8,hlt',outK,-List.map_append,-List.map_take,-List.map_drop,-List.map_set]
  have n0:¬(st.length:Int)<1:=by omega
  have hw:IntKind.i64.wrap ((st.length:Int) - 1)=((st.length - 1:Nat):Int):=key 1 (by omega) (by omega)
  have q1:(0:Int)≤((st.length - 1:Nat):Int):=by omega
  have q2:((st.length - 1:Nat):Int)≤(st.length:Int):=by omega
  have q3:st.length≤1000+(st.length - 1):=by omega
  have b1:(st.length - 1+1) * 8≤140737488355328:=by omega
  have b2:st.length≤9223372036854775806+1:=by omega
  have b3:st.length≤9223372036854775807:=by omega
  have hd:st.length - (st.length - 1)=1:=by omega
  have h1:takesK x0=((1:Nat):Int):=h
  rw[stp 1 h1 (by omega)]
  rcases q with q |q
  ·subst q
   have hHf:opH 3=false:=rfl
   have hcall:=fun g=>fK1_eq 3 x1 s hs hN st hst (fun _ e=>by subst e;simp at hlt) (ρ:=ρ) g (.inr rfl)
   by_cases hz:(nodeK ⟨3,x1⟩ s st).2=0
   ·by_cases h12:12<st.length - 1+1
    ·omega
    ·have h12':¬(12:Int)<((st.length - 1:Nat):Int)+1:=by omega
     cases β <;>simp -implicitDefEqProofs (maxSteps:=1000000) [go_sem,ge126,hHf,hw,q1,q2,q3,hcall,ops_imm,n0,b1,b2,b3,hd,hz,h12,h12',outK,-List.map_append,-List.map_take,-List.map_drop,-List.map_set]
   ·cases β <;>simp -implicitDefEqProofs (maxSteps:=1000000) [go_sem,ge126,hHf,hw,q1,q2,q3,hcall,ops_imm,n0,b1,b2,b3,hd,hz,outK,-List.map_append,-List.map_take,-List.map_drop,-List.map_set]
  ·have hn:nodeK ⟨x0,x1⟩ s st=opsK x0 (st.drop (st.length - 1)):=by
    unfold nodeK
    rw[if_neg (by show¬x0=3;omega),if_neg (by show¬takesK x0=0;omega),show(takesK x0).toNat=1 by rw[h];rfl]
   rw[hn,←op60 β x0 x1 s st hst 1 (by omega) (by omega) (by rw[opP_eq (by omega),if_pos (by omega)];rfl) (by omega) (by omega)]
   exact(ge72 _ _ _ rfl).symm
 ·by_cases hlt:st.length<2
  ·have hstep:stepK ⟨x0,x1⟩ s st=(4,st):=by unfold stepK;rw[h,if_neg (by omega),if_pos (by omega)]
   have hlt':(st.length:Int)<2:=by omega
   rw[hstep]
   have hH:opH x0=true:=opH_iff.2 (by omega)
   have e3:¬x0=3:=by omega
   have e8:¬x0≤8:=by omega
   have hP:opP x0=2:=by rw[opP_eq (by omega),if_neg (by omega)]
   cases β <;>simp -implicitDefEqProofs (maxSteps:=1000000) [go_sem,ge126,hH,hP,e3,e8,hlt',outK,-List.map_append,-List.map_take,-List.map_drop,-List.map_set]
  have h2:takesK x0=((2:Nat):Int):=h
  rw[stp 2 h2 (by omega)]
  have hn:nodeK ⟨x0,x1⟩ s st=opsK x0 (st.drop (st.length - 2)):=by
   unfold nodeK
   rw[if_neg (by show¬x0=3;omega),if_neg (by show¬takesK x0=0;omega),show(takesK x0).toNat=2 by rw[h];rfl]
  rw[hn,←op60 β x0 x1 s st hst 2 (by omega) (by omega) (by rw[opP_eq (by omega),if_neg (by omega)];rfl) (by omega) (by omega)]
  exact(ge72 _ _ _ rfl).symm
end
end Go.Etx
namespace Go.Etx
open Go Go.Am Go.Proofs
set_option maxHeartbeats 4000000
set_option maxRecDepth 20000
noncomputable section
theorem turn26(β:Bool)(e:List GNode)(s:GScope)(hs:s.Scalars.length≤1000)(st:List Int)(hst:st.length≤12)(i:Nat)(hi:i<e.length)(hN:e[i].N≤9223372036854775807)(hlen:e.length≤24){ρ:Type}(κ:Ex×St→Option ρ):goLp P hints hint36 b36 0 ((⟨[(0,.d (.ptr (1))),(2,.d (.fn (Fn.func 37) [] [.ptr (2),.ptr (0)])),(3,.d (.fn (Fn.func 39) [] [])),(25,.d (.sl β (List.map eNode e))),(26,.d (.int IntKind.i64 (List.length e))),(27,.d (.int IntKind.i64 (i:Int)))],[],[Ob.box (.d (.agg [.sl β (List.map eScalar s.Scalars),.sl β (List.map eVar s.Vars),.sl β (List.map eChan s.Chans),.sl β (List.map (eProc β) s.Procs),.sl β (List.map eVar s.Locals),.int IntKind.i64 s.Self])),.box (.agg [.own (tl eI st),.d (.map (3))]),.box (.d (.ptr (1))),.map (opsL),.box (.d (.fn (Fn.func 120) [] [])),.box (.d (.fn (Fn.func 121) [] [])),.box (.d (.fn (Fn.func 122) [] [])),.box (.d (.fn (Fn.func 123) [] [])),.box (.d (.fn (Fn.func 124) [] [])),.box (.d (.fn (Fn.func 125) [] []))]⟩:St)) κ=
  if(stepK e[i] s st).1=0 then goLp P hints hint36 b36 0 ((⟨[(0,.d (.ptr (1))),(2,.d (.fn (Fn.func 37) [] [.ptr (2),.ptr (0)])),(3,.d (.fn (Fn.func 39) [] [])),(25,.d (.sl β (List.map eNode e))),(26,.d (.int IntKind.i64 (List.length e))),(27,.d (.int IntKind.i64 ((i+1:Nat):Int)))],[],[Ob.box (.d (.agg [.sl β (List.map eScalar s.Scalars),.sl β (List.map eVar s.Vars),.sl β (List.map eChan s.Chans),.sl β (List.map (eProc β) s.Procs),.sl β (List.map eVar s.Locals),.int IntKind.i64 s.Self])),.box (.agg [.own (tl eI ((stepK e[i] s st).2)),.d (.map (3))]),.box (.d (.ptr (1))),.map (opsL),.box (.d (.fn (Fn.func 120) [] [])),.box (.d (.fn (Fn.func 121) [] [])),.box (.d (.fn (Fn.func 122) [] [])),.box (.d (.fn (Fn.func 123) [] [])),.box (.d (.fn (Fn.func 124) [] [])),.box (.d (.fn (Fn.func 125) [] []))]⟩:St)) κ else κ (.ret,⟨[(8,SV.d (D.int IntKind.i64 0)),(9,SV.d (D.int IntKind.i64 (stepK e[i] s st).1))],[],[Ob.box (.d (.agg [.sl β (List.map eScalar s.Scalars),.sl β (List.map eVar s.Vars),.sl β (List.map eChan s.Chans),.sl β (List.map (eProc β) s.Procs),.sl β (List.map eVar s.Locals),.int IntKind.i64 s.Self])),.box (.agg [.own (tl eI ((stepK e[i] s st).2)),.d (.map (3))]),.box (.d (.ptr (1))),.map (opsL),.box (.d (.fn (Fn.func 120) [] [])),.box (.d (.fn (Fn.func 121) [] [])),.box (.d (.fn (Fn.func 122) [] [])),.box (.d (.fn (Fn.func 123) [] [])),.box (.d (.fn (Fn.func 124) [] [])),.box (.d (.fn (Fn.func 125) [] []))]⟩):=by
 refine(goLp_turn q36_0.2).trans ?_
 have hw:IntKind.i64.wrap ((i:Int)+1)=((i+1:Nat):Int):=wrapS (by omega)
 have h1:(i:Int)<(e.length:Int):=by omega
 have h2:e[i]? =some e[i]:=xG hi
 have h60:=fun κ=>WS60 (ρ:=ρ) β e[i].Op e[i].N s hs hN st hst κ
 cases β <;>simp -implicitDefEqProofs (maxSteps:=1000000) [go_sem,h1,h2,hw,h60,outK,-List.map_append,-List.map_take,-List.map_drop,-List.map_set]
theorem last26(β:Bool)(e:List GNode)(s:GScope)(st:List Int){ρ:Type}(κ:Ex×St→Option ρ):goLp P hints hint36 b36 0 ((⟨[(0,.d (.ptr (1))),(2,.d (.fn (Fn.func 37) [] [.ptr (2),.ptr (0)])),(3,.d (.fn (Fn.func 39) [] [])),(25,.d (.sl β (List.map eNode e))),(26,.d (.int IntKind.i64 (List.length e))),(27,.d (.int IntKind.i64 (e.length:Int)))],[],[Ob.box (.d (.agg [.sl β (List.map eScalar s.Scalars),.sl β (List.map eVar s.Vars),.sl β (List.map eChan s.Chans),.sl β (List.map (eProc β) s.Procs),.sl β (List.map eVar s.Locals),.int IntKind.i64 s.Self])),.box (.agg [.own (tl eI st),.d (.map (3))]),.box (.d (.ptr (1))),.map (opsL),.box (.d (.fn (Fn.func 120) [] [])),.box (.d (.fn (Fn.func 121) [] [])),.box (.d (.fn (Fn.func 122) [] [])),.box (.d (.fn (Fn.func 123) [] [])),.box (.d (.fn (Fn.func 124) [] [])),.box (.d (.fn (Fn.func 125) [] []))]⟩:St)) κ=κ (.exit 1,(⟨[(0,.d (.ptr (1))),(2,.d (.fn (Fn.func 37) [] [.ptr (2),.ptr (0)])),(3,.d (.fn (Fn.func 39) [] [])),(25,.d (.sl β (List.map eNode e))),(26,.d (.int IntKind.i64 (List.length e))),(27,.d (.int IntKind.i64 (List.length e))),(28,SV.d (D.bool false))],[],[Ob.box (.d (.agg [.sl β (List.map eScalar s.Scalars),.sl β (List.map eVar s.Vars),.sl β (List.map eChan s.Chans),.sl β (List.map (eProc β) s.Procs),.sl β (List.map eVar s.Locals),.int IntKind.i64 s.Self])),.box (.agg [.own (tl eI st),.d (.map (3))]),.box (.d (.ptr (1))),.map (opsL),.box (.d (.fn (Fn.func 120) [] [])),.box (.d (.fn (Fn.func 121) [] [])),.box (.d (.fn (Fn.func 122) [] [])),.box (.d (.fn (Fn.func 123) [] [])),.box (.d (.fn (Fn.func 124) [] [])),.box (.d (.fn (Fn.func 125) [] []))]⟩:St)):=by
 refine(goLp_turn q36_0.2).trans ?_
 cases β <;>simp -implicitDefEqProofs (maxSteps:=1000000) [go_sem,-List.map_append,-List.map_take,-List.map_drop,-List.map_set]
theorem step_ok0{x:GNode}{s:GScope}{st:List Int}(h:st.length≤12)(h0:(stepK x s st).1=0):(stepK x s st).2.length≤12:=by
 unfold stepK at h0 ⊢
 split at h0;· simp at h0
 rename_i h1
 split at h0;· simp at h0
 rename_i h2
 split at h0
 ·rename_i h3;simp only at h0;exact absurd h0 h3
 ·rename_i h3
  rw[if_neg h1,if_neg h2,if_neg h3]
  simp only at h0
  split at h0
  ·cases h0
  ·simp only[xP,yR,xZ,yN];omega
theorem loop26(β:Bool)(e:List GNode)(s:GScope)(hs:s.Scalars.length≤1000)(hN:∀x∈e,x.N≤9223372036854775807)(hlen:e.length≤24){ρ:Type}(κ:Ex×St→Option ρ):∀(n i:Nat) (st:List Int),e.length - i=n→i≤e.length→st.length≤12→goLp P hints hint36 b36 0 ((⟨[(0,.d (.ptr (1))),(2,.d (.fn (Fn.func 37) [] [.ptr (2),.ptr (0)])),(3,.d (.fn (Fn.func 39) [] [])),(25,.d (.sl β (List.map eNode e))),(26,.d (.int IntKind.i64 (List.length e))),(27,.d (.int IntKind.i64 (i:Int)))],[],[Ob.box (.d (.agg [.sl β (List.map eScalar s.Scalars),.sl β (List.map eVar s.Vars),.sl β (List.map eChan s.Chans),.sl β (List.map (eProc β) s.Procs),.sl β (List.map eVar s.Locals),.int IntKind.i64 s.Self])),.box (.agg [.own (tl eI st),.d (.map (3))]),.box (.d (.ptr (1))),.map (opsL),.box (.d (.fn (Fn.func 120) [] [])),.box (.d (.fn (Fn.func 121) [] [])),.box (.d (.fn (Fn.func 122) [] [])),.box (.d (.fn (Fn.func 123) [] [])),.box (.d (.fn (Fn.func 124) [] [])),.box (.d (.fn (Fn.func 125) [] []))]⟩:St)) κ=
  if(runK s (e.drop i) st).1=0 then κ (.exit 1,(⟨[(0,.d (.ptr (1))),(2,.d (.fn (Fn.func 37) [] [.ptr (2),.ptr (0)])),(3,.d (.fn (Fn.func 39) [] [])),(25,.d (.sl β (List.map eNode e))),(26,.d (.int IntKind.i64 (List.length e))),(27,.d (.int IntKind.i64 (List.length e))),(28,SV.d (D.bool false))],[],[Ob.box (.d (.agg [.sl β (List.map eScalar s.Scalars),.sl β (List.map eVar s.Vars),.sl β (List.map eChan s.Chans),.sl β (List.map (eProc β) s.Procs),.sl β (List.map eVar s.Locals),.int IntKind.i64 s.Self])),.box (.agg [.own (tl eI ((runK s (e.drop i) st).2)),.d (.map (3))]),.box (.d (.ptr (1))),.map (opsL),.box (.d (.fn (Fn.func 120) [] [])),.box (.d (.fn (Fn.func 121) [] [])),.box (.d (.fn (Fn.func 122) [] [])),.box (.d (.fn (Fn.func 123) [] [])),.box (.d (.fn (Fn.func 124) [] [])),.box (.d (.fn (Fn.func 125) [] []))]⟩:St))else κ (.ret,⟨[(8,SV.d (D.int IntKind.i64 0)),(9,SV.d (D.int IntKind.i64 (runK s (e.drop i) st).1))],[],[Ob.box (.d (.agg [.sl β (List.map eScalar s.Scalars),.sl β (List.map eVar s.Vars),.sl β (List.map eChan s.Chans),.sl β (List.map (eProc β) s.Procs),.sl β (List.map eVar s.Locals),.int IntKind.i64 s.Self])),.box (.agg [.own (tl eI ((runK s (e.drop i) st).2)),.d (.map (3))]),.box (.d (.ptr (1))),.map (opsL),.box (.d (.fn (Fn.func 120) [] [])),.box (.d (.fn (Fn.func 121) [] [])),.box (.d (.fn (Fn.func 122) [] [])),.box (.d (.fn (Fn.func 123) [] [])),.box (.d (.fn (Fn.func 124) [] [])),.box (.d (.fn (Fn.func 125) [] []))]⟩):=by
 intro n
 induction n with
 |zero=>
  intro i st hn hi hst
  obtain rfl:i=e.length:=by omega
  rw[last26,List.drop_length,runK,if_pos rfl]
 |succ n ih=>
  intro i st hn hi hst
  have hlt:i<e.length:=by omega
  rw[turn26 β e s hs st hst i hlt (hN _ (List.getElem_mem hlt)) hlen,xW hlt,runK]
  by_cases h0:(stepK e[i] s st).1=0
  ·rw[if_pos h0,if_pos h0,ih (i+1) _ (by omega) (by omega) (step_ok0 hst h0)]
  ·rw[if_neg h0,if_neg h0,if_neg h0]
theorem run_ok0{s:GScope}:∀{e:List GNode} {st:List Int},st.length≤12→(runK s e st).1=0→(runK s e st).2.length≤12∧(e≠[]→0<(runK s e st).2.length)
 | [],st,h,_=>⟨h,fun q=>absurd rfl q⟩
 |x::r,st,h,h0=>by
  unfold runK at h0 ⊢
  by_cases hx:(stepK x s st).1=0
  ·rw[if_pos hx]at h0 ⊢
   have hl:=step_ok0 h hx
   have:=run_ok0 hl h0
   refine⟨this.1,fun _=> ?_⟩
   cases r with
   |cons y r=>exact this.2 (by simp)
   |nil=>
    rw[runK]
    unfold stepK at hx ⊢
    split at hx;· simp at hx
    rename_i h1
    split at hx;· simp at hx
    rename_i h2
    split at hx
    ·rename_i h3;simp only at hx;exact absurd hx h3
    ·rename_i h3
     rw[if_neg h1,if_neg h2,if_neg h3]
     simp
  ·rw[if_neg hx]at h0;exact absurd h0 hx
set_option maxHeartbeats 8000000 in
theorem Kind_eq(β:Bool)(e:List GNode)(s:GScope)(hs:s.Scalars.length≤1000)(hN:∀x∈e,x.N≤9223372036854775807){ρ:Type}(κ:List T×List Ob→Option ρ):
  cbK (call 18 [.sl β (List.map eNode e),.agg [.sl β (List.map eScalar s.Scalars),.sl β (List.map eVar s.Vars),.sl β (List.map eChan s.Chans),.sl β (List.map (eProc β) s.Procs),.sl β (List.map eVar s.Locals),.int .i64 s.Self]] []) κ=κ ([.d (.int .i64 (kindK e s).1),.d (.int .i64 (kindK e s).2)],[]):=by
 refine(ge18 _ _ _ rfl).trans ?_
 unfold kindK
 by_cases h24:24<e.length
 ·have h24':(24:Int)<(e.length:Int):=by omega
  rw[if_pos h24]
  cases β <;>simp -implicitDefEqProofs (maxSteps:=1000000) [go_sem,ge36,ge71,ge119,h24',-List.map_append,-List.map_take,-List.map_drop,-List.map_set]
 rw[if_neg h24]
 have h24':¬(24:Int)<(e.length:Int):=by omega
 by_cases he:e=[]
 ·rw[if_pos he]
  subst he
  cases β <;>simp -implicitDefEqProofs (maxSteps:=1000000) [go_sem,ge36,ge71,ge119,-List.map_append,-List.map_take,-List.map_drop,-List.map_set]
 rw[if_neg he]
 have hl:=fun κ=>loop26 (ρ:=ρ) β e s hs hN (by omega) κ _ 0 [] rfl (Nat.zero_le _) (by simp)
 simp only[Int.natCast_zero,List.drop_zero,tl_nil]at hl
 by_cases h0:(runK s e []).1=0
 ·have hok:=run_ok0 (s:=s) (e:=e) (st:=[]) (by simp) h0
  have hpos:=hok.2 he
  by_cases h1:1<(runK s e []).2.length
  ·have h1':(1:Int)<((runK s e []).2.length:Int):=by omega
   cases β <;>simp -implicitDefEqProofs (maxSteps:=1000000) [go_sem,ge36,ge71,ge119,h24',he,hl,h0,h1,h1',-List.map_append,-List.map_take,-List.map_drop,-List.map_set]
  ·have h1':¬(1:Int)<((runK s e []).2.length:Int):=by omega
   obtain⟨a,ha⟩:∃a,(runK s e []).2=[a]:=List.length_eq_one_iff.1 (by omega)
   cases β <;>simp -implicitDefEqProofs (maxSteps:=1000000) [go_sem,ge36,ge71,ge119,h24',he,hl,h0,h1,h1',ha,-List.map_append,-List.map_take,-List.map_drop,-List.map_set]
 ·cases β <;>simp -implicitDefEqProofs (maxSteps:=1000000) [go_sem,ge36,ge71,ge119,h24',he,hl,h0,-List.map_append,-List.map_take,-List.map_drop,-List.map_set]
end
end Go.Etx
namespace Go.Etx
open Go Go.Am Go.Proofs
set_option maxHeartbeats 4000000
set_option maxRecDepth 20000
noncomputable section
def tellsB(op:Int):Bool:=decide (op=2) || decide (op=3) || decide (op=4) || decide (op=6) || decide (op=7) || decide (op=8)
theorem tellsx_eq{ρ:Type}{op:Int}{g:Bool→Option ρ}:f_etext_tells op g=g (tellsB op):=by
 simp only[f_etext_tells,F_etext_tells,mkF,tellsB]
 by_cases a2:op=2
 ·simp[a2]
 by_cases a3:op=3
 ·simp[a3]
 by_cases a4:op=4
 ·simp[a4]
 by_cases a6:op=6
 ·simp[a6]
 by_cases a7:op=7
 ·simp[a7]
 simp[a2,a3,a4,a6,a7]
def badN(x:GNode)(p:List UInt8×Bool):Bool:= !p.2 || (!p.1.isEmpty&& !lexN p.1) || (p.1.isEmpty&&tellsB x.Op)
theorem lexN_len{nm:List UInt8}(h:lexN nm=true):nm.length≤16:=by
 unfold lexN at h
 simp only[xA,yD]at h
 exact h.1.1.1.2
theorem turn7(β:Bool)(e:List GNode)(s:GScope)(hs:Few s)(st:List Gpart)(i:Nat)(hi:i<e.length)(hlen:e.length≤24)(p:List UInt8×Bool)(hp:nameP [] e[i] s=some p)
  (hl:badN e[i] p=false→∀{ρ:Type} (g:List Gpart→Option ρ),fLaid e[i] p.1 st g=g (layP e[i] p.1 st)) {ρ:Type} (κ:Ex×St→Option ρ):goLp P hints hint9 b9 0 ((⟨[(3,SV.loc (Root.l 3 0) [] 0 0),(8,SV.bor (Root.l 8 0) [] 0 (List.length st)),(22,SV.d (D.sl β (List.map eNode e))),(23,SV.d (D.int IntKind.i64 (List.length e))),(24,SV.d (D.int IntKind.i64 (i:Int)))],[((3,0),T.own [T.d (D.agg [D.sl β (List.map eScalar s.Scalars),D.sl β (List.map eVar s.Vars),D.sl β (List.map eChan s.Chans),D.sl β (List.map (eProc β) s.Procs),D.sl β (List.map eVar s.Locals),D.int IntKind.i64 s.Self])]),((8,0),T.own (tl epart st))],[]⟩:St)) κ=
  if badN e[i] p=true then κ (.ret,⟨[(4,SV.d (D.str [])),(5,SV.d (D.int IntKind.i64 6))],[],[]⟩)else goLp P hints hint9 b9 0 ((⟨[(3,SV.loc (Root.l 3 0) [] 0 0),(8,SV.bor (Root.l 8 0) [] 0 (List.length (layP e[i] p.1 st))),(22,SV.d (D.sl β (List.map eNode e))),(23,SV.d (D.int IntKind.i64 (List.length e))),(24,SV.d (D.int IntKind.i64 ((i+1:Nat):Int)))],[((3,0),T.own [T.d (D.agg [D.sl β (List.map eScalar s.Scalars),D.sl β (List.map eVar s.Vars),D.sl β (List.map eChan s.Chans),D.sl β (List.map (eProc β) s.Procs),D.sl β (List.map eVar s.Locals),D.int IntKind.i64 s.Self])]),((8,0),T.own (tl epart (layP e[i] p.1 st)))],[]⟩:St)) κ:=by
 refine(goLp_turn q9_0.2).trans ?_
 have hw:IntKind.i64.wrap ((i:Int)+1)=((i+1:Nat):Int):=wrapS (by omega)
 have h1:(i:Int)<(e.length:Int):=by omega
 have h2:e[i]? =some e[i]:=xG hi
 obtain⟨nm,back⟩:=p
 cases hb:badN e[i] (nm,back)with
 |true=>
  rw[if_pos rfl]
  cases back with
  |false=>cases β <;>simp -implicitDefEqProofs (maxSteps:=1000000) [go_sem,h1,h2,hw,namex_eq hs,hp,-List.map_append,-List.map_take,-List.map_drop,-List.map_set]
  |true=>
   by_cases h0:nm=[]
   ·subst h0
    have ht:tellsB e[i].Op=true:=by simpa [badN]using hb
    cases β <;>simp -implicitDefEqProofs (maxSteps:=1000000) [go_sem,h1,h2,hw,namex_eq hs,hp,tellsx_eq,ht,-List.map_append,-List.map_take,-List.map_drop,-List.map_set]
   ·have hx:lexN nm=false:=by simpa [badN,h0]using hb
    cases β <;>simp -implicitDefEqProofs (maxSteps:=1000000) [go_sem,h1,h2,hw,namex_eq hs,hp,h0,namel_eq,hx,-List.map_append,-List.map_take,-List.map_drop,-List.map_set]
 |false=>
  rw[if_neg (by simp)]
  have hl':=fun g=>hl hb (ρ:=ρ) g
  cases back with
  |false=>simp[badN]at hb
  |true=>
   by_cases h0:nm=[]
   ·subst h0
    have ht:tellsB e[i].Op=false:=by simpa [badN]using hb
    cases β <;>simp -implicitDefEqProofs (maxSteps:=1000000) [go_sem,h1,h2,hw,namex_eq hs,hp,tellsx_eq,ht,WLaid,hl',-List.map_append,-List.map_take,-List.map_drop,-List.map_set]
   ·have hx:lexN nm=true:=by simpa [badN,h0]using hb
    cases β <;>simp -implicitDefEqProofs (maxSteps:=1000000) [go_sem,h1,h2,hw,namex_eq hs,hp,h0,namel_eq,hx,WLaid,hl',-List.map_append,-List.map_take,-List.map_drop,-List.map_set]
def tot(st:List Gpart):Nat:=(st.map fun p=>p.text.length).sum
theorem tot_app(a b:List Gpart):tot (a++b)=tot a+tot b:=by simp[tot]
theorem tot_one(p:Gpart):tot [p]=p.text.length:=by simp[tot]
theorem tot_mem{st:List Gpart}{p:Gpart}(h:p∈st):p.text.length≤tot st:=by
 induction st with
 |nil=>cases h
 |cons a r ih=>
  have e:tot (a::r)=a.text.length+tot r:=by simp[tot]
  rw[e]
  rcases List.mem_cons.1 h with rfl |h
  ·omega
  ·have:=ih h;omega
theorem lay_len{x:GNode}{nm:List UInt8}{st:List Gpart}(h0:0≤takesK x.Op)(h:takesK x.Op≤(st.length:Int)):(layP x nm st).length=st.length - (takesK x.Op).toNat+1:=by
 rcases takes_cases x.Op with⟨e,q⟩ |⟨e,q⟩ |⟨e,q⟩ |⟨e,q⟩
 ·omega
 ·unfold layP
  rw[if_neg q.2.2,if_neg (by omega),if_neg (by omega),if_neg (by omega),e]
  simp
 ·have hpos:0<st.length:=by omega
  have hl:st.getLast? =some st[st.length - 1]:=by rw[List.getLast?_eq_getElem?,xG (by omega)]
  unfold layP
  rw[e]
  rcases q with q |q |q
  ·rw[if_pos q,hl];simp
  ·rw[if_neg (by omega),if_pos q,hl];simp
  ·rw[if_neg (by omega),if_neg (by omega),if_pos q,hl];simp
 ·have hpos:2≤st.length:=by omega
  have hl:st.getLast? =some st[st.length - 1]:=by rw[List.getLast?_eq_getElem?,xG (by omega)]
  have hl2:st[st.length - 2]? =some st[st.length - 2]:=xG (by omega)
  unfold layP
  rw[e,if_neg (by omega),if_neg (by omega),if_neg (by omega),if_pos q,hl,hl2]
  simp
theorem tot_split{st:List Gpart}(n:Nat):tot (st.take n)+tot (st.drop n)=tot st:=by rw[←tot_app,yP]
theorem lay_tot{x:GNode}{nm:List UInt8}{st:List Gpart}(hn:nm.length≤16)(h0:0≤takesK x.Op)(h:takesK x.Op≤(st.length:Int)):tot (layP x nm st)≤tot st+64:=by
 rcases takes_cases x.Op with⟨e,q⟩ |⟨e,q⟩ |⟨e,q⟩ |⟨e,q⟩
 ·omega
 ·unfold layP
  rw[if_neg q.2.2,if_neg (by omega),if_neg (by omega),if_neg (by omega),tot_app,tot_one]
  have:(leafT x nm).length≤64:=by
   unfold leafT
   have d1:=decI_len x.N
   have d2:=decI_len (Int.tmod x.N 16)
   repeat' split
   all_goals simp
   all_goals omega
  simp only
  omega
 ·have hpos:0<st.length:=by omega
  have hl:st.getLast? =some st[st.length - 1]:=by rw[List.getLast?_eq_getElem?,xG (by omega)]
  have hd:tot (st.drop (st.length - 1))=st[st.length - 1].text.length:=by
   rw[xW (by omega),List.drop_eq_nil_of_le (by omega),tot_one]
  have hs:=tot_split (st:=st) (st.length - 1)
  rw[hd]at hs
  have b1:=fun b=>inB_len st[st.length - 1].text b
  unfold layP
  rcases q with q |q |q
  ·rw[if_pos q,hl]
   simp only[tot_app,tot_one,xP,xZ,yN]
   omega
  ·rw[if_neg (by omega),if_pos q,hl]
   have:=b1 (decide (st[st.length - 1].binds<6))
   simp only[tot_app,tot_one,xP,xZ,yN]
   omega
  ·rw[if_neg (by omega),if_neg (by omega),if_pos q,hl]
   have:=b1 (decide (st[st.length - 1].binds<6) || decide (st[st.length - 1].op=1))
   simp only[tot_app,tot_one,xP,xZ,yN]
   omega
 ·have hpos:2≤st.length:=by omega
  have hl:st.getLast? =some st[st.length - 1]:=by rw[List.getLast?_eq_getElem?,xG (by omega)]
  have hl2:st[st.length - 2]? =some st[st.length - 2]:=xG (by omega)
  have hd:tot (st.drop (st.length - 2))=st[st.length - 2].text.length+st[st.length - 1].text.length:=by
   rw[xW (by omega),xW (by omega),List.drop_eq_nil_of_le (by omega)]
   simp[tot,show st.length - 2+1=st.length - 1 by omega]
  have hs:=tot_split (st:=st) (st.length - 2)
  rw[hd]at hs
  unfold layP
  rw[if_neg (by omega),if_neg (by omega),if_neg (by omega),if_pos q,hl,hl2]
  have c1:=inB_len st[st.length - 2].text (joinL x.Op st[st.length - 2].binds)
  have c2:=inB_len st[st.length - 1].text (joinR x.Op st[st.length - 1].binds)
  have c3:=sgnT_len x.Op
  simp only[tot_app,tot_one,joinT,xP,xZ,yN]
  omega
theorem name_some{x:GNode}{s:GScope}{st:List Int}(hN:x.N≤9223372036854775807)(d:List UInt8)(h0:0≤takesK x.Op)(h:(nodeK x s st).2=0):∃p,nameP d x s=some p:=by
 have var:∀l:List GVar,∀v,varAt l x.N s=some v→0≤x.N∧∃y,l[x.N.toNat]? =some y:=fun l v hv=>by
  unfold varAt at hv
  split at hv
  ·rename_i h0
   simp only[xB]at hv
   obtain⟨u,hu,_⟩:=hv
   exact⟨h0,u,hu⟩
  ·cases hv
 have vk:∀l:List GVar,(varK (varAt l x.N s)).2=0→0≤x.N∧∃y,l[x.N.toNat]? =some y:=fun l hv=>by
  cases hh:varAt l x.N s with
  |none=>rw[hh]at hv;simp[varK]at hv
  |some v=>exact var l v hh
 unfold nameP
 by_cases h3:x.Op=3
 ·rw[if_pos (.inr h3)]
  unfold nodeK at h
  rw[if_pos h3]at h
  split at h
  ·rw[itemK_def]at h
   cases hh:varAt s.Vars x.N s with
   |none=>rw[hh]at h;simp at h
   |some v=>
    obtain⟨q1,y,q2⟩:=var _ _ hh
    rw[if_pos q1,q2]
    exact⟨_,rfl⟩
  ·simp at h
 unfold nodeK at h
 rw[if_neg h3]at h
 by_cases ht:takesK x.Op=0
 ·rw[if_pos ht]at h
  unfold leafK at h
  by_cases h2:x.Op=2
  ·rw[if_pos (.inl h2)]
   rw[if_neg (by omega),if_pos h2]at h
   obtain⟨q1,y,q2⟩:=vk _ h
   rw[if_pos q1,q2]
   exact⟨_,rfl⟩
  rw[if_neg (fun q=>q.elim h2 h3)]
  by_cases h4:x.Op=4
  ·rw[if_pos h4]
   rw[if_neg (by omega),if_neg h2,if_pos h4]at h
   obtain⟨q1,y,q2⟩:=vk _ h
   rw[if_pos q1,q2]
   exact⟨_,rfl⟩
  rw[if_neg h4]
  by_cases h1:x.Op=1
  ·rw[if_neg (by omega),if_neg (by omega),if_neg (by omega)]
   exact⟨_,rfl⟩
  rw[if_neg h1,if_neg h2,if_neg h4]at h
  unfold namedK at h
  by_cases h6:x.Op=6
  ·rw[if_pos h6]
   rw[if_neg (by omega),if_pos h6]at h
   split at h
   ·rename_i q1
    rw[if_pos q1]
    split at h
    ·rename_i c hc
     rw[hc]
     exact⟨_,rfl⟩
    ·simp at h
   ·simp at h
  rw[if_neg h6]
  by_cases h7:x.Op=7
  ·rw[if_pos h7]
   rw[if_neg (by omega),if_neg h6,if_pos h7]at h
   split at h
   ·rename_i q1
    rw[if_pos (tdiv16 q1.1 hN)]
    split at h
    ·rename_i c hc
     rw[hc]
     exact⟨_,rfl⟩
    ·simp at h
   ·simp at h
  rw[if_neg h7]
  by_cases h8:x.Op=8
  ·rw[if_pos h8]
   rw[if_neg (by omega),if_neg h6,if_neg h7,if_pos h8]at h
   split at h
   ·rename_i q1
    rw[if_pos q1.1,xG (by omega)]
    exact⟨_,rfl⟩
   ·simp at h
  rw[if_neg h8]
  exact⟨_,rfl⟩
 ·have:¬(1≤x.Op∧x.Op≤8):=by
   rcases takes_cases x.Op with⟨e,q⟩ |⟨e,q⟩ |⟨e,q⟩ |⟨e,q⟩ <;>omega
  rw[if_neg (by omega),if_neg (by omega),if_neg (by omega),if_neg (by omega),if_neg (by omega)]
  exact⟨_,rfl⟩
theorem step_facts{x:GNode}{s:GScope}{st:List Int}(h0:(stepK x s st).1=0):0≤takesK x.Op∧takesK x.Op≤(st.length:Int)∧(nodeK x s st).2=0∧(stepK x s st).2.length=st.length - (takesK x.Op).toNat+1:=by
 unfold stepK at h0 ⊢
 split at h0;· simp at h0
 rename_i h1
 split at h0;· simp at h0
 rename_i h2
 split at h0
 ·rename_i h3;simp only at h0;exact absurd h0 h3
 ·rename_i h3
  rw[if_neg h1,if_neg h2,if_neg h3]
  refine⟨by omega,by omega,by simpa using h3,?_⟩
  simp
def layAll(s:GScope):List GNode→List Gpart→Option (List Gpart)
 | [],st=>some st
 |x::r,st=>match nameP [] x s with |some p=>if badN x p=true then none else layAll s r (layP x p.1 st) |none=>none
theorem last7(β:Bool)(e:List GNode)(s:GScope)(st:List Gpart){ρ:Type}(κ:Ex×St→Option ρ):goLp P hints hint9 b9 0 ((⟨[(3,SV.loc (Root.l 3 0) [] 0 0),(8,SV.bor (Root.l 8 0) [] 0 (List.length st)),(22,SV.d (D.sl β (List.map eNode e))),(23,SV.d (D.int IntKind.i64 (List.length e))),(24,SV.d (D.int IntKind.i64 (e.length:Int)))],[((3,0),T.own [T.d (D.agg [D.sl β (List.map eScalar s.Scalars),D.sl β (List.map eVar s.Vars),D.sl β (List.map eChan s.Chans),D.sl β (List.map (eProc β) s.Procs),D.sl β (List.map eVar s.Locals),D.int IntKind.i64 s.Self])]),((8,0),T.own (tl epart st))],[]⟩:St)) κ=κ (.exit 0,(⟨[(3,SV.loc (Root.l 3 0) [] 0 0),(8,SV.bor (Root.l 8 0) [] 0 (List.length st)),(22,SV.d (D.sl β (List.map eNode e))),(23,SV.d (D.int IntKind.i64 (List.length e))),(24,SV.d (D.int IntKind.i64 (List.length e))),(25,SV.d (D.bool false))],[((3,0),T.own [T.d (D.agg [D.sl β (List.map eScalar s.Scalars),D.sl β (List.map eVar s.Vars),D.sl β (List.map eChan s.Chans),D.sl β (List.map (eProc β) s.Procs),D.sl β (List.map eVar s.Locals),D.int IntKind.i64 s.Self])]),((8,0),T.own (tl epart st))],[]⟩:St)):=by
 refine(goLp_turn q9_0.2).trans ?_
 cases β <;>simp -implicitDefEqProofs (maxSteps:=1000000) [go_sem,-List.map_append,-List.map_take,-List.map_drop,-List.map_set]
theorem loop7(β:Bool)(e:List GNode)(s:GScope)(hs:Few s)(hN:∀x∈e,Tr7.inR x.N=true)(hlen:e.length≤24){ρ:Type}(κ:Ex×St→Option ρ):∀(n i:Nat) (st:List Gpart) (ks:List Int),e.length - i=n→i≤e.length→st.length=ks.length→ks.length≤12→tot st≤64 * i→(runK s (e.drop i) ks).1=0→
  goLp P hints hint9 b9 0 ((⟨[(3,SV.loc (Root.l 3 0) [] 0 0),(8,SV.bor (Root.l 8 0) [] 0 (List.length st)),(22,SV.d (D.sl β (List.map eNode e))),(23,SV.d (D.int IntKind.i64 (List.length e))),(24,SV.d (D.int IntKind.i64 (i:Int)))],[((3,0),T.own [T.d (D.agg [D.sl β (List.map eScalar s.Scalars),D.sl β (List.map eVar s.Vars),D.sl β (List.map eChan s.Chans),D.sl β (List.map (eProc β) s.Procs),D.sl β (List.map eVar s.Locals),D.int IntKind.i64 s.Self])]),((8,0),T.own (tl epart st))],[]⟩:St)) κ=match layAll s (e.drop i) st with
   |some st'=>κ (.exit 0,(⟨[(3,SV.loc (Root.l 3 0) [] 0 0),(8,SV.bor (Root.l 8 0) [] 0 (List.length st')),(22,SV.d (D.sl β (List.map eNode e))),(23,SV.d (D.int IntKind.i64 (List.length e))),(24,SV.d (D.int IntKind.i64 (List.length e))),(25,SV.d (D.bool false))],[((3,0),T.own [T.d (D.agg [D.sl β (List.map eScalar s.Scalars),D.sl β (List.map eVar s.Vars),D.sl β (List.map eChan s.Chans),D.sl β (List.map (eProc β) s.Procs),D.sl β (List.map eVar s.Locals),D.int IntKind.i64 s.Self])]),((8,0),T.own (tl epart st'))],[]⟩:St))
   |none=>κ (.ret,⟨[(4,SV.d (D.str [])),(5,SV.d (D.int IntKind.i64 6))],[],[]⟩):=by
 intro n
 induction n with
 |zero=>
  intro i st ks hn hi hl hk htot hr
  obtain rfl:i=e.length:=by omega
  rw[last7,List.drop_length,layAll]
 |succ n ih=>
  intro i st ks hn hi hl hk htot hr
  have hlt:i<e.length:=by omega
  have hx:=hN _ (List.getElem_mem hlt)
  have hx':e[i].N≤9223372036854775807:=by
   simp only[Tr7.inR,xA,yD]at hx
   exact hx.2
  rw[xW hlt,runK]at hr
  have h0:(stepK e[i] s ks).1=0:=by
   by_cases h0:(stepK e[i] s ks).1=0
   ·exact h0
   ·rw[if_neg h0]at hr;exact absurd hr h0
  rw[if_pos h0]at hr
  obtain⟨f1,f2,f3,f4⟩:=step_facts h0
  obtain⟨p,hp⟩:=name_some (s:=s) hx' [] f1 f3
  have htk:takesK e[i].Op≤(st.length:Int):=by rw[hl];exact f2
  have hnm:badN e[i] p=false→p.1.length≤16:=fun hb=>by
   by_cases h:p.1=[]
   ·simp[h]
   ·refine lexN_len ?_
    simp only[badN,Bool.or_eq_false_iff,Bool.and_eq_false_iff]at hb
    rcases hb.1.2 with q |q
    ·simp[h]at q
    ·simpa using q
  rw[turn7 β e s hs st i hlt hlen p hp (fun hb ρ g=>laidx_eq hx (by have:=hnm hb;omega) (fun q hq=>by have:=tot_mem hq;omega) (by omega) htk),xW hlt,layAll,hp]
  simp only
  cases hb:badN e[i] p with
  |true=>simp
  |false=>
   rw[if_neg (by simp),if_neg (by simp)]
   have l1:=lay_len (nm:=p.1) f1 htk
   exact ih (i+1) _ (stepK e[i] s ks).2 (by omega) (by omega) (by rw[l1,f4,hl]) (step_ok0 hk h0) (by have:=lay_tot (x:=e[i]) (st:=st) (hnm hb) f1 htk;omega) hr
theorem layAll_len{s:GScope}:∀{e:List GNode} {st st':List Gpart} {ks:List Int},st.length=ks.length→(runK s e ks).1=0→layAll s e st=some st'→st'.length=(runK s e ks).2.length
 | [],st,st',ks,hl,_,h=>by
  simp only[layAll,xJ]at h
  subst h
  exact hl
 |x::r,st,st',ks,hl,h0,h=>by
  rw[layAll]at h
  rw[runK]at h0 ⊢
  by_cases hx:(stepK x s ks).1=0
  ·rw[if_pos hx]at h0 ⊢
   obtain⟨f1,f2,f3,f4⟩:=step_facts hx
   split at h
   ·split at h
    ·cases h
    ·exact layAll_len (by rw[lay_len f1 (by rw[hl];exact f2),f4,hl]) h0 h
   ·cases h
  ·rw[if_neg hx]at h0;exact absurd h0 hx
def textK(e:List GNode)(s:GScope):List UInt8×Int:=
 if(kindK e s).2≠0 then([],(kindK e s).2)else match layAll s e []with |some (p::_)=>(p.text,0) |some []=>([],0) |none=>([],6)
theorem kind_ok{e:List GNode}{s:GScope}(h:(kindK e s).2=0):e.length≤24∧e≠[]∧(runK s e []).1=0∧(runK s e []).2.length=1:=by
 unfold kindK at h
 split at h;· simp at h
 rename_i h1
 split at h;· simp at h
 rename_i h2
 split at h
 ·rename_i h3;exact absurd h h3
 rename_i h3
 split at h;· simp at h
 rename_i h4
 have h3':(runK s e []).1=0:=by simpa using h3
 have:=(run_ok0 (s:=s) (e:=e) (st:=[]) (by simp) h3').2 h2
 exact⟨by omega,h2,h3',by omega⟩
theorem Text_eq(β:Bool)(e:List GNode)(s:GScope)(hs:Few s)(hN:∀x∈e,Tr7.inR x.N=true){ρ:Type}(κ:List T×List Ob→Option ρ):
  cbK (call 9 [.sl β (List.map eNode e),.agg [.sl β (List.map eScalar s.Scalars),.sl β (List.map eVar s.Vars),.sl β (List.map eChan s.Chans),.sl β (List.map (eProc β) s.Procs),.sl β (List.map eVar s.Locals),.int .i64 s.Self]] []) κ=κ ([.d (.str (textK e s).1),.d (.int .i64 (textK e s).2)],[]):=by
 refine(ge9 _ _ _ rfl).trans ?_
 have hN':∀x∈e,x.N≤9223372036854775807:=fun x hx=>by
  have:=hN x hx
  simp only[Tr7.inR,xA,yD]at this
  exact this.2
 have hk:=fun κ=>Kind_eq (ρ:=ρ) β e s hs.sc hN' κ
 unfold textK
 by_cases h0:(kindK e s).2=0
 ·obtain⟨k1,k2,k3,k4⟩:=kind_ok h0
  have hl:=fun κ=>loop7 (ρ:=ρ) β e s hs hN k1 κ _ 0 [] [] rfl (Nat.zero_le _) rfl (by simp) (by simp[tot]) k3
  simp only[Int.natCast_zero,List.drop_zero,tl_nil,yN]at hl
  cases hla:layAll s e []with
  |none=>
   rw[hla]at hl
   cases β <;>simp -implicitDefEqProofs (maxSteps:=1000000) [go_sem,hk,h0,hl,-List.map_append,-List.map_take,-List.map_drop,-List.map_set]
  |some st=>
   have hlen:=layAll_len rfl k3 hla
   rw[k4]at hlen
   obtain⟨p,rfl⟩:=List.length_eq_one_iff.1 hlen
   rw[hla]at hl
   cases β <;>simp -implicitDefEqProofs (maxSteps:=1000000) [go_sem,hk,h0,hl,-List.map_append,-List.map_take,-List.map_drop,-List.map_set]
 ·cases β <;>simp -implicitDefEqProofs (maxSteps:=1000000) [go_sem,hk,h0,-List.map_append,-List.map_take,-List.map_drop,-List.map_set]
end
end Go.Etx
namespace Go.Etx
open Go Go.Am Go.Proofs
def strK(x:GNode):Int:=if 11≤x.Op∧x.Op≤19 then sgnB x.Op else if x.Op=9∨x.Op=10 then 6 else leafB x
section
variable{ρ:Type}
theorem strr_eq{x:GNode}{g:Int→Option ρ}:f_r11_strength x g=g (strK x):=by
 simp only[f_r11_strength,F_r11_strength,mkF,strK,leafB]
 by_cases h:11≤x.Op∧x.Op≤19
 ·rw[if_pos h]
  have:x.Op=11∨x.Op=12∨x.Op=13∨x.Op=14∨x.Op=15∨x.Op=16∨x.Op=17∨x.Op=18∨x.Op=19:=by omega
  rcases this with q |q |q |q |q |q |q |q |q <;>simp[q,sgnB]
 ·rw[if_neg h]
  simp only[show¬x.Op=11 by omega,show¬x.Op=12 by omega,show¬x.Op=13 by omega,show¬x.Op=14 by omega,show¬x.Op=15 by omega,show¬x.Op=16 by omega,show¬x.Op=17 by omega,show¬x.Op=18 by omega,show¬x.Op=19 by omega,if_false]
  by_cases h9:x.Op=9
  ·simp[h9]
  by_cases h10:x.Op=10
  ·simp[h10]
  by_cases h1:x.Op=1
  ·by_cases hn:x.N<0 <;>simp[h1,hn]
  ·simp[h9,h10,h1]
theorem signr_eq{op:Int}(h:11≤op∧op≤19){g:List UInt8→Option ρ}:f_r11_sign op g=g (sgnT op):=by
 simp only[f_r11_sign,F_r11_sign,mkF]
 have:op=11∨op=12∨op=13∨op=14∨op=15∨op=16∨op=17∨op=18∨op=19:=by omega
 rcases this with q |q |q |q |q |q |q |q |q <;>subst q <;>simp[sgnT]
theorem aroundr_eq{t:List UInt8}{b:Bool}(h:t.length≤100000){g:List UInt8→Option ρ}:f_r11_around t b g=g (inB t b):=by
 simp only[f_r11_around,F_r11_around,mkF,inB]
 cases b
 ·simp
 ·rw[if_pos rfl,if_pos (by omega),if_pos (by omega),if_pos rfl]
def decs:Nat→List UInt8
 |0=>[]
 |u+1=>decs ((u+1) / 10)++[UInt8.ofNat (48+(u+1) % 10)]
termination_by u=>u
decreasing_by omega
theorem decs_pos{u:Nat}(h:u≠0):decs u=decs (u / 10)++[UInt8.ofNat (48+u % 10)]:=by
 cases u with
 |zero=>exact absurd rfl h
 |succ u=>rw[decs]
theorem decs_F:∀(k u:Nat),u≠0→u<10 ^ k→decs u=Tr7.decF k u
 |0,u,h,hu=>by simp at hu;exact absurd hu h
 |k+1,u,h,hu=>by
  rw[decs_pos h,Tr7.decF]
  by_cases h10:u<10
  ·rw[if_pos h10,show u / 10=0 by omega,show u % 10=u by omega,decs,List.nil_append]
  ·rw[if_neg h10,decs_F k (u / 10) (by omega) (by rw[Nat.pow_succ]at hu;omega)]
theorem decs_I{n:Int}(h:Tr7.inR n=true):Tr7.decI n=if n=0 then [48]else if n<0 then 45::decs n.natAbs else decs n.natAbs:=by
 simp only[Tr7.inR,xA,yD]at h
 have e20:(10:Nat) ^ 20=100000000000000000000:=by decide
 unfold Tr7.decI
 by_cases h0:n=0
 ·subst h0;rfl
 rw[if_neg h0,decs_F 20 n.natAbs (by omega) (by rw[e20];omega)]
 by_cases hn:n<0
 ·rw[if_pos hn,if_pos hn]
 ·rw[if_neg hn,if_neg hn,show n.toNat=n.natAbs by omega]
theorem decs_len:∀(k u:Nat),u<10 ^ k→(decs u).length≤k
 |0,u,hu=>by simp at hu;subst hu;simp[decs]
 |k+1,u,hu=>by
  by_cases h:u=0
  ·subst h;simp[decs]
  ·rw[decs_pos h]
   have:=decs_len k (u / 10) (by rw[Nat.pow_succ]at hu;omega)
   simp only[xP,xZ,yN];omega
theorem dig8{d:Int}(h0:0≤d)(h9:d≤9):UInt8.ofNat (IntKind.u8.wrap (IntKind.i64.wrap (48+d))).toNat=UInt8.ofNat (48+d.toNat):=by
 obtain⟨n,rfl⟩:=Int.eq_ofNat_of_zero_le h0
 have hn:n≤9:=by omega
 have:∀n:Fin 10,UInt8.ofNat (IntKind.u8.wrap (IntKind.i64.wrap (48+((n.val:Nat):Int)))).toNat=UInt8.ofNat (48+((n.val:Nat):Int).toNat):=by decide
 exact this ⟨n,by omega⟩
theorem decr_eq{n:Int}(h:Tr7.inR n=true){g:List UInt8→Option ρ}:f_r01_Decimal n g=g (Tr7.decI n):=by
 simp only[f_r01_Decimal,F_r01_Decimal,mkF]
 rw[decs_I h]
 simp only[Tr7.inR,xA,yD]at h
 have e20:(10:Nat) ^ 20=100000000000000000000:=by decide
 refine(iterC_is (fun v:List UInt8×Int=> -9223372036854775808≤v.2∧v.2≤9223372036854775807∧(decs v.2.natAbs).length+v.1.length≤20)
  (fun v=>if n=0 then g [48]else if n<0 then g (45::(decs v.2.natAbs++v.1))else g (decs v.2.natAbs++v.1)) (fun v=>v.2.natAbs) ?_ (v:=(([]:List UInt8),n)) ⟨h.1,h.2,by simpa using decs_len 20 n.natAbs (by rw[e20];omega)⟩).trans ?_
 ·rintro⟨l,m⟩ k ⟨h1,h2,hl⟩ hk
  simp only at h1 h2 hl ⊢
  by_cases h0:m=0
  ·subst h0
   rw[if_pos rfl]
   simp only[Int.natAbs_zero,decs,List.nil_append,yN,Nat.zero_add]at hl ⊢
   by_cases a:n=0
   ·rw[if_pos a,if_pos a]
   ·rw[if_neg a,if_neg a]
    by_cases b:n<0
    ·rw[if_pos b,if_pos b,if_pos (by omega)]
    ·rw[if_neg b,if_neg b]
  ·rw[if_neg h0]
   have ht:(Int.tmod m 10).natAbs=m.natAbs % 10:=by rw[Int.natAbs_tmod];rfl
   have hd:(Int.tdiv m 10).natAbs=m.natAbs / 10:=by rw[Int.natAbs_tdiv];rfl
   have hwd:IntKind.i64.wrap (Int.tdiv m 10)=Int.tdiv m 10:=wrap_i64 (by omega) (by omega)
   have hp:=decs_pos (u:=m.natAbs) (by omega)
   rw[hp]at hl ⊢
   simp only[xP,xZ,yN]at hl
   rw[hwd]
   have hk':∀c:UInt8,k (c::l,Int.tdiv m 10)=if n=0 then g [48]else if n<0 then g (45::(decs (m.natAbs / 10)++c::l))else g (decs (m.natAbs / 10)++c::l):=fun c=>by
    rw[hk _ ⟨by omega,by omega,by simp only[hd,xZ];omega⟩ (by simp only[hd];omega)]
    simp only[hd]
   by_cases hneg:Int.tmod m 10<0
   ·have hwn:IntKind.i64.wrap (-Int.tmod m 10)=-Int.tmod m 10:=wrap_i64 (by omega) (by omega)
    rw[if_pos hneg,if_pos (by omega),hwn,dig8 (by omega) (by omega),show(-Int.tmod m 10).toNat=m.natAbs % 10 by omega,hk']
    simp
   ·rw[if_neg hneg,if_pos (by omega),dig8 (by omega) (by omega),show(Int.tmod m 10).toNat=m.natAbs % 10 by omega,hk']
    simp
 ·simp only[List.append_nil]
  by_cases a:n=0
  ·rw[if_pos a,if_pos a]
  ·rw[if_neg a,if_neg a]
   by_cases b:n<0
   ·rw[if_pos b,if_pos b]
   ·rw[if_neg b,if_neg b]
end
end Go.Etx
namespace Go.Etx
open Go Go.Am Go.Proofs
inductive Ex where
 |leaf (x:GNode)
 |un (x:GNode) (a:Ex)
 |bin (x:GNode) (a b:Ex)
def Ex.flat:Ex→List GNode
 | .leaf x=>[x]
 | .un x a=>a.flat++[x]
 | .bin x a b=>a.flat++b.flat++[x]
def Ex.top:Ex→GNode
 | .leaf x=>x
 | .un x _=>x
 | .bin x _ _=>x
def Ex.wf:Ex→Prop
 | .leaf x=>takesK x.Op=0
 | .un x a=>takesK x.Op=1∧a.wf
 | .bin x a b=>takesK x.Op=2∧a.wf∧b.wf
def nameN(s:GScope)(x:GNode):List UInt8:=match nameP [] x s with |some p=>p.1 |none=>[]
def partOf(s:GScope):Ex→Gpart
 | .leaf x=>⟨leafT x (nameN s x),x.Op,leafB x⟩
 | .un x a=>if x.Op=3 then⟨nameN s x++91::((partOf s a).text++[93]),3,7⟩
  else if x.Op=9 then⟨33::inB (partOf s a).text (decide ((partOf s a).binds<6)),9,6⟩
  else⟨45::inB (partOf s a).text (decide ((partOf s a).binds<6) || decide ((partOf s a).op=1)),10,6⟩
 | .bin x a b=>⟨joinT x.Op (partOf s a) (partOf s b),x.Op,sgnB x.Op⟩
theorem Ex.flat_pos(t:Ex):0<t.flat.length:=by cases t <;>simp only[Ex.flat,xP,xZ,yN] <;>omega
theorem Ex.flat_last(t:Ex):t.flat[t.flat.length - 1]? =some t.top:=by cases t <;>simp[Ex.flat,Ex.top]
theorem part_op{s:GScope}{t:Ex}(h:t.wf):(partOf s t).op=t.top.Op:=by
 cases t with
 |leaf x=>rfl
 |un x a=>
  obtain⟨h1,h2⟩:=h
  rcases takes_cases x.Op with⟨e,q⟩ |⟨e,q⟩ |⟨e,q⟩ |⟨e,q⟩
  ·omega
  ·omega
  ·rcases q with q |q |q <;>simp[partOf,Ex.top,q]
  ·omega
 |bin x a b=>rfl
theorem part_binds{s:GScope}{t:Ex}(h:t.wf):(partOf s t).binds=strK t.top:=by
 cases t with
 |leaf x=>
  have h:takesK x.Op=0:=h
  rcases takes_cases x.Op with⟨e,q⟩ |⟨e,q⟩ |⟨e,q⟩ |⟨e,q⟩
  ·omega
  ·show leafB x=strK x
   unfold strK
   rw[if_neg (by omega),if_neg (by omega)]
  ·omega
  ·omega
 |un x a=>
  obtain⟨h1,h2⟩:=h
  rcases takes_cases x.Op with⟨e,q⟩ |⟨e,q⟩ |⟨e,q⟩ |⟨e,q⟩
  ·omega
  ·omega
  ·rcases q with q |q |q <;>simp[partOf,Ex.top,q,strK,leafB]
  ·omega
 |bin x a b=>
  obtain⟨h1,h2⟩:=h
  rcases takes_cases x.Op with⟨e,q⟩ |⟨e,q⟩ |⟨e,q⟩ |⟨e,q⟩
  ·omega
  ·omega
  ·omega
  ·show sgnB x.Op=strK x
   unfold strK
   rw[if_pos q]
def layE(x:GNode)(ts:List Ex):List Ex:=
 if takesK x.Op=0 then ts++[.leaf x]
 else if takesK x.Op=1 then(match ts.getLast? with |some a=>ts.take (ts.length - 1)++[.un x a] |none=>ts)
 else(match ts[ts.length - 2]?,ts.getLast? with |some a,some b=>ts.take (ts.length - 2)++[.bin x a b] |_,_=>ts)
def treesL:List GNode→List Ex→List Ex
 | [],ts=>ts
 |x::r,ts=>treesL r (layE x ts)
theorem last_split{α:Type}{l:List α}(h:1≤l.length):∃m a,l=m++[a]:=⟨l.dropLast,l.getLast (by intro e;subst e;simp at h),(List.dropLast_concat_getLast _).symm⟩
theorem last_split2{α:Type}{l:List α}(h:2≤l.length):∃m a b,l=m++[a,b]:=by
 obtain⟨m,b,rfl⟩:=last_split (l:=l) (by omega)
 obtain⟨m',a,rfl⟩:=last_split (l:=m) (by simp at h;omega)
 exact⟨m',a,b,by simp⟩
theorem layE_1{x:GNode}(h:takesK x.Op=1){m:List Ex}{a:Ex}:layE x (m++[a])=m++[.un x a]:=by
 unfold layE
 rw[if_neg (by omega),if_pos h]
 simp
theorem layE_2{x:GNode}(h:takesK x.Op=2){m:List Ex}{a b:Ex}:layE x (m++[a,b])=m++[.bin x a b]:=by
 unfold layE
 rw[if_neg (by omega),if_neg (by omega)]
 have h1:(m++[a,b])[(m++[a,b]).length - 2]? =some a:=by simp
 have h2:(m++[a,b]).getLast? =some b:=by simp
 rw[h1,h2]
 simp
theorem layE_0{x:GNode}(h:takesK x.Op=0){ts:List Ex}:layE x ts=ts++[.leaf x]:=by unfold layE;rw[if_pos h]
theorem layE_all{x:GNode}{ts:List Ex}(h0:0≤takesK x.Op)(h:takesK x.Op≤(ts.length:Int))(hw:∀t∈ts,t.wf):
  (layE x ts).flatMap Ex.flat=ts.flatMap Ex.flat++[x]∧(∀t∈layE x ts,t.wf)∧(layE x ts).length=ts.length - (takesK x.Op).toNat+1∧∀s,layP x (nameN s x) (ts.map (partOf s))=(layE x ts).map (partOf s):=by
 rcases takes_cases x.Op with⟨e,q⟩ |⟨e,q⟩ |⟨e,q⟩ |⟨e,q⟩
 ·omega
 ·rw[layE_0 e,e]
  refine⟨by simp[Ex.flat],fun t ht=> ?_,by simp,fun s=> ?_⟩
  ·rcases List.mem_append.1 ht with ht |ht
   ·exact hw t ht
   ·simp only[yQ]at ht;subst ht;exact e
  ·unfold layP
   rw[if_neg q.2.2,if_neg (by omega),if_neg (by omega),if_neg (by omega)]
   simp[partOf]
 ·obtain⟨m,a,rfl⟩:=last_split (l:=ts) (by omega)
  rw[layE_1 e,e]
  refine⟨by simp[Ex.flat],fun t ht=> ?_,by simp,fun s=> ?_⟩
  ·rcases List.mem_append.1 ht with ht |ht
   ·exact hw t (by simp[ht])
   ·simp only[yQ]at ht;subst ht;exact⟨e,hw a (by simp)⟩
  ·unfold layP
   rcases q with q |q |q
   ·rw[if_pos q];simp[partOf,q]
   ·rw[if_neg (by omega),if_pos q];simp[partOf,q]
   ·rw[if_neg (by omega),if_neg (by omega),if_pos q];simp[partOf,q]
 ·obtain⟨m,a,b,rfl⟩:=last_split2 (l:=ts) (by omega)
  rw[layE_2 e,e]
  refine⟨by simp[Ex.flat],fun t ht=> ?_,by simp,fun s=> ?_⟩
  ·rcases List.mem_append.1 ht with ht |ht
   ·exact hw t (by simp[ht])
   ·simp only[yQ]at ht;subst ht;exact⟨e,hw a (by simp),hw b (by simp)⟩
  ·unfold layP
   rw[if_neg (by omega),if_neg (by omega),if_neg (by omega),if_pos q]
   have h1:(List.map (partOf s) (m++[a,b]))[(List.map (partOf s) (m++[a,b])).length - 2]? =some (partOf s a):=by simp
   have h2:(List.map (partOf s) (m++[a,b])).getLast? =some (partOf s b):=by simp
   rw[h1,h2]
   simp[partOf]
def badE(s:GScope)(x:GNode):Bool:=match nameP [] x s with |some p=>badN x p |none=>true
theorem trees_all{s:GScope}:∀{e:List GNode} {ts:List Ex} {ks:List Int},(∀x∈e,x.N≤9223372036854775807)→ts.length=ks.length→(∀t∈ts,t.wf)→(runK s e ks).1=0→
  (treesL e ts).flatMap Ex.flat=ts.flatMap Ex.flat++e∧(∀t∈treesL e ts,t.wf)∧(treesL e ts).length=(runK s e ks).2.length∧layAll s e (ts.map (partOf s))=if e.any (badE s)=true then none else some ((treesL e ts).map (partOf s))
 | [],ts,ks,_,hl,hw,_=>⟨by simp[treesL],hw,hl,by simp[treesL,layAll]⟩
 |x::r,ts,ks,hN,hl,hw,h0=>by
  rw[runK]at h0 ⊢
  have hx:(stepK x s ks).1=0:=by
   by_cases hx:(stepK x s ks).1=0
   ·exact hx
   ·rw[if_neg hx]at h0;exact absurd h0 hx
  rw[if_pos hx]at h0 ⊢
  obtain⟨f1,f2,f3,f4⟩:=step_facts hx
  obtain⟨g1,g2,g3,g4⟩:=layE_all (x:=x) (ts:=ts) f1 (by rw[hl];exact f2) hw
  obtain⟨p,hp⟩:=name_some (s:=s) (hN x (by simp)) [] f1 f3
  have hnm:nameN s x=p.1:=by unfold nameN;rw[hp]
  have hbe:badE s x=badN x p:=by unfold badE;rw[hp]
  obtain⟨k1,k2,k3,k4⟩:=trees_all (e:=r) (ts:=layE x ts) (ks:=(stepK x s ks).2) (fun y hy=>hN y (by simp[hy])) (by rw[g3,f4,hl]) g2 h0
  refine⟨by rw[treesL,k1,g1];simp,k2,k3,?_⟩
  rw[layAll,hp]
  simp only
  have g4':=g4 s
  rw[hnm]at g4'
  rw[g4',k4,List.any_cons,hbe,treesL]
  cases badN x p <;>simp
theorem tree_of{e:List GNode}{s:GScope}(hN:∀x∈e,x.N≤9223372036854775807)(h:(kindK e s).2=0):∃t:Ex,treesL e []=[t]∧t.flat=e∧t.wf∧textK e s=if e.any (badE s)=true then([],6)else((partOf s t).text,0):=by
 obtain⟨k1,k2,k3,k4⟩:=kind_ok h
 obtain⟨q1,q2,q3,q4⟩:=trees_all (s:=s) (e:=e) (ts:=[]) (ks:=[]) hN rfl (by simp) k3
 rw[k4]at q3
 obtain⟨t,ht⟩:=List.length_eq_one_iff.1 q3
 rw[ht]at q1 q2 q4
 refine⟨t,ht,by simpa using q1,q2 t (by simp),?_⟩
 unfold textK
 rw[if_neg (by simp[h])]
 simp only[List.map_nil]at q4
 rw[q4]
 by_cases hb:e.any (badE s)=true
 ·rw[if_pos hb,if_pos hb]
 ·rw[if_neg hb,if_neg hb]
  rfl
end Go.Etx
namespace Go.Etx
open Go Go.Am Go.Proofs
def bOf:Nat→Ex→List Int
 |p,.leaf _=>[(p:Int)]
 |p,.un _ a=>bOf p a++[(p:Int)]
 |p,.bin _ a b=>bOf p a++bOf (p+a.flat.length) b++[(p:Int)]
def fl(ts:List Ex):Nat:=(ts.flatMap Ex.flat).length
def bAll:Nat→List Ex→List Int
 |_,[]=>[]
 |p,t::r=>bOf p t++bAll (p+t.flat.length) r
theorem bOf_len:∀(t:Ex) (p:Nat),(bOf p t).length=t.flat.length
 | .leaf _,p=>rfl
 | .un _ a,p=>by simp[bOf,Ex.flat,bOf_len a]
 | .bin _ a b,p=>by simp[bOf,Ex.flat,bOf_len a,bOf_len b,Nat.add_assoc]
theorem bOf_last(t:Ex)(p:Nat):(bOf p t)[t.flat.length - 1]? =some (p:Int):=by
 rw[←bOf_len t p]
 cases t with
 |leaf x=>rfl
 |un x a=>simp[bOf]
 |bin x a b=>simp[bOf]
theorem fl_cons{t:Ex}{r:List Ex}:fl (t::r)=t.flat.length+fl r:=by simp[fl]
theorem fl_app{a b:List Ex}:fl (a++b)=fl a+fl b:=by simp[fl]
theorem bAll_app:∀(a b:List Ex) (p:Nat),bAll p (a++b)=bAll p a++bAll (p+fl a) b
 | [],b,p=>by simp[bAll,fl]
 |t::r,b,p=>by simp only[List.cons_append,bAll,bAll_app r b,fl_cons,xK,Nat.add_assoc]
theorem bAll_len:∀(ts:List Ex) (p:Nat),(bAll p ts).length=fl ts
 | [],p=>rfl
 |t::r,p=>by simp only[bAll,xP,bOf_len,bAll_len r,fl_cons]
theorem bAll_at(m:List Ex)(a:Ex)(r:List Ex):(bAll 0 (m++a::r))[fl m+a.flat.length - 1]? =some (fl m:Int):=by
 have hp:=a.flat_pos
 rw[bAll_app,Nat.zero_add,xN (by rw[bAll_len];omega),bAll_len,bAll,xO (by rw[bOf_len];omega),show fl m+a.flat.length - 1 - fl m=a.flat.length - 1 by omega]
 exact bOf_last a (fl m)
theorem bAll_lay{x:GNode}{ts:List Ex}(h0:0≤takesK x.Op)(h:takesK x.Op≤(ts.length:Int)):bAll 0 (layE x ts)=bAll 0 ts++[(fl (ts.take (ts.length - (takesK x.Op).toNat)):Int)]:=by
 rcases takes_cases x.Op with⟨e,q⟩ |⟨e,q⟩ |⟨e,q⟩ |⟨e,q⟩
 ·omega
 ·rw[layE_0 e,e,bAll_app]
  simp[bAll,bOf]
 ·obtain⟨m,a,rfl⟩:=last_split (l:=ts) (by omega)
  rw[layE_1 e,e,bAll_app,bAll_app]
  simp[bAll,bOf]
 ·obtain⟨m,a,b,rfl⟩:=last_split2 (l:=ts) (by omega)
  rw[layE_2 e,e,bAll_app,bAll_app]
  simp[bAll,bOf]
section
variable{ρ:Type}{s:GScope}
set_option maxHeartbeats 1000000 in
theorem spansr_eq{e:List GNode}(hN:∀x∈e,x.N≤9223372036854775807)(h:(kindK e s).2=0){t:Ex}(ht:treesL e []=[t]){g:List Int→Bool→Option ρ}:f_r10_Spans e g=g (bOf 0 t) true:=by
 obtain⟨k1,k2,k3,k4⟩:=kind_ok h
 simp only[f_r10_Spans,F_r10_Spans,mkF,takesr_eq]
 refine iterC_is (fun v:Int×List Int=>∃(i:Nat) (ts:List Ex) (ks:List Int),v.1=i∧i≤e.length∧fl ts=i∧v.2=bAll 0 ts∧ts.length=ks.length∧(∀t∈ts,t.wf)∧(runK s (e.drop i) ks).1=0∧treesL (e.drop i) ts=[t]) (fun _=>g (bOf 0 t) true) (fun v=>e.length - v.1.toNat) ?_ (v:=((0:Int),([]:List Int)))
  ⟨0,[],[],rfl,Nat.zero_le _,rfl,rfl,rfl,by simp,k3,ht⟩
 rintro⟨_,_⟩ k ⟨i,ts,ks,rfl,hi,hfl,rfl,hlen,hw,hr,htr⟩ hk
 simp only
 by_cases hlt:i<e.length
 ·rw[if_pos (by omega),if_pos (by omega),xV,xG hlt,xS]
  rw[xW hlt,runK]at hr
  rw[xW hlt,treesL]at htr
  have hx:(stepK e[i] s ks).1=0:=by
   by_cases hx:(stepK e[i] s ks).1=0
   ·exact hx
   ·rw[if_neg hx]at hr;exact absurd hr hx
  rw[if_pos hx]at hr
  obtain⟨f1,f2,f3,f4⟩:=step_facts hx
  have f2':takesK e[i].Op≤(ts.length:Int):=by rw[hlen];exact f2
  obtain⟨g1,g2,g3,g4⟩:=layE_all (x:=e[i]) (ts:=ts) f1 f2' hw
  have hbl:=bAll_lay (x:=e[i]) (ts:=ts) f1 f2'
  have hfl2:fl (layE e[i] ts)=i+1:=by unfold fl;rw[g1];simp only[xP,xZ,yN];exact congrArg (·+1) hfl
  have hkn:=hk (((i+1:Nat):Int),bAll 0 (layE e[i] ts)) ⟨i+1,layE e[i] ts,(stepK e[i] s ks).2,rfl,hlt,hfl2,rfl,by rw[g3,f4,hlen],g2,hr,htr⟩ (by simp only[xV];omega)
  rw[if_neg (by omega)]
  have hP:∀j,j<ts.length→(bAll 0 ts)[fl (ts.take (ts.length - j)) - 1]? =some (fl (ts.take (ts.length - (j+1))):Int)∧0<fl (ts.take (ts.length - j))∧fl (ts.take (ts.length - j))≤i:=fun j hj=>by
   have e1:ts.take (ts.length - j)=ts.take (ts.length - (j+1))++[ts[ts.length - (j+1)]]:=by
    rw[show ts.length - j=ts.length - (j+1)+1 by omega,List.take_succ_eq_append_getElem (by omega)]
   have e2:ts=ts.take (ts.length - (j+1))++ts[ts.length - (j+1)]::ts.drop (ts.length - (j+1)+1):=by
    rw[←xW (by omega),yP]
   have e3:fl (ts.take (ts.length - j))=fl (ts.take (ts.length - (j+1)))+(ts[ts.length - (j+1)]).flat.length:=by
    rw[e1,fl_app,fl_cons];simp[fl]
   have hpos:=(ts[ts.length - (j+1)]).flat_pos
   have e4:fl (ts.take (ts.length - j))+fl (ts.drop (ts.length - j))=i:=by rw[←fl_app,yP,hfl]
   refine⟨?_,by omega,by omega⟩
   rw[e3]
   have:=bAll_at (ts.take (ts.length - (j+1))) ts[ts.length - (j+1)] (ts.drop (ts.length - (j+1)+1))
   rw[←e2]at this
   exact this
  have hblen:(bAll 0 ts).length=i:=by rw[bAll_len,hfl]
  obtain⟨m,hm⟩:=Int.eq_ofNat_of_zero_le f1
  have hm2:m≤2:=by rcases takes_cases e[i].Op with⟨q,_⟩ |⟨q,_⟩ |⟨q,_⟩ |⟨q,_⟩ <;>omega
  rw[hm]at f2' ⊢
  rw[hm,xV]at hbl
  refine(iterC_is (fun v:Int×Int=>∃j:Nat,v=((fl (ts.take (ts.length - j)):Int),(j:Int))∧j≤m) (fun _=>g (bOf 0 t) true) (fun v=>m - v.2.toNat) ?_ (v:=((i:Int),(0:Int))) ⟨0,by rw[Nat.sub_zero,List.take_length,hfl];rfl,Nat.zero_le _⟩)
  rintro _ k1 ⟨j,rfl,hj⟩ hk1
  simp only
  by_cases hjm:j<m
  ·obtain⟨p1,p2,p3⟩:=hP j (by omega)
   have hw1:IntKind.i64.wrap ((fl (ts.take (ts.length - j)):Int) - 1)=((fl (ts.take (ts.length - j)) - 1:Nat):Int):=wrapP p2 (by omega)
   rw[if_pos (by omega),if_neg (by omega),hw1,hblen,if_pos ⟨by omega,by omega⟩,xV,p1,xS,wrapS (by omega)]
   exact hk1 _ ⟨j+1,rfl,by omega⟩ (by simp only[xV];omega)
  ·have hjm':j=m:=by omega
   subst hjm'
   rw[if_neg (by omega),hblen,if_pos ⟨by omega,by omega⟩,wrapS (by omega),←hbl]
   exact hkn
 ·have hie:i=e.length:=by omega
  subst hie
  rw[List.drop_length,treesL]at htr
  subst htr
  have hfl':t.flat.length=e.length:=by simpa [fl]using hfl
  have hw1:IntKind.i64.wrap ((e.length:Int) - 1)=((e.length - 1:Nat):Int):=wrapP (List.length_pos_iff.2 k2) (by omega)
  have hb:bAll 0 [t]=bOf 0 t:=by simp[bAll]
  have hl:(bOf 0 t)[e.length - 1]? =some (0:Int):=by rw[←hfl'];exact bOf_last t 0
  have hpos:=List.length_pos_iff.2 k2
  have hbl:(bOf 0 t).length=e.length:=by rw[bOf_len,hfl']
  rw[if_neg (by omega),if_neg k2,hw1,hb,hbl,if_pos ⟨by omega,by omega⟩,xV,hl,xS,if_pos rfl]
end
end Go.Etx
namespace Go.Etx
open Go Go.Am Go.Proofs
set_option maxHeartbeats 4000000
set_option maxRecDepth 20000
structure Named(s:GScope)(x:GNode):Prop where
 inr:Tr7.inR x.N=true
 nm:∃p,nameP [97] x s=some p∧(tellsB x.Op=true→p.1=nameN s x)
 len:(nameN s x).length≤16
theorem inR_16{n:Int}(h:Tr7.inR n=true):Tr7.inR (Int.tmod n 16)=true:=by
 have h1:(Int.tmod n 16).natAbs=n.natAbs % 16:=by rw[Int.natAbs_tmod];rfl
 simp only[Tr7.inR,xA,yD]
 omega
theorem part_len{s:GScope}:∀t:Ex,(∀x∈t.flat,Named s x)→(partOf s t).text.length≤64 * t.flat.length
 | .leaf x,h=>by
  have hn:=(h x (by simp[Ex.flat])).len
  have d1:=decI_len x.N
  have d2:=decI_len (Int.tmod x.N 16)
  simp only[partOf,leafT,Ex.flat,xZ,yN]
  repeat' split
  all_goals simp
  all_goals omega
 | .un x a,h=>by
  have hn:=(h x (by simp[Ex.flat])).len
  have ih:=part_len (s:=s) a (fun y hy=>h y (by simp[Ex.flat,hy]))
  have b1:=inB_len (partOf s a).text (decide ((partOf s a).binds<6))
  have b2:=inB_len (partOf s a).text (decide ((partOf s a).binds<6) || decide ((partOf s a).op=1))
  simp only[partOf,Ex.flat,xP,xZ,yN]
  split
  ·simp only[xP,xZ,yN];omega
  split
  ·simp only[xZ];omega
  ·simp only[xZ];omega
 | .bin x a b,h=>by
  have iha:=part_len (s:=s) a (fun y hy=>h y (by simp[Ex.flat,hy]))
  have ihb:=part_len (s:=s) b (fun y hy=>h y (by simp[Ex.flat,hy]))
  have c1:=inB_len (partOf s a).text (joinL x.Op (partOf s a).binds)
  have c2:=inB_len (partOf s b).text (joinR x.Op (partOf s b).binds)
  have c3:=sgnT_len x.Op
  simp only[partOf,joinT,Ex.flat,xP,xZ,yN]
  omega
section
variable{s:GScope}{e:List GNode}{b:List Int}
theorem part_leaf(β:Bool)(hs:Few s)(hsp:∀{ρ:Type} (g:List Int→Bool→Option ρ),f_r10_Spans e g=g b true){x:GNode}(hx:Named s x)(ht:takesK x.Op=0){n:Nat}(he:e[n]? =some x){ρ:Type}(κ:List T×List Ob→Option ρ):
  ((fun κ=>cbK (call 62 [.sl β (List.map eNode e),.agg [.sl β (List.map eScalar s.Scalars),.sl β (List.map eVar s.Vars),.sl β (List.map eChan s.Chans),.sl β (List.map (eProc β) s.Procs),.sl β (List.map eVar s.Locals),.int .i64 s.Self],.int .i64 (n:Int)] []) κ)) κ=κ ([.d (.str (leafT x (nameN s x)))],[]):=by
 refine(ge62 _ _ _ rfl).trans ?_
 obtain⟨p,hp,hnm⟩:=hx.nm
 have hd:=fun g=>decr_eq (ρ:=ρ) hx.inr (g:=g)
 have hd16:=fun g=>decr_eq (ρ:=ρ) (inR_16 hx.inr) (g:=g)
 have hl:=hx.len
 have l16:=decI_len (Int.tmod x.N 16)
 have q1:(nameN s x).length≤9223372036854775801:=by omega
 have q2:(nameN s x).length≤9223372036854775802:=by omega
 have q3:4+(nameN s x).length≤9223372036854775807:=by omega
 have q4:3+(nameN s x).length≤9223372036854775807:=by omega
 have q5:5+(nameN s x).length≤9223372036854775807:=by omega
 have q6:(nameN s x).length+2+1+1+1+(Tr7.decI (Int.tmod x.N 16)).length≤9223372036854775807:=by omega
 have q7:(nameN s x).length+((Tr7.decI (Int.tmod x.N 16)).length+1+1)≤9223372036854775803:=by omega
 rcases takes_cases x.Op with⟨e',q⟩ |⟨e',q⟩ |⟨e',q⟩ |⟨e',q⟩
 ·omega
 ·have:x.Op=1∨x.Op=2∨x.Op=4∨x.Op=5∨x.Op=6∨x.Op=7∨x.Op=8:=by omega
  obtain⟨xo,xn⟩:=x
  simp only at this
  rcases this with h |h |h |h |h |h |h <;>subst h
  ·cases β <;>simp -implicitDefEqProofs (maxSteps:=1000000) [go_sem,he,hsp,namer_eq hs,hp,hd,leafT,-List.map_append,-List.map_take,-List.map_drop,-List.map_set]
  ·have:=hnm rfl
   cases β <;>simp -implicitDefEqProofs (maxSteps:=1000000) [go_sem,he,hsp,namer_eq hs,hp,this,leafT,-List.map_append,-List.map_take,-List.map_drop,-List.map_set]
  ·have:=hnm rfl
   cases β <;>simp -implicitDefEqProofs (maxSteps:=1000000) [go_sem,he,hsp,namer_eq hs,hp,this,leafT,-List.map_append,-List.map_take,-List.map_drop,-List.map_set]
  ·cases β <;>simp -implicitDefEqProofs (maxSteps:=1000000) [go_sem,he,hsp,namer_eq hs,hp,leafT,-List.map_append,-List.map_take,-List.map_drop,-List.map_set]
  ·have:=hnm rfl
   cases β <;>simp -implicitDefEqProofs (maxSteps:=1000000) [go_sem,he,hsp,namer_eq hs,hp,this,q1,q2,q3,leafT,-List.map_append,-List.map_take,-List.map_drop,-List.map_set]
  ·have:=hnm rfl
   cases β <;>simp -implicitDefEqProofs (maxSteps:=1000000) [go_sem,he,hsp,namer_eq hs,hp,this,hd16,q1,q2,q4,q6,q7,leafT,-List.map_append,-List.map_take,-List.map_drop,-List.map_set]
  ·have:=hnm rfl
   cases β <;>simp -implicitDefEqProofs (maxSteps:=1000000) [go_sem,he,hsp,namer_eq hs,hp,this,q1,q2,q5,leafT,-List.map_append,-List.map_take,-List.map_drop,-List.map_set]
 ·omega
 ·omega
theorem part_un(β:Bool)(hs:Few s)(hsp:∀{ρ:Type} (g:List Int→Bool→Option ρ),f_r10_Spans e g=g b true){x:GNode}(hx:Named s x)(ht:takesK x.Op=1){n:Nat}(hn:n<1000000)(he:e[n+1]? =some x){y:GNode}(hy:e[n]? =some y){t:Gpart}(hb:t.binds=strK y)(ho:t.op=y.Op)(hl:t.text.length≤90000)
  (ih:∀{ρ:Type} (κ:List T×List Ob→Option ρ),((fun κ=>cbK (call 62 [.sl β (List.map eNode e),.agg [.sl β (List.map eScalar s.Scalars),.sl β (List.map eVar s.Vars),.sl β (List.map eChan s.Chans),.sl β (List.map (eProc β) s.Procs),.sl β (List.map eVar s.Locals),.int .i64 s.Self],.int .i64 (n:Int)] []) κ)) κ=κ ([.d (.str t.text)],[])) {ρ:Type} (κ:List T×List Ob→Option ρ):
  ((fun κ=>cbK (call 62 [.sl β (List.map eNode e),.agg [.sl β (List.map eScalar s.Scalars),.sl β (List.map eVar s.Vars),.sl β (List.map eChan s.Chans),.sl β (List.map (eProc β) s.Procs),.sl β (List.map eVar s.Locals),.int .i64 s.Self],.int .i64 (((n+1:Nat):Int):Int)] []) κ)) κ=κ ([.d (.str (if x.Op=3 then nameN s x++91::(t.text++[93])else if x.Op=9 then 33::inB t.text (decide (t.binds<6))else 45::inB t.text (decide (t.binds<6) || decide (t.op=1))))],[]):=by
 refine(ge62 _ _ _ rfl).trans ?_
 obtain⟨p,hp,hnm⟩:=hx.nm
 have hw:IntKind.i64.wrap (n:Int)=(n:Int):=wrap_i64 (by omega) (by omega)
 have hn1:(0:Int)≤(n:Int)+1:=by omega
 have hn2:((n:Int)+1).toNat=n+1:=by omega
 have hnl:=hx.len
 have ih':=fun κ=>ih (ρ:=ρ) κ
 simp only at ih'
 have ha:=fun c g=>aroundr_eq (ρ:=ρ) (t:=t.text) (b:=c) (g:=g) (by omega)
 have hst:=fun g=>strr_eq (ρ:=ρ) (x:=y) (g:=g)
 have b1:=fun c=>inB_len t.text c
 have q1:(nameN s x).length≤9223372036854775806:=by omega
 have q2:(nameN s x).length+1+t.text.length≤9223372036854775807:=by omega
 have q3:(nameN s x).length+(t.text.length+1)≤9223372036854775806:=by omega
 have q4:∀c,1+(inB t.text c).length≤9223372036854775807:=fun c=>by have:=b1 c;omega
 rcases takes_cases x.Op with⟨e',q⟩ |⟨e',q⟩ |⟨e',q⟩ |⟨e',q⟩
 ·omega
 ·omega
 ·obtain⟨xo,xn⟩:=x
  simp only at q
  rw[hb,ho]
  rcases q with h |h |h <;>subst h
  ·have:=hnm rfl
   cases β <;>simp -implicitDefEqProofs (maxSteps:=1000000) [go_sem,he,hy,hw,hn1,hn2,hsp,namer_eq hs,hp,this,ih',q1,q2,q3,-List.map_append,-List.map_take,-List.map_drop,-List.map_set]
  ·cases β <;>simp -implicitDefEqProofs (maxSteps:=1000000) [go_sem,he,hy,hw,hn1,hn2,hsp,namer_eq hs,hp,ih',hst,ha,q4,-List.map_append,-List.map_take,-List.map_drop,-List.map_set]
  ·by_cases hb6:strK y<6
   ·cases β <;>simp -implicitDefEqProofs (maxSteps:=1000000) [go_sem,he,hy,hw,hn1,hn2,hsp,namer_eq hs,hp,ih',hst,ha,q4,hb6,-List.map_append,-List.map_take,-List.map_drop,-List.map_set]
   ·cases β <;>simp -implicitDefEqProofs (maxSteps:=1000000) [go_sem,he,hy,hw,hn1,hn2,hsp,namer_eq hs,hp,ih',hst,ha,q4,hb6,-List.map_append,-List.map_take,-List.map_drop,-List.map_set]
 ·omega
end
end Go.Etx
namespace Go.Etx
open Go Go.Am Go.Proofs
set_option maxHeartbeats 4000000
set_option maxRecDepth 20000
section
variable{s:GScope}{e:List GNode}{b:List Int}
theorem part_bin(β:Bool)(hs:Few s)(hsp:∀{ρ:Type} (g:List Int→Bool→Option ρ),f_r10_Spans e g=g b true){x:GNode}(hx:Named s x)(ht:11≤x.Op∧x.Op≤19){n c:Nat}(hn:n<1000000)(hc:c<1000000)(he:e[n+1]? =some x)(hbn:b[n]? =some ((c:Int)+1)){y z:GNode}(hy:e[n]? =some y)(hz:e[c]? =some z){t u:Gpart}(hb:t.binds=strK z)(hub:u.binds=strK y)(hl:t.text.length≤90000)(hul:u.text.length≤90000)
  (ih:∀{ρ:Type} (κ:List T×List Ob→Option ρ),((fun κ=>cbK (call 62 [.sl β (List.map eNode e),.agg [.sl β (List.map eScalar s.Scalars),.sl β (List.map eVar s.Vars),.sl β (List.map eChan s.Chans),.sl β (List.map (eProc β) s.Procs),.sl β (List.map eVar s.Locals),.int .i64 s.Self],.int .i64 (c:Int)] []) κ)) κ=κ ([.d (.str t.text)],[])) (ihu:∀{ρ:Type} (κ:List T×List Ob→Option ρ),((fun κ=>cbK (call 62 [.sl β (List.map eNode e),.agg [.sl β (List.map eScalar s.Scalars),.sl β (List.map eVar s.Vars),.sl β (List.map eChan s.Chans),.sl β (List.map (eProc β) s.Procs),.sl β (List.map eVar s.Locals),.int .i64 s.Self],.int .i64 (n:Int)] []) κ)) κ=κ ([.d (.str u.text)],[])) {ρ:Type} (κ:List T×List Ob→Option ρ):
  ((fun κ=>cbK (call 62 [.sl β (List.map eNode e),.agg [.sl β (List.map eScalar s.Scalars),.sl β (List.map eVar s.Vars),.sl β (List.map eChan s.Chans),.sl β (List.map (eProc β) s.Procs),.sl β (List.map eVar s.Locals),.int .i64 s.Self],.int .i64 (((n+1:Nat):Int):Int)] []) κ)) κ=κ ([.d (.str (joinT x.Op t u))],[]):=by
 refine(ge62 _ _ _ rfl).trans ?_
 obtain⟨p,hp,hnm⟩:=hx.nm
 have hw:IntKind.i64.wrap (n:Int)=(n:Int):=wrap_i64 (by omega) (by omega)
 have hwc:IntKind.i64.wrap (c:Int)=(c:Int):=wrap_i64 (by omega) (by omega)
 have hn1:(0:Int)≤(n:Int)+1:=by omega
 have hn2:((n:Int)+1).toNat=n+1:=by omega
 have ih':=fun κ=>ih (ρ:=ρ) κ
 have ihu':=fun κ=>ihu (ρ:=ρ) κ
 simp only at ih' ihu'
 have ha:=fun c g=>aroundr_eq (ρ:=ρ) (t:=t.text) (b:=c) (g:=g) (by omega)
 have hau:=fun c g=>aroundr_eq (ρ:=ρ) (t:=u.text) (b:=c) (g:=g) (by omega)
 have hst:=fun x g=>strr_eq (ρ:=ρ) (x:=x) (g:=g)
 have hsg:=fun g=>signr_eq (ρ:=ρ) ht (g:=g)
 have b1:=fun c=>inB_len t.text c
 have b2:=fun c=>inB_len u.text c
 have b3:=sgnT_len x.Op
 have hk:strK x=sgnB x.Op:=by unfold strK;rw[if_pos ht]
 have n1:¬x.Op=1:=by omega
 have n2:¬x.Op=2:=by omega
 have n3:¬x.Op=3:=by omega
 have n4:¬x.Op=4:=by omega
 have n5:¬x.Op=5:=by omega
 have n6:¬x.Op=6:=by omega
 have n7:¬x.Op=7:=by omega
 have n8:¬x.Op=8:=by omega
 have n9:¬x.Op=9:=by omega
 have n10:¬x.Op=10:=by omega
 have q1:∀c,(inB t.text c).length≤9223372036854775806:=fun c=>by have:=b1 c;omega
 have q2:∀c,(inB t.text c).length+1+(sgnT x.Op).length≤9223372036854775807:=fun c=>by have:=b1 c;omega
 have q3:∀c,(inB t.text c).length+((sgnT x.Op).length+1)≤9223372036854775806:=fun c=>by have:=b1 c;omega
 have q4:∀c d,(inB t.text c).length+((sgnT x.Op).length+1+1)+(inB u.text d).length≤9223372036854775807:=fun c d=>by have:=b1 c;have:=b2 d;omega
 simp only[joinT,joinL,joinR,hb,hub]
 by_cases h3:sgnB x.Op=3
 ·cases β
  ·simp -implicitDefEqProofs (maxSteps:=1000000) [go_sem,he,hy,hz,hbn,hw,hwc,hn1,hn2,hsp,namer_eq hs,hp,n1,n2,n3,n4,n5,n6,n7,n8,n9,n10,hst,hk,h3,ih',ihu',ha,hau,hsg,q1,q2,q3,q4,-List.map_append,-List.map_take,-List.map_drop,-List.map_set]
  ·simp -implicitDefEqProofs (maxSteps:=1000000) [go_sem,he,hy,hz,hbn,hw,hwc,hn1,hn2,hsp,namer_eq hs,hp,n1,n2,n3,n4,n5,n6,n7,n8,n9,n10,hst,hk,h3,ih',ihu',ha,hau,hsg,q1,q2,q3,q4,-List.map_append,-List.map_take,-List.map_drop,-List.map_set]
 ·cases β
  ·simp -implicitDefEqProofs (maxSteps:=1000000) [go_sem,he,hy,hz,hbn,hw,hwc,hn1,hn2,hsp,namer_eq hs,hp,n1,n2,n3,n4,n5,n6,n7,n8,n9,n10,hst,hk,h3,ih',ihu',ha,hau,hsg,q1,q2,q3,q4,-List.map_append,-List.map_take,-List.map_drop,-List.map_set]
  ·simp -implicitDefEqProofs (maxSteps:=1000000) [go_sem,he,hy,hz,hbn,hw,hwc,hn1,hn2,hsp,namer_eq hs,hp,n1,n2,n3,n4,n5,n6,n7,n8,n9,n10,hst,hk,h3,ih',ihu',ha,hau,hsg,q1,q2,q3,q4,-List.map_append,-List.map_take,-List.map_drop,-List.map_set]
end
end Go.Etx
namespace Go.Etx
open Go Go.Am Go.Proofs
theorem mid_last{α:Type}{pre l post:List α}(h:0<l.length):(pre++l++post)[pre.length+l.length - 1]? =l[l.length - 1]? :=by
 rw[xK,xN (by omega),xO (by omega)]
 congr 1
 omega
section
variable{s:GScope}{e:List GNode}{b:List Int}
theorem part_eq(β:Bool)(hs:Few s)(hlen:e.length≤1000)(hsp:∀{ρ:Type} (g:List Int→Bool→Option ρ),f_r10_Spans e g=g b true):∀(t:Ex) (pre post:List GNode) (bpre bpost:List Int),e=pre++t.flat++post→b=bpre++bOf pre.length t++bpost→bpre.length=pre.length→t.wf→(∀x∈t.flat,Named s x)→
  ∀{ρ:Type} (κ:List T×List Ob→Option ρ),((fun κ=>cbK (call 62 [.sl β (List.map eNode e),.agg [.sl β (List.map eScalar s.Scalars),.sl β (List.map eVar s.Vars),.sl β (List.map eChan s.Chans),.sl β (List.map (eProc β) s.Procs),.sl β (List.map eVar s.Locals),.int .i64 s.Self],.int .i64 (((pre.length+t.flat.length - 1:Nat):Int):Int)] []) κ)) κ=κ ([.d (.str (partOf s t).text)],[])
 | .leaf x,pre,post,bpre,bpost,he,hb,hbl,hw,hn,ρ,κ=>by
  have h0:e[pre.length]? =some x:=by rw[he];simp[Ex.flat]
  exact part_leaf β hs hsp (hn x (by simp[Ex.flat])) hw h0 κ
 | .un x a,pre,post,bpre,bpost,he,hb,hbl,hw,hn,ρ,κ=>by
  have hap:=a.flat_pos
  have he':e=pre++a.flat++([x]++post):=by rw[he];simp[Ex.flat]
  have hb':b=bpre++bOf pre.length a++([(pre.length:Int)]++bpost):=by rw[hb];simp[bOf]
  have hel:e.length=pre.length+(a.flat.length+1)+post.length:=by rw[he];simp[Ex.flat] <;>omega
  obtain⟨n,hn'⟩:∃n,pre.length+a.flat.length=n+1:=⟨pre.length+a.flat.length - 1,by omega⟩
  have i1:pre.length+(Ex.un x a).flat.length - 1=n+1:=by simp only[Ex.flat,xP,xZ,yN];omega
  have i2:pre.length+a.flat.length - 1=n:=by omega
  have h0:e[n+1]? =some x:=by
   have:=mid_last (pre:=pre) (l:=(Ex.un x a).flat) (post:=post) (Ex.flat_pos _)
   rw[i1,←he,Ex.flat_last]at this
   exact this
  have h1:e[n]? =some a.top:=by
   have:=mid_last (pre:=pre) (l:=a.flat) (post:=[x]++post) hap
   rw[i2,←he',Ex.flat_last]at this
   exact this
  have ih:=fun{ρ:Type} (κ:List T×List Ob→Option ρ)=>part_eq β hs hlen hsp a pre ([x]++post) bpre ([(pre.length:Int)]++bpost) he' hb' hbl hw.2 (fun y hy=>hn y (by simp[Ex.flat,hy])) κ
  rw[i2]at ih
  have hl:=part_len (s:=s) a (fun y hy=>hn y (by simp[Ex.flat,hy]))
  rw[i1]
  have key:=part_un β hs hsp (hn x (by simp[Ex.flat])) hw.1 (by omega) h0 h1 (t:=partOf s a) (part_binds hw.2) (part_op hw.2) (by omega) ih κ
  refine key.trans ?_
  congr 3
  simp only[partOf]
  split
  ·rfl
  split <;>rfl
 | .bin x a c,pre,post,bpre,bpost,he,hb,hbl,hw,hn,ρ,κ=>by
  have hap:=a.flat_pos
  have hcp:=c.flat_pos
  have hea:e=pre++a.flat++(c.flat++[x]++post):=by rw[he];simp[Ex.flat]
  have hba:b=bpre++bOf pre.length a++(bOf (pre.length+a.flat.length) c++[(pre.length:Int)]++bpost):=by rw[hb];simp[bOf]
  have hec:e=(pre++a.flat)++c.flat++([x]++post):=by rw[he];simp[Ex.flat]
  have hbc:b=(bpre++bOf pre.length a)++bOf (pre++a.flat).length c++([(pre.length:Int)]++bpost):=by rw[hb];simp[bOf]
  have hblc:(bpre++bOf pre.length a).length=(pre++a.flat).length:=by simp[bOf_len,hbl]
  have hel:e.length=pre.length+(a.flat.length+(c.flat.length+1))+post.length:=by rw[he];simp[Ex.flat] <;>omega
  obtain⟨n,hn'⟩:∃n,pre.length+a.flat.length+c.flat.length=n+1:=⟨pre.length+a.flat.length+c.flat.length - 1,by omega⟩
  obtain⟨m,hm'⟩:∃m,pre.length+a.flat.length=m+1:=⟨pre.length+a.flat.length - 1,by omega⟩
  have i1:pre.length+(Ex.bin x a c).flat.length - 1=n+1:=by simp only[Ex.flat,xP,xZ,yN];omega
  have i2:pre.length+a.flat.length - 1=m:=by omega
  have i3:(pre++a.flat).length+c.flat.length - 1=n:=by simp only[xP];omega
  have h0:e[n+1]? =some x:=by
   have:=mid_last (pre:=pre) (l:=(Ex.bin x a c).flat) (post:=post) (Ex.flat_pos _)
   rw[i1,←he,Ex.flat_last]at this
   exact this
  have h1:e[m]? =some a.top:=by
   have:=mid_last (pre:=pre) (l:=a.flat) (post:=c.flat++[x]++post) hap
   rw[i2,←hea,Ex.flat_last]at this
   exact this
  have h2:e[n]? =some c.top:=by
   have:=mid_last (pre:=pre++a.flat) (l:=c.flat) (post:=[x]++post) hcp
   rw[i3,←hec,Ex.flat_last]at this
   exact this
  have h3:b[n]? =some ((m:Int)+1):=by
   have:=mid_last (pre:=bpre++bOf pre.length a) (l:=bOf (pre++a.flat).length c) (post:=[(pre.length:Int)]++bpost) (by rw[bOf_len];exact hcp)
   rw[hblc,bOf_len,i3,←hbc,bOf_last,xP,hm']at this
   exact this
  have iha:=fun{ρ:Type} (κ:List T×List Ob→Option ρ)=>part_eq β hs hlen hsp a pre _ bpre _ hea hba hbl hw.2.1 (fun y hy=>hn y (by simp[Ex.flat,hy])) κ
  have ihc:=fun{ρ:Type} (κ:List T×List Ob→Option ρ)=>part_eq β hs hlen hsp c (pre++a.flat) _ (bpre++bOf pre.length a) _ hec hbc hblc hw.2.2 (fun y hy=>hn y (by simp[Ex.flat,hy])) κ
  rw[i2]at iha
  rw[i3]at ihc
  have la:=part_len (s:=s) a (fun y hy=>hn y (by simp[Ex.flat,hy]))
  have lc:=part_len (s:=s) c (fun y hy=>hn y (by simp[Ex.flat,hy]))
  have hop:11≤x.Op∧x.Op≤19:=by
   have:=hw.1
   rcases takes_cases x.Op with⟨q,_⟩ |⟨q,_⟩ |⟨q,_⟩ |⟨q,h⟩ <;>omega
  rw[i1]
  exact part_bin β hs hsp (hn x (by simp[Ex.flat])) hop (by omega) (by omega) h0 h3 h2 h1 (t:=partOf s a) (u:=partOf s c) (part_binds hw.2.1) (part_binds hw.2.2) (by omega) (by omega) iha ihc κ
end
end Go.Etx
namespace Go.Etx
open Go Go.Am Go.Proofs
set_option maxHeartbeats 4000000
set_option maxRecDepth 20000
noncomputable section
theorem ker_eq(β:Bool)(e:List GNode)(s:GScope)(hN:∀x∈e,x.N≤9223372036854775807){ρ:Type}(g:Int→Int→Option ρ):f_r10_Kind e s g=g (kindK e s).1 (kindK e s).2:=by
 rw[kindr_eq hN]
 unfold kindK
 split
 ·rfl
 split
 ·rfl
 rename_i h1 h2
 unfold finK
 by_cases h0:(runK s e []).1=0
 ·by_cases h3:1<(runK s e []).2.length
  ·simp[h0,h3]
  ·have:=(run_ok0 (s:=s) (e:=e) (st:=[]) (by simp) h0).2 h2
   obtain⟨a,ha⟩:∃a,(runK s e []).2=[a]:=List.length_eq_one_iff.1 (by omega)
   simp[h0,ha]
 ·simp[h0]
theorem name97{x:GNode}{s:GScope}:nameP [97] x s=if tellsB x.Op=true then nameP [] x s else some ([97],true):=by
 unfold nameP tellsB
 by_cases h2:x.Op=2
 ·simp[h2]
 by_cases h3:x.Op=3
 ·simp[h3]
 by_cases h4:x.Op=4
 ·simp[h4]
 by_cases h6:x.Op=6
 ·simp[h6]
 by_cases h7:x.Op=7
 ·simp[h7]
 by_cases h8:x.Op=8
 ·simp[h8]
 simp[h2,h3,h4,h6,h7,h8]
theorem name00{x:GNode}{s:GScope}(h:tellsB x.Op=false):nameP [] x s=some ([],true):=by
 unfold tellsB at h
 simp only[Bool.or_eq_false_iff,decide_eq_false_iff_not]at h
 obtain⟨⟨⟨⟨⟨h2,h3⟩,h4⟩,h6⟩,h7⟩,h8⟩:=h
 unfold nameP
 rw[if_neg (fun q=>q.elim h2 h3),if_neg h4,if_neg h6,if_neg h7,if_neg h8]
theorem lexN_nil:lexN []=false:=rfl
theorem lexN_a:lexN [97]=true:=by decide
theorem bad97{x:GNode}{s:GScope}{p:List UInt8×Bool}(hp:nameP [97] x s=some p):badE s x=(!p.2 || !lexN p.1):=by
 unfold badE
 rw[name97]at hp
 cases ht:tellsB x.Op with
 |true=>
  rw[ht,if_pos rfl]at hp
  rw[hp]
  unfold badN
  rw[ht]
  obtain⟨nm,bk⟩:=p
  simp only
  by_cases h0:nm=[]
  ·subst h0;rw[lexN_nil];cases bk <;>rfl
  ·have:nm.isEmpty=false:=by simp[h0]
   rw[this];cases bk <;>cases lexN nm <;>rfl
 |false=>
  rw[ht,if_neg (by simp)]at hp
  simp only[xJ]at hp
  subst hp
  rw[name00 ht]
  simp only[badN,ht,lexN_a]
  rfl
theorem named_of{x:GNode}{s:GScope}(hr:Tr7.inR x.N=true){p:List UInt8×Bool}(hp:nameP [97] x s=some p)(hb:badE s x=false):Named s x:=by
 have h97:=bad97 hp
 rw[hb]at h97
 simp only[Bool.false_eq,Bool.or_eq_false_iff,Bool.not_eq_false']at h97
 rw[name97]at hp
 cases ht:tellsB x.Op with
 |true=>
  rw[ht,if_pos rfl]at hp
  have hn:nameN s x=p.1:=by unfold nameN;rw[hp]
  exact⟨hr,⟨p,by rw[name97,ht,if_pos rfl];exact hp,fun _=>hn.symm⟩,by rw[hn];exact lexN_len h97.2⟩
 |false=>
  have hn:nameN s x=[]:=by unfold nameN;rw[name00 ht]
  exact⟨hr,⟨([97],true),by rw[name97,ht,if_neg (by simp)],fun h=>by rw[ht]at h;cases h⟩,by rw[hn];simp⟩
theorem not_own{nm:List UInt8}(h:lexN nm=true):¬nm=[115,101,108,102]∧¬nm=[108,101,110]∧¬nm=[97,116]∧¬nm=[110,111,110,101]:=by
 refine⟨fun q=> ?_,fun q=> ?_,fun q=> ?_,fun q=> ?_⟩ <;>(subst q;revert h;decide)
theorem turn8(β:Bool)(e:List GNode)(s:GScope)(hs:Few s)(i:Nat)(hi:i<e.length)(hlen:e.length≤24)(p:List UInt8×Bool)(hp:nameP [97] e[i] s=some p){ρ:Type}(κ:Am.Ex×St→Option ρ):goLp P hints hint31 b31 0 ((⟨[(0,SV.d (D.sl β (List.map eNode e))),(3,SV.loc (Root.l 3 0) [] 0 0),(8,SV.d (D.int IntKind.i64 (i:Int)))],[((3,0),T.own [T.d (D.agg [D.sl β (List.map eScalar s.Scalars),D.sl β (List.map eVar s.Vars),D.sl β (List.map eChan s.Chans),D.sl β (List.map (eProc β) s.Procs),D.sl β (List.map eVar s.Locals),D.int IntKind.i64 s.Self])])],[]⟩:St)) κ=
  if badE s e[i]=true then κ (Am.Ex.ret,⟨[(4,SV.d (D.str [])),(5,SV.d (D.int IntKind.i64 6))],[],[]⟩)else goLp P hints hint31 b31 0 ((⟨[(0,SV.d (D.sl β (List.map eNode e))),(3,SV.loc (Root.l 3 0) [] 0 0),(8,SV.d (D.int IntKind.i64 ((i+1:Nat):Int)))],[((3,0),T.own [T.d (D.agg [D.sl β (List.map eScalar s.Scalars),D.sl β (List.map eVar s.Vars),D.sl β (List.map eChan s.Chans),D.sl β (List.map (eProc β) s.Procs),D.sl β (List.map eVar s.Locals),D.int IntKind.i64 s.Self])])],[]⟩:St)) κ:=by
 refine(goLp_turn q31_0.2).trans ?_
 have hw:IntKind.i64.wrap ((i:Int)+1)=((i+1:Nat):Int):=wrapS (by omega)
 have h1:(i:Int)<(e.length:Int):=by omega
 have h2:e[i]? =some e[i]:=xG hi
 rw[bad97 hp]
 obtain⟨nm,back⟩:=p
 cases back with
 |false=>cases β <;>simp -implicitDefEqProofs (maxSteps:=1000000) [go_sem,h1,h2,hw,namer_eq hs,hp,-List.map_append,-List.map_take,-List.map_drop,-List.map_set]
 |true=>
  cases hx:lexN nm with
  |false=>cases β <;>simp -implicitDefEqProofs (maxSteps:=1000000) [go_sem,h1,h2,hw,namer_eq hs,hp,namer9_eq,hx,-List.map_append,-List.map_take,-List.map_drop,-List.map_set]
  |true=>
   obtain⟨n1,n2,n3,n4⟩:=not_own hx
   cases β <;>simp -implicitDefEqProofs (maxSteps:=1000000) [go_sem,h1,h2,hw,namer_eq hs,hp,namer9_eq,hx,n1,n2,n3,n4,-List.map_append,-List.map_take,-List.map_drop,-List.map_set]
theorem last8(β:Bool)(e:List GNode)(s:GScope){ρ:Type}(κ:Am.Ex×St→Option ρ):goLp P hints hint31 b31 0 ((⟨[(0,SV.d (D.sl β (List.map eNode e))),(3,SV.loc (Root.l 3 0) [] 0 0),(8,SV.d (D.int IntKind.i64 (e.length:Int)))],[((3,0),T.own [T.d (D.agg [D.sl β (List.map eScalar s.Scalars),D.sl β (List.map eVar s.Vars),D.sl β (List.map eChan s.Chans),D.sl β (List.map (eProc β) s.Procs),D.sl β (List.map eVar s.Locals),D.int IntKind.i64 s.Self])])],[]⟩:St)) κ=κ (Am.Ex.exit 0,(⟨[(0,SV.d (D.sl β (List.map eNode e))),(3,SV.loc (Root.l 3 0) [] 0 0),(8,SV.d (D.int IntKind.i64 (List.length e))),(23,SV.d (D.bool false))],[((3,0),T.own [T.d (D.agg [D.sl β (List.map eScalar s.Scalars),D.sl β (List.map eVar s.Vars),D.sl β (List.map eChan s.Chans),D.sl β (List.map (eProc β) s.Procs),D.sl β (List.map eVar s.Locals),D.int IntKind.i64 s.Self])])],[]⟩:St)):=by
 refine(goLp_turn q31_0.2).trans ?_
 cases β <;>simp -implicitDefEqProofs (maxSteps:=1000000) [go_sem,-List.map_append,-List.map_take,-List.map_drop,-List.map_set]
theorem loop8(β:Bool)(e:List GNode)(s:GScope)(hs:Few s)(hlen:e.length≤24)(hp:∀x∈e,∃p,nameP [97] x s=some p){ρ:Type}(κ:Am.Ex×St→Option ρ):∀(n i:Nat),e.length - i=n→i≤e.length→
  goLp P hints hint31 b31 0 ((⟨[(0,SV.d (D.sl β (List.map eNode e))),(3,SV.loc (Root.l 3 0) [] 0 0),(8,SV.d (D.int IntKind.i64 (i:Int)))],[((3,0),T.own [T.d (D.agg [D.sl β (List.map eScalar s.Scalars),D.sl β (List.map eVar s.Vars),D.sl β (List.map eChan s.Chans),D.sl β (List.map (eProc β) s.Procs),D.sl β (List.map eVar s.Locals),D.int IntKind.i64 s.Self])])],[]⟩:St)) κ=if(e.drop i).any (badE s)=true then κ (Am.Ex.ret,⟨[(4,SV.d (D.str [])),(5,SV.d (D.int IntKind.i64 6))],[],[]⟩)else κ (Am.Ex.exit 0,(⟨[(0,SV.d (D.sl β (List.map eNode e))),(3,SV.loc (Root.l 3 0) [] 0 0),(8,SV.d (D.int IntKind.i64 (List.length e))),(23,SV.d (D.bool false))],[((3,0),T.own [T.d (D.agg [D.sl β (List.map eScalar s.Scalars),D.sl β (List.map eVar s.Vars),D.sl β (List.map eChan s.Chans),D.sl β (List.map (eProc β) s.Procs),D.sl β (List.map eVar s.Locals),D.int IntKind.i64 s.Self])])],[]⟩:St)):=by
 intro n
 induction n with
 |zero=>
  intro i hn hi
  obtain rfl:i=e.length:=by omega
  rw[last8,List.drop_length]
  simp
 |succ n ih=>
  intro i hn hi
  have hlt:i<e.length:=by omega
  obtain⟨p,hp'⟩:=hp _ (List.getElem_mem hlt)
  rw[turn8 β e s hs i hlt hlen p hp',xW hlt,List.any_cons,ih (i+1) (by omega) (by omega)]
  cases badE s e[i] <;>simp
theorem names_some{s:GScope}(d:List UInt8):∀{e:List GNode} {ks:List Int},(∀x∈e,x.N≤9223372036854775807)→(runK s e ks).1=0→∀x∈e,∃p,nameP d x s=some p
 | [],_,_,_,x,hx=>by cases hx
 |y::r,ks,hN,h0,x,hx=>by
  rw[runK]at h0
  have hy:(stepK y s ks).1=0:=by
   by_cases hy:(stepK y s ks).1=0
   ·exact hy
   ·rw[if_neg hy]at h0;exact absurd h0 hy
  rw[if_pos hy]at h0
  rcases List.mem_cons.1 hx with rfl |hx
  ·obtain⟨f1,_,f3,_⟩:=step_facts hy
   exact name_some (hN _ (by simp)) d f1 f3
  ·exact names_some d (fun z hz=>hN z (by simp[hz])) h0 x hx
theorem RText_eq(β:Bool)(e:List GNode)(s:GScope)(hs:Few s)(hN:∀x∈e,Tr7.inR x.N=true){ρ:Type}(κ:List T×List Ob→Option ρ):
  cbK (call 31 [.sl β (List.map eNode e),.agg [.sl β (List.map eScalar s.Scalars),.sl β (List.map eVar s.Vars),.sl β (List.map eChan s.Chans),.sl β (List.map (eProc β) s.Procs),.sl β (List.map eVar s.Locals),.int .i64 s.Self]] []) κ=κ ([.d (.str (textK e s).1),.d (.int .i64 (textK e s).2)],[]):=by
 refine(ge31 _ _ _ rfl).trans ?_
 have hN':∀x∈e,x.N≤9223372036854775807:=fun x hx=>by
  have:=hN x hx
  simp only[Tr7.inR,xA,yD]at this
  exact this.2
 have hk:=fun g=>ker_eq (ρ:=ρ) β e s hN' g
 by_cases h0:(kindK e s).2=0
 ·obtain⟨k1,k2,k3,k4⟩:=kind_ok h0
  obtain⟨t,t1,t2,t3,t4⟩:=tree_of hN' h0
  have hl:=fun κ=>loop8 (ρ:=ρ) β e s hs k1 (names_some [97] hN' k3) κ _ 0 rfl (Nat.zero_le _)
  simp only[Int.natCast_zero,List.drop_zero]at hl
  rw[t4]
  cases hb:e.any (badE s)with
  |true=>
   cases β <;>simp -implicitDefEqProofs (maxSteps:=1000000) [go_sem,hk,h0,hl,hb,-List.map_append,-List.map_take,-List.map_drop,-List.map_set,-List.any_eq_true]
  |false=>
   have hnamed:∀x∈t.flat,Named s x:=fun x hx=>by
    rw[t2]at hx
    obtain⟨p,hp⟩:=names_some [97] hN' k3 x hx
    refine named_of (hN x hx) hp ?_
    rw[yG]at hb
    simpa using hb x hx
   have hpos:=List.length_pos_iff.2 k2
   have hw:IntKind.i64.wrap ((e.length:Int) - 1)=((e.length - 1:Nat):Int):=wrapP hpos (by omega)
   have hpt:=part_eq (e:=e) (b:=bOf 0 t) β hs (by omega) (fun g=>spansr_eq hN' h0 t1) t [] [] [] [] (by simp[t2]) (by simp) rfl t3 hnamed (ρ:=ρ)
   simp only[yN,Nat.zero_add,t2]at hpt
   cases β <;>simp -implicitDefEqProofs (maxSteps:=1000000) [go_sem,hk,h0,hl,hb,hw,hpt,-List.map_append,-List.map_take,-List.map_drop,-List.map_set,-List.any_eq_true]
 ·have ht:textK e s=([],(kindK e s).2):=by unfold textK;rw[if_pos h0]
  rw[ht]
  cases β <;>simp -implicitDefEqProofs (maxSteps:=1000000) [go_sem,hk,h0,-List.map_append,-List.map_take,-List.map_drop,-List.map_set]
end
end Go.Etx
namespace Go.Etx
open Go Go.Am Go.Proofs
abbrev dg(b:UInt8):Bool:=digB (bI b)
abbrev pt(b:UInt8):Bool:=partB (bI b)
abbrev K:=Int×List UInt8
def unC(c:UInt8)(r:List UInt8):Option (List K×Option (Int×Nat)×List UInt8):=
 if c=33 then some ([(9,[])],some (6,0),r)
 else if c=40 then some ([],some (1,1),r)
 else if c=45 then(if(r.head?.map dg)=some true then some ([(1,45::r.takeWhile dg)],none,r.dropWhile dg)else some ([(10,[])],some (6,0),r))
 else if dg c=true then some ([(1,(c::r).takeWhile dg)],none,(c::r).dropWhile dg)
 else if((c::r).dropWhile pt).head? =some 91 then some ([(3,(c::r).takeWhile pt)],some (1,1),((c::r).dropWhile pt).tail)
 else if((c::r).dropWhile pt).head? =some 40 then some ([(6,(c::r).takeWhile (fun b=>decide (b≠41)))],none,((c::r).dropWhile (fun b=>decide (b≠41))).tail)
 else some ([(2,(c::r).takeWhile pt)],none,(c::r).dropWhile pt)
def unT:List UInt8→Option (List K×Option (Int×Nat)×List UInt8)
 | []=>none
 |c::r=>unC c r
def opR(r:List UInt8):Option (Int×List UInt8):=(([11,12,13,14,15,16,17,18,19]:List Int).find? fun o=>decide (sgnT o=r.takeWhile (fun b=>decide (b≠32)))).map fun o=>(o,(r.dropWhile (fun b=>decide (b≠32))).tail)
def opAt:List UInt8→Option (Int×List UInt8)
 | []=>none
 |c::r=>if c=32 then opR r else none
def nx(r:List UInt8):Int:=match opAt r with |some p=>sgnB p.1 |none=>0
def rd:Nat→Int→Option (List K)→List UInt8→Option (List K×List UInt8)
 |0,_,_,_=>none
 |n+1,p,none,s=>(unT s).bind fun u=>match u.2.1 with
  |none=>rd n p (some u.1) u.2.2
  |some q=>(rd n q.1 none u.2.2).bind fun y=>rd n p (some (y.1++u.1)) (y.2.drop q.2)
 |n+1,p,some x,r=>match opAt r with
  |some o=>if p≤sgnB o.1 then(rd n (sgnB o.1+1) none o.2).bind fun y=>rd n p (some (x++y.1++[(o.1,[])])) y.2 else some (x,r)
  |none=>some (x,r)
theorem rd_succ:∀{n:Nat} {p:Int} {m:Option (List K)} {s:List UInt8} {v:List K×List UInt8},rd n p m s=some v→rd (n+1) p m s=some v
 |0,_,_,_,_,h=>by simp[rd]at h
 |n+1,p,none,s,v,h=>by
  rw[rd]at h ⊢
  cases hu:unT s with
  |none=>rw[hu]at h;cases h
  |some u=>
   obtain⟨l,o,r⟩:=u
   rw[hu]at h
   simp only[xS]at h ⊢
   cases o with
   |none=>exact rd_succ h
   |some q=>
    simp only[xB]at h ⊢
    obtain⟨y,h1,h2⟩:=h
    exact⟨y,rd_succ h1,rd_succ h2⟩
 |n+1,p,some x,r,v,h=>by
  rw[rd]at h ⊢
  cases ho:opAt r with
  |none=>rw[ho]at h;exact h
  |some o=>
   rw[ho]at h
   simp only at h ⊢
   by_cases hp:p≤sgnB o.1
   ·rw[if_pos hp]at h ⊢
    simp only[xB]at h ⊢
    obtain⟨y,h1,h2⟩:=h
    exact⟨y,rd_succ h1,rd_succ h2⟩
   ·rw[if_neg hp]at h ⊢
    exact h
theorem rd_le{p:Int}{m:Option (List K)}{s:List UInt8}{v:List K×List UInt8}{n n':Nat}(hn:n≤n')(h:rd n p m s=some v):rd n' p m s=some v:=by
 induction hn with
 |refl=>exact h
 |step _ ih=>exact rd_succ ih
def Rd(p:Int)(m:Option (List K))(s:List UInt8)(v:List K×List UInt8):Prop:=∃n,rd n p m s=some v
theorem Rd.uniq{p:Int}{m:Option (List K)}{s:List UInt8}{v v':List K×List UInt8}(h:Rd p m s v)(h':Rd p m s v'):v=v':=by
 obtain⟨n,h⟩:=h
 obtain⟨n',h'⟩:=h'
 have e:=rd_le (Nat.le_max_left n n') h
 rw[rd_le (Nat.le_max_right n n') h']at e
 exact(Option.some.inj e).symm
theorem Rd.leaf{p:Int}{s r:List UInt8}{l:List K}{v:List K×List UInt8}(hu:unT s=some (l,none,r))(h:Rd p (some l) r v):Rd p none s v:=by
 obtain⟨n,h⟩:=h
 exact⟨n+1,by rw[rd,hu];exact h⟩
theorem Rd.sub{p q:Int}{c:Nat}{s r r':List UInt8}{l y:List K}{v:List K×List UInt8}(hu:unT s=some (l,some (q,c),r))(h1:Rd q none r (y,r'))(h2:Rd p (some (y++l)) (r'.drop c) v):Rd p none s v:=by
 obtain⟨n,h1⟩:=h1
 obtain⟨n',h2⟩:=h2
 refine⟨max n n'+1,?_⟩
 rw[rd,hu]
 simp only[xS]
 rw[rd_le (Nat.le_max_left n n') h1,xS]
 exact rd_le (Nat.le_max_right n n') h2
theorem Rd.op{p o:Int}{r r' r2:List UInt8}{x y:List K}{v:List K×List UInt8}(ho:opAt r=some (o,r'))(hp:p≤sgnB o)(h1:Rd (sgnB o+1) none r' (y,r2))(h2:Rd p (some (x++y++[(o,[])])) r2 v):Rd p (some x) r v:=by
 obtain⟨n,h1⟩:=h1
 obtain⟨n',h2⟩:=h2
 refine⟨max n n'+1,?_⟩
 rw[rd,ho]
 simp only
 rw[if_pos hp,rd_le (Nat.le_max_left n n') h1,xS]
 exact rd_le (Nat.le_max_right n n') h2
theorem Rd.done{p:Int}{r:List UInt8}{x:List K}(h:nx r<p):Rd p (some x) r (x,r):=by
 refine⟨1,?_⟩
 rw[rd]
 unfold nx at h
 cases ho:opAt r with
 |none=>rfl
 |some o=>rw[ho]at h;simp only at h ⊢;rw[if_neg (by omega)]
def tok(r:List UInt8):Prop:=∀c,r.head? =some c→c=32∨c=41∨c=93
def key(s:GScope)(x:GNode):K:=
 if 9≤x.Op then(x.Op,[])else if x.Op=1 then(1,Tr7.decI x.N)else if x.Op=3 then(3,nameN s x)else if 6≤x.Op then(6,(leafT x (nameN s x)).dropLast)else(2,leafT x (nameN s x))
end Go.Etx
namespace Go.Etx
open Go Go.Am Go.Proofs
def gap:Bool→List UInt8→Nat
 |_,[]=>0
 |true,b::r=>1+gap (decide (b≠10)) r
 |false,b::r=>if b=32∨b=10 then 1+gap false r else if b=35 then 1+gap true r else 0
def twl(q:UInt8→Bool)(s:List UInt8):Nat:=(s.takeWhile q).length
abbrev nl(b:UInt8):Bool:=decide (b≠10)
theorem gap_le:∀(c:Bool) (s:List UInt8),gap c s≤s.length
 |true,[]=>Nat.le_refl _
 |false,[]=>Nat.le_refl _
 |true,b::r=>by have:=gap_le (decide (b≠10)) r;simp only[gap,xZ];omega
 |false,b::r=>by
  simp only[gap,xZ]
  split
  ·have:=gap_le false r;omega
  split
  ·have:=gap_le true r;omega
  ·omega
theorem twl_le(q:UInt8→Bool)(s:List UInt8):twl q s≤s.length:=(List.takeWhile_sublist q).length_le
theorem twl_cons(q:UInt8→Bool)(b:UInt8)(r:List UInt8):twl q (b::r)=if q b=true then 1+twl q r else 0:=by
 unfold twl
 cases h:q b <;>simp[List.takeWhile_cons,h];omega
theorem gap_true:∀(s:List UInt8),gap true s=twl nl s+gap false (s.drop (twl nl s))
 | []=>rfl
 |b::r=>by
  rw[twl_cons]
  by_cases h:b=10
  ·subst h
   simp[gap]
  ·have:=gap_true r
   simp only[gap,nl,ne_eq,h,not_false_eq_true,decide_true,if_true]
   rw[this,Nat.add_comm 1 (twl nl r),List.drop_succ_cons]
   omega
theorem gap_sp{s:List UInt8}{p:Nat}(h:p<s.length)(hb:s[p]=32∨s[p]=10):gap false (s.drop p)=1+gap false (s.drop (p+1)):=by
 rw[xW h,gap,if_pos hb]
theorem gap_hash{s:List UInt8}{p:Nat}(h:p<s.length)(hb:s[p]=35):gap false (s.drop p)=twl nl (s.drop p)+gap false (s.drop (p+twl nl (s.drop p))):=by
 have e:twl nl (s.drop p)=1+twl nl (s.drop (p+1)):=by rw[xW h,twl_cons,hb];rfl
 rw[e,xW h,gap,if_neg (by rw[hb];decide),if_pos hb,gap_true,List.drop_drop]
 rw[show p+1+twl nl (s.drop (p+1))=p+(1+twl nl (s.drop (p+1)))by omega]
 omega
theorem gap_no{s:List UInt8}{p:Nat}(h:p<s.length)(hb:¬(s[p]=32∨s[p]=10))(hc:s[p]≠35):gap false (s.drop p)=0:=by
 rw[xW h,gap,if_neg hb,if_neg hc]
theorem twl_ext{q:UInt8→Bool}{s:List UInt8}:∀(w p:Nat),(∀j,p≤j→j<p+w→∃h:j<s.length,q s[j]=true)→twl q (s.drop p)=w+twl q (s.drop (p+w))
 |0,p,_=>by rw[Nat.zero_add,Nat.add_zero]
 |w+1,p,h=>by
  obtain⟨h1,h2⟩:=h p (Nat.le_refl _) (by omega)
  rw[xW h1,twl_cons,if_pos h2,twl_ext w (p+1) (fun j a b=>h j (by omega) (by omega)),show p+1+w=p+(w+1)by omega]
  omega
theorem twl_stop{q:UInt8→Bool}{s:List UInt8}{p:Nat}(h:p<s.length)(hq:q s[p]=false):twl q (s.drop p)=0:=by
 rw[xW h,twl_cons,hq];rfl
structure OfB(p:Int→Bool)(q:UInt8→Bool):Prop where
 here:∀(s:List UInt8) (i:Nat) (h:i<s.length),p ((rune s i).1:Int)=q s[i]
 more:∀(s:List UInt8) (i:Nat) (h:i<s.length),q s[i]=true→∀j,i≤j→j<i+(rune s i).2→∃h:j<s.length,q s[j]=true
theorem rune_pos(s:List UInt8)(i:Nat):1≤(rune s i).2:=by
 unfold rune Utf8.decode
 simp only
 repeat' split
 all_goals simp
theorem ofb_lo{p:Int→Bool}{q:UInt8→Bool}(h:∀b:UInt8,b.toNat<128→p (bI b)=q b)(hp:∀n:Int,128≤n→p n=false)(hq:∀b:UInt8,128≤b.toNat→q b=false):OfB p q:=by
 refine⟨fun s i hi=> ?_,fun s i hi hh j h1 h2=> ?_⟩
 ·by_cases hb:s[i].toNat<128
  ·rw[rune_lo hi hb];exact h _ hb
  ·rw[hq _ (by omega),hp _ (by have:=rune_hi hi (by omega);omega)]
 ·by_cases hb:s[i].toNat<128
  ·rw[rune_lo hi hb]at h2
   obtain rfl:j=i:=by simp only at h2;omega
   exact⟨hi,hh⟩
  ·rw[hq _ (by omega)]at hh;cases hh
theorem ofb_part:OfB partB pt:=ofb_lo (fun _ _=>rfl) (fun n h=>by simp only[partB,letB,digB,Bool.or_eq_false_iff,decide_eq_false_iff_not];omega) (fun b h=>by
 simp only[pt,partB,letB,digB,bI,Bool.or_eq_false_iff]
 exact⟨⟨⟨decide_eq_false (by omega),decide_eq_false (by omega)⟩,decide_eq_false (by omega)⟩,decide_eq_false (by omega)⟩)
theorem ofb_dig:OfB digB dg:=ofb_lo (fun _ _=>rfl) (fun n h=>by simp only[digB,decide_eq_false_iff_not];omega) (fun b h=>by
 simp only[dg,digB,bI]
 exact decide_eq_false (by omega))
theorem cont_ne{s:List UInt8}{i k:Nat}(h:((decide (i+k<(⟨s.toArray⟩:ByteArray).size)&&((⟨s.toArray⟩:ByteArray).get! (i+k)).toNat / 64==2)=true)):∃h:i+k<s.length,nl s[i+k]=true:=by
 simp only[xA,yD,beq_iff_eq]at h
 obtain⟨h1,h2⟩:=h
 have h1:i+k<s.length:=h1
 refine⟨h1,?_⟩
 have e:((⟨s.toArray⟩:ByteArray).get! (i+k))=s[i+k]:=get0 h1
 rw[e]at h2
 refine decide_eq_true fun q=> ?_
 rw[q]at h2
 exact absurd h2 (by decide)
theorem ofb_nl:OfB (fun n=> !decide (n=10)) nl:=by
 refine⟨fun s i hi=> ?_,fun s i hi hh j h1 h2=> ?_⟩
 ·by_cases hb:s[i].toNat<128
  ·rw[rune_lo hi hb]
   by_cases h:s[i]=10
   ·simp[nl,h]
   ·have:¬(s[i].toNat:Int)=10:=fun e=>h (UInt8.toNat_inj.1 (by rw[show((10:UInt8).toNat)=10 from rfl];omega))
    simp[nl,h,this]
  ·have:=rune_hi hi (by omega)
   have h1:¬((rune s i).1:Int)=10:=by omega
   have h2:¬s[i]=10:=fun e=>by rw[e]at hb;exact hb (by decide)
   simp[nl,h1,h2]
 ·have key:∀k,k<(rune s i).2→∃h:i+k<s.length,nl s[i+k]=true:=by
   intro k hk
   by_cases k0:k=0
   ·subst k0;exact⟨hi,hh⟩
   revert hk
   unfold rune Utf8.decode
   simp only
   repeat' split
   all_goals intro hk
   all_goals first
    |(simp only[]at hk;omega)
    |skip
   all_goals (rename_i hc _;simp only[xA]at hc)
   ·obtain rfl:k=1:=by simp only at hk;omega
    exact cont_ne (by simpa using hc.2)
   ·have:k=1∨k=2:=by simp only at hk;omega
    rcases this with rfl |rfl
    ·exact cont_ne (by simpa using hc.1.2)
    ·exact cont_ne (by simpa using hc.2)
   ·have:k=1∨k=2∨k=3:=by simp only at hk;omega
    rcases this with rfl |rfl |rfl
    ·exact cont_ne (by simpa using hc.1.1.2)
    ·exact cont_ne (by simpa using hc.1.2)
    ·exact cont_ne (by simpa using hc.2)
  obtain⟨k,rfl⟩:∃k,j=i+k:=⟨j - i,by omega⟩
  exact key k (by omega)
def oneK(s:List UInt8):Int×Glex_Token:=
 if 0<twl pt s∧letB (bI (s.headD 0))=true then(if 16<twl pt s then(6,⟨0,0,0,[]⟩)else(0,⟨1,0,0,s.take (twl pt s)⟩))
 else if 0<twl dg s then(if(Tr7.numF (s.take (twl dg s))).2=true then(0,⟨2,(Tr7.numF (s.take (twl dg s))).1,0,s.take (twl dg s)⟩)else(10,⟨0,0,0,[]⟩))
 else match sgL.find? fun x=>x.isPrefixOf s with
  |some x=>(0,⟨3,0,0,x⟩)
  |none=>(13,⟨0,0,0,[]⟩)
def scanL:Nat→List UInt8→Nat→List Glex_Token→List Glex_Token×Int×Int
 |0,_,_,_=>([],0,1)
 |n+1,s,p,out=>
  if p<s.length then
   (if 6000≤out.length then([],(p:Int),11)
    else if(oneK (s.drop p)).1=0 then scanL n s (p+(oneK (s.drop p)).2.Text.length+gap false (s.drop (p+(oneK (s.drop p)).2.Text.length))) (out++[⟨(oneK (s.drop p)).2.Kind,(oneK (s.drop p)).2.N,(p:Int),(oneK (s.drop p)).2.Text⟩])
    else([],(p:Int),(oneK (s.drop p)).1))
  else(out,0,0)
def scanK(s:List UInt8):List Glex_Token×Int×Int:=if 20000<s.length then([],0,5)else scanL (s.length+1) s (gap false s) []
theorem sgL_ne{x:List UInt8}(h:x∈sgL):1≤x.length∧x.length≤2:=by
 have:∀x∈sgL,1≤x.length∧x.length≤2:=by decide
 exact this x h
theorem numF_inR(s:List UInt8):Tr7.inR (Tr7.numF s).1=true:=by
 unfold Tr7.numF
 split
 ·split
  ·rename_i v _ h
   simp only[xA,Tr7.inB,yD]at h
   simp only[Tr7.inR,xA,yD]
   omega
  ·rfl
 ·rfl
theorem one_ok{s:List UInt8}(h:(oneK s).1=0):1≤(oneK s).2.Text.length∧(oneK s).2.Text.length≤s.length∧Tr7.inR (oneK s).2.N=true:=by
 unfold oneK at h ⊢
 split at h
 ·rename_i c
  rw[if_pos c]
  split at h
  ·cases h
  ·rename_i c2
   rw[if_neg c2]
   have:=twl_le pt s
   simp only[yR]
   exact⟨by omega,by omega,rfl⟩
 ·rename_i c
  rw[if_neg c]
  split at h
  ·rename_i c2
   rw[if_pos c2]
   split at h
   ·rename_i c3
    rw[if_pos c3]
    have:=twl_le dg s
    simp only[yR]
    exact⟨by omega,by omega,numF_inR _⟩
   ·cases h
  ·rename_i c2
   rw[if_neg c2]
   split at h
   ·rename_i x hx
    have h1:=sgL_ne (List.mem_of_find?_eq_some hx)
    have h2:=List.find?_some hx
    have h3:=(List.isPrefixOf_iff_prefix.1 h2).length_le
    exact⟨h1.1,h3,rfl⟩
   ·cases h
theorem scan_ok{s:List UInt8}:∀(n p:Nat) (out:List Glex_Token),s.length<p+n→p≤s.length→out.length≤p→(∀x∈out,Tr7.inR x.N=true)→
  (scanL n s p out).1.length≤s.length∧∀x∈(scanL n s p out).1,Tr7.inR x.N=true
 |0,p,out,h,hp,_,_=>by omega
 |n+1,p,out,h,hp,ho,hr=>by
  rw[scanL]
  split
  ·rename_i hlt
   split
   ·exact⟨Nat.zero_le _,fun x hx=>by cases hx⟩
   split
   ·rename_i h1
    obtain⟨a,b,c⟩:=one_ok h1
    rw[List.length_drop]at b
    have hg:=gap_le false (s.drop (p+(oneK (s.drop p)).2.Text.length))
    rw[List.length_drop]at hg
    refine scan_ok n _ _ (by omega) (by omega) (by rw[xP,List.length_singleton];omega) fun x hx=> ?_
    rcases List.mem_append.1 hx with q |q
    ·exact hr x q
    ·rw[yQ]at q;subst q;exact c
   ·exact⟨Nat.zero_le _,fun x hx=>by cases hx⟩
  ·exact⟨by show out.length≤_;omega,hr⟩
end Go.Etx
namespace Go.Etx
open Go Go.Am Go.Proofs
structure Rdr where
 l:List Glex_Token
 stop:Int
 s:GScope
 pos:Nat
 place:Int
 e:Int
 out:List GNode
abbrev tok0:Glex_Token:=⟨0,0,0,[]⟩
namespace Rdr
def now(r:Rdr):Glex_Token:=(r.l[r.pos]?).getD tok0
def fail(x:Int)(r:Rdr):Rdr:=if r.e=0 then{r with e:=x,place:=match r.l[r.pos]? with |some t=>t.At |none=>r.stop}else r
def is(k:Int)(t:List UInt8)(r:Rdr):Bool:=decide (r.e=0)&&(decide (r.now.Kind=k)&&decide (r.now.Text=t))
def step(r:Rdr):Rdr:={r with pos:=r.pos+1}
def take(t:List UInt8)(r:Rdr):Rdr:=if r.is 3 t=true then r.step else r.fail 3
def put(op n:Int)(r:Rdr):Rdr:=if r.e=0 then{r with out:=r.out++[⟨op,n⟩]}else r
def kind(k:Int)(r:Rdr):Glex_Token×Rdr:=if r.e=0∧r.now.Kind=k then(r.now,r.step)else(tok0,r.fail 3)
def found(look:List UInt8→Int)(r:Rdr):Int×Rdr:=if r.e=0∧r.now.Kind=1 then(if look r.now.Text<0 then(0,r.fail 8)else(look r.now.Text,r.step))else(0,r.fail 3)
def length(r:Rdr):Rdr:=let p:=(r.take [40]).found (fun nm=>fidx (pC nm) r.s.Chans);(p.2.take [41]).put 6 p.1
def nothing(r:Rdr):Rdr:=let p:=(r.take [40]).found (fun nm=>fidx (pS nm) r.s.Scalars);(p.2.take [41]).put 8 p.1
def wide(r:Rdr):Rdr:=if r.e=0∧r.now.Kind=2∧16≤r.now.N then r.fail 10 else r
def whereA(r:Rdr):Rdr:=((r.take [40]).found (fun nm=>fidx (pP nm) r.s.Procs)).2.take [44]
def whereI(r:Rdr):Int:=((r.take [40]).found (fun nm=>fidx (pP nm) r.s.Procs)).1
def whereR(r:Rdr):Rdr:=((r.whereA.wide.kind 2).2.take [41]).put 7 (w64 (w64 (16 * r.whereI)+(r.whereA.wide.kind 2).1.N))
end Rdr
def opK(t:List UInt8)(b:Int):Option Int:=([11,12,13,14,15,16,17,18,19]:List Int).find? fun o=>decide (sgnT o=t∧sgnB o=b)
def standsK(s:GScope)(nm:List UInt8):Int×Int:=if 0≤fidx (pV nm) s.Locals then(4,fidx (pV nm) s.Locals)else if 0≤fidx (pV nm) s.Vars then(2,fidx (pV nm) s.Vars)else(0,-1)
inductive Md where
 |level (b:Int)
 |rest (b:Int)
 |strong
 |leaf
 |word
def rdK:Nat→Md→Rdr→Option Rdr
 |0,_,_=>none
 |n+1,.level b,r=>if b=6 then rdK n .strong r else if b=7 then rdK n .leaf r else(rdK n (.level (b+1)) r).bind (rdK n (.rest b))
 |n+1,.rest b,r=>if r.e=0 then(match opK r.now.Text b with
   |none=>some r
   |some o=>if r.now.Kind=3 then(rdK n (.level (b+1)) r.step).bind fun r1=>if b=3 then some (r1.put o 0)else rdK n (.rest b) (r1.put o 0)else some r)else some r
 |n+1,.strong,r=>if r.is 3 [33]=true then(rdK n .strong r.step).map (Rdr.put 9 0)
   else if r.is 3 [45]=true then(if r.step.now.Kind=2 then some (r.step.step.put 1 (w64 (-r.step.now.N)))else(rdK n .strong r.step).map (Rdr.put 10 0))
   else rdK n .leaf r
 |n+1,.leaf,r=>if r.e=0 then(if r.now.Kind=2 then some (r.step.put 1 r.now.N)else if r.is 3 [40]=true then(rdK n (.level 1) r.step).map (Rdr.take [41])else if r.now.Kind=1 then rdK n .word r else some (r.fail 3))else some r
 |n+1,.word,r=>
  if r.now.Text=[115,101,108,102]then some (r.step.put 5 0)
  else if r.now.Text=[108,101,110]then some r.step.length
  else if r.now.Text=[97,116]then some r.step.whereR
  else if r.now.Text=[110,111,110,101]then some r.step.nothing
  else if(standsK r.s r.now.Text).1=0 then some (r.fail 8)
  else if(standsK r.s r.now.Text).1=2∧r.step.is 3 [91]=true then(rdK n (.level 1) r.step.step).map fun r1=>(r1.take [93]).put 3 (standsK r.s r.now.Text).2
  else some (r.step.put (standsK r.s r.now.Text).1 (standsK r.s r.now.Text).2)
end Go.Etx
namespace Go.Etx
open Go Go.Am Go.Proofs
set_option maxHeartbeats 4000000
set_option maxRecDepth 20000
noncomputable section
abbrev rdT(r:Rdr):T:=.agg [.d (.sl false (List.map elex_Token r.l)),.d (.int .i64 r.stop),.d (.sl false (List.map eScalar r.s.Scalars)),.d (.sl false (List.map eVar r.s.Vars)),.d (.sl false (List.map eChan r.s.Chans)),.d (.sl false (List.map (eProc false) r.s.Procs)),.d (.sl false (List.map eVar r.s.Locals)),.d (.int .i64 r.s.Self),
 .d (.int .i64 (r.pos:Int)),.d (.int .i64 r.place),.d (.int .i64 r.e),.own (tl eNode r.out)]
@[go_sem] theorem fold_step(r:Rdr):T.agg [.d (.sl false (List.map elex_Token r.l)),.d (.int .i64 r.stop),.d (.sl false (List.map eScalar r.s.Scalars)),.d (.sl false (List.map eVar r.s.Vars)),.d (.sl false (List.map eChan r.s.Chans)),.d (.sl false (List.map (eProc false) r.s.Procs)),.d (.sl false (List.map eVar r.s.Locals)),.d (.int .i64 r.s.Self),
 .d (.int .i64 ((r.pos:Int)+1)),.d (.int .i64 r.place),.d (.int .i64 r.e),.own (tl eNode r.out)]=rdT r.step:=rfl
theorem step_pos(r:Rdr):r.step.pos=r.pos+1:=rfl
theorem step_l(r:Rdr):r.step.l=r.l:=rfl
theorem step_s(r:Rdr):r.step.s=r.s:=rfl
theorem tt{p:Prop}(h:p):p=True:=eq_true h
theorem ff{p:Prop}(h:¬p):p=False:=eq_false h
variable{ρ:Type}
theorem now_w(r:Rdr)(hp:r.pos<4611686018427387904)(M:List Ob)(κ:KT ρ):cbK (call 110 [.ptr 0] (.box (rdT r)::M)) κ=κ ([.d (.agg [.int .i64 r.now.Kind,.int .i64 r.now.N,.int .i64 r.now.At,.str r.now.Text])],.box (rdT r)::M):=by
 refine(ge110 _ _ _ rfl).trans ?_
 unfold Rdr.now
 by_cases h:r.pos<r.l.length
 ·have h1:(r.pos:Int)<(r.l.length:Int):=by omega
  have h2:r.l[r.pos]? =some r.l[r.pos]:=xG h
  rw[h2,Option.getD_some]
  simp -implicitDefEqProofs (maxSteps:=1000000) [go_sem,h1,h2,-List.map_append,-List.map_take,-List.map_drop,-List.map_set]
 ·have h1:¬(r.pos:Int)<(r.l.length:Int):=by omega
  have h2:r.l[r.pos]? =none:=List.getElem?_eq_none (by omega)
  rw[h2]
  simp -implicitDefEqProofs (maxSteps:=1000000) [go_sem,h1,-List.map_append,-List.map_take,-List.map_drop,-List.map_set]
theorem fail_w(r:Rdr)(hp:r.pos<4611686018427387904)(x:Int)(M:List Ob)(κ:KT ρ):cbK (call 17 [.ptr 0,.int .i64 x] (.box (rdT r)::M)) κ=κ ([],.box (rdT (r.fail x))::M):=by
 refine(ge17 _ _ _ rfl).trans ?_
 unfold Rdr.fail
 by_cases h0:r.e=0
 ·by_cases h:r.pos<r.l.length
  ·have h1:(r.pos:Int)<(r.l.length:Int):=by omega
   have h2:r.l[r.pos]? =some r.l[r.pos]:=xG h
   rw[if_pos h0,h2]
   simp -implicitDefEqProofs (maxSteps:=1000000) [go_sem,h0,h1,h2,-List.map_append,-List.map_take,-List.map_drop,-List.map_set]
  ·have h1:¬(r.pos:Int)<(r.l.length:Int):=by omega
   have h2:r.l[r.pos]? =none:=List.getElem?_eq_none (by omega)
   rw[if_pos h0,h2]
   simp -implicitDefEqProofs (maxSteps:=1000000) [go_sem,h0,h1,-List.map_append,-List.map_take,-List.map_drop,-List.map_set]
 ·rw[if_neg h0]
  simp -implicitDefEqProofs (maxSteps:=1000000) [go_sem,h0,-List.map_append,-List.map_take,-List.map_drop,-List.map_set]
theorem is_w(r:Rdr)(hp:r.pos<4611686018427387904)(k:Int)(t:List UInt8)(M:List Ob)(κ:KT ρ):cbK (call 108 [.ptr 0,.int .i64 k,.str t] (.box (rdT r)::M)) κ=κ ([.d (.bool (r.is k t))],.box (rdT r)::M):=by
 refine(ge108 _ _ _ rfl).trans ?_
 have hn:=fun M κ=>now_w (ρ:=ρ) r hp M κ
 unfold Rdr.is
 by_cases h0:r.e=0 <;>by_cases h1:r.now.Kind=k <;>by_cases h2:r.now.Text=t <;>
  simp -implicitDefEqProofs (maxSteps:=1000000) [go_sem,hn,h0,h1,h2,-List.map_append,-List.map_take,-List.map_drop,-List.map_set]
theorem take_w(r:Rdr)(hp:r.pos<4611686018427387904)(t:List UInt8)(M:List Ob)(κ:KT ρ):cbK (call 111 [.ptr 0,.str t] (.box (rdT r)::M)) κ=κ ([],.box (rdT (r.take t))::M):=by
 refine(ge111 _ _ _ rfl).trans ?_
 have hi:=fun k t M κ=>is_w (ρ:=ρ) r hp k t M κ
 have hf:=fun x M κ=>fail_w (ρ:=ρ) r hp x M κ
 have hw:IntKind.i64.wrap ((r.pos:Int)+1)=(r.pos:Int)+1:=wrap_i64 (by omega) (by omega)
 unfold Rdr.take
 by_cases h:r.is 3 t=true
 ·rw[if_pos h]
  simp -implicitDefEqProofs (maxSteps:=1000000) [go_sem,hi,h,hw,-List.map_append,-List.map_take,-List.map_drop,-List.map_set]
 ·rw[if_neg h]
  simp -implicitDefEqProofs (maxSteps:=1000000) [go_sem,hi,h,hf,-List.map_append,-List.map_take,-List.map_drop,-List.map_set]
theorem kind_w(r:Rdr)(hp:r.pos<4611686018427387904)(k:Int)(M:List Ob)(κ:KT ρ):cbK (call 148 [.ptr 0,.int .i64 k] (.box (rdT r)::M)) κ=κ ([.d (.agg [.int .i64 (r.kind k).1.Kind,.int .i64 (r.kind k).1.N,.int .i64 (r.kind k).1.At,.str (r.kind k).1.Text])],.box (rdT (r.kind k).2)::M):=by
 refine(ge148 _ _ _ rfl).trans ?_
 have hn:=fun M κ=>now_w (ρ:=ρ) r hp M κ
 have hf:=fun x M κ=>fail_w (ρ:=ρ) r hp x M κ
 have hw:IntKind.i64.wrap ((r.pos:Int)+1)=(r.pos:Int)+1:=wrap_i64 (by omega) (by omega)
 unfold Rdr.kind
 by_cases h0:r.e=0∧r.now.Kind=k
 ·rw[if_pos h0]
  have h1:=tt h0.1
  have h2:=tt h0.2
  simp -implicitDefEqProofs (maxSteps:=1000000) [go_sem,hn,hf,hw,h1,h2,-List.map_append,-List.map_take,-List.map_drop,-List.map_set]
 ·rw[if_neg h0]
  by_cases h1:r.e=0
  ·have h2:=ff (fun h2=>h0 ⟨h1,h2⟩)
   have h1:=tt h1
   simp -implicitDefEqProofs (maxSteps:=1000000) [go_sem,hn,hf,hw,h1,h2,-List.map_append,-List.map_take,-List.map_drop,-List.map_set]
  ·have h1:=ff h1
   simp -implicitDefEqProofs (maxSteps:=1000000) [go_sem,hn,hf,hw,h1,-List.map_append,-List.map_take,-List.map_drop,-List.map_set]
theorem put_w(r:Rdr)(ho:r.out.length<1099511627776)(op n:Int)(M:List Ob)(κ:KT ρ):cbK (call 109 [.ptr 0,.int .i64 op,.int .i64 n] (.box (rdT r)::M)) κ=κ ([],.box (rdT (r.put op n))::M):=by
 refine(ge109 _ _ _ rfl).trans ?_
 have h1:(r.out.length+1) * 16≤140737488355328∧r.out.length≤9223372036854775806:=by omega
 unfold Rdr.put
 by_cases h0:r.e=0
 ·rw[if_pos h0]
  have h0:=tt h0
  simp -implicitDefEqProofs (maxSteps:=1000000) [go_sem,h0,h1,-List.map_append,-List.map_take,-List.map_drop,-List.map_set]
 ·rw[if_neg h0]
  have h0:=ff h0
  simp -implicitDefEqProofs (maxSteps:=1000000) [go_sem,h0,-List.map_append,-List.map_take,-List.map_drop,-List.map_set]
theorem put_s(r:Rdr)(op n:Int):(r.put op n).s=r.s:=by unfold Rdr.put;split <;>rfl
theorem put_pos(r:Rdr)(op n:Int):(r.put op n).pos=r.pos:=by unfold Rdr.put;split <;>rfl
theorem fail_pos(r:Rdr)(x:Int):(r.fail x).pos=r.pos:=by unfold Rdr.fail;split <;>rfl
theorem fail_s(r:Rdr)(x:Int):(r.fail x).s=r.s:=by unfold Rdr.fail;split <;>rfl
theorem fail_out(r:Rdr)(x:Int):(r.fail x).out=r.out:=by unfold Rdr.fail;split <;>rfl
theorem take_pos(r:Rdr)(t:List UInt8):(r.take t).pos≤r.pos+1:=by unfold Rdr.take;split;exact Nat.le_refl _;rw[fail_pos];omega
theorem take_s(r:Rdr)(t:List UInt8):(r.take t).s=r.s:=by unfold Rdr.take;split;rfl;exact fail_s r 3
theorem take_out(r:Rdr)(t:List UInt8):(r.take t).out=r.out:=by unfold Rdr.take;split;rfl;exact fail_out r 3
theorem found_pos(r:Rdr)(l:List UInt8→Int):(r.found l).2.pos≤r.pos+1:=by
 unfold Rdr.found
 split
 ·split
  ·simp only[fail_pos];omega
  ·exact Nat.le_refl _
 ·simp only[fail_pos];omega
theorem found_out(r:Rdr)(l:List UInt8→Int):(r.found l).2.out=r.out:=by
 unfold Rdr.found
 split
 ·split
  ·exact fail_out r 8
  ·rfl
 ·exact fail_out r 3
theorem kind_pos(r:Rdr)(k:Int):(r.kind k).2.pos≤r.pos+1:=by
 unfold Rdr.kind
 split
 ·exact Nat.le_refl _
 ·simp only[fail_pos];omega
theorem kind_out(r:Rdr)(k:Int):(r.kind k).2.out=r.out:=by
 unfold Rdr.kind
 split
 ·rfl
 ·exact fail_out r 3
theorem wide_pos(r:Rdr):r.wide.pos=r.pos:=by unfold Rdr.wide;split;exact fail_pos r 10;rfl
theorem wide_out(r:Rdr):r.wide.out=r.out:=by unfold Rdr.wide;split;exact fail_out r 10;rfl
theorem now_ro(r:Rdr)(hp:r.pos<4611686018427387904)(κ:KT ρ):cbK (call 110 [.rptr [.sl true (List.map elex_Token r.l),.int .i64 r.stop,.sl true (List.map eScalar r.s.Scalars),.sl true (List.map eVar r.s.Vars),.sl true (List.map eChan r.s.Chans),.sl true (List.map (eProc true) r.s.Procs),.sl true (List.map eVar r.s.Locals),.int .i64 r.s.Self,.int .i64 (r.pos:Int),.int .i64 r.place,.int .i64 r.e,.sl true (List.map eNode r.out)]] []) κ=κ ([.d (.agg [.int .i64 r.now.Kind,.int .i64 r.now.N,.int .i64 r.now.At,.str r.now.Text])],[]):=by
 refine(ge110 _ _ _ rfl).trans ?_
 unfold Rdr.now
 by_cases h:r.pos<r.l.length
 ·have h1:(r.pos:Int)<(r.l.length:Int):=by omega
  have h2:r.l[r.pos]? =some r.l[r.pos]:=xG h
  rw[h2,Option.getD_some]
  simp -implicitDefEqProofs (maxSteps:=1000000) [go_sem,h1,h2,-List.map_append,-List.map_take,-List.map_drop,-List.map_set]
 ·have h1:¬(r.pos:Int)<(r.l.length:Int):=by omega
  have h2:r.l[r.pos]? =none:=List.getElem?_eq_none (by omega)
  rw[h2]
  simp -implicitDefEqProofs (maxSteps:=1000000) [go_sem,h1,-List.map_append,-List.map_take,-List.map_drop,-List.map_set]
theorem found_w(r:Rdr)(hp:r.pos<4611686018427387904)(g:Nat)(lk:List UInt8→Int)(hg:g<1099511627776)(hx:extOf P g=none)
  (hl:∀(κ:KT ρ),cbK (call g [.str r.now.Text,.agg [.sl false (List.map eScalar r.s.Scalars),.sl false (List.map eVar r.s.Vars),.sl false (List.map eChan r.s.Chans),.sl false (List.map (eProc false) r.s.Procs),.sl false (List.map eVar r.s.Locals),.int .i64 r.s.Self]] []) κ=κ ([.d (.int .i64 (lk r.now.Text))],[]))
  (M:List Ob) (κ:KT ρ):cbK (call 147 [.ptr 0,.fn (.func g) [] []] (.box (rdT r)::M)) κ=κ ([.d (.int .i64 (r.found lk).1)],.box (rdT (r.found lk).2)::M):=by
 refine(ge147 _ _ _ rfl).trans ?_
 have hn:=fun M κ=>now_w (ρ:=ρ) r hp M κ
 have hr:=fun κ=>now_ro (ρ:=ρ) r hp κ
 have hf:=fun x M κ=>fail_w (ρ:=ρ) r hp x M κ
 have hw:IntKind.i64.wrap ((r.pos:Int)+1)=(r.pos:Int)+1:=wrap_i64 (by omega) (by omega)
 unfold Rdr.found
 by_cases h0:r.e=0∧r.now.Kind=1
 ·rw[if_pos h0]
  have h1:=tt h0.1
  have h2:=tt h0.2
  by_cases h3:lk r.now.Text<0
  ·simp -implicitDefEqProofs (maxSteps:=1000000) [go_sem,mapO,roD,hr,hn,hf,hl,hg,hx,hw,h1,h2,h3,-List.map_append,-List.map_take,-List.map_drop,-List.map_set]
  ·simp -implicitDefEqProofs (maxSteps:=1000000) [go_sem,mapO,roD,hr,hn,hf,hl,hg,hx,hw,h1,h2,h3,-List.map_append,-List.map_take,-List.map_drop,-List.map_set]
 ·rw[if_neg h0]
  by_cases h1:r.e=0
  ·have h2:=ff (fun h2=>h0 ⟨h1,h2⟩)
   have h1:=tt h1
   simp -implicitDefEqProofs (maxSteps:=1000000) [go_sem,hn,hf,hw,h1,h2,-List.map_append,-List.map_take,-List.map_drop,-List.map_set]
  ·have h1:=ff h1
   simp -implicitDefEqProofs (maxSteps:=1000000) [go_sem,hn,hf,hw,h1,-List.map_append,-List.map_take,-List.map_drop,-List.map_set]
abbrev LK(g:Nat)(s:GScope)(lk:List UInt8→Int)(ρ:Type):Prop:=∀(nm:List UInt8) (κ:KT ρ),cbK (call g [.str nm,.agg [.sl false (List.map eScalar s.Scalars),.sl false (List.map eVar s.Vars),.sl false (List.map eChan s.Chans),.sl false (List.map (eProc false) s.Procs),.sl false (List.map eVar s.Locals),.int .i64 s.Self]] []) κ=κ ([.d (.int .i64 (lk nm))],[])
theorem length_w(r:Rdr)(hp:r.pos<4611686018427387000)(ho:r.out.length<1099511627776)(hl:LK 41 r.s (fun nm=>fidx (pC nm) r.s.Chans) ρ)(M:List Ob)(κ:KT ρ):cbK (call 135 [.ptr 0] (.box (rdT r)::M)) κ=κ ([],.box (rdT r.length)::M):=by
 refine(ge135 _ _ _ rfl).trans ?_
 have p1:=take_pos r [40]
 have p2:=found_pos (r.take [40]) (fun nm=>fidx (pC nm) r.s.Chans)
 have p3:=take_pos ((r.take [40]).found (fun nm=>fidx (pC nm) r.s.Chans)).2 [41]
 have s1:=fun M κ=>take_w (ρ:=ρ) r (by omega) [40] M κ
 have s2:=fun M κ=>found_w (ρ:=ρ) (r.take [40]) (by omega) 41 (fun nm=>fidx (pC nm) r.s.Chans) (by decide) (by simp[go_sem]) (by rw[take_s];exact hl _) M κ
 have s3:=fun M κ=>take_w (ρ:=ρ) ((r.take [40]).found (fun nm=>fidx (pC nm) r.s.Chans)).2 (by omega) [41] M κ
 have s4:=fun op n M κ=>put_w (ρ:=ρ) (((r.take [40]).found (fun nm=>fidx (pC nm) r.s.Chans)).2.take [41]) (by rw[take_out,found_out,take_out];exact ho) op n M κ
 unfold Rdr.length
 simp -implicitDefEqProofs (maxSteps:=1000000) [go_sem,s1,s2,s3,s4,-List.map_append,-List.map_take,-List.map_drop,-List.map_set]
theorem nothing_w(r:Rdr)(hp:r.pos<4611686018427387000)(ho:r.out.length<1099511627776)(hl:LK 43 r.s (fun nm=>fidx (pS nm) r.s.Scalars) ρ)(M:List Ob)(κ:KT ρ):cbK (call 137 [.ptr 0] (.box (rdT r)::M)) κ=κ ([],.box (rdT r.nothing)::M):=by
 refine(ge137 _ _ _ rfl).trans ?_
 have p1:=take_pos r [40]
 have p2:=found_pos (r.take [40]) (fun nm=>fidx (pS nm) r.s.Scalars)
 have p3:=take_pos ((r.take [40]).found (fun nm=>fidx (pS nm) r.s.Scalars)).2 [41]
 have s1:=fun M κ=>take_w (ρ:=ρ) r (by omega) [40] M κ
 have s2:=fun M κ=>found_w (ρ:=ρ) (r.take [40]) (by omega) 43 (fun nm=>fidx (pS nm) r.s.Scalars) (by decide) (by simp[go_sem]) (by rw[take_s];exact hl _) M κ
 have s3:=fun M κ=>take_w (ρ:=ρ) ((r.take [40]).found (fun nm=>fidx (pS nm) r.s.Scalars)).2 (by omega) [41] M κ
 have s4:=fun op n M κ=>put_w (ρ:=ρ) (((r.take [40]).found (fun nm=>fidx (pS nm) r.s.Scalars)).2.take [41]) (by rw[take_out,found_out,take_out];exact ho) op n M κ
 unfold Rdr.nothing
 simp -implicitDefEqProofs (maxSteps:=1000000) [go_sem,s1,s2,s3,s4,-List.map_append,-List.map_take,-List.map_drop,-List.map_set]
theorem self_w(r:Rdr)(ho:r.out.length<1099511627776)(M:List Ob)(κ:KT ρ):cbK (call 134 [.ptr 0] (.box (rdT r)::M)) κ=κ ([],.box (rdT (r.put 5 0))::M):=by
 refine(ge134 _ _ _ rfl).trans ?_
 have s4:=fun op n M κ=>put_w (ρ:=ρ) r ho op n M κ
 simp -implicitDefEqProofs (maxSteps:=1000000) [go_sem,s4,-List.map_append,-List.map_take,-List.map_drop,-List.map_set]
theorem where_w(r:Rdr)(hp:r.pos<4611686018427387000)(ho:r.out.length<1099511627776)(hl:LK 42 r.s (fun nm=>fidx (pP nm) r.s.Procs) ρ)(M:List Ob)(κ:KT ρ):cbK (call 136 [.ptr 0] (.box (rdT r)::M)) κ=κ ([],.box (rdT r.whereR)::M):=by
 refine(ge136 _ _ _ rfl).trans ?_
 unfold Rdr.whereR
 have p1:=take_pos r [40]
 have p2:=found_pos (r.take [40]) (fun nm=>fidx (pP nm) r.s.Procs)
 have p3:=take_pos ((r.take [40]).found (fun nm=>fidx (pP nm) r.s.Procs)).2 [44]
 have o3:r.whereA.out=r.out:=by unfold Rdr.whereA;rw[take_out,found_out,take_out]
 have s1:=fun M κ=>take_w (ρ:=ρ) r (by omega) [40] M κ
 have s2:∀M (κ:KT ρ),_=κ ([.d (.int .i64 r.whereI)],_):=fun M κ=>found_w (ρ:=ρ) (r.take [40]) (by omega) 42 (fun nm=>fidx (pP nm) r.s.Procs) (by decide) (by simp[go_sem]) (by rw[take_s];exact hl _) M κ
 have s3:∀M (κ:KT ρ),_=κ ([],.box (rdT r.whereA)::M):=fun M κ=>take_w (ρ:=ρ) ((r.take [40]).found (fun nm=>fidx (pP nm) r.s.Procs)).2 (by omega) [44] M κ
 have p3:r.whereA.pos≤((r.take [40]).found (fun nm=>fidx (pP nm) r.s.Procs)).2.pos+1:=p3
 generalize r.whereA=R at *
 generalize r.whereI=i at *
 have s4:=fun M κ=>now_w (ρ:=ρ) R (by omega) M κ
 have s5:=fun x M κ=>fail_w (ρ:=ρ) R (by omega) x M κ
 have p5:=wide_pos R
 have p6:=kind_pos R.wide 2
 have p7:=take_pos (R.wide.kind 2).2 [41]
 have s6:=fun M κ=>kind_w (ρ:=ρ) R.wide (by omega) 2 M κ
 have s7:=fun M κ=>take_w (ρ:=ρ) (R.wide.kind 2).2 (by omega) [41] M κ
 have s8:=fun op n M κ=>put_w (ρ:=ρ) ((R.wide.kind 2).2.take [41]) (by rw[take_out,kind_out,wide_out,o3];exact ho) op n M κ
 by_cases h0:R.e=0∧R.now.Kind=2∧16≤R.now.N
 ·have hW:R.wide=R.fail 10:=by unfold Rdr.wide;rw[if_pos h0]
  rw[hW]at s6 s7 s8
  rw[hW]
  have h1:=tt h0.1
  have h2:=tt h0.2.1
  have h3:=tt h0.2.2
  simp -implicitDefEqProofs (maxSteps:=1000000) [go_sem,s1,s2,s3,s4,s5,s6,s7,s8,h1,h2,h3,-List.map_append,-List.map_take,-List.map_drop,-List.map_set]
 ·have hW:R.wide=R:=by unfold Rdr.wide;rw[if_neg h0]
  rw[hW]at s6 s7 s8
  rw[hW]
  by_cases h1:R.e=0
  ·by_cases h2:R.now.Kind=2
   ·have h3:=ff (fun h3=>h0 ⟨h1,h2,h3⟩)
    have h1:=tt h1
    have h2:=tt h2
    simp -implicitDefEqProofs (maxSteps:=1000000) [go_sem,s1,s2,s3,s4,s5,s6,s7,s8,h1,h2,h3,-List.map_append,-List.map_take,-List.map_drop,-List.map_set]
   ·have h1:=tt h1
    have h2:=ff h2
    simp -implicitDefEqProofs (maxSteps:=1000000) [go_sem,s1,s2,s3,s4,s5,s6,s7,s8,h1,h2,-List.map_append,-List.map_take,-List.map_drop,-List.map_set]
  ·have h1:=ff h1
   simp -implicitDefEqProofs (maxSteps:=1000000) [go_sem,s1,s2,s3,s4,s5,s6,s7,s8,h1,-List.map_append,-List.map_take,-List.map_drop,-List.map_set]
end
end Go.Etx
namespace Go.Etx
open Go Go.Am Go.Proofs
set_option maxHeartbeats 4000000
set_option maxRecDepth 20000
noncomputable section
variable{ρ:Type}
abbrev OfW(g:Nat)(p:Int→Bool)(ρ:Type):Prop:=∀(n:Int) (H:List Ob) (κ:KT ρ),cbK (call g [.int .i32 n] H) κ=κ ([.d (.bool (p n))],H)
theorem more_le{p:Int→Bool}{q:UInt8→Bool}(hq:OfB p q){s:List UInt8}{i:Nat}(h:i<s.length)(hh:q s[i]=true):i+(rune s i).2≤s.length:=by
 have h1:=rune_pos s i
 obtain⟨h2,_⟩:=hq.more s i h hh (i+(rune s i).2 - 1) (by omega) (by omega)
 omega
theorem run_loop{g:Nat}{p:Int→Bool}{q:UInt8→Bool}(hq:OfB p q)(hg:g<1099511627776)(hx:extOf P g=none)(hp:OfW g p ρ)(s:List UInt8)(κ:Am.Ex×St→Option ρ)(A:Int→Option ρ)
  (hr:∀(v:Int) (j:Nat),κ (.ret,⟨[(4,.d (.int .i64 v))],[],[.iter s j]⟩)=A v)
  (he:∀(j:Nat),κ (.exit 0,⟨[(0,.d (.str s)),(1,.d (.fn (.func g) [] [])),(8,.d (.ptr 0)),(9,.tup [.d (.bool false)]),(10,.d (.bool false))],[],[.iter s j]⟩)=A (s.length:Nat)):
  ∀(n i:Nat) (v0:Int) (v1:Bool),s.length - i<n→i≤s.length→goLp P hints hint45 b45 0 ⟨[(0,.d (.str s)),(1,.d (.fn (.func g) [] [])),(5,.d (.int .i64 v0)),(8,.d (.ptr 0)),(16,.d (.bool v1))],[],[.iter s i]⟩ κ=A ((i+twl q (s.drop i):Nat))
 |0,i,v0,v1,h,_=>by omega
 |n+1,i,v0,v1,h,hi=>by
  refine(goLp_turn q45_0.2).trans ?_
  by_cases hlt:i<s.length
  ·have hh:=hq.here s i hlt
   cases hb:q s[i]with
   |true=>
    rw[hb]at hh
    have h1:=rune_pos s i
    have ih:=run_loop hq hg hx hp s κ A hr he n (i+(rune s i).2) (i:Int) false (by omega) (more_le hq hlt hb)
    rw[Nat.add_assoc,←twl_ext (rune s i).2 i (hq.more s i hlt hb)]at ih
    simp -implicitDefEqProofs (maxSteps:=1000000) [go_sem,hlt,hg,hx,hp _ _,hh,ih,-List.map_append,-List.map_take,-List.map_drop,-List.map_set,-Int.natCast_add]
   |false=>
    rw[hb]at hh
    rw[twl_stop hlt hb,Nat.add_zero]
    simp -implicitDefEqProofs (maxSteps:=1000000) [go_sem,hlt,hg,hx,hp _ _,hh,hr,-List.map_append,-List.map_take,-List.map_drop,-List.map_set]
  ·obtain rfl:i=s.length:=by omega
   have e:twl q (s.drop s.length)=0:=by rw[List.drop_length];rfl
   rw[e,Nat.add_zero]
   simp -implicitDefEqProofs (maxSteps:=1000000) [go_sem,he,-List.map_append,-List.map_take,-List.map_drop,-List.map_set]
theorem run_w{g:Nat}{p:Int→Bool}{q:UInt8→Bool}(hq:OfB p q)(hg:g<1099511627776)(hx:extOf P g=none)(hp:OfW g p ρ)(s:List UInt8)(κ:KT ρ):
  cbK (call 45 [.str s,.fn (.func g) [] []] []) κ=κ ([.d (.int .i64 ((twl q s:Nat):Int))],[]):=by
 refine(ge45 _ _ _ rfl).trans ?_
 by_cases hlt:0<s.length
 ·have hh:=hq.here s 0 hlt
  cases hb:q s[0]with
  |true=>
   rw[hb]at hh
   have h1:=rune_pos s 0
   have e:twl q s=(rune s 0).2+twl q (s.drop (rune s 0).2):=by
    have:=twl_ext (q:=q) (s:=s) (rune s 0).2 0 (hq.more s 0 hlt hb)
    rwa [List.drop_zero,Nat.zero_add]at this
   have hl:=fun κ A hr he=>run_loop (ρ:=ρ) hq hg hx hp s κ A hr he (s.length+1) (rune s 0).2 0 false (by omega) (by have:=more_le hq hlt hb;omega)
   rw[←e]at hl
   simp -implicitDefEqProofs (maxSteps:=1000000) [go_sem,hlt,hg,hx,hp _ _,hh,-List.map_append,-List.map_take,-List.map_drop,-List.map_set]
   refine hl _ (fun v=>κ ([.d (.int .i64 v)],[])) (fun v j=> ?_) (fun j=> ?_) <;>
    simp -implicitDefEqProofs (maxSteps:=1000000) [go_sem,-List.map_append,-List.map_take,-List.map_drop,-List.map_set]
  |false=>
   rw[hb]at hh
   have e:twl q s=0:=by
    have:=twl_stop (s:=s) (p:=0) hlt hb
    rwa [List.drop_zero]at this
   rw[e]
   simp -implicitDefEqProofs (maxSteps:=1000000) [go_sem,hlt,hg,hx,hp _ _,hh,-List.map_append,-List.map_take,-List.map_drop,-List.map_set]
 ·obtain rfl:s=[]:=List.length_eq_zero_iff.1 (by omega)
  simp -implicitDefEqProofs (maxSteps:=1000000) [go_sem,twl,-List.map_append,-List.map_take,-List.map_drop,-List.map_set]
theorem skip_in (s : List UInt8) (hs : s.length < 4611686018427387904) (κ : Am.Ex × St → Option ρ) (A : Nat → Option ρ)
    (h : ∀ (j : Nat), κ (.exit 2, ⟨[(0, .d (.str s)), (1, .d (.int .i64 j)), (40, .d (.bool false))], [], []⟩) = A j) :
    ∀ (n i : Nat) (c : Bool), s.length - i < n → i ≤ s.length → goLp P hints hint54 b54 0 ⟨(0, .d (.str s)) :: (1, .d (.int .i64 i)) :: (if c = true then [(30, .d (.bool true))] else []), [], []⟩ κ = A (i + twl nl (s.drop i))
  | 0, i, c, h, _ => by omega
  | n + 1, i, c, hn, hi => by
    refine (goLp_turn q54_0.2).trans ?_
    by_cases hlt : i < s.length
    · have h1 : (i : Int) < (s.length : Int) := by omega
      have h2 : s[i]? = some s[i] := List.getElem?_eq_getElem hlt
      by_cases hb : s[i] = 10
      · have hb2 := tt (show ((s[i].toNat : Nat) : Int) = 10 by rw [hb]; rfl)
        rw [twl_stop hlt (by simp [nl, hb]), Nat.add_zero]
        cases c <;> simp -implicitDefEqProofs (maxSteps := 1000000) [go_sem, h1, h2, hb2, h, -List.map_append, -List.map_take, -List.map_drop, -List.map_set]
      · have hb2 := ff (show ¬ ((s[i].toNat : Nat) : Int) = 10 from fun e => hb (UInt8.toNat_inj.1 (by rw [show ((10 : UInt8).toNat) = 10 from rfl]; omega)))
        have ih := skip_in s hs κ A h n (i + 1) false (by omega) hlt
        have e := twl_ext (q := nl) (s := s) 1 i (fun j a b => (by obtain rfl : j = i := (by omega); exact ⟨hlt, by simp [nl, hb]⟩))
        have hw := wrapS (k := i) (by omega)
        simp only [Bool.false_eq_true, if_false] at ih
        rw [e, ← Nat.add_assoc]
        cases c <;> simp -implicitDefEqProofs (maxSteps := 1000000) [go_sem, h1, h2, hb2, hw, ih, -Int.natCast_add, -List.map_append, -List.map_take, -List.map_drop, -List.map_set]
    · obtain rfl : i = s.length := by omega
      have e : twl nl (s.drop s.length) = 0 := by rw [List.drop_length]; rfl
      rw [e, Nat.add_zero]
      cases c <;> simp -implicitDefEqProofs (maxSteps := 1000000) [go_sem, h, -List.map_append, -List.map_take, -List.map_drop, -List.map_set]
theorem byte_eq {b : UInt8} {k : UInt8} : (((b.toNat : Nat) : Int) = ((k.toNat : Nat) : Int)) = (b = k) := by
  refine propext ⟨fun e => UInt8.toNat_inj.1 (by omega), fun e => by rw [e]⟩
theorem skip_out (s : List UInt8) (hs : s.length < 4611686018427387904) (κ : Am.Ex × St → Option ρ) (A : Nat → Option ρ)
    (h : ∀ (j : Nat), κ (.exit 0, ⟨[(0, .d (.str s)), (1, .d (.int .i64 j)), (26, .d (.bool false))], [], []⟩) = A j) :
    ∀ (n i : Nat) (c : Bool), s.length - i < n → i ≤ s.length → goLp P hints hint54 b54 1 ⟨(0, .d (.str s)) :: (1, .d (.int .i64 i)) :: (if c = true then [(40, .d (.bool false))] else []), [], []⟩ κ = A (i + gap false (s.drop i))
  | 0, i, c, h, _ => by omega
  | n + 1, i, c, hn, hi => by
    refine (goLp_turn q54_1.2).trans ?_
    by_cases hlt : i < s.length
    · have h1 : (i : Int) < (s.length : Int) := by omega
      have h2 : s[i]? = some s[i] := List.getElem?_eq_getElem hlt
      have b32 : (((s[i].toNat : Nat) : Int) = 32) = (s[i] = 32) := byte_eq (k := 32)
      have b10 : (((s[i].toNat : Nat) : Int) = 10) = (s[i] = 10) := byte_eq (k := 10)
      have b35 : (((s[i].toNat : Nat) : Int) = 35) = (s[i] = 35) := byte_eq (k := 35)
      have hw := wrapS (k := i) (by omega)
      by_cases hsp : s[i] = 32 ∨ s[i] = 10
      · have ih := skip_out s hs κ A h n (i + 1) false (by omega) hlt
        simp only [Bool.false_eq_true, if_false] at ih
        have n35 : (s[i] = 35) = False := eq_false fun e => by rw [e] at hsp; exact absurd hsp (by decide)
        rw [gap_sp hlt hsp, ← Nat.add_assoc]
        rcases hsp with q | q
        · have q := tt q
          cases c <;> simp -implicitDefEqProofs (maxSteps := 1000000) [go_sem, h1, h2, b32, b10, b35, q, n35, hw, ih, -Int.natCast_add, -List.map_append, -List.map_take, -List.map_drop, -List.map_set]
        · have q2 : (s[i] = 32) = False := eq_false fun e => by rw [e] at q; exact absurd q (by decide)
          have q := tt q
          cases c <;> simp -implicitDefEqProofs (maxSteps := 1000000) [go_sem, h1, h2, b32, b10, b35, q, q2, n35, hw, ih, -Int.natCast_add, -List.map_append, -List.map_take, -List.map_drop, -List.map_set]
      · have n32 := ff (fun e => hsp (.inl e))
        have n10 := ff (fun e => hsp (.inr e))
        by_cases q : s[i] = 35
        · have hle := twl_le nl (s.drop i)
          rw [List.length_drop] at hle
          have hpos : 1 ≤ twl nl (s.drop i) := by
            rw [twl_ext (q := nl) (s := s) 1 i (fun j a b => (by obtain rfl : j = i := (by omega); exact ⟨hlt, by simp [nl, q]⟩))]; omega
          have ih := skip_out s hs κ A h n (i + twl nl (s.drop i)) true (by omega) (by omega)
          simp only [if_true] at ih
          have hin := fun K B hB => skip_in (ρ := ρ) s hs K B hB (s.length + 1) i true (by omega) hi
          simp only [if_true] at hin
          rw [gap_hash hlt q, ← Nat.add_assoc]
          have q := tt q
          cases c <;> simp -implicitDefEqProofs (maxSteps := 1000000) [go_sem, h1, h2, b32, b10, b35, q, n32, n10, -Int.natCast_add, -List.map_append, -List.map_take, -List.map_drop, -List.map_set]
          all_goals refine (hin _ (fun j => goLp P hints hint54 b54 1 ⟨[(0, .d (.str s)), (1, .d (.int .i64 (j : Nat))), (40, .d (.bool false))], [], []⟩ κ) fun j => ?_).trans ih
          all_goals simp -implicitDefEqProofs (maxSteps := 1000000) [go_sem, -Int.natCast_add, -List.map_append, -List.map_take, -List.map_drop, -List.map_set]
        · rw [gap_no hlt hsp q, Nat.add_zero]
          have q := ff q
          cases c <;> simp -implicitDefEqProofs (maxSteps := 1000000) [go_sem, h1, h2, b32, b10, b35, q, n32, n10, h, -Int.natCast_add, -List.map_append, -List.map_take, -List.map_drop, -List.map_set]
    · obtain rfl : i = s.length := by omega
      have e : gap false (s.drop s.length) = 0 := by rw [List.drop_length]; rfl
      rw [e, Nat.add_zero]
      cases c <;> simp -implicitDefEqProofs (maxSteps := 1000000) [go_sem, h, -List.map_append, -List.map_take, -List.map_drop, -List.map_set]
theorem skip_w (s : List UInt8) (hs : s.length < 4611686018427387904) (i : Nat) (hi : i ≤ s.length) (κ : KT ρ) :
    cbK (call 54 [.str s, .int .i64 i] []) κ = κ ([.d (.int .i64 ((i + gap false (s.drop i) : Nat) : Int))], []) := by
  refine (ge54 _ _ _ rfl).trans ?_
  have hl := fun K A h => skip_out (ρ := ρ) s hs K A h (s.length + 1) i false (by omega) hi
  simp only [Bool.false_eq_true, if_false] at hl
  simp -implicitDefEqProofs (maxSteps := 1000000) [go_sem, -Int.natCast_add, -List.map_append, -List.map_take, -List.map_drop, -List.map_set]
  refine hl _ (fun j => κ ([.d (.int .i64 ((j : Nat) : Int))], [])) fun j => ?_
  simp -implicitDefEqProofs (maxSteps := 1000000) [go_sem, -Int.natCast_add, -List.map_append, -List.map_take, -List.map_drop, -List.map_set]
theorem let_w(n:Int)(H:List Ob)(κ:KT ρ):cbK (call 44 [.int .i32 n] H) κ=κ ([.d (.bool (letB n))],H):=by
 refine(ge44 _ _ _ rfl).trans ?_
 unfold letB
 by_cases a:97≤n <;>by_cases b:n≤122 <;>by_cases c:65≤n <;>by_cases d:n≤90 <;>
  simp -implicitDefEqProofs (maxSteps:=1000000) [go_sem,a,b,c,d,-List.map_append,-List.map_take,-List.map_drop,-List.map_set]
theorem dig_w(n:Int)(H:List Ob)(κ:KT ρ):cbK (call 64 [.int .i32 n] H) κ=κ ([.d (.bool (digB n))],H):=by
 refine(ge64 _ _ _ rfl).trans ?_
 unfold digB
 by_cases a:48≤n <;>by_cases b:n≤57 <;>
  simp -implicitDefEqProofs (maxSteps:=1000000) [go_sem,a,b,-List.map_append,-List.map_take,-List.map_drop,-List.map_set]
theorem part_w(n:Int)(H:List Ob)(κ:KT ρ):cbK (call 46 [.int .i32 n] H) κ=κ ([.d (.bool (partB n))],H):=by
 refine(ge46 _ _ _ rfl).trans ?_
 have h1:=fun H κ=>let_w (ρ:=ρ) n H κ
 have h2:=fun H κ=>dig_w (ρ:=ρ) n H κ
 unfold partB
 by_cases c:n=95
 ·have c:=tt c
  cases a:letB n <;>cases b:digB n <;>simp -implicitDefEqProofs (maxSteps:=1000000) [go_sem,h1,h2,a,b,c,-List.map_append,-List.map_take,-List.map_drop,-List.map_set]
 ·have c:=ff c
  cases a:letB n <;>cases b:digB n <;>simp -implicitDefEqProofs (maxSteps:=1000000) [go_sem,h1,h2,a,b,c,-List.map_append,-List.map_take,-List.map_drop,-List.map_set]
theorem nl_w(n:Int)(H:List Ob)(κ:KT ρ):cbK (call 63 [.int .i32 n] H) κ=κ ([.d (.bool (!decide (n=10)))],H):=by
 refine(ge63 _ _ _ rfl).trans ?_
 by_cases a:n=10 <;>simp -implicitDefEqProofs (maxSteps:=1000000) [go_sem,a,-List.map_append,-List.map_take,-List.map_drop,-List.map_set]
theorem between_loop(s:List UInt8)(hs:s.length<1099511627776)(κ:Am.Ex×St→Option ρ)(A:Nat→Option ρ)
  (hr:∀(j:Nat),κ (.ret,⟨[(2,.d (.int .i64 j))],[],[]⟩)=A j)
  (he:κ (.exit 0,⟨[(0,.d (.str s)),(3,.d (.int .i64 s.length)),(7,.d (.bool false))],[],[]⟩)=A s.length):
  ∀(n i:Nat),s.length - i<n→i≤s.length→goLp P hints hint33 b33 0 ⟨[(0,.d (.str s)),(3,.d (.int .i64 i))],[],[]⟩ κ=A (i+gap false (s.drop i))
 |0,i,h,_=>by omega
 |n+1,i,hn,hi=>by
  refine(goLp_turn q33_0.2).trans ?_
  by_cases hlt:i<s.length
  ·have h1:(i:Int)<(s.length:Int):=by omega
   have h2:s[i]? =some s[i]:=xG hlt
   have b32:(((s[i].toNat:Nat):Int)=32)=(s[i]=32):=byte_eq (k:=32)
   have b10:(((s[i].toNat:Nat):Int)=10)=(s[i]=10):=byte_eq (k:=10)
   have b35:(((s[i].toNat:Nat):Int)=35)=(s[i]=35):=byte_eq (k:=35)
   have hw:=wrapS (k:=i) (by omega)
   by_cases hsp:s[i]=32∨s[i]=10
   ·have ih:=between_loop s hs κ A hr he n (i+1) (by omega) hlt
    rw[gap_sp hlt hsp,←Nat.add_assoc]
    rcases hsp with q |q
    ·have q:=tt q
     simp -implicitDefEqProofs (maxSteps:=1000000) [go_sem,h1,h2,b32,b10,b35,q,hw,ih,-Int.natCast_add,-List.map_append,-List.map_take,-List.map_drop,-List.map_set]
    ·have q2:(s[i]=32)=False:=eq_false fun e=>by rw[e]at q;exact absurd q (by decide)
     have q:=tt q
     simp -implicitDefEqProofs (maxSteps:=1000000) [go_sem,h1,h2,b32,b10,b35,q,q2,hw,ih,-Int.natCast_add,-List.map_append,-List.map_take,-List.map_drop,-List.map_set]
   ·have n32:=ff (fun e=>hsp (.inl e))
    have n10:=ff (fun e=>hsp (.inr e))
    by_cases q:s[i]=35
    ·have hle:=twl_le nl (s.drop i)
     rw[List.length_drop]at hle
     have hpos:1≤twl nl (s.drop i):=by
      rw[twl_ext (q:=nl) (s:=s) 1 i (fun j a b=>(by obtain rfl:j=i:=(by omega);exact⟨hlt,by simp[nl,q]⟩))];omega
     have ih:=between_loop s hs κ A hr he n (i+twl nl (s.drop i)) (by omega) (by omega)
     have hw2:IntKind.i64.wrap ((i:Int)+(twl nl (s.drop i):Nat))=((i+twl nl (s.drop i):Nat):Int):=by rw[wrap_i64 (by omega) (by omega)];omega
     have hrun:=fun κ=>run_w (ρ:=ρ) ofb_nl (g:=63) (by decide) (by simp[go_sem]) nl_w (s.drop i) κ
     have ht:(s.drop i).take (s.length - i)=s.drop i:=List.take_of_length_le (by simp)
     rw[gap_hash hlt q,←Nat.add_assoc]
     have q:=tt q
     simp -implicitDefEqProofs (maxSteps:=1000000) [go_sem,h1,h2,b32,b10,b35,q,n32,n10,hi,ht,hrun,hw2,ih,-Int.natCast_add,-List.map_append,-List.map_take,-List.map_drop,-List.map_set]
    ·rw[gap_no hlt hsp q,Nat.add_zero]
     have q:=ff q
     simp -implicitDefEqProofs (maxSteps:=1000000) [go_sem,h1,h2,b32,b10,b35,q,n32,n10,hr,-Int.natCast_add,-List.map_append,-List.map_take,-List.map_drop,-List.map_set]
  ·obtain rfl:i=s.length:=by omega
   have e:gap false (s.drop s.length)=0:=by rw[List.drop_length];rfl
   rw[e,Nat.add_zero]
   simp -implicitDefEqProofs (maxSteps:=1000000) [go_sem,he,-List.map_append,-List.map_take,-List.map_drop,-List.map_set]
theorem between_w(s:List UInt8)(hs:s.length<1099511627776)(κ:KT ρ):cbK (call 33 [.str s] []) κ=κ ([.d (.int .i64 ((gap false s:Nat):Int))],[]):=by
 refine(ge33 _ _ _ rfl).trans ?_
 have hl:=fun K A hr he=>between_loop (ρ:=ρ) s hs K A hr he (s.length+1) 0 (by omega) (Nat.zero_le _)
 rw[List.drop_zero,Nat.zero_add]at hl
 simp only[Int.natCast_zero]at hl
 simp -implicitDefEqProofs (maxSteps:=1000000) [go_sem,-Int.natCast_add,-List.map_append,-List.map_take,-List.map_drop,-List.map_set]
 refine hl _ (fun j=>κ ([.d (.int .i64 ((j:Nat):Int))],[])) (fun j=> ?_) ?_ <;>
 simp -implicitDefEqProofs (maxSteps:=1000000) [go_sem,-Int.natCast_add,-List.map_append,-List.map_take,-List.map_drop,-List.map_set]
theorem pre_eq{s x:List UInt8}(h:x.length≤s.length):(s.take x.length=x)=(x.isPrefixOf s=true):=by
 refine propext ⟨fun e=>List.isPrefixOf_iff_prefix.2 (by rw[←e];exact List.take_prefix _ _),fun e=> ?_⟩
 exact(List.prefix_iff_eq_take.1 (List.isPrefixOf_iff_prefix.1 e)).symm
theorem prefix_w(s x:List UInt8)(κ:KT ρ):cbK (call 66 [.str s,.str x] []) κ=κ ([.d (.bool (x.isPrefixOf s))],[]):=by
 have h107:∀κ:KT ρ,cbK (call 107 [.str s,.str x] []) κ=κ ([.d (.bool (x.isPrefixOf s))],[]):=fun κ=>by
  refine(ge107 _ _ _ rfl).trans ?_
  by_cases h:x.length≤s.length
  ·have h1:(x.length:Int)≤(s.length:Int):=by omega
   have h2:=pre_eq h
   cases hp:x.isPrefixOf s with
   |true=>
    have h2:=tt (h2.mpr hp)
    simp -implicitDefEqProofs (maxSteps:=1000000) [go_sem,h,h1,h2,-List.map_append,-List.map_take,-List.map_drop,-List.map_set]
   |false=>
    have h2:=ff (fun e=>by rw[h2.mp e]at hp;cases hp)
    simp -implicitDefEqProofs (maxSteps:=1000000) [go_sem,h,h1,h2,-List.map_append,-List.map_take,-List.map_drop,-List.map_set]
  ·have h1:¬(x.length:Int)≤(s.length:Int):=by omega
   have hp:x.isPrefixOf s=false:=by
    cases hq:x.isPrefixOf s with
    |true=>exact absurd (List.isPrefixOf_iff_prefix.1 hq).length_le h
    |false=>rfl
   rw[hp]
   simp -implicitDefEqProofs (maxSteps:=1000000) [go_sem,h1,-List.map_append,-List.map_take,-List.map_drop,-List.map_set]
 refine(ge66 _ _ _ rfl).trans ?_
 simp -implicitDefEqProofs (maxSteps:=1000000) [go_sem,h107,-List.map_append,-List.map_take,-List.map_drop,-List.map_set]
abbrev zTok:T:=T.d (D.agg [D.int IntKind.i64 0,D.int IntKind.i64 0,D.int IntKind.i64 0,D.str []])
theorem sign_loop(s:List UInt8)(κ:Am.Ex×St→Option ρ)(A:List UInt8→Option ρ)(B:Option ρ)
  (hr:∀x:List UInt8,κ (.ret,⟨[(2,.loc (Root.l 2 0) [] 0 0),(3,.d (.int .i64 0))],[((2,0),.own [T.d (D.agg [D.int IntKind.i64 3,D.int IntKind.i64 0,D.int IntKind.i64 0,D.str x])])],[]⟩)=A x)
  (he:κ (.exit 0,⟨[(0,.d (.str s)),(2,.loc (Root.l 2 0) [] 0 0),(46,.d (.agg (List.map eS sgL))),(47,.d (.int .i64 25)),(48,.d (.bool false))],[((2,0),.own [zTok])],[]⟩)=B):
  ∀(n i:Nat),i+n=25→goLp P hints hint34 b34 0 ⟨[(0,.d (.str s)),(2,.loc (Root.l 2 0) [] 0 0),(46,.d (.agg (List.map eS sgL))),(47,.d (.int .i64 i))],[((2,0),.own [zTok])],[]⟩ κ=match (sgL.drop i).find? (fun x=>x.isPrefixOf s)with |some x=>A x |none=>B
 |0,i,h=>by
  obtain rfl:i=25:=by omega
  refine(goLp_turn q34_0.2).trans ?_
  have e:(sgL.drop 25).find? (fun x=>x.isPrefixOf s)=none:=rfl
  rw[e]
  simp -implicitDefEqProofs (maxSteps:=1000000) [go_sem,he,-List.map_append,-List.map_take,-List.map_drop,-List.map_set]
 |n+1,i,h=>by
  refine(goLp_turn q34_0.2).trans ?_
  have hl:i<sgL.length:=by show i<25;omega
  have h2:sgL[i]? =some sgL[i]:=xG hl
  have h1:(i:Int)<25:=by omega
  have hp:=fun κ=>prefix_w (ρ:=ρ) s sgL[i] κ
  rw[xW hl,List.find?_cons]
  cases hb:sgL[i].isPrefixOf s with
  |true=>
   simp -implicitDefEqProofs (maxSteps:=1000000) [go_sem,h1,h2,hp,hb,hr,-List.map_append,-List.map_take,-List.map_drop,-List.map_set]
  |false=>
   have ih:=sign_loop s κ A B hr he n (i+1) (by omega)
   have hw:=wrapS (k:=i) (by omega)
   simp -implicitDefEqProofs (maxSteps:=1000000) [go_sem,h1,h2,hp,hb,hw,ih,-Int.natCast_add,-List.map_append,-List.map_take,-List.map_drop,-List.map_set]
theorem twl_pos{q:UInt8→Bool}{s:List UInt8}(h:0<twl q s):0<s.length:=yA h (twl_le q s)
abbrev tokT(t:Glex_Token):T:=.d (.agg [.int .i64 t.Kind,.int .i64 t.N,.int .i64 t.At,.str t.Text])
theorem gl34:hint34.gl 1=some (.agg (List.map eS sgL)):=rfl
theorem glk_sg:glOK (.agg (List.map eS sgL))=true:=rfl
theorem take_sg:List.take 25 (D.agg (List.map eS sgL)).cells=List.map eS sgL:=rfl
theorem len_sgc:25≤(D.agg (List.map eS sgL)).cells.length:=by decide
theorem one_w(s:List UInt8)(hs:s.length≤1000000)(κ:KT ρ):cbK (call 34 [.str s] []) κ=κ ([tokT (oneK s).2,.d (.int .i64 (oneK s).1)],[]):=by
 refine(ge34 _ _ _ rfl).trans ?_
 have hp:=fun κ=>run_w (ρ:=ρ) ofb_part (g:=46) (by decide) (by simp[go_sem]) part_w s κ
 have hd:=fun κ=>run_w (ρ:=ρ) ofb_dig (g:=64) (by decide) (by simp[go_sem]) dig_w s κ
 have hl:=fun n κ=>let_w (ρ:=ρ) n [] κ
 have lp:=twl_le pt s
 have ld:=twl_le dg s
 have hsg:=fun K A B hr he=>sign_loop (ρ:=ρ) s K A B hr he 25 0 rfl
 rw[List.drop_zero]at hsg
 simp only[Int.natCast_zero]at hsg
 unfold oneK
 by_cases h1:0<twl pt s
 ·have hpos:=twl_pos h1
  have h0:s[0]? =some s[0]:=xG hpos
  have hh:s.headD 0=s[0]:=by cases s with |nil=>cases hpos |cons b r=>rfl
  have w32:=wrap32 s[0]
  have i1:(0:Int)<((twl pt s:Nat):Int):=by omega
  have k1:¬twl pt s=0:=by omega
  have i0:(0:Int)<(s.length:Int):=by omega
  rw[hh]
  cases h2:letB (bI s[0])with
  |true=>
   have h2':letB ((s[0].toNat:Nat):Int)=true:=h2
   rw[if_pos ⟨h1,rfl⟩]
   by_cases h3:16<twl pt s
   ·have i3:(16:Int)<((twl pt s:Nat):Int):=by omega
    rw[if_pos h3]
    simp -implicitDefEqProofs (maxSteps:=1000000) [go_sem,hp,hl,i1,k1,h1,i0,i3,h0,w32,h2',-List.map_append,-List.map_take,-List.map_drop,-List.map_set]
   ·have i3:¬(16:Int)<((twl pt s:Nat):Int):=by omega
    rw[if_neg h3]
    simp -implicitDefEqProofs (maxSteps:=1000000) [go_sem,hp,hl,i1,k1,h1,i0,i3,h0,w32,h2',lp,-List.map_append,-List.map_take,-List.map_drop,-List.map_set]
  |false=>
   have h2':letB ((s[0].toNat:Nat):Int)=false:=h2
   rw[if_neg (by simp)]
   by_cases h4:0<twl dg s
   ·have i4:(0:Int)<((twl dg s:Nat):Int):=by omega
    have k4:¬twl dg s=0:=by omega
    have hlen:(s.take (twl dg s)).length≤1000000:=by rw[yR];omega
    rw[if_pos h4]
    cases h5:(Tr7.numF (s.take (twl dg s))).2 with
    |true=>
     simp -implicitDefEqProofs (maxSteps:=1000000) [go_sem,hp,hd,hl,i1,k1,h1,i0,i4,k4,h4,h0,w32,h2',lp,ld,hlen,h5,-List.map_append,-List.map_take,-List.map_drop,-List.map_set,-List.length_take]
    |false=>
     simp -implicitDefEqProofs (maxSteps:=1000000) [go_sem,hp,hd,hl,i1,k1,h1,i0,i4,k4,h4,h0,w32,h2',lp,ld,hlen,h5,-List.map_append,-List.map_take,-List.map_drop,-List.map_set,-List.length_take]
   ·have i4:¬(0:Int)<((twl dg s:Nat):Int):=by omega
    have k4:twl dg s=0:=by omega
    rw[if_neg h4]
    simp -implicitDefEqProofs (maxSteps:=1000000) [go_sem,gl34,glk_sg,take_sg,len_sgc,hp,hd,hl,i1,k1,h1,i0,i4,k4,h4,h0,w32,h2',lp,ld,-List.map_append,-List.map_take,-List.map_drop,-List.map_set]
    refine(hsg _ (fun x=>κ ([tokT ⟨3,0,0,x⟩,.d (.int .i64 0)],[])) (κ ([tokT ⟨0,0,0,[]⟩,.d (.int .i64 13)],[])) (fun x=> ?_) ?_).trans ?_
    ·simp -implicitDefEqProofs (maxSteps:=1000000) [go_sem,-List.map_append,-List.map_take,-List.map_drop,-List.map_set]
    ·simp -implicitDefEqProofs (maxSteps:=1000000) [go_sem,-List.map_append,-List.map_take,-List.map_drop,-List.map_set]
    ·cases sgL.find? fun x=>x.isPrefixOf s <;>rfl
 ·have i1:¬(0:Int)<((twl pt s:Nat):Int):=by omega
  have k1:twl pt s=0:=by omega
  rw[if_neg (fun q=>h1 q.1)]
  have h4:¬0<twl dg s:=fun h4=>by
   have hpos:=twl_pos h4
   cases s with
   |nil=>cases hpos
   |cons b r=>
    unfold twl at h4 h1
    rw[List.takeWhile_cons]at h4 h1
    cases hq:dg b with
    |true=>
     have:pt b=true:=by simp only[pt,partB,Bool.or_eq_true];exact .inl (.inr hq)
     rw[this]at h1
     simp at h1
    |false=>rw[hq]at h4;simp at h4
  have i4:¬(0:Int)<((twl dg s:Nat):Int):=by omega
  have k4:twl dg s=0:=by omega
  rw[if_neg h4]
  simp -implicitDefEqProofs (maxSteps:=1000000) [go_sem,gl34,glk_sg,take_sg,len_sgc,hp,hd,hl,i1,k1,i4,k4,lp,ld,-List.map_append,-List.map_take,-List.map_drop,-List.map_set]
  refine(hsg _ (fun x=>κ ([tokT ⟨3,0,0,x⟩,.d (.int .i64 0)],[])) (κ ([tokT ⟨0,0,0,[]⟩,.d (.int .i64 13)],[])) (fun x=> ?_) ?_).trans ?_
  ·simp -implicitDefEqProofs (maxSteps:=1000000) [go_sem,-List.map_append,-List.map_take,-List.map_drop,-List.map_set]
  ·simp -implicitDefEqProofs (maxSteps:=1000000) [go_sem,-List.map_append,-List.map_take,-List.map_drop,-List.map_set]
  ·cases sgL.find? fun x=>x.isPrefixOf s <;>rfl
theorem scan_loop(s:List UInt8)(hs:s.length≤1000000)(κ:Am.Ex×St→Option ρ)(A:List Glex_Token×Int×Int→Option ρ)
  (hr:∀a b:Int,κ (.ret,⟨[(2,.bor (.l 2 0) [] 0 0),(3,.d (.int .i64 a)),(4,.d (.int .i64 b))],[((2,0),.own [])],[]⟩)=A ([],a,b))
  (he:∀(out:List Glex_Token),κ (.exit 0,⟨[(0,.d (.str s)),(5,.bor (.l 5 0) [] 0 out.length),(6,.d (.int .i64 s.length)),(17,.d (.bool false))],[((5,0),.own (tl elex_Token out))],[]⟩)=A (out,0,0)):
  ∀(n p:Nat) (out:List Glex_Token),s.length<p+n→p≤s.length→out.length≤p→goLp P hints hint15 b15 0 ⟨[(0,.d (.str s)),(5,.bor (.l 5 0) [] 0 out.length),(6,.d (.int .i64 p))],[((5,0),.own (tl elex_Token out))],[]⟩ κ=A (scanL n s p out)
 |0,p,out,h,hp,_=>by omega
 |n+1,p,out,h,hp,ho=>by
  refine(goLp_turn q15_0.2).trans ?_
  rw[scanL]
  by_cases hlt:p<s.length
  ·have h1:(p:Int)<(s.length:Int):=by omega
   rw[if_pos hlt]
   by_cases h6:6000≤out.length
   ·have h2:(6000:Int)≤(out.length:Int):=by omega
    rw[if_pos h6]
    simp -implicitDefEqProofs (maxSteps:=1000000) [go_sem,h1,h2,hr,-List.map_append,-List.map_take,-List.map_drop,-List.map_set]
   ·have h2:¬(6000:Int)≤(out.length:Int):=by omega
    rw[if_neg h6]
    have ht:(s.drop p).take (s.length - p)=s.drop p:=List.take_of_length_le (by simp)
    have ho1:=fun κ=>one_w (ρ:=ρ) (s.drop p) (by simp;omega) κ
    by_cases h0:(oneK (s.drop p)).1=0
    ·rw[if_pos h0]
     obtain⟨a1,a2,a3⟩:=one_ok h0
     rw[List.length_drop]at a2
     have hg:=gap_le false (s.drop (p+(oneK (s.drop p)).2.Text.length))
     rw[List.length_drop]at hg
     have w1:IntKind.i64.wrap ((p:Int)+((oneK (s.drop p)).2.Text.length:Nat))=((p+(oneK (s.drop p)).2.Text.length:Nat):Int):=by rw[wrap_i64 (by omega) (by omega)];omega
     have w2:IntKind.i64.wrap (((p+(oneK (s.drop p)).2.Text.length:Nat):Int)+(gap false (s.drop (p+(oneK (s.drop p)).2.Text.length)):Nat))=((p+(oneK (s.drop p)).2.Text.length+gap false (s.drop (p+(oneK (s.drop p)).2.Text.length)):Nat):Int):=by rw[wrap_i64 (by omega) (by omega)];omega
     have hb:=fun κ=>between_w (ρ:=ρ) (s.drop (p+(oneK (s.drop p)).2.Text.length)) (by simp;omega) κ
     have ht2:(s.drop (p+(oneK (s.drop p)).2.Text.length)).take (s.length - (p+(oneK (s.drop p)).2.Text.length))=s.drop (p+(oneK (s.drop p)).2.Text.length):=List.take_of_length_le (by simp)
     have hle:p+(oneK (s.drop p)).2.Text.length≤s.length:=by omega
     have hb1:(out.length+1) * 40≤140737488355328:=by omega
     have ih:=scan_loop s hs κ A hr he n (p+(oneK (s.drop p)).2.Text.length+gap false (s.drop (p+(oneK (s.drop p)).2.Text.length))) (out++[⟨(oneK (s.drop p)).2.Kind,(oneK (s.drop p)).2.N,(p:Int),(oneK (s.drop p)).2.Text⟩]) (by omega) (by omega) (by rw[xP,List.length_singleton];omega)
     have hb2:out.length≤9223372036854775806:=by omega
     rw[xP,List.length_singleton]at ih
     generalize hK:oneK (s.drop p)=K at *
     have h0:=tt h0
     simp -implicitDefEqProofs (maxSteps:=1000000) [go_sem,h1,h2,hp,ht,ho1,h0,w1,w2,hb,ht2,hle,hb1,hb2,ih,-Int.natCast_add,-List.map_append,-List.map_take,-List.map_drop,-List.map_set]
    ·rw[if_neg h0]
     generalize hK:oneK (s.drop p)=K at *
     have h0:=ff h0
     simp -implicitDefEqProofs (maxSteps:=1000000) [go_sem,h1,h2,hp,ht,ho1,h0,hr,-List.map_append,-List.map_take,-List.map_drop,-List.map_set]
  ·have h1:¬(p:Int)<(s.length:Int):=by omega
   obtain rfl:p=s.length:=by omega
   rw[if_neg hlt]
   simp -implicitDefEqProofs (maxSteps:=1000000) [go_sem,h1,he,-List.map_append,-List.map_take,-List.map_drop,-List.map_set]
theorem scan_w(s:List UInt8)(hs:s.length≤1000000)(κ:KT ρ):cbK (call 15 [.str s] []) κ=κ ([.d (.sl false (List.map elex_Token (scanK s).1)),.d (.int .i64 (scanK s).2.1),.d (.int .i64 (scanK s).2.2)],[]):=by
 refine(ge15 _ _ _ rfl).trans ?_
 have hb:=fun κ=>between_w (ρ:=ρ) s (by omega) κ
 unfold scanK
 by_cases h:20000<s.length
 ·have h1:(20000:Int)<(s.length:Int):=by omega
  rw[if_pos h]
  simp -implicitDefEqProofs (maxSteps:=1000000) [go_sem,h1,-List.map_append,-List.map_take,-List.map_drop,-List.map_set]
 ·have h1:¬(20000:Int)<(s.length:Int):=by omega
  rw[if_neg h]
  simp -implicitDefEqProofs (maxSteps:=1000000) [go_sem,h1,hb,-List.map_append,-List.map_take,-List.map_drop,-List.map_set]
  have hg:=gap_le false s
  refine scan_loop s hs _ (fun v=>κ ([.d (.sl false (List.map elex_Token v.1)),.d (.int .i64 v.2.1),.d (.int .i64 v.2.2)],[])) (fun a b=> ?_) (fun out=> ?_) (s.length+1) (gap false s) [] (by omega) hg (Nat.zero_le _) <;>
   simp -implicitDefEqProofs (maxSteps:=1000000) [go_sem,-List.map_append,-List.map_take,-List.map_drop,-List.map_set]
end
end Go.Etx
namespace Go.Etx
open Go Go.Am Go.Proofs
theorem now_lt{r:Rdr}(h:r.now.Kind≠0):r.pos<r.l.length:=by
 rcases Nat.lt_or_ge r.pos r.l.length with q |q
 ·exact q
 ·exact absurd (by unfold Rdr.now;rw[List.getElem?_eq_none q];rfl) h
theorem is_kind{r:Rdr}{k:Int}{t:List UInt8}(h:r.is k t=true):r.e=0∧r.now.Kind=k∧r.now.Text=t:=by
 simp only[Rdr.is,xA,yD]at h
 exact h
structure RLe(r r':Rdr):Prop where
 l:r'.l=r.l
 s:r'.s=r.s
 stop:r'.stop=r.stop
 pos:r.pos≤r'.pos
 len:r.pos≤r.l.length→r'.pos≤r.l.length
 out:r'.out.length+r.pos≤r.out.length+r'.pos
theorem RLe.refl(r:Rdr):RLe r r:=⟨rfl,rfl,rfl,Nat.le_refl _,fun h=>h,Nat.le_refl _⟩
theorem RLe.trans{r r' r2:Rdr}(h:RLe r r')(h':RLe r' r2):RLe r r2:=by
 obtain⟨h1,h2,h3,h4,h5,h6⟩:=h
 obtain⟨k1,k2,k3,k4,k5,k6⟩:=h'
 refine⟨k1.trans h1,k2.trans h2,k3.trans h3,by omega,fun q=> ?_,by omega⟩
 rw[h1]at k5
 exact k5 (h5 q)
theorem step_le{r:Rdr}(h:r.pos<r.l.length):RLe r r.step:=⟨rfl,rfl,rfl,Nat.le_succ _,fun _=>h,by show r.out.length+r.pos≤r.out.length+(r.pos+1);omega⟩
theorem fail_le(r:Rdr)(x:Int):RLe r (r.fail x):=by
 unfold Rdr.fail
 split
 ·exact⟨rfl,rfl,rfl,Nat.le_refl _,fun h=>h,Nat.le_refl _⟩
 ·exact RLe.refl r
theorem take_le(r:Rdr)(t:List UInt8):RLe r (r.take t):=by
 unfold Rdr.take
 split
 ·rename_i h
  exact step_le (now_lt (by rw[(is_kind h).2.1];decide))
 ·exact fail_le r 3
theorem kind_le(r:Rdr){k:Int}(hk:k≠0):RLe r (r.kind k).2:=by
 unfold Rdr.kind
 split
 ·rename_i h
  exact step_le (now_lt (by rw[h.2];exact hk))
 ·exact fail_le r 3
theorem found_le(r:Rdr)(lk:List UInt8→Int):RLe r (r.found lk).2:=by
 unfold Rdr.found
 split
 ·rename_i h
  split
  ·exact fail_le r 8
  ·exact step_le (now_lt (by rw[h.2];decide))
 ·exact fail_le r 3
theorem wide_le(r:Rdr):RLe r r.wide:=by
 unfold Rdr.wide
 split
 ·exact fail_le r 10
 ·exact RLe.refl r
theorem step_put{r r':Rdr}(hl:r.pos<r.l.length)(h:RLe r.step r')(op n:Int):RLe r (r'.put op n):=by
 obtain⟨h1,h2,h3,h4,h5,h6⟩:=h
 have e:(r'.put op n).l=r'.l∧(r'.put op n).stop=r'.stop∧(r'.put op n).out.length≤r'.out.length+1:=by unfold Rdr.put;split <;>simp
 have h5:r'.pos≤r.l.length:=h5 hl
 have h4:r.pos+1≤r'.pos:=h4
 have h6:r'.out.length+(r.pos+1)≤r.out.length+r'.pos:=h6
 exact⟨e.1.trans h1,(put_s r' op n).trans h2,e.2.1.trans h3,by rw[put_pos];omega,fun _=>by rw[put_pos];exact h5,by rw[put_pos];omega⟩
theorem length_le{r:Rdr}(hl:r.pos<r.l.length):RLe r r.step.length:=step_put hl (((take_le _ _).trans (found_le _ _)).trans (take_le _ _)) _ _
theorem nothing_le{r:Rdr}(hl:r.pos<r.l.length):RLe r r.step.nothing:=step_put hl (((take_le _ _).trans (found_le _ _)).trans (take_le _ _)) _ _
theorem where_le{r:Rdr}(hl:r.pos<r.l.length):RLe r r.step.whereR:=step_put hl ((((((take_le _ _).trans (found_le _ _)).trans (take_le _ _)).trans (wide_le _)).trans (kind_le _ (by decide))).trans (take_le _ _)) _ _
theorem rdk_le:∀{n:Nat} {md:Md} {r r':Rdr},(md=.word→r.now.Kind=1)→rdK n md r=some r'→RLe r r'
 |0,_,_,_,_,h=>by simp[rdK]at h
 |n+1,.level b,r,r',_,h=>by
  rw[rdK]at h
  split at h
  ·exact rdk_le (fun q=>by cases q) h
  split at h
  ·exact rdk_le (fun q=>by cases q) h
  ·simp only[xB]at h
   obtain⟨r1,h1,h2⟩:=h
   exact(rdk_le (fun q=>by cases q) h1).trans (rdk_le (fun q=>by cases q) h2)
 |n+1,.rest b,r,r',_,h=>by
  rw[rdK]at h
  split at h
  ·split at h
   ·simp only[xJ]at h;subst h;exact RLe.refl r
   ·split at h
    ·rename_i hk
     have hl:=now_lt (r:=r) (by rw[hk];decide)
     simp only[xB]at h
     obtain⟨r1,h1,h2⟩:=h
     have k1:=step_put hl (rdk_le (fun q=>by cases q) h1)
     split at h2
     ·simp only[xJ]at h2;subst h2;exact k1 _ _
     ·exact(k1 _ _).trans (rdk_le (fun q=>by cases q) h2)
    ·simp only[xJ]at h;subst h;exact RLe.refl r
  ·simp only[xJ]at h;subst h;exact RLe.refl r
 |n+1,.strong,r,r',_,h=>by
  rw[rdK]at h
  split at h
  ·rename_i hi
   have hl:=now_lt (r:=r) (by rw[(is_kind hi).2.1];decide)
   simp only[xM]at h
   obtain⟨r1,h1,rfl⟩:=h
   exact step_put hl (rdk_le (fun q=>by cases q) h1) _ _
  split at h
  ·rename_i hi
   have hl:=now_lt (r:=r) (by rw[(is_kind hi).2.1];decide)
   split at h
   ·rename_i hk
    simp only[xJ]at h
    subst h
    exact step_put hl (step_le (now_lt (by rw[hk];decide))) _ _
   ·simp only[xM]at h
    obtain⟨r1,h1,rfl⟩:=h
    exact step_put hl (rdk_le (fun q=>by cases q) h1) _ _
  ·exact rdk_le (fun q=>by cases q) h
 |n+1,.leaf,r,r',_,h=>by
  rw[rdK]at h
  split at h
  ·split at h
   ·rename_i hk
    simp only[xJ]at h
    subst h
    exact step_put (now_lt (by rw[hk];decide)) (RLe.refl _) _ _
   split at h
   ·rename_i hi
    simp only[xM]at h
    obtain⟨r1,h1,rfl⟩:=h
    exact((step_le (now_lt (by rw[(is_kind hi).2.1];decide))).trans (rdk_le (fun q=>by cases q) h1)).trans (take_le _ _)
   split at h
   ·rename_i hk
    exact rdk_le (fun _=>hk) h
   ·simp only[xJ]at h;subst h;exact fail_le r 3
  ·simp only[xJ]at h;subst h;exact RLe.refl r
 |n+1,.word,r,r',hw,h=>by
  have hl:=now_lt (r:=r) (by rw[hw rfl];decide)
  rw[rdK]at h
  split at h
  ·simp only[xJ]at h;subst h;exact step_put hl (RLe.refl _) _ _
  split at h
  ·simp only[xJ]at h;subst h;exact length_le hl
  split at h
  ·simp only[xJ]at h;subst h;exact where_le hl
  split at h
  ·simp only[xJ]at h;subst h;exact nothing_le hl
  split at h
  ·simp only[xJ]at h;subst h;exact fail_le r 8
  split at h
  ·rename_i hi
   have hl2:=now_lt (r:=r.step) (by rw[(is_kind hi.2).2.1];decide)
   simp only[xM]at h
   obtain⟨r1,h1,rfl⟩:=h
   exact step_put hl (((step_le hl2).trans (rdk_le (fun q=>by cases q) h1)).trans (take_le _ _)) _ _
  ·simp only[xJ]at h;subst h;exact step_put hl (RLe.refl _) _ _
end Go.Etx
namespace Go.Etx
open Go Go.Am Go.Proofs
def rank:Md→Nat
 | .level b=>if b=7 then 3 else(10 - b).toNat
 | .rest _=>1
 | .strong=>3
 | .leaf=>2
 | .word=>1
structure MdOk(md:Md)(r:Rdr):Prop where
 lv:∀b,md=.level b→1≤b∧b≤7
 rs:∀b,md=.rest b→1≤b∧b≤5
 wd:md=.word→r.now.Kind=1
theorem md_level{b:Int}{r:Rdr}(h:1≤b∧b≤7):MdOk (.level b) r:=⟨fun c e=>(by cases e;exact h),fun c e=>(by cases e),fun e=>(by cases e)⟩
theorem md_rest{b:Int}{r:Rdr}(h:1≤b∧b≤5):MdOk (.rest b) r:=⟨fun c e=>(by cases e),fun c e=>(by cases e;exact h),fun e=>(by cases e)⟩
theorem md_strong{r:Rdr}:MdOk .strong r:=⟨fun c e=>(by cases e),fun c e=>(by cases e),fun e=>(by cases e)⟩
theorem md_leaf{r:Rdr}:MdOk .leaf r:=⟨fun c e=>(by cases e),fun c e=>(by cases e),fun e=>(by cases e)⟩
theorem md_word{r:Rdr}(h:r.now.Kind=1):MdOk .word r:=⟨fun c e=>(by cases e),fun c e=>(by cases e),fun _=>h⟩
theorem rank_level{b:Int}(h:1≤b∧b≤7):rank (.level b)≤9∧3≤rank (.level b)∧(b≤5→rank (.level b)=rank (.level (b+1))+1)∧(b=6→rank (.level b)=4)∧(b≤5→5≤rank (.level b)):=by
 simp only[rank]
 by_cases h7:b=7
 ·subst h7;decide
 ·rw[if_neg h7]
  refine⟨by omega,by omega,fun h5=> ?_,fun h6=>by omega,fun h5=>by omega⟩
  rw[if_neg (by omega)];omega
theorem put_l(r:Rdr)(op n:Int):(r.put op n).l=r.l:=by unfold Rdr.put;split <;>rfl
theorem rd_some:∀(n:Nat) (md:Md) (r:Rdr),MdOk md r→r.pos≤r.l.length→20 * (r.l.length - r.pos)+rank md≤n→∃r',rdK n md r=some r'
 |0,md,r,ok,hp,h=>by
  exfalso
  cases md with
  |level b=>have:=(rank_level (ok.lv b rfl)).2.1;omega
  |rest b=>simp only[rank]at h;omega
  |strong=>simp only[rank]at h;omega
  |leaf=>simp only[rank]at h;omega
  |word=>simp only[rank]at h;omega
 |n+1,.level b,r,ok,hp,h=>by
  have hb:=ok.lv b rfl
  obtain⟨k1,k2,k3,k4,k5⟩:=rank_level hb
  rw[rdK]
  by_cases h6:b=6
  ·rw[if_pos h6]
   exact rd_some n .strong r md_strong hp (by have:=k4 h6;simp only[rank]at *;omega)
  rw[if_neg h6]
  by_cases h7:b=7
  ·rw[if_pos h7]
   exact rd_some n .leaf r md_leaf hp (by subst h7;simp only[rank]at *;omega)
  rw[if_neg h7]
  have h5:b≤5:=by omega
  have k3:=k3 h5
  have k5:=k5 h5
  obtain⟨r1,h1⟩:=rd_some n (.level (b+1)) r (md_level (by omega)) hp (by omega)
  rw[h1]
  have le:=rdk_le (fun q=>by cases q) h1
  exact rd_some n (.rest b) r1 (md_rest (by omega)) (by rw[le.l];exact le.len hp) (by rw[le.l];have:=le.pos;simp only[rank];omega)
 |n+1,.rest b,r,ok,hp,h=>by
  have hb:=ok.rs b rfl
  rw[rdK]
  by_cases h0:r.e=0
  ·rw[if_pos h0]
   cases hk:opK r.now.Text b with
   |none=>exact⟨_,rfl⟩
   |some o=>
    simp only
    by_cases h1:r.now.Kind=3
    ·rw[if_pos h1]
     have hl:=now_lt (r:=r) (by rw[h1];decide)
     obtain⟨r1,e1⟩:=rd_some n (.level (b+1)) r.step (md_level (by omega)) hl (by have:=(rank_level (b:=b+1) (by omega)).1;simp only[rank]at *;rw[step_l,step_pos];omega)
     rw[e1,xS]
     by_cases h3:b=3
     ·rw[if_pos h3];exact⟨_,rfl⟩
     ·rw[if_neg h3]
      have le:=rdk_le (fun q=>by cases q) e1
      have l1:=le.l
      have p1:=le.pos
      have n1:=le.len hl
      rw[step_l]at l1 n1
      rw[step_pos]at p1
      exact rd_some n (.rest b) (r1.put o 0) (md_rest hb) (by rw[put_l,put_pos,l1];exact n1) (by rw[put_l,put_pos,l1];simp only[rank]at *;omega)
    ·rw[if_neg h1];exact⟨_,rfl⟩
  ·rw[if_neg h0];exact⟨_,rfl⟩
 |n+1,.strong,r,ok,hp,h=>by
  simp only[rank]at h
  rw[rdK]
  by_cases h1:r.is 3 [33]=true
  ·rw[if_pos h1]
   have hl:=now_lt (r:=r) (by rw[(is_kind h1).2.1];decide)
   obtain⟨r1,e1⟩:=rd_some n .strong r.step md_strong hl (by simp only[rank];rw[step_l,step_pos];omega)
   rw[e1];exact⟨_,rfl⟩
  rw[if_neg h1]
  by_cases h2:r.is 3 [45]=true
  ·rw[if_pos h2]
   have hl:=now_lt (r:=r) (by rw[(is_kind h2).2.1];decide)
   split
   ·exact⟨_,rfl⟩
   ·obtain⟨r1,e1⟩:=rd_some n .strong r.step md_strong hl (by simp only[rank];rw[step_l,step_pos];omega)
    rw[e1];exact⟨_,rfl⟩
  ·rw[if_neg h2]
   exact rd_some n .leaf r md_leaf hp (by simp only[rank];omega)
 |n+1,.leaf,r,ok,hp,h=>by
  simp only[rank]at h
  rw[rdK]
  by_cases h0:r.e=0
  ·rw[if_pos h0]
   split
   ·exact⟨_,rfl⟩
   split
   ·rename_i h1
    have hl:=now_lt (r:=r) (by rw[(is_kind h1).2.1];decide)
    obtain⟨r1,e1⟩:=rd_some n (.level 1) r.step (md_level (by decide)) hl (by have:=(rank_level (b:=1) (by decide)).1;rw[step_l,step_pos];omega)
    rw[e1];exact⟨_,rfl⟩
   split
   ·rename_i h1
    exact rd_some n .word r (md_word h1) hp (by simp only[rank];omega)
   ·exact⟨_,rfl⟩
  ·rw[if_neg h0];exact⟨_,rfl⟩
 |n+1,.word,r,ok,hp,h=>by
  simp only[rank]at h
  have hl:=now_lt (r:=r) (by rw[ok.wd rfl];decide)
  rw[rdK]
  repeat' split
  all_goals first
   |exact⟨_,rfl⟩
   |skip
  rename_i hi
  have hl2:=now_lt (r:=r.step) (by rw[(is_kind hi.2).2.1];decide)
  obtain⟨r1,e1⟩:=rd_some n (.level 1) r.step.step (md_level (by decide)) hl2 (by have:=(rank_level (b:=1) (by decide)).1;rw[step_l,step_pos,step_l,step_pos];rw[step_pos,step_l]at hl2;omega)
  rw[e1];exact⟨_,rfl⟩
def InN(l:List GNode):Prop:=∀x∈l,Tr7.inR x.N=true
theorem put_in{r:Rdr}{op n:Int}(h:InN r.out)(hn:Tr7.inR n=true):InN (r.put op n).out:=by
 unfold Rdr.put
 split
 ·intro x hx
  rcases List.mem_append.1 hx with q |q
  ·exact h x q
  ·rw[yQ]at q;subst q;exact hn
 ·exact h
theorem w64_in(n:Int):Tr7.inR (w64 n)=true:=by
 have h:IntKind.i64.wrap n=if(9223372036854775808:Int)≤n % 18446744073709551616 then n % 18446744073709551616 - 18446744073709551616 else n % 18446744073709551616:=by
  simp only[IntKind.wrap,IntKind.signed,IntKind.bits]
  simp
 unfold w64
 rw[h]
 simp only[Tr7.inR,xA,yD]
 split <;>omega
theorem fidx_in{α:Type}{p:α→Bool}{l:List α}(h:l.length≤1000):Tr7.inR (fidx p l)=true:=by
 unfold fidx
 simp only[Tr7.inR,xA,yD]
 split <;>omega
theorem now_in{r:Rdr}(h:∀x∈r.l,Tr7.inR x.N=true):Tr7.inR r.now.N=true:=by
 unfold Rdr.now
 cases e:r.l[r.pos]? with
 |none=>rfl
 |some t=>exact h t (yS e)
theorem found_in{r:Rdr}{lk:List UInt8→Int}(h:∀nm,Tr7.inR (lk nm)=true):Tr7.inR (r.found lk).1=true:=by
 unfold Rdr.found
 repeat' split
 ·rfl
 ·exact h _
 ·rfl
theorem rd_in:∀{n:Nat} {md:Md} {r r':Rdr},MdOk md r→rdK n md r=some r'→Few r.s→(∀x∈r.l,Tr7.inR x.N=true)→InN r.out→InN r'.out
 |0,_,_,_,_,h,_,_,_=>by simp[rdK]at h
 |n+1,.level b,r,r',ok,h,hs,hl,ho=>by
  have hb:=ok.lv b rfl
  rw[rdK]at h
  by_cases h6:b=6
  ·rw[if_pos h6]at h;exact rd_in md_strong h hs hl ho
  rw[if_neg h6]at h
  by_cases h7:b=7
  ·rw[if_pos h7]at h;exact rd_in md_leaf h hs hl ho
  rw[if_neg h7]at h
  simp only[xB]at h
  obtain⟨r1,h1,h2⟩:=h
  have le:=rdk_le (fun q=>by cases q) h1
  exact rd_in (md_rest (by omega)) h2 (by rw[le.s];exact hs) (by rw[le.l];exact hl) (rd_in (md_level (by omega)) h1 hs hl ho)
 |n+1,.rest b,r,r',ok,h,hs,hl,ho=>by
  have hb:=ok.rs b rfl
  rw[rdK]at h
  split at h
  ·split at h
   ·simp only[xJ]at h;subst h;exact ho
   ·split at h
    ·simp only[xB]at h
     obtain⟨r1,h1,h2⟩:=h
     have i1:=rd_in (md_level (by omega)) h1 hs hl ho
     have le:=rdk_le (fun q=>by cases q) h1
     split at h2
     ·simp only[xJ]at h2;subst h2;exact put_in i1 rfl
     ·exact rd_in (md_rest hb) h2 (by rw[put_s,le.s];exact hs) (by rw[put_l,le.l];exact hl) (put_in i1 rfl)
    ·simp only[xJ]at h;subst h;exact ho
  ·simp only[xJ]at h;subst h;exact ho
 |n+1,.strong,r,r',ok,h,hs,hl,ho=>by
  rw[rdK]at h
  split at h
  ·simp only[xM]at h
   obtain⟨r1,h1,rfl⟩:=h
   exact put_in (rd_in md_strong h1 hs hl ho) rfl
  split at h
  ·split at h
   ·simp only[xJ]at h
    subst h
    exact put_in ho (w64_in _)
   ·simp only[xM]at h
    obtain⟨r1,h1,rfl⟩:=h
    exact put_in (rd_in md_strong h1 hs hl ho) rfl
  ·exact rd_in md_leaf h hs hl ho
 |n+1,.leaf,r,r',ok,h,hs,hl,ho=>by
  rw[rdK]at h
  split at h
  ·split at h
   ·simp only[xJ]at h
    subst h
    exact put_in ho (now_in hl)
   split at h
   ·simp only[xM]at h
    obtain⟨r1,h1,rfl⟩:=h
    rw[take_out]
    exact rd_in (md_level (by decide)) h1 hs hl ho
   split at h
   ·rename_i hk
    exact rd_in (md_word hk) h hs hl ho
   ·simp only[xJ]at h;subst h;rw[fail_out];exact ho
  ·simp only[xJ]at h;subst h;exact ho
 |n+1,.word,r,r',ok,h,hs,hl,ho=>by
  have k4:Tr7.inR (standsK r.s r.now.Text).2=true:=by
   unfold standsK
   repeat' split
   ·exact fidx_in hs.lo
   ·exact fidx_in hs.va
   ·rfl
  rw[rdK]at h
  split at h
  ·simp only[xJ]at h;subst h;exact put_in ho rfl
  split at h
  ·simp only[xJ]at h;subst h
   refine put_in ?_ (found_in fun nm=>fidx_in (by rw[step_s];exact hs.ch))
   rw[take_out,found_out,take_out];exact ho
  split at h
  ·simp only[xJ]at h;subst h
   refine put_in ?_ (w64_in _)
   rw[take_out,kind_out,wide_out]
   unfold Rdr.whereA
   rw[take_out,found_out,take_out];exact ho
  split at h
  ·simp only[xJ]at h;subst h
   refine put_in ?_ (found_in fun nm=>fidx_in (by rw[step_s];exact hs.sc))
   rw[take_out,found_out,take_out];exact ho
  split at h
  ·simp only[xJ]at h;subst h;rw[fail_out];exact ho
  split at h
  ·simp only[xM]at h
   obtain⟨r1,h1,rfl⟩:=h
   refine put_in ?_ k4
   rw[take_out]
   exact rd_in (md_level (by decide)) h1 hs hl ho
  ·simp only[xJ]at h;subst h;exact put_in ho k4
end Go.Etx
namespace Go.Etx
open Go Go.Am Go.Proofs
set_option maxHeartbeats 4000000
set_option maxRecDepth 20000
noncomputable section
def LowM(M:List Ob):Prop:=∀n,0<n→M.all (fun o=>o.low n)=true
theorem low_two{M:List Ob}{b:Int}(h:LowM M):LowM (M++[.box (.d (.ptr 0)),.box (.d (.int .i64 b))]):=fun n hn=>by
 rw[List.all_append,h n hn,Bool.true_and]
 simp[Ob.low,T.low,D.low,hn]
section
variable{ρ:Type}
structure Ok(r:Rdr):Prop where
 pos:r.pos≤r.l.length
 out:r.out.length≤r.pos
 len:r.l.length<1099511627000
 few:Few r.s
theorem Ok.le{r r':Rdr}(h:Ok r)(k:RLe r r'):Ok r':=by
 obtain⟨h1,h2,h3,h4⟩:=h
 obtain⟨k1,k2,_,k4,k5,k6⟩:=k
 refine⟨by rw[k1];exact k5 h1,by omega,by rw[k1];exact h3,by rw[k2];exact h4⟩
theorem Ok.step{r:Rdr}(h:Ok r)(k:r.pos<r.l.length):Ok r.step:=h.le (step_le k)
theorem Ok.p{r:Rdr}(h:Ok r):r.pos<1099511627000:=Nat.lt_of_le_of_lt h.pos h.len
theorem Ok.o{r:Rdr}(h:Ok r):r.out.length<1099511627776:=by have:=h.p;have:=h.out;omega
def Does(n:Nat)(f:Nat)(ds:Rdr→List D)(md:Md)(ρ:Type):Prop:=∀(r r':Rdr),rdK n md r=some r'→(md=.word→r.now.Kind=1)→Ok r→∀(M:List Ob),LowM M→∀κ:KT ρ,cbK (call f (ds r) (.box (rdT r)::M)) κ=κ ([],.box (rdT r')::M)
theorem ob_a{a x y:Ob}{M:List Ob}:(a::(M++[x,y]))[M.length+1]? =some x:=by simp
theorem ob_b{a x y:Ob}{M:List Ob}:(a::(M++[x,y]))[M.length+1+1]? =some y:=by simp
theorem wrap1p{r:Rdr}(h:Ok r):IntKind.i64.wrap ((r.pos:Int)+1)=(r.pos:Int)+1:=by have:=h.p;exact wrap_i64 (by omega) (by omega)
theorem whole_w{n:Nat}(hl:Does n 35 (fun _=>[.ptr 0,.int .i64 1]) (.level 1) ρ):Does n 16 (fun _=>[.ptr 0]) (.level 1) ρ:=by
 intro r r' h _ ok M hM κ
 refine(ge16 _ _ _ rfl).trans ?_
 have hc:=hl r r' h (fun q=>by cases q) ok M hM
 simp -implicitDefEqProofs (maxSteps:=1000000) [go_sem,hc,-List.map_append,-List.map_take,-List.map_drop,-List.map_set]
theorem strong_w{n:Nat}(hs:Does n 67 (fun _=>[.ptr 0]) .strong ρ)(hl:Does n 68 (fun _=>[.ptr 0]) .leaf ρ):Does (n+1) 67 (fun _=>[.ptr 0]) .strong ρ:=by
 intro r r' h _ ok M hM κ
 refine(ge67 _ _ _ rfl).trans ?_
 have hp:=ok.p
 have hi:=fun k t M κ=>is_w (ρ:=ρ) r (by omega) k t M κ
 have hw:=wrap1p ok
 rw[rdK]at h
 by_cases h1:r.is 3 [33]=true
 ·have ok1:=ok.step (now_lt (by rw[(is_kind h1).2.1];decide))
  rw[if_pos h1]at h
  simp only[xM]at h
  obtain⟨r1,h2,rfl⟩:=h
  have hc:=hs r.step r1 h2 (fun q=>by cases q) ok1 M hM
  have hq:=fun M κ=>put_w (ρ:=ρ) r1 (ok1.le (rdk_le (fun q=>by cases q) h2)).o 9 0 M κ
  simp -implicitDefEqProofs (maxSteps:=1000000) [go_sem,hi,h1,hw,hc,hq,-List.map_append,-List.map_take,-List.map_drop,-List.map_set]
 rw[if_neg h1]at h
 by_cases h2:r.is 3 [45]=true
 ·have ok1:=ok.step (now_lt (by rw[(is_kind h2).2.1];decide))
  have hp1:=ok1.p
  rw[if_pos h2]at h
  have hn:=fun M κ=>now_w (ρ:=ρ) r.step (by omega) M κ
  by_cases h3:r.step.now.Kind=2
  ·rw[if_pos h3]at h
   simp only[xJ]at h
   subst h
   have hw2:=wrap1p ok1
   have hq:=fun M κ=>put_w (ρ:=ρ) r.step.step ok.o 1 (w64 (-r.step.now.N)) M κ
   have h3:=tt h3
   simp -implicitDefEqProofs (maxSteps:=1000000) [go_sem,hi,h1,h2,h3,hw,hw2,hn,hq,-List.map_append,-List.map_take,-List.map_drop,-List.map_set]
  ·rw[if_neg h3]at h
   simp only[xM]at h
   obtain⟨r1,h4,rfl⟩:=h
   have hc:=hs r.step r1 h4 (fun q=>by cases q) ok1 M hM
   have hq:=fun M κ=>put_w (ρ:=ρ) r1 (ok1.le (rdk_le (fun q=>by cases q) h4)).o 10 0 M κ
   have h3:=ff h3
   simp -implicitDefEqProofs (maxSteps:=1000000) [go_sem,hi,h1,h2,h3,hw,hn,hc,hq,-List.map_append,-List.map_take,-List.map_drop,-List.map_set]
 ·rw[if_neg h2]at h
  have hc:=hl r r' h (fun q=>by cases q) ok M hM
  simp -implicitDefEqProofs (maxSteps:=1000000) [go_sem,hi,h1,h2,hc,-List.map_append,-List.map_take,-List.map_drop,-List.map_set]
theorem leaf_w{n:Nat}(hl:Does n 16 (fun _=>[.ptr 0]) (.level 1) ρ)(hw:Does n 112 (fun r=>[.ptr 0,.str r.now.Text]) .word ρ):Does (n+1) 68 (fun _=>[.ptr 0]) .leaf ρ:=by
 intro r r' h _ ok M hM κ
 refine(ge68 _ _ _ rfl).trans ?_
 have hp:=ok.p
 have hn:=fun M κ=>now_w (ρ:=ρ) r (by omega) M κ
 have hi:=fun k t M κ=>is_w (ρ:=ρ) r (by omega) k t M κ
 have hf:=fun x M κ=>fail_w (ρ:=ρ) r (by omega) x M κ
 have hw1:=wrap1p ok
 rw[rdK]at h
 by_cases h0:r.e=0
 ·rw[if_pos h0]at h
  have h0:=tt h0
  by_cases h1:r.now.Kind=2
  ·rw[if_pos h1]at h
   simp only[xJ]at h
   subst h
   have hq:=fun M κ=>put_w (ρ:=ρ) r.step ok.o 1 r.now.N M κ
   have h1:=tt h1
   simp -implicitDefEqProofs (maxSteps:=1000000) [go_sem,hn,hi,h0,h1,hw1,hq,-List.map_append,-List.map_take,-List.map_drop,-List.map_set]
  rw[if_neg h1]at h
  have h1:=ff h1
  by_cases h2:r.is 3 [40]=true
  ·have ok1:=ok.step (now_lt (by rw[(is_kind h2).2.1];decide))
   rw[if_pos h2]at h
   simp only[xM]at h
   obtain⟨r1,h3,rfl⟩:=h
   have hc:=hl r.step r1 h3 (fun q=>by cases q) ok1 M hM
   have ht:=fun t M κ=>take_w (ρ:=ρ) r1 (by have:=(ok1.le (rdk_le (fun q=>by cases q) h3)).p;omega) t M κ
   simp -implicitDefEqProofs (maxSteps:=1000000) [go_sem,hn,hi,h0,h1,h2,hw1,hc,ht,-List.map_append,-List.map_take,-List.map_drop,-List.map_set]
  rw[if_neg h2]at h
  by_cases h3:r.now.Kind=1
  ·rw[if_pos h3]at h
   have hc:=hw r r' h (fun _=>h3) ok M hM
   have h3:=tt h3
   simp -implicitDefEqProofs (maxSteps:=1000000) [go_sem,hn,hi,h0,h1,h2,h3,hw1,hc,-List.map_append,-List.map_take,-List.map_drop,-List.map_set]
  ·rw[if_neg h3]at h
   simp only[xJ]at h
   subst h
   have h3:=ff h3
   simp -implicitDefEqProofs (maxSteps:=1000000) [go_sem,hn,hi,hf,h0,h1,h2,h3,-List.map_append,-List.map_take,-List.map_drop,-List.map_set]
 ·rw[if_neg h0]at h
  simp only[xJ]at h
  subst h
  have h0:=ff h0
  simp -implicitDefEqProofs (maxSteps:=1000000) [go_sem,hn,h0,-List.map_append,-List.map_take,-List.map_drop,-List.map_set]
abbrev wS:List UInt8:=[115,101,108,102]
abbrev wL:List UInt8:=[108,101,110]
abbrev wA:List UInt8:=[97,116]
abbrev wN:List UInt8:=[110,111,110,101]
theorem ob_1{a x:Ob}{M:List Ob}:(a::(M++[x]))[M.length+1]? =some x:=by simp
theorem set_1{a x y:Ob}{M:List Ob}:(a::(M++[x])).set (M.length+1) y=a::(M++[y]):=by simp
theorem key9(a b:List UInt8):keyEq P 9 (.str a) (.str b)=some (decide (a=b)):=by
 show((kindOf P 9).bind fun n=>eqK n (.str a) (.str b))=_
 rw[t9.2.2.2.2.1]
 exact congrArg some (Bool.eq_iff_iff.2 (by simp only[beq_iff_eq,yD]))
theorem low_map{M:List Ob}{es:List (D×T)}(h:LowM M)(hq:∀n,(Ob.map es).low n=true):LowM (M++[.map es]):=fun n hn=>by
 rw[List.all_append,h n hn,Bool.true_and]
 simp[hq]
abbrev ownM:List (D×T):=[(.str [115,101,108,102],.d (.fn (.func 134) [] [])),(.str [108,101,110],.d (.fn (.func 135) [] [])),(.str [97,116],.d (.fn (.func 136) [] [])),(.str [110,111,110,101],.d (.fn (.func 137) [] []))]
theorem low_own{M:List Ob}(h:LowM M):LowM (M++[.map ownM]):=low_map h fun n=>rfl
theorem word_w{n:Nat}(hl:Does n 16 (fun _=>[.ptr 0]) (.level 1) ρ)(hC:∀s:GScope,Few s→LK 41 s (fun nm=>fidx (pC nm) s.Chans) ρ)(hP:∀s:GScope,Few s→LK 42 s (fun nm=>fidx (pP nm) s.Procs) ρ)(hS:∀s:GScope,Few s→LK 43 s (fun nm=>fidx (pS nm) s.Scalars) ρ)
  (hst:∀(s:GScope),Few s→∀(nm:List UInt8) (κ:KT ρ),cbK (call 40 [.str nm,.agg [.sl false (List.map eScalar s.Scalars),.sl false (List.map eVar s.Vars),.sl false (List.map eChan s.Chans),.sl false (List.map (eProc false) s.Procs),.sl false (List.map eVar s.Locals),.int .i64 s.Self]] []) κ=κ ([.d (.int .i64 (standsK s nm).1),.d (.int .i64 (standsK s nm).2)],[])):
  Does (n+1) 112 (fun r=>[.ptr 0,.str r.now.Text]) .word ρ:=by
 intro r r' h hk ok M hM κ
 refine(ge112 _ _ _ rfl).trans ?_
 have hp:=ok.p
 have ok1:=ok.step (now_lt (by rw[hk rfl];decide))
 have hp1:=ok1.p
 have hw1:=wrap1p ok
 have hf:=fun x M κ=>fail_w (ρ:=ρ) r (by omega) x M κ
 have ho:=ok.o
 rw[rdK]at h
 by_cases a1:r.now.Text=wS
 ·rw[if_pos a1]at h
  simp only[xJ]at h
  subst h
  have hq:=fun M κ=>self_w (ρ:=ρ) r.step ho M κ
  have b1:=tt a1
  have c1:=tt a1.symm
  simp -implicitDefEqProofs (maxSteps:=1000000) [go_sem,putOb,lookOb,findK,putK,key9,ob_1,set_1,hw1,hq,b1,c1,-List.map_append,-List.map_take,-List.map_drop,-List.map_set]
  exact congrArg κ (congrArg (Prod.mk []) (if_pos fun a ha=>List.all_eq_true.1 (hM (M.length+1) (Nat.succ_pos _)) a ha))
 rw[if_neg a1]at h
 have b1:=ff a1
 have c1:=ff (fun q=>a1 (Eq.symm q))
 by_cases a2:r.now.Text=wL
 ·rw[if_pos a2]at h
  simp only[xJ]at h
  subst h
  have hq:=fun M κ=>length_w (ρ:=ρ) r.step (by omega) ho (hC _ ok.few) M κ
  have b2:=tt a2
  have c2:=tt a2.symm
  simp -implicitDefEqProofs (maxSteps:=1000000) [go_sem,putOb,lookOb,findK,putK,key9,ob_1,set_1,hw1,hq,b1,c1,b2,c2,-List.map_append,-List.map_take,-List.map_drop,-List.map_set]
  exact congrArg κ (congrArg (Prod.mk []) (if_pos fun a ha=>List.all_eq_true.1 (hM (M.length+1) (Nat.succ_pos _)) a ha))
 rw[if_neg a2]at h
 have b2:=ff a2
 have c2:=ff (fun q=>a2 (Eq.symm q))
 by_cases a3:r.now.Text=wA
 ·rw[if_pos a3]at h
  simp only[xJ]at h
  subst h
  have hq:=fun M κ=>where_w (ρ:=ρ) r.step (by omega) ho (hP _ ok.few) M κ
  have b3:=tt a3
  have c3:=tt a3.symm
  simp -implicitDefEqProofs (maxSteps:=1000000) [go_sem,putOb,lookOb,findK,putK,key9,ob_1,set_1,hw1,hq,b1,c1,b2,c2,b3,c3,-List.map_append,-List.map_take,-List.map_drop,-List.map_set]
  exact congrArg κ (congrArg (Prod.mk []) (if_pos fun a ha=>List.all_eq_true.1 (hM (M.length+1) (Nat.succ_pos _)) a ha))
 rw[if_neg a3]at h
 have b3:=ff a3
 have c3:=ff (fun q=>a3 (Eq.symm q))
 by_cases a4:r.now.Text=wN
 ·rw[if_pos a4]at h
  simp only[xJ]at h
  subst h
  have hq:=fun M κ=>nothing_w (ρ:=ρ) r.step (by omega) ho (hS _ ok.few) M κ
  have b4:=tt a4
  have c4:=tt a4.symm
  simp -implicitDefEqProofs (maxSteps:=1000000) [go_sem,putOb,lookOb,findK,putK,key9,ob_1,set_1,hw1,hq,b1,c1,b2,c2,b3,c3,b4,c4,-List.map_append,-List.map_take,-List.map_drop,-List.map_set]
  exact congrArg κ (congrArg (Prod.mk []) (if_pos fun a ha=>List.all_eq_true.1 (hM (M.length+1) (Nat.succ_pos _)) a ha))
 rw[if_neg a4]at h
 have b4:=ff a4
 have c4:=ff (fun q=>a4 (Eq.symm q))
 have hst:=fun κ=>hst r.s ok.few r.now.Text κ
 by_cases s0:(standsK r.s r.now.Text).1=0
 ·rw[if_pos s0]at h
  simp only[xJ]at h
  subst h
  have s0:=tt s0
  simp -implicitDefEqProofs (maxSteps:=1000000) [go_sem,putOb,lookOb,findK,putK,key9,ob_1,set_1,hw1,b1,c1,b2,c2,b3,c3,b4,c4,hst,hf,s0,-List.map_append,-List.map_take,-List.map_drop,-List.map_set]
  exact congrArg κ (congrArg (Prod.mk []) (if_pos fun a ha=>List.all_eq_true.1 (hM (M.length+1) (Nat.succ_pos _)) a ha))
 rw[if_neg s0]at h
 have s0:=ff s0
 have hi:=fun k t M κ=>is_w (ρ:=ρ) r.step (by omega) k t M κ
 have hw2:=wrap1p ok1
 by_cases s1:(standsK r.s r.now.Text).1=2∧r.step.is 3 [91]=true
 ·rw[if_pos s1]at h
  simp only[xM]at h
  obtain⟨r1,h1,rfl⟩:=h
  have ok2:=ok1.step (now_lt (by rw[(is_kind s1.2).2.1];decide))
  have ok3:=ok2.le (rdk_le (fun q=>by cases q) h1)
  have hc:=hl r.step.step r1 h1 (fun q=>by cases q) ok2 (M++[.map ownM]) (low_own hM)
  have ht:=fun t M κ=>take_w (ρ:=ρ) r1 (by have:=ok3.p;omega) t M κ
  have hq:=fun op n M κ=>put_w (ρ:=ρ) (r1.take [93]) (by rw[take_out];exact ok3.o) op n M κ
  have s2:=tt s1.1
  have s3:=s1.2
  simp -implicitDefEqProofs (maxSteps:=1000000) [go_sem,putOb,lookOb,findK,putK,key9,ob_1,set_1,hw1,b1,c1,b2,c2,b3,c3,b4,c4,hst,s0,s2,s3,hi,hw2,hc,ht,hq,-List.map_append,-List.map_take,-List.map_drop,-List.map_set]
  exact congrArg κ (congrArg (Prod.mk []) (if_pos fun a ha=>List.all_eq_true.1 (hM (M.length+1) (Nat.succ_pos _)) a ha))
 ·rw[if_neg s1]at h
  simp only[xJ]at h
  subst h
  have hq:=fun op n M κ=>put_w (ρ:=ρ) r.step ho op n M κ
  by_cases s2:(standsK r.s r.now.Text).1=2
  ·have s3:r.step.is 3 [91]=false:=by simpa using fun q=>s1 ⟨s2,q⟩
   have s2:=tt s2
   simp -implicitDefEqProofs (maxSteps:=1000000) [go_sem,putOb,lookOb,findK,putK,key9,ob_1,set_1,hw1,b1,c1,b2,c2,b3,c3,b4,c4,hst,s0,s2,s3,hi,hq,-List.map_append,-List.map_take,-List.map_drop,-List.map_set]
   exact congrArg κ (congrArg (Prod.mk []) (if_pos fun a ha=>List.all_eq_true.1 (hM (M.length+1) (Nat.succ_pos _)) a ha))
  ·have s2:=ff s2
   simp -implicitDefEqProofs (maxSteps:=1000000) [go_sem,putOb,lookOb,findK,putK,key9,ob_1,set_1,hw1,b1,c1,b2,c2,b3,c3,b4,c4,hst,s0,s2,hi,hq,-List.map_append,-List.map_take,-List.map_drop,-List.map_set]
   exact congrArg κ (congrArg (Prod.mk []) (if_pos fun a ha=>List.all_eq_true.1 (hM (M.length+1) (Nat.succ_pos _)) a ha))
theorem level_s{n:Nat}(hs:Does n 67 (fun _=>[.ptr 0]) .strong ρ):∀(r r':Rdr),rdK n .strong r=some r'→Ok r→∀(M:List Ob),LowM M→∀κ:KT ρ,cbK (call 35 [.ptr 0,.int .i64 6] (.box (rdT r)::M)) κ=κ ([],.box (rdT r')::M):=by
 intro r r' h ok M hM κ
 refine(ge35 _ _ _ rfl).trans ?_
 have hc:=hs r r' h (fun q=>by cases q) ok (M++[.box (.d (.ptr 0)),.box (.d (.int .i64 6))]) (low_two hM)
 simp -implicitDefEqProofs (maxSteps:=1000000) [go_sem,ob_a,ob_b,hc,-List.map_append,-List.map_take,-List.map_drop,-List.map_set]
 exact congrArg κ (congrArg (Prod.mk []) (if_pos fun a ha=>List.all_eq_true.1 (hM (M.length+1) (Nat.succ_pos _)) a ha))
theorem level_l{n:Nat}(hs:Does n 68 (fun _=>[.ptr 0]) .leaf ρ):∀(r r':Rdr),rdK n .leaf r=some r'→Ok r→∀(M:List Ob),LowM M→∀κ:KT ρ,cbK (call 35 [.ptr 0,.int .i64 7] (.box (rdT r)::M)) κ=κ ([],.box (rdT r')::M):=by
 intro r r' h ok M hM κ
 refine(ge35 _ _ _ rfl).trans ?_
 have hc:=hs r r' h (fun q=>by cases q) ok (M++[.box (.d (.ptr 0)),.box (.d (.int .i64 7))]) (low_two hM)
 simp -implicitDefEqProofs (maxSteps:=1000000) [go_sem,ob_a,ob_b,hc,-List.map_append,-List.map_take,-List.map_drop,-List.map_set]
 exact congrArg κ (congrArg (Prod.mk []) (if_pos fun a ha=>List.all_eq_true.1 (hM (M.length+1) (Nat.succ_pos _)) a ha))
theorem level_r{b:Int}(h6:b≠6)(h7:b≠7)(r r':Rdr)(M:List Ob)(hM:LowM M)
  (hrow:∀κ:KT ρ,cbK (call 69 [.ptr 0,.int .i64 b,.bool (!decide (b=3)),.fn (.func 70) [] [.ptr (M.length+1),.ptr (M.length+1+1)]] (.box (rdT r)::(M++[.box (.d (.ptr 0)),.box (.d (.int .i64 b))]))) κ=κ ([],.box (rdT r')::(M++[.box (.d (.ptr 0)),.box (.d (.int .i64 b))])))
  (κ:KT ρ):cbK (call 35 [.ptr 0,.int .i64 b] (.box (rdT r)::M)) κ=κ ([],.box (rdT r')::M):=by
 refine(ge35 _ _ _ rfl).trans ?_
 have h6:=ff h6
 have h7:=ff h7
 simp -implicitDefEqProofs (maxSteps:=1000000) [go_sem,ob_a,ob_b,hrow,h6,h7,-List.map_append,-List.map_take,-List.map_drop,-List.map_set]
 exact congrArg κ (congrArg (Prod.mk []) (if_pos fun a ha=>List.all_eq_true.1 (hM (M.length+1) (Nat.succ_pos _)) a ha))
theorem next_w{n:Nat}{b:Int}(hb:IntKind.i64.wrap (b+1)=b+1)(hl:Does n 35 (fun _=>[.ptr 0,.int .i64 (b+1)]) (.level (b+1)) ρ){r r':Rdr}(h:rdK n (.level (b+1)) r=some r')(ok:Ok r){M:List Ob}(hM:LowM M)(κ:KT ρ):
  cbK (call 70 [.ptr (M.length+1),.ptr (M.length+1+1)] (.box (rdT r)::(M++[.box (.d (.ptr 0)),.box (.d (.int .i64 b))]))) κ=κ ([],.box (rdT r')::(M++[.box (.d (.ptr 0)),.box (.d (.int .i64 b))])):=by
 refine(ge70 _ _ _ rfl).trans ?_
 have hc:=hl r r' h (fun q=>by cases q) ok (M++[.box (.d (.ptr 0)),.box (.d (.int .i64 b))]) (low_two hM)
 simp -implicitDefEqProofs (maxSteps:=1000000) [go_sem,ob_a,ob_b,hb,hc,-List.map_append,-List.map_take,-List.map_drop,-List.map_set]
abbrev OpW(ρ:Type):Prop:=∀(t:List UInt8) (b:Int) (κ:KT ρ),cbK (call 113 [.str t,.int .i64 b] []) κ=match opK t b with |some o=>κ ([.d (.int .i64 o),.d (.bool true)],[]) |none=>κ ([.d (.int .i64 0),.d (.bool false)],[])
abbrev rowS(b:Int)(p q:Nat)(M:List Ob)(r:Rdr)(l:List (Nat×SV)):St:=⟨(0,SV.d (D.ptr 0))::(1,SV.d (D.int IntKind.i64 b))::(2,SV.d (D.bool !decide (b=3)))::(3,SV.d (D.fn (.func 70) [] [D.ptr p,D.ptr q]))::l,[],.box (rdT r)::M⟩
theorem rest_w{b:Int}{p q:Nat}{M:List Ob}(hop:OpW ρ):∀(n:Nat),(∀m,m<n→∀{r r':Rdr},rdK m (.level (b+1)) r=some r'→Ok r→∀κ:KT ρ,cbK (call 70 [.ptr p,.ptr q] (.box (rdT r)::M)) κ=κ ([],.box (rdT r')::M))→
  ∀(r r':Rdr) (c:Bool),rdK n (.rest b) r=some r'→Ok r→∀κ:KT ρ,goLp P hints hint69 b69 0 (rowS b p q M r (if c=true then [(46,.d (.bool false))]else [])) (kBlk 0 (kLv P false [] (M.length+1) κ))=κ ([],.box (rdT r')::M)
 |0,_,r,r',c,h,_,κ=>by simp[rdK]at h
 |n+1,hnext,r,r',c,h,ok,κ=>by
  refine(goLp_turn q69_0.2).trans ?_
  have hp:=ok.p
  have hn:=fun M κ=>now_w (ρ:=ρ) r (by omega) M κ
  have ho:=fun κ=>hop r.now.Text b κ
  have hw:=wrap1p ok
  rw[rdK]at h
  by_cases h0:r.e=0
  ·rw[if_pos h0]at h
   have h0:=tt h0
   cases hk:opK r.now.Text b with
   |none=>
    rw[hk]at h ho
    simp only[xJ]at h
    subst h
    cases c <;>simp -implicitDefEqProofs (maxSteps:=1000000) [go_sem,hn,ho,h0,-List.map_append,-List.map_take,-List.map_drop,-List.map_set]
   |some o=>
    rw[hk]at h ho
    simp only at h ho
    by_cases h1:r.now.Kind=3
    ·have ok1:=ok.step (now_lt (by rw[h1];decide))
     have hl:=now_lt (r:=r) (by rw[h1];decide)
     rw[if_pos h1]at h
     simp only[xB]at h
     obtain⟨r1,h2,h3⟩:=h
     have hc:=fun κ=>hnext n (Nat.lt_succ_self n) h2 ok1 κ
     have k1:=rdk_le (fun q=>by cases q) h2
     have ok2:=ok1.le k1
     have hq:=fun op n M κ=>put_w (ρ:=ρ) r1 ok2.o op n M κ
     have h1:=tt h1
     by_cases hb:b=3
     ·rw[if_pos hb]at h3
      simp only[xJ]at h3
      subst h3
      have hb:=tt hb
      cases c <;>simp -implicitDefEqProofs (maxSteps:=1000000) [go_sem,hn,ho,h0,h1,hw,hc,hq,hb,-List.map_append,-List.map_take,-List.map_drop,-List.map_set]
     ·rw[if_neg hb]at h3
      have ok3:=ok.le (step_put hl k1 o 0)
      have ih:=rest_w hop n (fun m hm=>hnext m (by omega)) (r1.put o 0) r' true h3 ok3 κ
      have hb2:(!decide (b=3))=true:=by simp[hb]
      have hb:=ff hb
      simp only[rowS,hb2,if_true]at ih
      cases c <;>simp -implicitDefEqProofs (maxSteps:=1000000) [go_sem,hn,ho,h0,h1,hw,hc,hq,hb,ih,-List.map_append,-List.map_take,-List.map_drop,-List.map_set]
    ·rw[if_neg h1]at h
     simp only[xJ]at h
     subst h
     have h1:=ff h1
     cases c <;>simp -implicitDefEqProofs (maxSteps:=1000000) [go_sem,hn,ho,h0,h1,-List.map_append,-List.map_take,-List.map_drop,-List.map_set]
  ·rw[if_neg h0]at h
   simp only[xJ]at h
   subst h
   have h0:=ff h0
   cases c <;>simp -implicitDefEqProofs (maxSteps:=1000000) [go_sem,h0,-List.map_append,-List.map_take,-List.map_drop,-List.map_set]
theorem row_w{b:Int}{p q:Nat}{M:List Ob}(hop:OpW ρ){n:Nat}(hnext:∀m,m≤n→∀{r r':Rdr},rdK m (.level (b+1)) r=some r'→Ok r→∀κ:KT ρ,cbK (call 70 [.ptr p,.ptr q] (.box (rdT r)::M)) κ=κ ([],.box (rdT r')::M))
  {r r1 r':Rdr} (h1:rdK n (.level (b+1)) r=some r1) (h2:rdK n (.rest b) r1=some r') (ok:Ok r) (κ:KT ρ):cbK (call 69 [.ptr 0,.int .i64 b,.bool (!decide (b=3)),.fn (.func 70) [] [.ptr p,.ptr q]] (.box (rdT r)::M)) κ=κ ([],.box (rdT r')::M):=by
 refine(ge69 _ _ _ rfl).trans ?_
 have hc:=fun κ=>hnext n (Nat.le_refl n) h1 ok κ
 have hr:=rest_w hop n (fun m hm=>hnext m (by omega)) r1 r' false h2 (ok.le (rdk_le (fun q=>by cases q) h1)) κ
 simp only[rowS,xH,if_false]at hr
 simp -implicitDefEqProofs (maxSteps:=1000000) [go_sem,hc,hr,-List.map_append,-List.map_take,-List.map_drop,-List.map_set]
theorem all_w(hC:∀s:GScope,Few s→LK 41 s (fun nm=>fidx (pC nm) s.Chans) ρ)(hP:∀s:GScope,Few s→LK 42 s (fun nm=>fidx (pP nm) s.Procs) ρ)(hS:∀s:GScope,Few s→LK 43 s (fun nm=>fidx (pS nm) s.Scalars) ρ)
  (hst:∀(s:GScope),Few s→∀(nm:List UInt8) (κ:KT ρ),cbK (call 40 [.str nm,.agg [.sl false (List.map eScalar s.Scalars),.sl false (List.map eVar s.Vars),.sl false (List.map eChan s.Chans),.sl false (List.map (eProc false) s.Procs),.sl false (List.map eVar s.Locals),.int .i64 s.Self]] []) κ=κ ([.d (.int .i64 (standsK s nm).1),.d (.int .i64 (standsK s nm).2)],[]))
  (hop:OpW ρ):∀(N n:Nat),n≤N→Does n 67 (fun _=>[.ptr 0]) .strong ρ∧Does n 68 (fun _=>[.ptr 0]) .leaf ρ∧Does n 112 (fun r=>[.ptr 0,.str r.now.Text]) .word ρ∧∀b:Int,1≤b→b≤7→Does n 35 (fun _=>[.ptr 0,.int .i64 b]) (.level b) ρ:=by
 have zero:∀f ds md,Does 0 f ds md ρ:=fun f ds md r r' h=>by simp[rdK]at h
 intro N
 induction N with
 |zero=>
  intro n hn
  obtain rfl:n=0:=by omega
  exact⟨zero _ _ _,zero _ _ _,zero _ _ _,fun b _ _=>zero _ _ _⟩
 |succ N ih=>
  intro n hn
  cases n with
  |zero=>exact⟨zero _ _ _,zero _ _ _,zero _ _ _,fun b _ _=>zero _ _ _⟩
  |succ n=>
   obtain⟨i1,i2,i3,i4⟩:=ih n (by omega)
   have w:=whole_w (i4 1 (by omega) (by omega))
   refine⟨strong_w i1 i2,leaf_w w i3,word_w w hC hP hS hst,fun b b1 b7=> ?_⟩
   intro r r' h _ ok M hM κ
   rw[rdK]at h
   by_cases h6:b=6
   ·subst h6
    rw[if_pos rfl]at h
    exact level_s i1 r r' h ok M hM κ
   rw[if_neg h6]at h
   by_cases h7:b=7
   ·subst h7
    rw[if_pos rfl]at h
    exact level_l i2 r r' h ok M hM κ
   rw[if_neg h7]at h
   simp only[xB]at h
   obtain⟨r1,e1,e2⟩:=h
   exact level_r h6 h7 r r' M hM (fun κ=>row_w hop (fun m hm r r' e ok κ=>next_w (wrap_i64 (by omega) (by omega)) ((ih m (by omega)).2.2.2 (b+1) (by omega) (by omega)) e ok hM κ) e1 e2 ok κ) κ
end
end
end Go.Etx
