/- A part of the proof. -/
import Derived.Test.YtlcnolfmpbdgpaaGreatDoorTl8
set_option linter.defProp false
set_option linter.unusedSimpArgs false
set_option linter.unusedVariables false
namespace Go.Etx
open Go Go.Am Go.Proofs
set_option maxHeartbeats 400000
set_option maxRecDepth 20000
noncomputable section
variable{ρ:Type}(β:Bool)(κ:KT ρ)(η:XT ρ)(z0 z1 z9 z10 z16:Int)(z2:List Int)(z3:List GScalar)(z4 z7 z8:List GVar)(z5:List GChan)(z6:List GProc)(z11 z21:List GNode)(z12:Nat)(z13:List (Int))(z14 z20:List UInt8)(z15 z23:Bool)(z17:List (List UInt8×Bool))(z18:List GCmd)(z19:List GAct)(z22:List GProp)(z24:List (List UInt8))(z25 z26:List GStep)(z27:List (GStep))
def mM(a0:Int)(a1:Int):=mkF (p:=fun β (κ:KT ρ) (g:Option ρ)=>κ ([.d (.int IntKind.i64 (IntKind.wrap IntKind.i64 (a0+a1)))],[])=g) (ds:=fun β=>[eI a0,eI a1]) aax (fun _=>rfl) _
def uv(a0:Int)(a1:Int)(g0):=(mM (ρ:=ρ) a0 a1).1 g0
@[go_sem] def Rd:=wk (uv (ρ:=ρ) z0 z1) ((mM z0 z1).2 true κ _ rfl)
section
variable(p0:List Int)(p1:Int)
@[go_sem] def iw(β:Bool)(v0:Int):St:=⟨[(5,.d (.sl β (List.map eI p0))),(6,.d (.int IntKind.i64 p1)),(7,.d (.int IntKind.i64 v0))],[],[]⟩
@[go_sem] def mN:=mkL (p:=fun β (Φ:Int→(Int→Option ρ)→XT ρ→Option ρ)=>∀(R:St→Option ρ) g κ,(∀v0,R (iw p0 p1 β v0)=g v0)→∀v0,go P hints sS b52 QJ.1 (iw p0 p1 β v0) (kLp R κ)=Φ v0 g κ) _ _
def mO(β:Bool)(κ:XT ρ)(v0:Int):=aj (κ:=κ) (Φ:=fun v k=>(mN p0 p1 (ρ:=ρ)).f β v k κ) QJ.2 (S:=fun v=>iw p0 p1 β v) (by intro R g hR v;exact(mN p0 p1 (ρ:=ρ)).ok β R g κ (fun v0=>hR v0) v) v0
end
@[go_sem] def Ir:=wl (mO z2 z0 false η z1)
@[go_sem] def Is:=wl (mO z2 z0 true η z1)
def gV(a0:List Int):=mkF (p:=fun β (κ:KT ρ) (g:Bool→Option ρ)=>∀y0_0,κ ([.d (.bool y0_0)],[])=g y0_0) (ds:=fun β=>[(aa1 β) a0]) ae3 (fun _=>rfl) _
def gW(a0:List Int)(g0):=(gV (ρ:=ρ) a0).1 g0
attribute [go_sem] aaA
@[go_sem] def FZ:=wk (gW (ρ:=ρ) ([z0,z1]:List Int)) ((gV ([z0,z1]:List Int)).2 β κ _ (fun _=>rfl))
@[go_sem] def F0:=wk (gW (ρ:=ρ) ([z0]:List Int)) ((gV ([z0]:List Int)).2 β κ _ (fun _=>rfl))
def sZ(a0:Int)(a1:Int):=mkF (p:=fun β (κ:KT ρ) (g:Int→Bool→Option ρ)=>∀y0_0 y0_1,κ ([.d (.int IntKind.i64 y0_0),.d (.bool y0_1)],[])=g y0_0 y0_1) (ds:=fun β=>[eI a0,eI a1]) ZA (fun _=>rfl) _
def s4(a0:Int)(a1:Int)(g0):=(sZ (ρ:=ρ) a0 a1).1 g0
@[go_sem] def V9:=wk (s4 (ρ:=ρ) z0 z1) ((sZ z0 z1).2 true κ _ (fun _ _=>rfl))
def jr(a0:Int)(a1:GScope):=mkF (p:=fun β (κ:KT ρ) (g:Int→Bool→Option ρ)=>∀y0_0 y0_1,κ ([.d (.int IntKind.i64 y0_0),.d (.bool y0_1)],[])=g y0_0 y0_1) (ds:=fun β=>[eI a0,(cU β) a1]) aaX (fun _=>rfl) _
def js(a0:Int)(a1:GScope)(g0):=(jr (ρ:=ρ) a0 a1).1 g0
@[go_sem] def Mg:=wk (js (ρ:=ρ) z0 (GScope.mk z3 z4 z5 z6 z7 z1)) ((jr z0 (GScope.mk z3 z4 z5 z6 z7 z1)).2 β κ _ (fun _ _=>rfl))
def gF(a0:List GVar)(a1:Int)(a2:GScope):=mkF (p:=fun β (κ:KT ρ) (g:Int→Int→Bool→Option ρ)=>∀y0_0 y0_1 y0_2,κ ([.d (.int IntKind.i64 y0_0),.d (.int IntKind.i64 y0_1),.d (.bool y0_2)],[])=g y0_0 y0_1 y0_2) (ds:=fun β=>[(lT β) a0,eI a1,(cU β) a2]) aah (fun _=>rfl) _
def ez(a0:List GVar)(a1:Int)(a2:GScope)(g0):=(gF (ρ:=ρ) a0 a1 a2).1 g0
@[go_sem] def It:=wk (ez (ρ:=ρ) z4 z0 (GScope.mk z3 z7 z5 z6 z8 z1)) ((gF z4 z0 (GScope.mk z3 z7 z5 z6 z8 z1)).2 β κ _ (fun _ _ _=>rfl))
def kV(a0:GNode)(a1:GScope):=mkF (p:=fun β (κ:KT ρ) (g:Int→Int→Option ρ)=>∀y0_0 y0_1,κ ([.d (.int IntKind.i64 y0_0),.d (.int IntKind.i64 y0_1)],[])=g y0_0 y0_1) (ds:=fun β=>[bh a0,(cU β) a1]) aae (fun _=>rfl) _
def kW(a0:GNode)(a1:GScope)(g0):=(kV (ρ:=ρ) a0 a1).1 g0
@[go_sem] def OI:=wk (kW (ρ:=ρ) (GNode.mk z0 z1) (GScope.mk z3 z4 z5 z6 z7 z9)) ((kV (GNode.mk z0 z1) (GScope.mk z3 z4 z5 z6 z7 z9)).2 β κ _ (fun _ _=>rfl))
def mP(a0:Int):=mkF (p:=fun β (κ:KT ρ) (g:Int→Option ρ)=>∀y0_0,κ ([.d (.int IntKind.i64 y0_0)],[])=g y0_0) (ds:=fun β=>[eI a0]) XM (fun _=>rfl) _
def mQ(a0:Int)(g0):=(mP (ρ:=ρ) a0).1 g0
@[go_sem] def Re:=wk (mQ (ρ:=ρ) z0) ((mP z0).2 true κ _ (fun _=>rfl))
def kX(a0:Int)(a1:GScope):=mkF (p:=fun β (κ:KT ρ) (g:Bool→Option ρ)=>∀y0_0,κ ([.d (.bool y0_0)],[])=g y0_0) (ds:=fun β=>[eI a0,(cU β) a1]) aaq (fun _=>rfl) _
def kY(a0:Int)(a1:GScope)(g0):=(kX (ρ:=ρ) a0 a1).1 g0
@[go_sem] def OJ:=wk (kY (ρ:=ρ) z0 (GScope.mk z3 z4 z5 z6 z7 z1)) ((kX z0 (GScope.mk z3 z4 z5 z6 z7 z1)).2 β κ _ (fun _=>rfl))
def iy(a0:List GVar)(a1:Int)(a2:GScope):=mkF (p:=fun β (κ:KT ρ) (g:(List UInt8)→Int→Int→Int→Int→Int→Bool→Option ρ)=>∀y0_0 y0_1 y0_2 y0_3 y0_4 y0_5 y0_6,κ ([.d (.agg [.str y0_0,.int IntKind.i64 y0_1,.int IntKind.i64 y0_2,.int IntKind.i64 y0_3,.int IntKind.i64 y0_4,.int IntKind.i64 y0_5]),.d (.bool y0_6)],[])=g y0_0 y0_1 y0_2 y0_3 y0_4 y0_5 y0_6) (ds:=fun β=>[(lT β) a0,eI a1,(cU β) a2]) Zn (fun _=>rfl) _
def fg(a0:List GVar)(a1:Int)(a2:GScope)(g0):=(iy (ρ:=ρ) a0 a1 a2).1 g0
@[go_sem] def Kn:=wk (fg (ρ:=ρ) z4 z0 (GScope.mk z3 z7 z5 z6 z8 z1)) ((iy z4 z0 (GScope.mk z3 z7 z5 z6 z8 z1)).2 β κ _ (fun _ _ _ _ _ _ _=>rfl))
def kZ(a0:Int):=mkF (p:=fun β (κ:KT ρ) (g:Int→Option ρ)=>∀y0_0,κ ([.d (.int IntKind.i64 y0_0)],[])=g y0_0) (ds:=fun β=>[eI a0]) Zq (fun _=>rfl) _
def lc(a0:Int)(g0):=(kZ (ρ:=ρ) a0).1 g0
@[go_sem] def OL:=wk (lc (ρ:=ρ) z0) ((kZ z0).2 true κ _ (fun _=>rfl))
def fW(a0:Int)(a1:GScope):=mkF (p:=fun β (κ:KT ρ) (g:(List UInt8)→Int→Int→Int→Int→Bool→Bool→Option ρ)=>∀y0_0 y0_1 y0_2 y0_3 y0_4 y0_5 y0_6,κ ([.d (.agg [.str y0_0,.int IntKind.i64 y0_1,.int IntKind.i64 y0_2,.int IntKind.i64 y0_3,.int IntKind.i64 y0_4,.bool y0_5]),.d (.bool y0_6)],[])=g y0_0 y0_1 y0_2 y0_3 y0_4 y0_5 y0_6) (ds:=fun β=>[eI a0,(cU β) a1]) Zt (fun _=>rfl) _
def fX(a0:Int)(a1:GScope)(g0):=(fW (ρ:=ρ) a0 a1).1 g0
@[go_sem] def Mh:=wk (fX (ρ:=ρ) z0 (GScope.mk z3 z4 z5 z6 z7 z1)) ((fW z0 (GScope.mk z3 z4 z5 z6 z7 z1)).2 β κ _ (fun _ _ _ _ _ _ _=>rfl))
def qm(a0:GNode)(a1:GScope):=mkF (p:=fun β (κ:KT ρ) (g:Int→Int→Option ρ)=>∀y0_0 y0_1,κ ([.d (.int IntKind.i64 y0_0),.d (.int IntKind.i64 y0_1)],[])=g y0_0 y0_1) (ds:=fun β=>[bh a0,(cU β) a1]) XS (fun _=>rfl) _
def qn(a0:GNode)(a1:GScope)(g0):=(qm (ρ:=ρ) a0 a1).1 g0
@[go_sem] def T8:=wk (qn (ρ:=ρ) (GNode.mk z0 z1) (GScope.mk z3 z4 z5 z6 z7 z9)) ((qm (GNode.mk z0 z1) (GScope.mk z3 z4 z5 z6 z7 z9)).2 β κ _ (fun _ _=>rfl))
def oa(a0:GNode)(a1:Int)(a2:GScope):=mkF (p:=fun β (κ:KT ρ) (g:Int→Int→Option ρ)=>∀y0_0 y0_1,κ ([.d (.int IntKind.i64 y0_0),.d (.int IntKind.i64 y0_1)],[])=g y0_0 y0_1) (ds:=fun β=>[bh a0,eI a1,(cU β) a2]) XX (fun _=>rfl) _
def hY(a0:GNode)(a1:Int)(a2:GScope)(g0):=(oa (ρ:=ρ) a0 a1 a2).1 g0
@[go_sem] def Wa:=wk (hY (ρ:=ρ) (GNode.mk z0 z1) z9 (GScope.mk z3 z4 z5 z6 z7 z10)) ((oa (GNode.mk z0 z1) z9 (GScope.mk z3 z4 z5 z6 z7 z10)).2 β κ _ (fun _ _=>rfl))
def s5(a0:Int)(a1:Int)(a2:Int):=mkF (p:=fun β (κ:KT ρ) (g:Int→Int→Option ρ)=>∀y0_0 y0_1,κ ([.d (.int IntKind.i64 y0_0),.d (.int IntKind.i64 y0_1)],[])=g y0_0 y0_1) (ds:=fun β=>[eI a0,eI a1,eI a2]) X2 (fun _=>rfl) _
def oc(a0:Int)(a1:Int)(a2:Int)(g0):=(s5 (ρ:=ρ) a0 a1 a2).1 g0
@[go_sem] def Wb:=wk (oc (ρ:=ρ) z0 z1 z9) ((s5 z0 z1 z9).2 true κ _ (fun _ _=>rfl))
section
variable(p0:List GNode)(p1:List GScalar)(p2:List GVar)(p3:List GChan)(p4:List GProc)(p5:List GVar)(p6:Int)
@[go_sem] def gX(β:Bool)(n0:Nat)(v0:Int)(v1:List (Int)):St:=⟨[(0,.d (.sl β (List.map bh p0))),(3,.loc (Root.l 3 0) [] (0) 0),(6,.bor (.l 6 0) [] 0 n0),(7,.d (.int IntKind.i64 v0))],[((3,0),.own [.d (.agg [.sl β (List.map ae p1),.sl β (List.map aq p2),.sl β (List.map ay p3),.sl β (List.map (au β) p4),.sl β (List.map aq p5),.int IntKind.i64 p6])]),((6,0),.own (tl eI v1))],[]⟩
@[go_sem] def rG:=mkL (p:=fun β (Φ:Int→(List (Int))→((Int)×(List (Int))→Option ρ)→XT ρ→Option ρ)=>∀(R:St→Option ρ) g κ,(∀n0 v0 v1,n0=List.length v1→R (gX p0 p1 p2 p3 p4 p5 p6 β n0 v0 v1)=g (v0,v1))→∀v0 v1,go P hints sV b63 Q0.1 (gX p0 p1 p2 p3 p4 p5 p6 β (List.length v1) v0 v1) (kLp R κ)=Φ v0 v1 g κ) _ _
def rH(β:Bool)(κ:XT ρ)(n0:Nat)(v0:Int)(v1:List (Int))(hn0:n0=List.length v1):=ql (S:=fun n0=>gX p0 p1 p2 p3 p4 p5 p6 β n0 v0 v1) hn0 (aj (κ:=κ) (Φ:=fun v k=>(rG p0 p1 p2 p3 p4 p5 p6 (ρ:=ρ)).f β v.1 v.2 k κ) Q0.2 (S:=fun v=>gX p0 p1 p2 p3 p4 p5 p6 β (List.length v.2) v.1 v.2) (by intro R g hR v;exact(rG p0 p1 p2 p3 p4 p5 p6 (ρ:=ρ)).ok β R g κ (fun n0 v0 v1 hn0=>by subst hn0;exact hR (v0,v1)) v.1 v.2) (v0,v1))
end
@[go_sem] def Iu:=wl (rH z11 z3 z4 z5 z6 z7 z0 false η 0 z1 [] rfl)
@[go_sem] def Iv:=wl (rH z11 z3 z4 z5 z6 z7 z0 true η 0 z1 [] rfl)
def ld(a0:List GNode)(a1:GScope):=mkF (p:=fun β (κ:KT ρ) (g:Int→Int→Option ρ)=>∀y0_0 y0_1,κ ([.d (.int IntKind.i64 y0_0),.d (.int IntKind.i64 y0_1)],[])=g y0_0 y0_1) (ds:=fun β=>[(iu β) a0,(cU β) a1]) afe (fun _=>rfl) _
def iz(a0:List GNode)(a1:GScope)(g0):=(ld (ρ:=ρ) a0 a1).1 g0
@[go_sem] def T9:=wk (iz (ρ:=ρ) z11 (GScope.mk z3 z4 z5 z6 z7 z0)) ((ld z11 (GScope.mk z3 z4 z5 z6 z7 z0)).2 β κ _ (fun _ _=>rfl))
def lf(a0:Int):=mkF (p:=fun β (κ:KT ρ) (g:Bool→Option ρ)=>∀y0_0,κ ([.d (.bool y0_0)],[])=g y0_0) (ds:=fun β=>[(eK .i32) a0]) YS (fun _=>rfl) _
def lg(a0:Int)(g0):=(lf (ρ:=ρ) a0).1 g0
@[go_sem] def OM:=wk (lg (ρ:=ρ) z0) ((lf z0).2 true κ _ (fun _=>rfl))
attribute [go_sem] YU
attribute [go_sem] aab
attribute [go_sem] YX
@[go_sem] theorem Wc{ρ:Type}{x0 x1 x8:SV}{ct:List ((Nat×Nat)×T)}{H:List Ob}{κ:Ex×St→Option ρ}:cX P hints gS EY 0 ⟨[(0,x0),(1,x1),(8,x8)],ct,H⟩ κ=go P hints gS EY BJ.1 ⟨[(0,x0),(1,x1),(8,x8)],ct,H⟩ (kLp (fun s=>cX P hints gS EY 0 s κ) κ):=ap BJ.2
section
variable(p0:List UInt8)
@[go_sem] def de(β:Bool)(v0:Int)(v1:Bool)(v2:Nat):St:=⟨[(0,.d (.str p0)),(1,.d (.fn (Fn.func 129) [] [])),(5,.d (.int IntKind.i64 v0)),(8,.d (.ptr (0))),(16,.d (.bool v1))],[],[.iter p0 v2]⟩
@[go_sem] def eO:=mkL (p:=fun β (Φ:Int→Bool→Nat→((Int)×(Bool)×(Nat)→Option ρ)→XT ρ→Option ρ)=>∀(R:St→Option ρ) g κ,(∀v0 v1 v2,R (de p0 β v0 v1 v2)=g (v0,v1,v2))→∀v0 v1 v2,go P hints gS EY BJ.1 (de p0 β v0 v1 v2) (kLp R κ)=Φ v0 v1 v2 g κ) _ _
def j8(β:Bool)(κ:XT ρ)(v0:Int)(v1:Bool)(v2:Nat):=aj (κ:=κ) (Φ:=fun v k=>(eO p0 (ρ:=ρ)).f β v.1 v.2.1 v.2.2 k κ) BJ.2 (S:=fun v=>de p0 β v.1 v.2.1 v.2.2) (by intro R g hR v;exact(eO p0 (ρ:=ρ)).ok β R g κ (fun v0 v1 v2=>hR (v0,v1,v2)) v.1 v.2.1 v.2.2) (v0,v1,v2)
end
@[go_sem] def zf:=wl (j8 z14 true η z0 z15 z12)
section
variable(p0:List UInt8)
@[go_sem] def lh(β:Bool)(v0:Int):St:=⟨[(0,.d (.str p0)),(26,.d (.agg (List.map eS (List.take 4 ownL)))),(27,.d (.int IntKind.i64 v0))],[],[]⟩
@[go_sem] def rI:=mkL (p:=fun β (Φ:Int→(Int→Option ρ)→XT ρ→Option ρ)=>∀(R:St→Option ρ) g κ,(∀v0,R (lh p0 β v0)=g v0)→∀v0,go P hints hint75 b75 Q4.1 (lh p0 β v0) (kLp R κ)=Φ v0 g κ) _ _
def BR(β:Bool)(κ:XT ρ)(v0:Int):=aj (κ:=κ) (Φ:=fun v k=>(rI p0 (ρ:=ρ)).f β v k κ) Q4.2 (S:=fun v=>lh p0 β v) (by intro R g hR v;exact(rI p0 (ρ:=ρ)).ok β R g κ (fun v0=>hR v0) v) v0
end
@[go_sem] def Mj:=wl (BR z14 true η z0)
def qo(a0:List UInt8):=mkF (p:=fun β (κ:KT ρ) (g:Bool→Option ρ)=>∀y0_0,κ ([.d (.bool y0_0)],[])=g y0_0) (ds:=fun β=>[eS a0]) afm (fun _=>rfl) _
def qp(a0:List UInt8)(g0):=(qo (ρ:=ρ) a0).1 g0
@[go_sem] def Ua:=wk (qp (ρ:=ρ) z14) ((qo z14).2 true κ _ (fun _=>rfl))
def lj(a0:Int):=mkF (p:=fun β (κ:KT ρ) (g:Bool→Option ρ)=>∀y0_0,κ ([.d (.bool y0_0)],[])=g y0_0) (ds:=fun β=>[(eK .u8) a0]) Ze (fun _=>rfl) _
def ll(a0:Int)(g0):=(lj (ρ:=ρ) a0).1 g0
@[go_sem] def ON:=wk (ll (ρ:=ρ) z0) ((lj z0).2 true κ _ (fun _=>rfl))
def mR(a0:Int):=mkF (p:=fun β (κ:KT ρ) (g:Bool→Option ρ)=>∀y0_0,κ ([.d (.bool y0_0)],[])=g y0_0) (ds:=fun β=>[(eK .u8) a0]) Zh (fun _=>rfl) _
def mS(a0:Int)(g0):=(mR (ρ:=ρ) a0).1 g0
@[go_sem] def Rf:=wk (mS (ρ:=ρ) z0) ((mR z0).2 true κ _ (fun _=>rfl))
def mT:=mkF (p:=fun β (κ:KT ρ) (g:Option ρ)=>κ ([.d (.sl false (List.map eS (sgL)))],[])=g) (ds:=fun β=>[]) Zk (fun _=>rfl) _
def uw(g0):=(mT (ρ:=ρ)).1 g0
@[go_sem] def Rg:=wk (uw (ρ:=ρ)) ((mT).2 true κ _ rfl)
@[go_sem] theorem Wd{ρ:Type}{x0 x1 x6 x13:SV}{ct:List ((Nat×Nat)×T)}{H:List Ob}{κ:Ex×St→Option ρ}:cX P hints cY rF 0 ⟨[(0,x0),(1,x1),(6,x6),(13,x13)],ct,H⟩ κ=go P hints cY rF BE.1 ⟨[(0,x0),(1,x1),(6,x6),(13,x13)],ct,H⟩ (kLp (fun s=>cX P hints cY rF 0 s κ) κ):=ap BE.2
section
variable(p0:List UInt8)(p1:Int)
@[go_sem] def iA(β:Bool)(v0:Int):St:=⟨[(0,.d (.str p0)),(1,.d (.int IntKind.i64 p1)),(6,.d (.int IntKind.i64 v0))],[],[]⟩
@[go_sem] def mU:=mkL (p:=fun β (Φ:Int→(Int→Option ρ)→XT ρ→Option ρ)=>∀(R:St→Option ρ) g κ,(∀v0,R (iA p0 p1 β v0)=g v0)→∀v0,go P hints cY rF BE.1 (iA p0 p1 β v0) (kLp R κ)=Φ v0 g κ) _ _
def ya(β:Bool)(κ:XT ρ)(v0:Int):=aj (κ:=κ) (Φ:=fun v k=>(mU p0 p1 (ρ:=ρ)).f β v k κ) BE.2 (S:=fun v=>iA p0 p1 β v) (by intro R g hR v;exact(mU p0 p1 (ρ:=ρ)).ok β R g κ (fun v0=>hR v0) v) v0
end
@[go_sem] def Iw:=wl (ya z14 z0 true η z1)
@[go_sem] theorem We{ρ:Type}{x0 x1 x6 x44:SV}{ct:List ((Nat×Nat)×T)}{H:List Ob}{κ:Ex×St→Option ρ}:cX P hints cY rF 1 ⟨[(0,x0),(1,x1),(6,x6),(44,x44)],ct,H⟩ κ=go P hints cY rF BF.1 ⟨[(0,x0),(1,x1),(6,x6),(44,x44)],ct,H⟩ (kLp (fun s=>cX P hints cY rF 1 s κ) κ):=ap BF.2
section
variable(p0:List UInt8)(p1:Int)
@[go_sem] def iB(β:Bool)(v0:Int):St:=⟨[(0,.d (.str p0)),(1,.d (.int IntKind.i64 p1)),(6,.d (.int IntKind.i64 v0))],[],[]⟩
@[go_sem] def mV:=mkL (p:=fun β (Φ:Int→(Int→Option ρ)→XT ρ→Option ρ)=>∀(R:St→Option ρ) g κ,(∀v0,R (iB p0 p1 β v0)=g v0)→∀v0,go P hints cY rF BF.1 (iB p0 p1 β v0) (kLp R κ)=Φ v0 g κ) _ _
def yb(β:Bool)(κ:XT ρ)(v0:Int):=aj (κ:=κ) (Φ:=fun v k=>(mV p0 p1 (ρ:=ρ)).f β v k κ) BF.2 (S:=fun v=>iB p0 p1 β v) (by intro R g hR v;exact(mV p0 p1 (ρ:=ρ)).ok β R g κ (fun v0=>hR v0) v) v0
end
@[go_sem] def Ix:=wl (yb z14 z0 true η z1)
section
variable(p0:List UInt8)(p1:Int)
@[go_sem] def iC(β:Bool)(v0:Int):St:=⟨[(0,.d (.str p0)),(1,.d (.int IntKind.i64 p1)),(7,.d (.sl false (List.map eS (sgL)))),(8,.d (.int IntKind.i64 v0))],[],[]⟩
@[go_sem] def mW:=mkL (p:=fun β (Φ:Int→(Int→Option ρ)→XT ρ→Option ρ)=>∀(R:St→Option ρ) g κ,(∀v0,R (iC p0 p1 β v0)=g v0)→∀v0,go P hints cY rF Ki.1 (iC p0 p1 β v0) (kLp R κ)=Φ v0 g κ) _ _
def yc(β:Bool)(κ:XT ρ)(v0:Int):=aj (κ:=κ) (Φ:=fun v k=>(mW p0 p1 (ρ:=ρ)).f β v k κ) Ki.2 (S:=fun v=>iC p0 p1 β v) (by intro R g hR v;exact(mW p0 p1 (ρ:=ρ)).ok β R g κ (fun v0=>hR v0) v) v0
end
@[go_sem] def Iy:=wl (yc z14 z0 true η z1)
def lm(a0:List UInt8)(a1:Int):=mkF (p:=fun β (κ:KT ρ) (g:Int→Int→Option ρ)=>∀y0_0 y0_1,κ ([.d (.int IntKind.i64 y0_0),.d (.int IntKind.i64 y0_1)],[])=g y0_0 y0_1) (ds:=fun β=>[eS a0,eI a1]) XH (fun _=>rfl) _
def ln(a0:List UInt8)(a1:Int)(g0):=(lm (ρ:=ρ) a0 a1).1 g0
@[go_sem] def OO:=wk (ln (ρ:=ρ) z14 z0) ((lm z14 z0).2 true κ _ (fun _ _=>rfl))
def qq(a0:List UInt8):=mkF (p:=fun β (κ:KT ρ) (g:Bool→Option ρ)=>∀y0_0,κ ([.d (.bool y0_0)],[])=g y0_0) (ds:=fun β=>[eS a0]) afd (fun _=>rfl) _
def qr(a0:List UInt8)(g0):=(qq (ρ:=ρ) a0).1 g0
@[go_sem] def Ub:=wk (qr (ρ:=ρ) z14) ((qq z14).2 true κ _ (fun _=>rfl))
def mX(a0:Int)(a1:List GScalar):=mkF (p:=fun β (κ:KT ρ) (g:Int→Bool→Option ρ)=>∀y0_0 y0_1,κ ([.d (.int IntKind.i64 y0_0),.d (.bool y0_1)],[])=g y0_0 y0_1) (ds:=fun β=>[eI a0,(bR β) a1]) afo (fun _=>rfl) _
def mY(a0:Int)(a1:List GScalar)(g0):=(mX (ρ:=ρ) a0 a1).1 g0
@[go_sem] def Rh:=wk (mY (ρ:=ρ) z0 z3) ((mX z0 z3).2 β κ _ (fun _ _=>rfl))
def lp(a0:GVar)(a1:List GScalar):=mkF (p:=fun β (κ:KT ρ) (g:Int→Option ρ)=>∀y0_0,κ ([.d (.int IntKind.i64 y0_0)],[])=g y0_0) (ds:=fun β=>[aq a0,(bR β) a1]) ae0 (fun _=>rfl) _
def lq(a0:GVar)(a1:List GScalar)(g0):=(lp (ρ:=ρ) a0 a1).1 g0
@[go_sem] def OP:=wk (lq (ρ:=ρ) (GVar.mk z14 z0 z1 z9 z10 z16) z3) ((lp (GVar.mk z14 z0 z1 z9 z10 z16) z3).2 β κ _ (fun _=>rfl))
def jt(a0:GVar)(a1:List GScalar):=mkF (p:=fun β (κ:KT ρ) (g:Int→Int→Option ρ)=>∀y0_0 y0_1,κ ([.d (.int IntKind.i64 y0_0),.d (.int IntKind.i64 y0_1)],[])=g y0_0 y0_1) (ds:=fun β=>[aq a0,(bR β) a1]) Yn (fun _=>rfl) _
def jv(a0:GVar)(a1:List GScalar)(g0):=(jt (ρ:=ρ) a0 a1).1 g0
@[go_sem] def Ml:=wk (jv (ρ:=ρ) (GVar.mk z14 z0 z1 z9 z10 z16) z3) ((jt (GVar.mk z14 z0 z1 z9 z10 z16) z3).2 β κ _ (fun _ _=>rfl))
def jw(a0:Int)(a1:Int):=mkF (p:=fun β (κ:KT ρ) (g:Bool→Option ρ)=>∀y0_0,κ ([.d (.bool y0_0)],[])=g y0_0) (ds:=fun β=>[eI a0,eI a1]) Yq (fun _=>rfl) _
def jx(a0:Int)(a1:Int)(g0):=(jw (ρ:=ρ) a0 a1).1 g0
@[go_sem] def Mm:=wk (jx (ρ:=ρ) z0 z1) ((jw z0 z1).2 true κ _ (fun _=>rfl))
def lr(a0:Int)(a1:List GScalar):=mkF (p:=fun β (κ:KT ρ) (g:Bool→Option ρ)=>∀y0_0,κ ([.d (.bool y0_0)],[])=g y0_0) (ds:=fun β=>[eI a0,(bR β) a1]) Yk (fun _=>rfl) _
def lu(a0:Int)(a1:List GScalar)(g0):=(lr (ρ:=ρ) a0 a1).1 g0
@[go_sem] def OQ:=wk (lu (ρ:=ρ) z0 z3) ((lr z0 z3).2 β κ _ (fun _=>rfl))
attribute [go_sem] X8
attribute [go_sem] Yb
attribute [go_sem] X5
section
variable(p0:Int)(p1:List GScalar)
@[go_sem] def bF(β:Bool)(v0:Int)(v1:List (List UInt8×Bool)):St:=⟨[(1,.d (.int IntKind.i64 (2))),(2,.d (.fn (Fn.func 111) [] [.ptr (0)])),(3,.d (.fn (Fn.func 112) [] [.ptr (0)])),(10,.d (.map (1))),(15,.d (.int IntKind.i64 p0)),(16,.d (.int IntKind.i64 v0))],[],[.box (.d (.sl β (List.map ae p1))),.map (dT eS eB v1)]⟩
@[go_sem] def df:=mkL (p:=fun β (Φ:Int→(List (List UInt8×Bool))→((Int)×(List (List UInt8×Bool))→Option ρ)→XT ρ→Option ρ)=>∀(R:St→Option ρ) g κ,(∀v0 v1,R (bF p0 p1 β v0 v1)=g (v0,v1))→∀v0 v1,go P hints jb HB sX.1 (bF p0 p1 β v0 v1) (kLp R κ)=Φ v0 v1 g κ) _ _
def dg(β:Bool)(κ:XT ρ)(v0:Int)(v1:List (List UInt8×Bool)):=aj (κ:=κ) (Φ:=fun v k=>(df p0 p1 (ρ:=ρ)).f β v.1 v.2 k κ) sX.2 (S:=fun v=>bF p0 p1 β v.1 v.2) (by intro R g hR v;exact(df p0 p1 (ρ:=ρ)).ok β R g κ (fun v0 v1=>hR (v0,v1)) v.1 v.2) (v0,v1)
end
@[go_sem] def qJ:=wl (dg z0 z3 false η z1 [])
@[go_sem] def qK:=wl (dg z0 z3 true η z1 [])
def iD(a0:List GScalar):=mkF (p:=fun β (κ:KT ρ) (g:Int→Int→Option ρ)=>∀y0_0 y0_1,κ ([.d (.int IntKind.i64 y0_0),.d (.int IntKind.i64 y0_1)],[])=g y0_0 y0_1) (ds:=fun β=>[(bR β) a0]) aff (fun _=>rfl) _
def iE(a0:List GScalar)(g0):=(iD (ρ:=ρ) a0).1 g0
@[go_sem] def Ko:=wk (iE (ρ:=ρ) z3) ((iD z3).2 β κ _ (fun _ _=>rfl))
attribute [go_sem] Ye
attribute [go_sem] Yh
section
variable(p0:Int)(p1:Int)(p2:List GVar)(p3:List GScalar)
@[go_sem] def cq(β:Bool)(v0:Int)(v1:List (List UInt8×Bool)):St:=⟨[(1,.d (.int IntKind.i64 p0)),(2,.d (.fn (Fn.func 113) [] [.ptr (0)])),(3,.d (.fn (Fn.func 114) [] [.ptr (0),.ptr (1)])),(10,.d (.map (2))),(15,.d (.int IntKind.i64 p1)),(16,.d (.int IntKind.i64 v0))],[],[.box (.d (.sl β (List.map aq p2))),.box (.d (.sl β (List.map ae p3))),.map (dT eS eB v1)]⟩
@[go_sem] def dE:=mkL (p:=fun β (Φ:Int→(List (List UInt8×Bool))→((Int)×(List (List UInt8×Bool))→Option ρ)→XT ρ→Option ρ)=>∀(R:St→Option ρ) g κ,(∀v0 v1,R (cq p0 p1 p2 p3 β v0 v1)=g (v0,v1))→∀v0 v1,go P hints jb HB sX.1 (cq p0 p1 p2 p3 β v0 v1) (kLp R κ)=Φ v0 v1 g κ) _ _
def dF(β:Bool)(κ:XT ρ)(v0:Int)(v1:List (List UInt8×Bool)):=aj (κ:=κ) (Φ:=fun v k=>(dE p0 p1 p2 p3 (ρ:=ρ)).f β v.1 v.2 k κ) sX.2 (S:=fun v=>cq p0 p1 p2 p3 β v.1 v.2) (by intro R g hR v;exact(dE p0 p1 p2 p3 (ρ:=ρ)).ok β R g κ (fun v0 v1=>hR (v0,v1)) v.1 v.2) (v0,v1)
end
@[go_sem] def s6:=wl (dF z0 z1 z4 z3 false η z9 [])
@[go_sem] def s7:=wl (dF z0 z1 z4 z3 true η z9 [])
def mZ(a0:List GVar)(a1:List GScalar)(a2:Int):=mkF (p:=fun β (κ:KT ρ) (g:Int→Int→Option ρ)=>∀y0_0 y0_1,κ ([.d (.int IntKind.i64 y0_0),.d (.int IntKind.i64 y0_1)],[])=g y0_0 y0_1) (ds:=fun β=>[(lT β) a0,(bR β) a1,eI a2]) afh (fun _=>rfl) _
def na(a0:List GVar)(a1:List GScalar)(a2:Int)(g0):=(mZ (ρ:=ρ) a0 a1 a2).1 g0
@[go_sem] def Ri:=wk (na (ρ:=ρ) z4 z3 z0) ((mZ z4 z3 z0).2 β κ _ (fun _ _=>rfl))
attribute [go_sem] Yt
attribute [go_sem] Yw
section
variable(p0:Int)(p1:List GChan)(p2:List GScalar)
@[go_sem] def bZ(β:Bool)(v0:Int)(v1:List (List UInt8×Bool)):St:=⟨[(1,.d (.int IntKind.i64 (4))),(2,.d (.fn (Fn.func 118) [] [.ptr (0)])),(3,.d (.fn (Fn.func 119) [] [.ptr (0),.ptr (1)])),(10,.d (.map (2))),(15,.d (.int IntKind.i64 p0)),(16,.d (.int IntKind.i64 v0))],[],[.box (.d (.sl β (List.map ay p1))),.box (.d (.sl β (List.map ae p2))),.map (dT eS eB v1)]⟩
@[go_sem] def du:=mkL (p:=fun β (Φ:Int→(List (List UInt8×Bool))→((Int)×(List (List UInt8×Bool))→Option ρ)→XT ρ→Option ρ)=>∀(R:St→Option ρ) g κ,(∀v0 v1,R (bZ p0 p1 p2 β v0 v1)=g (v0,v1))→∀v0 v1,go P hints jb HB sX.1 (bZ p0 p1 p2 β v0 v1) (kLp R κ)=Φ v0 v1 g κ) _ _
def dv(β:Bool)(κ:XT ρ)(v0:Int)(v1:List (List UInt8×Bool)):=aj (κ:=κ) (Φ:=fun v k=>(du p0 p1 p2 (ρ:=ρ)).f β v.1 v.2 k κ) sX.2 (S:=fun v=>bZ p0 p1 p2 β v.1 v.2) (by intro R g hR v;exact(du p0 p1 p2 (ρ:=ρ)).ok β R g κ (fun v0 v1=>hR (v0,v1)) v.1 v.2) (v0,v1)
end
@[go_sem] def se:=wl (dv z0 z5 z3 false η z1 [])
@[go_sem] def sf:=wl (dv z0 z5 z3 true η z1 [])
def lw(a0:List GChan)(a1:List GScalar):=mkF (p:=fun β (κ:KT ρ) (g:Int→Int→Option ρ)=>∀y0_0 y0_1,κ ([.d (.int IntKind.i64 y0_0),.d (.int IntKind.i64 y0_1)],[])=g y0_0 y0_1) (ds:=fun β=>[(sY β) a0,(bR β) a1]) afj (fun _=>rfl) _
def lx(a0:List GChan)(a1:List GScalar)(g0):=(lw (ρ:=ρ) a0 a1).1 g0
@[go_sem] def OR:=wk (lx (ρ:=ρ) z5 z3) ((lw z5 z3).2 β κ _ (fun _ _=>rfl))
def ly(a0:GProc)(a1:GScope):=mkF (p:=fun β (κ:KT ρ) (g:Int→Option ρ)=>∀y0_0,κ ([.d (.int IntKind.i64 y0_0)],[])=g y0_0) (ds:=fun β=>[(au β) a0,(cU β) a1]) Yz (fun _=>rfl) _
def lz(a0:GProc)(a1:GScope)(g0):=(ly (ρ:=ρ) a0 a1).1 g0
@[go_sem] def OS:=wk (lz (ρ:=ρ) (GProc.mk z14 z0 z1 z4 z18) (GScope.mk z3 z7 z5 z6 z8 z9)) ((ly (GProc.mk z14 z0 z1 z4 z18) (GScope.mk z3 z7 z5 z6 z8 z9)).2 β κ _ (fun _=>rfl))
def fh(a0:GProc)(a1:GScope):=mkF (p:=fun β (κ:KT ρ) (g:Option ρ)=>κ ([.d (.agg [.sl β (List.map ae (a1.Scalars)),.sl β (List.map aq (a1.Vars)),.sl β (List.map ay (a1.Chans)),.sl β (List.map (au β) (a1.Procs)),.sl β (List.map aq (a0.Vars)),.int IntKind.i64 (a0.Over)])],[])=g) (ds:=fun β=>[(au β) a0,(cU β) a1]) YF (fun _=>rfl) _
def gY(a0:GProc)(a1:GScope)(g0):=(fh (ρ:=ρ) a0 a1).1 g0
@[go_sem] def OU:=wk (gY (ρ:=ρ) (GProc.mk z14 z0 z1 z4 z18) (GScope.mk z3 z7 z5 z6 z8 z9)) ((fh (GProc.mk z14 z0 z1 z4 z18) (GScope.mk z3 z7 z5 z6 z8 z9)).2 β κ _ rfl)
def bc(a0:List GScalar){ρ:Type}:{Φ:(List GScalar→Option ρ)→Option ρ // ∀(β:Bool) (κ:List T×List Ob→Option ρ) (g:List GScalar→Option ρ),a0≠[]→(∀y,κ ([.own (tl ae y)],[])=g y)→cbK (call 171 [.sl β (List.map ae a0)] []) κ=Φ g}:=by
 refine⟨?f,?h⟩
 case h=>
  intro β κ g hm hg;refine Dm fun r hr=> ?_
  cases β
  all_goals
   simp -implicitDefEqProofs (maxSteps:=1000000) [go_sem,Z0,hm,hg,-List.map_append,-List.map_take,-List.map_drop]
   exact hr
def bd(a0:List GScalar){ρ:Type}(g:List GScalar→Option ρ):Option ρ:=(bc a0).1 g
theorem gx(β:Bool):call 171 [.sl β []] []=some ([.own []],[]):=by cases β <;>exact cx.2 ⟨60,by kernel_rfl⟩
@[go_sem] theorem ux{ρ:Type}(β:Bool)(a0:List GScalar)(κ:List T×List Ob→Option ρ):cbK (call 171 [.sl β (List.map ae a0)] []) κ=bd a0 fun y=>κ ([.own (tl ae y)],[]):=by
 cases a0 with
 |nil=>show cbK (call 171 [.sl β []] []) κ=_;rw[gx];simp[bd,bc,cbK,kS]
 |cons x l=>exact(bc _).2 β κ _ (by simp) fun _=>rfl
def bW(a0:List GVar){ρ:Type}:{Φ:(List GVar→Option ρ)→Option ρ // ∀(β:Bool) (κ:List T×List Ob→Option ρ) (g:List GVar→Option ρ),a0≠[]→(∀y,κ ([.own (tl aq y)],[])=g y)→cbK (call 172 [.sl β (List.map aq a0)] []) κ=Φ g}:=by
 refine⟨?f,?h⟩
 case h=>
  intro β κ g hm hg;refine Dm fun r hr=> ?_
  cases β
  all_goals
   simp -implicitDefEqProofs (maxSteps:=1000000) [go_sem,Z3,hm,hg,-List.map_append,-List.map_take,-List.map_drop]
   exact hr
def bX(a0:List GVar){ρ:Type}(g:List GVar→Option ρ):Option ρ:=(bW a0).1 g
theorem j9(β:Bool):call 172 [.sl β []] []=some ([.own []],[]):=by cases β <;>exact cx.2 ⟨60,by kernel_rfl⟩
@[go_sem] theorem Aj{ρ:Type}(β:Bool)(a0:List GVar)(κ:List T×List Ob→Option ρ):cbK (call 172 [.sl β (List.map aq a0)] []) κ=bX a0 fun y=>κ ([.own (tl aq y)],[]):=by
 cases a0 with
 |nil=>show cbK (call 172 [.sl β []] []) κ=_;rw[j9];simp[bX,bW,cbK,kS]
 |cons x l=>exact(bW _).2 β κ _ (by simp) fun _=>rfl
def bu(a0:List GChan){ρ:Type}:{Φ:(List GChan→Option ρ)→Option ρ // ∀(β:Bool) (κ:List T×List Ob→Option ρ) (g:List GChan→Option ρ),a0≠[]→(∀y,κ ([.own (tl ay y)],[])=g y)→cbK (call 173 [.sl β (List.map ay a0)] []) κ=Φ g}:=by
 refine⟨?f,?h⟩
 case h=>
  intro β κ g hm hg;refine Dm fun r hr=> ?_
  cases β
  all_goals
   simp -implicitDefEqProofs (maxSteps:=1000000) [go_sem,Z6,hm,hg,-List.map_append,-List.map_take,-List.map_drop]
   exact hr
def bw(a0:List GChan){ρ:Type}(g:List GChan→Option ρ):Option ρ:=(bu a0).1 g
theorem iV(β:Bool):call 173 [.sl β []] []=some ([.own []],[]):=by cases β <;>exact cx.2 ⟨60,by kernel_rfl⟩
@[go_sem] theorem yO{ρ:Type}(β:Bool)(a0:List GChan)(κ:List T×List Ob→Option ρ):cbK (call 173 [.sl β (List.map ay a0)] []) κ=bw a0 fun y=>κ ([.own (tl ay y)],[]):=by
 cases a0 with
 |nil=>show cbK (call 173 [.sl β []] []) κ=_;rw[iV];simp[bw,bu,cbK,kS]
 |cons x l=>exact(bu _).2 β κ _ (by simp) fun _=>rfl
def bz(a0:List GNode){ρ:Type}:{Φ:(List GNode→Option ρ)→Option ρ // ∀(β:Bool) (κ:List T×List Ob→Option ρ) (g:List GNode→Option ρ),a0≠[]→(∀y,κ ([.own (tl bh y)],[])=g y)→cbK (call 217 [.sl β (List.map bh a0)] []) κ=Φ g}:=by
 refine⟨?f,?h⟩
 case h=>
  intro β κ g hm hg;refine Dm fun r hr=> ?_
  cases β
  all_goals
   simp -implicitDefEqProofs (maxSteps:=1000000) [go_sem,aaU,hm,hg,-List.map_append,-List.map_take,-List.map_drop]
   exact hr
def bA(a0:List GNode){ρ:Type}(g:List GNode→Option ρ):Option ρ:=(bz a0).1 g
theorem iW(β:Bool):call 217 [.sl β []] []=some ([.own []],[]):=by cases β <;>exact cx.2 ⟨60,by kernel_rfl⟩
@[go_sem] theorem yT{ρ:Type}(β:Bool)(a0:List GNode)(κ:List T×List Ob→Option ρ):cbK (call 217 [.sl β (List.map bh a0)] []) κ=bA a0 fun y=>κ ([.own (tl bh y)],[]):=by
 cases a0 with
 |nil=>show cbK (call 217 [.sl β []] []) κ=_;rw[iW];simp[bA,bz,cbK,kS]
 |cons x l=>exact(bz _).2 β κ _ (by simp) fun _=>rfl
@[go_sem] def DR:=wk (gY (ρ:=ρ) (GProc.mk z14 z0 z1 z4 z18) (GScope.mk z3 z7 z5 z6 ([]:List GVar) z9)) ((fh (GProc.mk z14 z0 z1 z4 z18) (GScope.mk z3 z7 z5 z6 ([]:List GVar) z9)).2 β κ _ rfl)
attribute [go_sem] aaF
def qt(a0:GCmd)(a1:GProc):=mkF (p:=fun β (κ:KT ρ) (g:Int→Option ρ)=>∀y0_0,κ ([.d (.int IntKind.i64 y0_0)],[])=g y0_0) (ds:=fun β=>[(bS β) a0,(au β) a1]) ZM (fun _=>rfl) _
def qu(a0:GCmd)(a1:GProc)(g0):=(qt (ρ:=ρ) a0 a1).1 g0
@[go_sem] def Uc:=wk (qu (ρ:=ρ) (GCmd.mk z14 z0 z1 z11 z19 z15) (GProc.mk z20 z9 z10 z4 z18)) ((qt (GCmd.mk z14 z0 z1 z11 z19 z15) (GProc.mk z20 z9 z10 z4 z18)).2 β κ _ (fun _=>rfl))
def nb(a0:GAct):=mkF (p:=fun β (κ:KT ρ) (g:Bool→Option ρ)=>∀y0_0,κ ([.d (.bool y0_0)],[])=g y0_0) (ds:=fun β=>[(ff β) a0]) ZS (fun _=>rfl) _
def nf(a0:GAct)(g0):=(nb (ρ:=ρ) a0).1 g0
@[go_sem] def Rj:=wk (nf (ρ:=ρ) (GAct.mk z0 z1 z9 z11 z21)) ((nb (GAct.mk z0 z1 z9 z11 z21)).2 β κ _ (fun _=>rfl))
def ng(a0:Int)(a1:Int)(a2:GScope):=mkF (p:=fun β (κ:KT ρ) (g:Int→Bool→Option ρ)=>∀y0_0 y0_1,κ ([.d (.int IntKind.i64 y0_0),.d (.bool y0_1)],[])=g y0_0 y0_1) (ds:=fun β=>[eI a0,eI a1,(cU β) a2]) aa0 (fun _=>rfl) _
def nh(a0:Int)(a1:Int)(a2:GScope)(g0):=(ng (ρ:=ρ) a0 a1 a2).1 g0
@[go_sem] def Rk:=wk (nh (ρ:=ρ) z0 z1 (GScope.mk z3 z4 z5 z6 z7 z9)) ((ng z0 z1 (GScope.mk z3 z4 z5 z6 z7 z9)).2 β κ _ (fun _ _=>rfl))
def iF(a0:List GVar)(a1:Int)(a2:GScope):=mkF (p:=fun β (κ:KT ρ) (g:(List UInt8)→Int→Int→Int→Int→Int→Int→Bool→Option ρ)=>∀y0_0 y0_1 y0_2 y0_3 y0_4 y0_5 y0_6 y0_7,κ ([.d (.agg [.str y0_0,.int IntKind.i64 y0_1,.int IntKind.i64 y0_2,.int IntKind.i64 y0_3,.int IntKind.i64 y0_4,.int IntKind.i64 y0_5]),.d (.int IntKind.i64 y0_6),.d (.bool y0_7)],[])=g y0_0 y0_1 y0_2 y0_3 y0_4 y0_5 y0_6 y0_7) (ds:=fun β=>[(lT β) a0,eI a1,(cU β) a2]) aaL (fun _=>rfl) _
def iG(a0:List GVar)(a1:Int)(a2:GScope)(g0):=(iF (ρ:=ρ) a0 a1 a2).1 g0
@[go_sem] def Kq:=wk (iG (ρ:=ρ) z4 z0 (GScope.mk z3 z7 z5 z6 z8 z1)) ((iF z4 z0 (GScope.mk z3 z7 z5 z6 z8 z1)).2 β κ _ (fun _ _ _ _ _ _ _ _=>rfl))
def jy(a0:Int)(a1:GScope):=mkF (p:=fun β (κ:KT ρ) (g:Int→Bool→Option ρ)=>∀y0_0 y0_1,κ ([.d (.int IntKind.i64 y0_0),.d (.bool y0_1)],[])=g y0_0 y0_1) (ds:=fun β=>[eI a0,(cU β) a1]) aaO (fun _=>rfl) _
def jz(a0:Int)(a1:GScope)(g0):=(jy (ρ:=ρ) a0 a1).1 g0
@[go_sem] def Mn:=wk (jz (ρ:=ρ) z0 (GScope.mk z3 z4 z5 z6 z7 z1)) ((jy z0 (GScope.mk z3 z4 z5 z6 z7 z1)).2 β κ _ (fun _ _=>rfl))
def iH(a0:GAct)(a1:Int)(a2:GScope):=mkF (p:=fun β (κ:KT ρ) (g:Int→Option ρ)=>∀y0_0,κ ([.d (.int IntKind.i64 y0_0)],[])=g y0_0) (ds:=fun β=>[(ff β) a0,eI a1,(cU β) a2]) aaR (fun _=>rfl) _
def iI(a0:GAct)(a1:Int)(a2:GScope)(g0):=(iH (ρ:=ρ) a0 a1 a2).1 g0
@[go_sem] def Kr:=wk (iI (ρ:=ρ) (GAct.mk z0 z1 z9 z11 z21) z10 (GScope.mk z3 z4 z5 z6 z7 z16)) ((iH (GAct.mk z0 z1 z9 z11 z21) z10 (GScope.mk z3 z4 z5 z6 z7 z16)).2 β κ _ (fun _=>rfl))
section
variable(p0:List GVar)(p1:Int)(p2:List GScalar)(p3:List GChan)(p4:List GProc)(p5:List GProp)
@[go_sem] def fL(β:Bool)(v0:Int)(v1:Int):St:=⟨[(1,.loc (Root.l 1 0) [] (0) 0),(5,.d (.int IntKind.i64 (0))),(6,.d (.int IntKind.i64 (0))),(7,.d (.int IntKind.i64 v0)),(16,.d (.sl β (List.map aq p0))),(17,.d (.int IntKind.i64 p1)),(18,.d (.int IntKind.i64 v1))],[((1,0),.own [.d (.agg [.sl β (List.map ae p2),.sl β (List.map aq p0),.sl β (List.map ay p3),.sl β (List.map (au β) p4),.sl β (List.map (cu β) p5)])])],[]⟩
@[go_sem] def kb:=mkL (p:=fun β (Φ:Int→Int→((Int)×(Int)→Option ρ)→XT ρ→Option ρ)=>∀(R:St→Option ρ) g κ,(∀v0 v1,R (fL p0 p1 p2 p3 p4 p5 β v0 v1)=g (v0,v1))→∀v0 v1,go P hints jq b74 Q1.1 (fL p0 p1 p2 p3 p4 p5 β v0 v1) (kLp R κ)=Φ v0 v1 g κ) _ _
def ke(β:Bool)(κ:XT ρ)(v0:Int)(v1:Int):=aj (κ:=κ) (Φ:=fun v k=>(kb p0 p1 p2 p3 p4 p5 (ρ:=ρ)).f β v.1 v.2 k κ) Q1.2 (S:=fun v=>fL p0 p1 p2 p3 p4 p5 β v.1 v.2) (by intro R g hR v;exact(kb p0 p1 p2 p3 p4 p5 (ρ:=ρ)).ok β R g κ (fun v0 v1=>hR (v0,v1)) v.1 v.2) (v0,v1)
end
@[go_sem] def F1:=wl (ke z4 z0 z3 z5 z6 z22 false η z1 z9)
@[go_sem] def F2:=wl (ke z4 z0 z3 z5 z6 z22 true η z1 z9)
section
variable(p0:List GChan)(p1:Int)(p2:List GScalar)(p3:List GVar)(p4:List GProc)(p5:List GProp)
@[go_sem] def fM(β:Bool)(v0:Int)(v1:Int):St:=⟨[(1,.loc (Root.l 1 0) [] (0) 0),(5,.d (.int IntKind.i64 (0))),(6,.d (.int IntKind.i64 (0))),(7,.d (.int IntKind.i64 v0)),(30,.d (.sl β (List.map ay p0))),(31,.d (.int IntKind.i64 p1)),(32,.d (.int IntKind.i64 v1))],[((1,0),.own [.d (.agg [.sl β (List.map ae p2),.sl β (List.map aq p3),.sl β (List.map ay p0),.sl β (List.map (au β) p4),.sl β (List.map (cu β) p5)])])],[]⟩
@[go_sem] def kf:=mkL (p:=fun β (Φ:Int→Int→((Int)×(Int)→Option ρ)→XT ρ→Option ρ)=>∀(R:St→Option ρ) g κ,(∀v0 v1,R (fM p0 p1 p2 p3 p4 p5 β v0 v1)=g (v0,v1))→∀v0 v1,go P hints jq b74 Q2.1 (fM p0 p1 p2 p3 p4 p5 β v0 v1) (kLp R κ)=Φ v0 v1 g κ) _ _
def kg(β:Bool)(κ:XT ρ)(v0:Int)(v1:Int):=aj (κ:=κ) (Φ:=fun v k=>(kf p0 p1 p2 p3 p4 p5 (ρ:=ρ)).f β v.1 v.2 k κ) Q2.2 (S:=fun v=>fM p0 p1 p2 p3 p4 p5 β v.1 v.2) (by intro R g hR v;exact(kf p0 p1 p2 p3 p4 p5 (ρ:=ρ)).ok β R g κ (fun v0 v1=>hR (v0,v1)) v.1 v.2) (v0,v1)
end
@[go_sem] def F3:=wl (kg z5 z0 z3 z4 z6 z22 false η z1 z9)
@[go_sem] def F4:=wl (kg z5 z0 z3 z4 z6 z22 true η z1 z9)
section
variable(p0:List GProc)(p1:Int)(p2:List GScalar)(p3:List GVar)(p4:List GChan)(p5:List GProp)
@[go_sem] def fN(β:Bool)(v0:Int)(v1:Int)(v2:Int)(v3:Int):St:=⟨[(1,.loc (Root.l 1 0) [] (0) 0),(5,.d (.int IntKind.i64 v0)),(6,.d (.int IntKind.i64 v1)),(7,.d (.int IntKind.i64 v2)),(45,.d (.sl β (List.map (au β) p0))),(46,.d (.int IntKind.i64 p1)),(47,.d (.int IntKind.i64 v3))],[((1,0),.own [.d (.agg [.sl β (List.map ae p2),.sl β (List.map aq p3),.sl β (List.map ay p4),.sl β (List.map (au β) p0),.sl β (List.map (cu β) p5)])])],[]⟩
@[go_sem] def kh:=mkL (p:=fun β (Φ:Int→Int→Int→Int→((Int)×(Int)×(Int)×(Int)→Option ρ)→XT ρ→Option ρ)=>∀(R:St→Option ρ) g κ,(∀v0 v1 v2 v3,R (fN p0 p1 p2 p3 p4 p5 β v0 v1 v2 v3)=g (v0,v1,v2,v3))→∀v0 v1 v2 v3,go P hints jq b74 Q3.1 (fN p0 p1 p2 p3 p4 p5 β v0 v1 v2 v3) (kLp R κ)=Φ v0 v1 v2 v3 g κ) _ _
def kj(β:Bool)(κ:XT ρ)(v0:Int)(v1:Int)(v2:Int)(v3:Int):=aj (κ:=κ) (Φ:=fun v k=>(kh p0 p1 p2 p3 p4 p5 (ρ:=ρ)).f β v.1 v.2.1 v.2.2.1 v.2.2.2 k κ) Q3.2 (S:=fun v=>fN p0 p1 p2 p3 p4 p5 β v.1 v.2.1 v.2.2.1 v.2.2.2) (by intro R g hR v;exact(kh p0 p1 p2 p3 p4 p5 (ρ:=ρ)).ok β R g κ (fun v0 v1 v2 v3=>hR (v0,v1,v2,v3)) v.1 v.2.1 v.2.2.1 v.2.2.2) (v0,v1,v2,v3)
end
@[go_sem] def F5:=wl (kj z6 z0 z3 z4 z5 z22 false η z1 z9 z10 z16)
@[go_sem] def F6:=wl (kj z6 z0 z3 z4 z5 z22 true η z1 z9 z10 z16)
def iJ(a0:GModel):=mkF (p:=fun β (κ:KT ρ) (g:Int→Int→Int→Option ρ)=>∀y0_0 y0_1 y0_2,κ ([.d (.int IntKind.i64 y0_0),.d (.int IntKind.i64 y0_1),.d (.int IntKind.i64 y0_2)],[])=g y0_0 y0_1 y0_2) (ds:=fun β=>[(eD β) a0]) afl (fun _=>rfl) _
def iK(a0:GModel)(g0):=(iJ (ρ:=ρ) a0).1 g0
@[go_sem] def Ks:=wk (iK (ρ:=ρ) (GModel.mk z3 z4 z5 z6 z22)) ((iJ (GModel.mk z3 z4 z5 z6 z22)).2 β κ _ (fun _ _ _=>rfl))
section
variable(p0:List GScalar)(p1:Int)
@[go_sem] def gG(β:Bool)(v0:Int):St:=⟨[(0,.d (.sl β (List.map ae p0))),(4,.d (.int IntKind.i64 p1)),(5,.d (.int IntKind.i64 v0))],[],[]⟩
@[go_sem] def lU:=mkL (p:=fun β (Φ:Int→(Int→Option ρ)→XT ρ→Option ρ)=>∀(R:St→Option ρ) g κ,(∀v0,R (gG p0 p1 β v0)=g v0)→∀v0,go P hints mJ b53 QK.1 (gG p0 p1 β v0) (kLp R κ)=Φ v0 g κ) _ _
def lV(β:Bool)(κ:XT ρ)(v0:Int):=aj (κ:=κ) (Φ:=fun v k=>(lU p0 p1 (ρ:=ρ)).f β v k κ) QK.2 (S:=fun v=>gG p0 p1 β v) (by intro R g hR v;exact(lU p0 p1 (ρ:=ρ)).ok β R g κ (fun v0=>hR v0) v) v0
end
@[go_sem] def HK:=wl (lV z3 z0 false η z1)
@[go_sem] def HL:=wl (lV z3 z0 true η z1)
section
variable(p0:List GScalar)
@[go_sem] def gH(β:Bool)(v0:Int):St:=⟨[(0,.d (.sl β (List.map ae p0))),(4,.d (.int IntKind.i64 v0))],[],[]⟩
@[go_sem] def lW:=mkL (p:=fun β (Φ:Int→(Int→Option ρ)→XT ρ→Option ρ)=>∀(R:St→Option ρ) g κ,(∀v0,R (gH p0 β v0)=g v0)→∀v0,go P hints mJ b53 QL.1 (gH p0 β v0) (kLp R κ)=Φ v0 g κ) _ _
def lX(β:Bool)(κ:XT ρ)(v0:Int):=aj (κ:=κ) (Φ:=fun v k=>(lW p0 (ρ:=ρ)).f β v k κ) QL.2 (S:=fun v=>gH p0 β v) (by intro R g hR v;exact(lW p0 (ρ:=ρ)).ok β R g κ (fun v0=>hR v0) v) v0
end
@[go_sem] def HM:=wl (lX z3 false η z0)
@[go_sem] def HN:=wl (lX z3 true η z0)
def jA(a0:List GScalar):=mkF (p:=fun β (κ:KT ρ) (g:Int→Int→Option ρ)=>∀y0_0 y0_1,κ ([.d (.int IntKind.i64 y0_0),.d (.int IntKind.i64 y0_1)],[])=g y0_0 y0_1) (ds:=fun β=>[(bR β) a0]) ae4 (fun _=>rfl) _
def jB(a0:List GScalar)(g0):=(jA (ρ:=ρ) a0).1 g0
@[go_sem] def Mo:=wk (jB (ρ:=ρ) z3) ((jA z3).2 β κ _ (fun _ _=>rfl))
def qv(a0:List GScalar)(a1:Int):=mkF (p:=fun β (κ:KT ρ) (g:Int→Option ρ)=>∀y0_0,κ ([.d (.int IntKind.i64 y0_0)],[])=g y0_0) (ds:=fun β=>[(bR β) a0,eI a1]) aft (fun _=>rfl) _
def qw(a0:List GScalar)(a1:Int)(g0):=(qv (ρ:=ρ) a0 a1).1 g0
@[go_sem] def Ud:=wk (qw (ρ:=ρ) z3 z0) ((qv z3 z0).2 β κ _ (fun _=>rfl))
def qx(a0:Int)(a1:Int):=mkF (p:=fun β (κ:KT ρ) (g:Bool→Option ρ)=>∀y0_0,κ ([.d (.bool y0_0)],[])=g y0_0) (ds:=fun β=>[eI a0,eI a1]) afu (fun _=>rfl) _
def qy(a0:Int)(a1:Int)(g0):=(qx (ρ:=ρ) a0 a1).1 g0
@[go_sem] def Ue:=wk (qy (ρ:=ρ) z0 z1) ((qx z0 z1).2 true κ _ (fun _=>rfl))
def iL(a0:GVar)(a1:List GScalar):=mkF (p:=fun β (κ:KT ρ) (g:Int→Option ρ)=>∀y0_0,κ ([.d (.int IntKind.i64 y0_0)],[])=g y0_0) (ds:=fun β=>[aq a0,(bR β) a1]) afs (fun _=>rfl) _
def iM(a0:GVar)(a1:List GScalar)(g0):=(iL (ρ:=ρ) a0 a1).1 g0
@[go_sem] def Kt:=wk (iM (ρ:=ρ) (GVar.mk z14 z0 z1 z9 z10 z16) z3) ((iL (GVar.mk z14 z0 z1 z9 z10 z16) z3).2 β κ _ (fun _=>rfl))
section
variable(p0:List GVar)(p1:List GScalar)(p2:Int)(p3:Int)
@[go_sem] def lA(β:Bool)(v0:Int):St:=⟨[(0,.d (.sl β (List.map aq p0))),(1,.d (.sl β (List.map ae p1))),(2,.d (.int IntKind.i64 p2)),(8,.d (.int IntKind.i64 p3)),(9,.d (.int IntKind.i64 v0))],[],[]⟩
@[go_sem] def rJ:=mkL (p:=fun β (Φ:Int→(Int→Option ρ)→XT ρ→Option ρ)=>∀(R:St→Option ρ) g κ,(∀v0,R (lA p0 p1 p2 p3 β v0)=g v0)→∀v0,go P hints mK b54 QM.1 (lA p0 p1 p2 p3 β v0) (kLp R κ)=Φ v0 g κ) _ _
def rK(β:Bool)(κ:XT ρ)(v0:Int):=aj (κ:=κ) (Φ:=fun v k=>(rJ p0 p1 p2 p3 (ρ:=ρ)).f β v k κ) QM.2 (S:=fun v=>lA p0 p1 p2 p3 β v) (by intro R g hR v;exact(rJ p0 p1 p2 p3 (ρ:=ρ)).ok β R g κ (fun v0=>hR v0) v) v0
end
@[go_sem] def Mp:=wl (rK z4 z3 z0 z1 false η z9)
@[go_sem] def Mq:=wl (rK z4 z3 z0 z1 true η z9)
section
variable(p0:List GVar)(p1:List GScalar)(p2:Int)
@[go_sem] def lB(β:Bool)(v0:Int):St:=⟨[(0,.d (.sl β (List.map aq p0))),(1,.d (.sl β (List.map ae p1))),(2,.d (.int IntKind.i64 p2)),(8,.d (.int IntKind.i64 v0))],[],[]⟩
@[go_sem] def rL:=mkL (p:=fun β (Φ:Int→(Int→Option ρ)→XT ρ→Option ρ)=>∀(R:St→Option ρ) g κ,(∀v0,R (lB p0 p1 p2 β v0)=g v0)→∀v0,go P hints mK b54 QN.1 (lB p0 p1 p2 β v0) (kLp R κ)=Φ v0 g κ) _ _
def rM(β:Bool)(κ:XT ρ)(v0:Int):=aj (κ:=κ) (Φ:=fun v k=>(rL p0 p1 p2 (ρ:=ρ)).f β v k κ) QN.2 (S:=fun v=>lB p0 p1 p2 β v) (by intro R g hR v;exact(rL p0 p1 p2 (ρ:=ρ)).ok β R g κ (fun v0=>hR v0) v) v0
end
@[go_sem] def Mr:=wl (rM z4 z3 z0 false η z1)
@[go_sem] def Ms:=wl (rM z4 z3 z0 true η z1)
def qz(a0:List GVar)(a1:List GScalar)(a2:Int):=mkF (p:=fun β (κ:KT ρ) (g:Int→Int→Option ρ)=>∀y0_0 y0_1,κ ([.d (.int IntKind.i64 y0_0),.d (.int IntKind.i64 y0_1)],[])=g y0_0 y0_1) (ds:=fun β=>[(lT β) a0,(bR β) a1,eI a2]) ae5 (fun _=>rfl) _
def qA(a0:List GVar)(a1:List GScalar)(a2:Int)(g0):=(qz (ρ:=ρ) a0 a1 a2).1 g0
@[go_sem] def Uf:=wk (qA (ρ:=ρ) z4 z3 z0) ((qz z4 z3 z0).2 β κ _ (fun _ _=>rfl))
section
variable(p0:List GChan)(p1:List GScalar)(p2:Int)
@[go_sem] def jC(β:Bool)(v0:Int):St:=⟨[(0,.d (.sl β (List.map ay p0))),(1,.d (.sl β (List.map ae p1))),(6,.d (.int IntKind.i64 p2)),(7,.d (.int IntKind.i64 v0))],[],[]⟩
@[go_sem] def oR:=mkL (p:=fun β (Φ:Int→(Int→Option ρ)→XT ρ→Option ρ)=>∀(R:St→Option ρ) g κ,(∀v0,R (jC p0 p1 p2 β v0)=g v0)→∀v0,go P hints mL b57 QU.1 (jC p0 p1 p2 β v0) (kLp R κ)=Φ v0 g κ) _ _
def oS(β:Bool)(κ:XT ρ)(v0:Int):=aj (κ:=κ) (Φ:=fun v k=>(oR p0 p1 p2 (ρ:=ρ)).f β v k κ) QU.2 (S:=fun v=>jC p0 p1 p2 β v) (by intro R g hR v;exact(oR p0 p1 p2 (ρ:=ρ)).ok β R g κ (fun v0=>hR v0) v) v0
end
@[go_sem] def Ku:=wl (oS z5 z3 z0 false η z1)
@[go_sem] def Kv:=wl (oS z5 z3 z0 true η z1)
section
variable(p0:List GChan)(p1:List GScalar)
@[go_sem] def jD(β:Bool)(v0:Int):St:=⟨[(0,.d (.sl β (List.map ay p0))),(1,.d (.sl β (List.map ae p1))),(6,.d (.int IntKind.i64 v0))],[],[]⟩
@[go_sem] def oT:=mkL (p:=fun β (Φ:Int→(Int→Option ρ)→XT ρ→Option ρ)=>∀(R:St→Option ρ) g κ,(∀v0,R (jD p0 p1 β v0)=g v0)→∀v0,go P hints mL b57 QV.1 (jD p0 p1 β v0) (kLp R κ)=Φ v0 g κ) _ _
def oU(β:Bool)(κ:XT ρ)(v0:Int):=aj (κ:=κ) (Φ:=fun v k=>(oT p0 p1 (ρ:=ρ)).f β v k κ) QV.2 (S:=fun v=>jD p0 p1 β v) (by intro R g hR v;exact(oT p0 p1 (ρ:=ρ)).ok β R g κ (fun v0=>hR v0) v) v0
end
@[go_sem] def Kw:=wl (oU z5 z3 false η z0)
@[go_sem] def Kx:=wl (oU z5 z3 true η z0)
def ni(a0:List GChan)(a1:List GScalar):=mkF (p:=fun β (κ:KT ρ) (g:Int→Int→Option ρ)=>∀y0_0 y0_1,κ ([.d (.int IntKind.i64 y0_0),.d (.int IntKind.i64 y0_1)],[])=g y0_0 y0_1) (ds:=fun β=>[(sY β) a0,(bR β) a1]) ae8 (fun _=>rfl) _
def nj(a0:List GChan)(a1:List GScalar)(g0):=(ni (ρ:=ρ) a0 a1).1 g0
@[go_sem] def Rl:=wk (nj (ρ:=ρ) z5 z3) ((ni z5 z3).2 β κ _ (fun _ _=>rfl))
def yd(a0:List GNode)(a1:Int)(a2:GScope):=mkF (p:=fun β (κ:KT ρ) (g:Int→Option ρ)=>∀y0_0,κ ([.d (.int IntKind.i64 y0_0)],[])=g y0_0) (ds:=fun β=>[(iu β) a0,eI a1,(cU β) a2]) Y8 (fun _=>rfl) _
def ye(a0:List GNode)(a1:Int)(a2:GScope)(g0):=(yd (ρ:=ρ) a0 a1 a2).1 g0
@[go_sem] def abl:=wk (ye (ρ:=ρ) z11 z0 (GScope.mk z3 z4 z5 z6 z7 z1)) ((yd z11 z0 (GScope.mk z3 z4 z5 z6 z7 z1)).2 β κ _ (fun _=>rfl))
def qB(a0:GAct)(a1:GScope):=mkF (p:=fun β (κ:KT ρ) (g:Int→Option ρ)=>∀y0_0,κ ([.d (.int IntKind.i64 y0_0)],[])=g y0_0) (ds:=fun β=>[(ff β) a0,(cU β) a1]) aak (fun _=>rfl) _
def qC(a0:GAct)(a1:GScope)(g0):=(qB (ρ:=ρ) a0 a1).1 g0
@[go_sem] def Ug:=wk (qC (ρ:=ρ) (GAct.mk z0 z1 z9 z11 z21) (GScope.mk z3 z4 z5 z6 z7 z10)) ((qB (GAct.mk z0 z1 z9 z11 z21) (GScope.mk z3 z4 z5 z6 z7 z10)).2 β κ _ (fun _=>rfl))
def nk(a0:List GVar)(a1:Int)(a2:GScope):=mkF (p:=fun β (κ:KT ρ) (g:Int→Int→Option ρ)=>∀y0_0 y0_1,κ ([.d (.int IntKind.i64 y0_0),.d (.int IntKind.i64 y0_1)],[])=g y0_0 y0_1) (ds:=fun β=>[(lT β) a0,eI a1,(cU β) a2]) aan (fun _=>rfl) _
def nn(a0:List GVar)(a1:Int)(a2:GScope)(g0):=(nk (ρ:=ρ) a0 a1 a2).1 g0
@[go_sem] def Rm:=wk (nn (ρ:=ρ) z4 z0 (GScope.mk z3 z7 z5 z6 z8 z1)) ((nk z4 z0 (GScope.mk z3 z7 z5 z6 z8 z1)).2 β κ _ (fun _ _=>rfl))
def s8(a0:GAct)(a1:GScope)(a2:Bool):=mkF (p:=fun β (κ:KT ρ) (g:Int→Option ρ)=>∀y0_0,κ ([.d (.int IntKind.i64 y0_0)],[])=g y0_0) (ds:=fun β=>[(ff β) a0,(cU β) a1,eB a2]) Zb (fun _=>rfl) _
def od(a0:GAct)(a1:GScope)(a2:Bool)(g0):=(s8 (ρ:=ρ) a0 a1 a2).1 g0
@[go_sem] def Wf:=wk (od (ρ:=ρ) (GAct.mk z0 z1 z9 z11 z21) (GScope.mk z3 z4 z5 z6 z7 z10) z15) ((s8 (GAct.mk z0 z1 z9 z11 z21) (GScope.mk z3 z4 z5 z6 z7 z10) z15).2 β κ _ (fun _=>rfl))
section
variable(p0:List UInt8)(p1:Int)(p2:Int)(p3:List GNode)(p4:List GAct)(p5:Bool)(p6:List GScalar)(p7:List GVar)(p8:List GChan)(p9:List GProc)(p10:List GVar)(p11:Int)
@[go_sem] def jE(β:Bool)(v0:Bool)(v1:Int):St:=⟨[(3,.loc (Root.l 3 0) [] (0) 0),(5,.loc (Root.l 5 0) [] (0) 0),(9,.d (.bool v0)),(10,.d (.int IntKind.i64 v1))],[((3,0),.own [.d (.agg [.str p0,.int IntKind.i64 p1,.int IntKind.i64 p2,.sl β (List.map bh p3),.sl β (List.map (ff β) p4),.bool p5])]),((5,0),.own [.d (.agg [.sl β (List.map ae p6),.sl β (List.map aq p7),.sl β (List.map ay p8),.sl β (List.map (au β) p9),.sl β (List.map aq p10),.int IntKind.i64 p11])])],[]⟩
@[go_sem] def oV:=mkL (p:=fun β (Φ:Bool→Int→((Bool)×(Int)→Option ρ)→XT ρ→Option ρ)=>∀(R:St→Option ρ) g κ,(∀v0 v1,R (jE p0 p1 p2 p3 p4 p5 p6 p7 p8 p9 p10 p11 β v0 v1)=g (v0,v1))→∀v0 v1,go P hints sW b99 Q5.1 (jE p0 p1 p2 p3 p4 p5 p6 p7 p8 p9 p10 p11 β v0 v1) (kLp R κ)=Φ v0 v1 g κ) _ _
def oW(β:Bool)(κ:XT ρ)(v0:Bool)(v1:Int):=aj (κ:=κ) (Φ:=fun v k=>(oV p0 p1 p2 p3 p4 p5 p6 p7 p8 p9 p10 p11 (ρ:=ρ)).f β v.1 v.2 k κ) Q5.2 (S:=fun v=>jE p0 p1 p2 p3 p4 p5 p6 p7 p8 p9 p10 p11 β v.1 v.2) (by intro R g hR v;exact(oV p0 p1 p2 p3 p4 p5 p6 p7 p8 p9 p10 p11 (ρ:=ρ)).ok β R g κ (fun v0 v1=>hR (v0,v1)) v.1 v.2) (v0,v1)
end
@[go_sem] def Ky:=wl (oW z14 z0 z1 z11 z19 z15 z3 z4 z5 z6 z7 z9 false η z23 z10)
@[go_sem] def Kz:=wl (oW z14 z0 z1 z11 z19 z15 z3 z4 z5 z6 z7 z9 true η z23 z10)
def nq(a0:GCmd)(a1:GProc)(a2:GScope):=mkF (p:=fun β (κ:KT ρ) (g:Int→Int→Option ρ)=>∀y0_0 y0_1,κ ([.d (.int IntKind.i64 y0_0),.d (.int IntKind.i64 y0_1)],[])=g y0_0 y0_1) (ds:=fun β=>[(bS β) a0,(au β) a1,(cU β) a2]) afv (fun _=>rfl) _
def nu(a0:GCmd)(a1:GProc)(a2:GScope)(g0):=(nq (ρ:=ρ) a0 a1 a2).1 g0
@[go_sem] def Rn:=wk (nu (ρ:=ρ) (GCmd.mk z14 z0 z1 z11 z19 z15) (GProc.mk z20 z9 z10 z4 z18) (GScope.mk z3 z7 z5 z6 z8 z16)) ((nq (GCmd.mk z14 z0 z1 z11 z19 z15) (GProc.mk z20 z9 z10 z4 z18) (GScope.mk z3 z7 z5 z6 z8 z16)).2 β κ _ (fun _ _=>rfl))
section
variable(p0:Int)(p1:List UInt8)(p2:Int)(p3:Int)(p4:List GVar)(p5:List GCmd)(p6:List GScalar)(p7:List GVar)(p8:List GChan)(p9:List GProc)(p10:List GVar)(p11:Int)
@[go_sem] def jF(β:Bool)(v0:Int):St:=⟨[(2,.loc (Root.l 2 0) [] (0) 0),(3,.loc (Root.l 3 0) [] (0) 0),(9,.d (.int IntKind.i64 p0)),(10,.d (.int IntKind.i64 v0))],[((2,0),.own [.d (.agg [.str p1,.int IntKind.i64 p2,.int IntKind.i64 p3,.sl β (List.map aq p4),.sl β (List.map (bS β) p5)])]),((3,0),.own [.d (.agg [.sl β (List.map ae p6),.sl β (List.map aq p7),.sl β (List.map ay p8),.sl β (List.map (au β) p9),.sl β (List.map aq p10),.int IntKind.i64 p11])])],[]⟩
@[go_sem] def oX:=mkL (p:=fun β (Φ:Int→(Int→Option ρ)→XT ρ→Option ρ)=>∀(R:St→Option ρ) g κ,(∀v0,R (jF p0 p1 p2 p3 p4 p5 p6 p7 p8 p9 p10 p11 β v0)=g v0)→∀v0,go P hints gE b58 QW.1 (jF p0 p1 p2 p3 p4 p5 p6 p7 p8 p9 p10 p11 β v0) (kLp R κ)=Φ v0 g κ) _ _
def oY(β:Bool)(κ:XT ρ)(v0:Int):=aj (κ:=κ) (Φ:=fun v k=>(oX p0 p1 p2 p3 p4 p5 p6 p7 p8 p9 p10 p11 (ρ:=ρ)).f β v k κ) QW.2 (S:=fun v=>jF p0 p1 p2 p3 p4 p5 p6 p7 p8 p9 p10 p11 β v) (by intro R g hR v;exact(oX p0 p1 p2 p3 p4 p5 p6 p7 p8 p9 p10 p11 (ρ:=ρ)).ok β R g κ (fun v0=>hR v0) v) v0
end
@[go_sem] def KA:=wl (oY z0 z14 z1 z9 z4 z18 z3 z7 z5 z6 z8 z10 false η z16)
@[go_sem] def KB:=wl (oY z0 z14 z1 z9 z4 z18 z3 z7 z5 z6 z8 z10 true η z16)
section
variable(p0:List UInt8)(p1:Int)(p2:Int)(p3:List GVar)(p4:List GCmd)(p5:List GScalar)(p6:List GVar)(p7:List GChan)(p8:List GProc)(p9:List GVar)(p10:Int)
@[go_sem] def jG(β:Bool)(v0:Int):St:=⟨[(2,.loc (Root.l 2 0) [] (0) 0),(3,.loc (Root.l 3 0) [] (0) 0),(9,.d (.int IntKind.i64 v0))],[((2,0),.own [.d (.agg [.str p0,.int IntKind.i64 p1,.int IntKind.i64 p2,.sl β (List.map aq p3),.sl β (List.map (bS β) p4)])]),((3,0),.own [.d (.agg [.sl β (List.map ae p5),.sl β (List.map aq p6),.sl β (List.map ay p7),.sl β (List.map (au β) p8),.sl β (List.map aq p9),.int IntKind.i64 p10])])],[]⟩
@[go_sem] def oZ:=mkL (p:=fun β (Φ:Int→(Int→Option ρ)→XT ρ→Option ρ)=>∀(R:St→Option ρ) g κ,(∀v0,R (jG p0 p1 p2 p3 p4 p5 p6 p7 p8 p9 p10 β v0)=g v0)→∀v0,go P hints gE b58 QX.1 (jG p0 p1 p2 p3 p4 p5 p6 p7 p8 p9 p10 β v0) (kLp R κ)=Φ v0 g κ) _ _
def o4(β:Bool)(κ:XT ρ)(v0:Int):=aj (κ:=κ) (Φ:=fun v k=>(oZ p0 p1 p2 p3 p4 p5 p6 p7 p8 p9 p10 (ρ:=ρ)).f β v k κ) QX.2 (S:=fun v=>jG p0 p1 p2 p3 p4 p5 p6 p7 p8 p9 p10 β v) (by intro R g hR v;exact(oZ p0 p1 p2 p3 p4 p5 p6 p7 p8 p9 p10 (ρ:=ρ)).ok β R g κ (fun v0=>hR v0) v) v0
end
@[go_sem] def KC:=wl (o4 z14 z0 z1 z4 z18 z3 z7 z5 z6 z8 z9 false η z10)
@[go_sem] def KD:=wl (o4 z14 z0 z1 z4 z18 z3 z7 z5 z6 z8 z9 true η z10)
section
variable(p0:Int)(p1:List UInt8)(p2:Int)(p3:Int)(p4:List GVar)(p5:List GCmd)(p6:List GScalar)(p7:List GVar)(p8:List GChan)(p9:List GProc)
@[go_sem] def jH(β:Bool)(v0:Int):St:=⟨[(2,.loc (Root.l 2 0) [] (0) 0),(11,.loc (Root.l 11 0) [] (0) 0),(12,.d (.int IntKind.i64 p0)),(15,.d (.int IntKind.i64 v0))],[((2,0),.own [.d (.agg [.str p1,.int IntKind.i64 p2,.int IntKind.i64 p3,.sl β (List.map aq p4),.sl β (List.map (bS β) p5)])]),((11,0),.own [.d (.agg [.sl β (List.map ae p6),.sl β (List.map aq p7),.sl β (List.map ay p8),.sl β (List.map (au β) p9),.sl β (List.map aq p4),.int IntKind.i64 p2])])],[]⟩
@[go_sem] def o5:=mkL (p:=fun β (Φ:Int→(Int→Option ρ)→XT ρ→Option ρ)=>∀(R:St→Option ρ) g κ,(∀v0,R (jH p0 p1 p2 p3 p4 p5 p6 p7 p8 p9 β v0)=g v0)→∀v0,go P hints gE b58 QY.1 (jH p0 p1 p2 p3 p4 p5 p6 p7 p8 p9 β v0) (kLp R κ)=Φ v0 g κ) _ _
def o6(β:Bool)(κ:XT ρ)(v0:Int):=aj (κ:=κ) (Φ:=fun v k=>(o5 p0 p1 p2 p3 p4 p5 p6 p7 p8 p9 (ρ:=ρ)).f β v k κ) QY.2 (S:=fun v=>jH p0 p1 p2 p3 p4 p5 p6 p7 p8 p9 β v) (by intro R g hR v;exact(o5 p0 p1 p2 p3 p4 p5 p6 p7 p8 p9 (ρ:=ρ)).ok β R g κ (fun v0=>hR v0) v) v0
end
@[go_sem] def KE:=wl (o6 z0 z14 z1 z9 z4 z18 z3 z7 z5 z6 false η z10)
@[go_sem] def KF:=wl (o6 z0 z14 z1 z9 z4 z18 z3 z7 z5 z6 true η z10)
section
variable(p0:List UInt8)(p1:Int)(p2:Int)(p3:List GVar)(p4:List GCmd)(p5:List GScalar)(p6:List GVar)(p7:List GChan)(p8:List GProc)
@[go_sem] def jI(β:Bool)(v0:Int):St:=⟨[(2,.loc (Root.l 2 0) [] (0) 0),(11,.loc (Root.l 11 0) [] (0) 0),(12,.d (.int IntKind.i64 v0))],[((2,0),.own [.d (.agg [.str p0,.int IntKind.i64 p1,.int IntKind.i64 p2,.sl β (List.map aq p3),.sl β (List.map (bS β) p4)])]),((11,0),.own [.d (.agg [.sl β (List.map ae p5),.sl β (List.map aq p6),.sl β (List.map ay p7),.sl β (List.map (au β) p8),.sl β (List.map aq p3),.int IntKind.i64 p1])])],[]⟩
@[go_sem] def o7:=mkL (p:=fun β (Φ:Int→(Int→Option ρ)→XT ρ→Option ρ)=>∀(R:St→Option ρ) g κ,(∀v0,R (jI p0 p1 p2 p3 p4 p5 p6 p7 p8 β v0)=g v0)→∀v0,go P hints gE b58 QZ.1 (jI p0 p1 p2 p3 p4 p5 p6 p7 p8 β v0) (kLp R κ)=Φ v0 g κ) _ _
def o8(β:Bool)(κ:XT ρ)(v0:Int):=aj (κ:=κ) (Φ:=fun v k=>(o7 p0 p1 p2 p3 p4 p5 p6 p7 p8 (ρ:=ρ)).f β v k κ) QZ.2 (S:=fun v=>jI p0 p1 p2 p3 p4 p5 p6 p7 p8 β v) (by intro R g hR v;exact(o7 p0 p1 p2 p3 p4 p5 p6 p7 p8 (ρ:=ρ)).ok β R g κ (fun v0=>hR v0) v) v0
end
@[go_sem] def KG:=wl (o8 z14 z0 z1 z4 z18 z3 z7 z5 z6 false η z9)
@[go_sem] def KH:=wl (o8 z14 z0 z1 z4 z18 z3 z7 z5 z6 true η z9)
def nw(a0:GProc)(a1:GScope):=mkF (p:=fun β (κ:KT ρ) (g:Int→Int→Int→Option ρ)=>∀y0_0 y0_1 y0_2,κ ([.d (.int IntKind.i64 y0_0),.d (.int IntKind.i64 y0_1),.d (.int IntKind.i64 y0_2)],[])=g y0_0 y0_1 y0_2) (ds:=fun β=>[(au β) a0,(cU β) a1]) ae9 (fun _=>rfl) _
def ny(a0:GProc)(a1:GScope)(g0):=(nw (ρ:=ρ) a0 a1).1 g0
@[go_sem] def Ro:=wk (ny (ρ:=ρ) (GProc.mk z14 z0 z1 z4 z18) (GScope.mk z3 z7 z5 z6 z8 z9)) ((nw (GProc.mk z14 z0 z1 z4 z18) (GScope.mk z3 z7 z5 z6 z8 z9)).2 β κ _ (fun _ _ _=>rfl))
def nz(a0:GModel)(a1:Int):=mkF (p:=fun β (κ:KT ρ) (g:(List GVar)→Int→Option ρ)=>(∀(y0_0:List GVar) (y0_1:Int),κ ([.d (.agg [.sl β (List.map ae (a0.Scalars)),.sl β (List.map aq (a0.Vars)),.sl β (List.map ay (a0.Chans)),.sl β (List.map (au β) (a0.Procs)),.sl β (List.map aq y0_0),.int IntKind.i64 y0_1])],[])=g y0_0 y0_1)∧(∀(y0_1:Int),κ ([.d (.agg [.sl β (List.map ae (a0.Scalars)),.sl β (List.map aq (a0.Vars)),.sl β (List.map ay (a0.Chans)),.sl β (List.map (au β) (a0.Procs)),.sl β (List.map aq ([]:List GVar)),.int IntKind.i64 y0_1])],[])=g ([]:List GVar) y0_1)) (ds:=fun β=>[(eD β) a0,eI a1]) afa (fun _=>rfl) _
def nA(a0:GModel)(a1:Int)(g0):=(nz (ρ:=ρ) a0 a1).1 g0
@[go_sem] def Rp:=wk (nA (ρ:=ρ) (GModel.mk z3 z4 z5 z6 z22) z0) ((nz (GModel.mk z3 z4 z5 z6 z22) z0).2 β κ _ ⟨(fun _ _=>rfl),(fun _=>rfl)⟩)
def nB(a0:GVar)(a1:List GScalar):=mkF (p:=fun β (κ:KT ρ) (g:Int→Option ρ)=>∀y0_0,κ ([.d (.int IntKind.i64 y0_0)],[])=g y0_0) (ds:=fun β=>[aq a0,(bR β) a1]) afb (fun _=>rfl) _
def uy(a0:GVar)(a1:List GScalar)(g0):=(nB (ρ:=ρ) a0 a1).1 g0
@[go_sem] def Rq:=wk (uy (ρ:=ρ) (GVar.mk z14 z0 z1 z9 z10 z16) z3) ((nB (GVar.mk z14 z0 z1 z9 z10 z16) z3).2 β κ _ (fun _=>rfl))
def nC(a0:GModel)(a1:GProc):=mkF (p:=fun β (κ:KT ρ) (g:Int→Option ρ)=>∀y0_0,κ ([.d (.int IntKind.i64 y0_0)],[])=g y0_0) (ds:=fun β=>[(eD β) a0,(au β) a1]) afc (fun _=>rfl) _
def uz(a0:GModel)(a1:GProc)(g0):=(nC (ρ:=ρ) a0 a1).1 g0
@[go_sem] def Rr:=wk (uz (ρ:=ρ) (GModel.mk z3 z4 z5 z6 z22) (GProc.mk z14 z0 z1 z7 z18)) ((nC (GModel.mk z3 z4 z5 z6 z22) (GProc.mk z14 z0 z1 z7 z18)).2 β κ _ (fun _=>rfl))
section
variable(p0:List GScalar)(p1:List GVar)(p2:List GChan)(p3:List GProc)(p4:List GProp)
@[go_sem] def iN(β:Bool)(v0:Int)(v1:Int):St:=⟨[(1,.loc (Root.l 1 0) [] (0) 0),(5,.d (.int IntKind.i64 (0))),(6,.d (.int IntKind.i64 (0))),(7,.d (.int IntKind.i64 v0)),(8,.d (.int IntKind.i64 v1))],[((1,0),.own [.d (.agg [.sl β (List.map ae p0),.sl β (List.map aq p1),.sl β (List.map ay p2),.sl β (List.map (au β) p3),.sl β (List.map (cu β) p4)])])],[]⟩
@[go_sem] def nD:=mkL (p:=fun β (Φ:Int→Int→((Int)×(Int)→Option ρ)→XT ρ→Option ρ)=>∀(R:St→Option ρ) g κ,(∀v0 v1,R (iN p0 p1 p2 p3 p4 β v0 v1)=g (v0,v1))→∀v0 v1,go P hints jp b36 QF.1 (iN p0 p1 p2 p3 p4 β v0 v1) (kLp R κ)=Φ v0 v1 g κ) _ _
def nE(β:Bool)(κ:XT ρ)(v0:Int)(v1:Int):=aj (κ:=κ) (Φ:=fun v k=>(nD p0 p1 p2 p3 p4 (ρ:=ρ)).f β v.1 v.2 k κ) QF.2 (S:=fun v=>iN p0 p1 p2 p3 p4 β v.1 v.2) (by intro R g hR v;exact(nD p0 p1 p2 p3 p4 (ρ:=ρ)).ok β R g κ (fun v0 v1=>hR (v0,v1)) v.1 v.2) (v0,v1)
end
@[go_sem] def Iz:=wl (nE z3 z4 z5 z6 z22 false η z0 z1)
@[go_sem] def IA:=wl (nE z3 z4 z5 z6 z22 true η z0 z1)
section
variable(p0:List GScalar)(p1:List GVar)(p2:List GChan)(p3:List GProc)(p4:List GProp)
@[go_sem] def iO(β:Bool)(v0:Int)(v1:Int):St:=⟨[(1,.loc (Root.l 1 0) [] (0) 0),(5,.d (.int IntKind.i64 (0))),(6,.d (.int IntKind.i64 (0))),(7,.d (.int IntKind.i64 v0)),(9,.d (.int IntKind.i64 v1))],[((1,0),.own [.d (.agg [.sl β (List.map ae p0),.sl β (List.map aq p1),.sl β (List.map ay p2),.sl β (List.map (au β) p3),.sl β (List.map (cu β) p4)])])],[]⟩
@[go_sem] def nF:=mkL (p:=fun β (Φ:Int→Int→((Int)×(Int)→Option ρ)→XT ρ→Option ρ)=>∀(R:St→Option ρ) g κ,(∀v0 v1,R (iO p0 p1 p2 p3 p4 β v0 v1)=g (v0,v1))→∀v0 v1,go P hints jp b36 QG.1 (iO p0 p1 p2 p3 p4 β v0 v1) (kLp R κ)=Φ v0 v1 g κ) _ _
def nG(β:Bool)(κ:XT ρ)(v0:Int)(v1:Int):=aj (κ:=κ) (Φ:=fun v k=>(nF p0 p1 p2 p3 p4 (ρ:=ρ)).f β v.1 v.2 k κ) QG.2 (S:=fun v=>iO p0 p1 p2 p3 p4 β v.1 v.2) (by intro R g hR v;exact(nF p0 p1 p2 p3 p4 (ρ:=ρ)).ok β R g κ (fun v0 v1=>hR (v0,v1)) v.1 v.2) (v0,v1)
end
@[go_sem] def IB:=wl (nG z3 z4 z5 z6 z22 false η z0 z1)
@[go_sem] def IC:=wl (nG z3 z4 z5 z6 z22 true η z0 z1)
section
variable(p0:List GScalar)(p1:List GVar)(p2:List GChan)(p3:List GProc)(p4:List GProp)
@[go_sem] def iP(β:Bool)(v0:Int)(v1:Int)(v2:Int)(v3:Int):St:=⟨[(1,.loc (Root.l 1 0) [] (0) 0),(5,.d (.int IntKind.i64 v0)),(6,.d (.int IntKind.i64 v1)),(7,.d (.int IntKind.i64 v2)),(10,.d (.int IntKind.i64 v3))],[((1,0),.own [.d (.agg [.sl β (List.map ae p0),.sl β (List.map aq p1),.sl β (List.map ay p2),.sl β (List.map (au β) p3),.sl β (List.map (cu β) p4)])])],[]⟩
@[go_sem] def nH:=mkL (p:=fun β (Φ:Int→Int→Int→Int→((Int)×(Int)×(Int)×(Int)→Option ρ)→XT ρ→Option ρ)=>∀(R:St→Option ρ) g κ,(∀v0 v1 v2 v3,R (iP p0 p1 p2 p3 p4 β v0 v1 v2 v3)=g (v0,v1,v2,v3))→∀v0 v1 v2 v3,go P hints jp b36 QH.1 (iP p0 p1 p2 p3 p4 β v0 v1 v2 v3) (kLp R κ)=Φ v0 v1 v2 v3 g κ) _ _
def nI(β:Bool)(κ:XT ρ)(v0:Int)(v1:Int)(v2:Int)(v3:Int):=aj (κ:=κ) (Φ:=fun v k=>(nH p0 p1 p2 p3 p4 (ρ:=ρ)).f β v.1 v.2.1 v.2.2.1 v.2.2.2 k κ) QH.2 (S:=fun v=>iP p0 p1 p2 p3 p4 β v.1 v.2.1 v.2.2.1 v.2.2.2) (by intro R g hR v;exact(nH p0 p1 p2 p3 p4 (ρ:=ρ)).ok β R g κ (fun v0 v1 v2 v3=>hR (v0,v1,v2,v3)) v.1 v.2.1 v.2.2.1 v.2.2.2) (v0,v1,v2,v3)
end
@[go_sem] def ID:=wl (nI z3 z4 z5 z6 z22 false η z0 z1 z9 z10)
@[go_sem] def IE:=wl (nI z3 z4 z5 z6 z22 true η z0 z1 z9 z10)
def lC(a0:GModel):=mkF (p:=fun β (κ:KT ρ) (g:Int→Int→Int→Option ρ)=>∀y0_0 y0_1 y0_2,κ ([.d (.int IntKind.i64 y0_0),.d (.int IntKind.i64 y0_1),.d (.int IntKind.i64 y0_2)],[])=g y0_0 y0_1 y0_2) (ds:=fun β=>[(eD β) a0]) aeV (fun _=>rfl) _
def lD(a0:GModel)(g0):=(lC (ρ:=ρ) a0).1 g0
@[go_sem] def OV:=wk (lD (ρ:=ρ) (GModel.mk z3 z4 z5 z6 z22)) ((lC (GModel.mk z3 z4 z5 z6 z22)).2 β κ _ (fun _ _ _=>rfl))
section
variable(p0:Int)(p1:Int)(p2:List GScalar)(p3:List GVar)(p4:List GChan)(p5:List GProc)(p6:List GProp)
@[go_sem] def fY(β:Bool)(n0:Nat)(v0:Int)(v1:List (List UInt8)):St:=⟨[(1,.d (.int IntKind.i64 p0)),(2,.d (.int IntKind.i64 p1)),(3,.loc (Root.l 3 0) [] (0) 0),(7,.bor (.l 7 0) [] 0 n0),(8,.d (.int IntKind.i64 v0))],[((3,0),.own [.d (.agg [.sl β (List.map ae p2),.sl β (List.map aq p3),.sl β (List.map ay p4),.sl β (List.map (au β) p5),.sl β (List.map (cu β) p6)])]),((7,0),.own (tl eS v1))],[]⟩
@[go_sem] def o9:=mkL (p:=fun β (Φ:Int→(List (List UInt8))→((Int)×(List (List UInt8))→Option ρ)→XT ρ→Option ρ)=>∀(R:St→Option ρ) g κ,(∀n0 v0 v1,n0=List.length v1→R (fY p0 p1 p2 p3 p4 p5 p6 β n0 v0 v1)=g (v0,v1))→∀v0 v1,go P hints fe b56 QP.1 (fY p0 p1 p2 p3 p4 p5 p6 β (List.length v1) v0 v1) (kLp R κ)=Φ v0 v1 g κ) _ _
def pb(β:Bool)(κ:XT ρ)(n0:Nat)(v0:Int)(v1:List (List UInt8))(hn0:n0=List.length v1):=ql (S:=fun n0=>fY p0 p1 p2 p3 p4 p5 p6 β n0 v0 v1) hn0 (aj (κ:=κ) (Φ:=fun v k=>(o9 p0 p1 p2 p3 p4 p5 p6 (ρ:=ρ)).f β v.1 v.2 k κ) QP.2 (S:=fun v=>fY p0 p1 p2 p3 p4 p5 p6 β (List.length v.2) v.1 v.2) (by intro R g hR v;exact(o9 p0 p1 p2 p3 p4 p5 p6 (ρ:=ρ)).ok β R g κ (fun n0 v0 v1 hn0=>by subst hn0;exact hR (v0,v1)) v.1 v.2) (v0,v1))
end
@[go_sem] def HO:=wl (pb z0 z1 z3 z4 z5 z6 z22 false η 0 z9 [] rfl)
@[go_sem] def HP:=wl (pb z0 z1 z3 z4 z5 z6 z22 true η 0 z9 [] rfl)
section
variable(p0:Int)(p1:Int)(p2:List GScalar)(p3:List GVar)(p4:List GChan)(p5:List GProc)(p6:List GProp)
@[go_sem] def fZ(β:Bool)(n0:Nat)(v0:Int)(v1:List (List UInt8)):St:=⟨[(1,.d (.int IntKind.i64 p0)),(2,.d (.int IntKind.i64 p1)),(3,.loc (Root.l 3 0) [] (0) 0),(7,.bor (.l 7 0) [] 0 n0),(9,.d (.int IntKind.i64 v0))],[((3,0),.own [.d (.agg [.sl β (List.map ae p2),.sl β (List.map aq p3),.sl β (List.map ay p4),.sl β (List.map (au β) p5),.sl β (List.map (cu β) p6)])]),((7,0),.own (tl eS v1))],[]⟩
@[go_sem] def pc:=mkL (p:=fun β (Φ:Int→(List (List UInt8))→((Int)×(List (List UInt8))→Option ρ)→XT ρ→Option ρ)=>∀(R:St→Option ρ) g κ,(∀n0 v0 v1,n0=List.length v1→R (fZ p0 p1 p2 p3 p4 p5 p6 β n0 v0 v1)=g (v0,v1))→∀v0 v1,go P hints fe b56 QQ.1 (fZ p0 p1 p2 p3 p4 p5 p6 β (List.length v1) v0 v1) (kLp R κ)=Φ v0 v1 g κ) _ _
def pd(β:Bool)(κ:XT ρ)(n0:Nat)(v0:Int)(v1:List (List UInt8))(hn0:n0=List.length v1):=ql (S:=fun n0=>fZ p0 p1 p2 p3 p4 p5 p6 β n0 v0 v1) hn0 (aj (κ:=κ) (Φ:=fun v k=>(pc p0 p1 p2 p3 p4 p5 p6 (ρ:=ρ)).f β v.1 v.2 k κ) QQ.2 (S:=fun v=>fZ p0 p1 p2 p3 p4 p5 p6 β (List.length v.2) v.1 v.2) (by intro R g hR v;exact(pc p0 p1 p2 p3 p4 p5 p6 (ρ:=ρ)).ok β R g κ (fun n0 v0 v1 hn0=>by subst hn0;exact hR (v0,v1)) v.1 v.2) (v0,v1))
end
@[go_sem] def KI(hn0:z12=List.length z24):=wl (pd z0 z1 z3 z4 z5 z6 z22 false η z12 z9 z24 hn0)
@[go_sem] def KJ(hn0:z12=List.length z24):=wl (pd z0 z1 z3 z4 z5 z6 z22 true η z12 z9 z24 hn0)
section
variable(p0:Int)(p1:Int)(p2:List GScalar)(p3:List GVar)(p4:List GChan)(p5:List GProc)(p6:List GProp)
@[go_sem] def ga(β:Bool)(n0:Nat)(v0:Int)(v1:List (List UInt8)):St:=⟨[(1,.d (.int IntKind.i64 p0)),(2,.d (.int IntKind.i64 p1)),(3,.loc (Root.l 3 0) [] (0) 0),(7,.bor (.l 7 0) [] 0 n0),(10,.d (.int IntKind.i64 v0))],[((3,0),.own [.d (.agg [.sl β (List.map ae p2),.sl β (List.map aq p3),.sl β (List.map ay p4),.sl β (List.map (au β) p5),.sl β (List.map (cu β) p6)])]),((7,0),.own (tl eS v1))],[]⟩
@[go_sem] def pg:=mkL (p:=fun β (Φ:Int→(List (List UInt8))→((Int)×(List (List UInt8))→Option ρ)→XT ρ→Option ρ)=>∀(R:St→Option ρ) g κ,(∀n0 v0 v1,n0=List.length v1→R (ga p0 p1 p2 p3 p4 p5 p6 β n0 v0 v1)=g (v0,v1))→∀v0 v1,go P hints fe b56 QR.1 (ga p0 p1 p2 p3 p4 p5 p6 β (List.length v1) v0 v1) (kLp R κ)=Φ v0 v1 g κ) _ _
def ph(β:Bool)(κ:XT ρ)(n0:Nat)(v0:Int)(v1:List (List UInt8))(hn0:n0=List.length v1):=ql (S:=fun n0=>ga p0 p1 p2 p3 p4 p5 p6 β n0 v0 v1) hn0 (aj (κ:=κ) (Φ:=fun v k=>(pg p0 p1 p2 p3 p4 p5 p6 (ρ:=ρ)).f β v.1 v.2 k κ) QR.2 (S:=fun v=>ga p0 p1 p2 p3 p4 p5 p6 β (List.length v.2) v.1 v.2) (by intro R g hR v;exact(pg p0 p1 p2 p3 p4 p5 p6 (ρ:=ρ)).ok β R g κ (fun n0 v0 v1 hn0=>by subst hn0;exact hR (v0,v1)) v.1 v.2) (v0,v1))
end
@[go_sem] def KK(hn0:z12=List.length z24):=wl (ph z0 z1 z3 z4 z5 z6 z22 false η z12 z9 z24 hn0)
@[go_sem] def KL(hn0:z12=List.length z24):=wl (ph z0 z1 z3 z4 z5 z6 z22 true η z12 z9 z24 hn0)
section
variable(p0:Int)(p1:Int)(p2:List GScalar)(p3:List GVar)(p4:List GChan)(p5:List GProc)(p6:List GProp)
@[go_sem] def gb(β:Bool)(n0:Nat)(v0:Int)(v1:List (List UInt8)):St:=⟨[(1,.d (.int IntKind.i64 p0)),(2,.d (.int IntKind.i64 p1)),(3,.loc (Root.l 3 0) [] (0) 0),(7,.bor (.l 7 0) [] 0 n0),(11,.d (.int IntKind.i64 v0))],[((3,0),.own [.d (.agg [.sl β (List.map ae p2),.sl β (List.map aq p3),.sl β (List.map ay p4),.sl β (List.map (au β) p5),.sl β (List.map (cu β) p6)])]),((7,0),.own (tl eS v1))],[]⟩
@[go_sem] def pj:=mkL (p:=fun β (Φ:Int→(List (List UInt8))→((Int)×(List (List UInt8))→Option ρ)→XT ρ→Option ρ)=>∀(R:St→Option ρ) g κ,(∀n0 v0 v1,n0=List.length v1→R (gb p0 p1 p2 p3 p4 p5 p6 β n0 v0 v1)=g (v0,v1))→∀v0 v1,go P hints fe b56 QS.1 (gb p0 p1 p2 p3 p4 p5 p6 β (List.length v1) v0 v1) (kLp R κ)=Φ v0 v1 g κ) _ _
def pk(β:Bool)(κ:XT ρ)(n0:Nat)(v0:Int)(v1:List (List UInt8))(hn0:n0=List.length v1):=ql (S:=fun n0=>gb p0 p1 p2 p3 p4 p5 p6 β n0 v0 v1) hn0 (aj (κ:=κ) (Φ:=fun v k=>(pj p0 p1 p2 p3 p4 p5 p6 (ρ:=ρ)).f β v.1 v.2 k κ) QS.2 (S:=fun v=>gb p0 p1 p2 p3 p4 p5 p6 β (List.length v.2) v.1 v.2) (by intro R g hR v;exact(pj p0 p1 p2 p3 p4 p5 p6 (ρ:=ρ)).ok β R g κ (fun n0 v0 v1 hn0=>by subst hn0;exact hR (v0,v1)) v.1 v.2) (v0,v1))
end
@[go_sem] def KM(hn0:z12=List.length z24):=wl (pk z0 z1 z3 z4 z5 z6 z22 false η z12 z9 z24 hn0)
@[go_sem] def KN(hn0:z12=List.length z24):=wl (pk z0 z1 z3 z4 z5 z6 z22 true η z12 z9 z24 hn0)
section
variable(p0:Int)(p1:Int)(p2:List GScalar)(p3:List GVar)(p4:List GChan)(p5:List GProc)(p6:List GProp)
@[go_sem] def gc(β:Bool)(n0:Nat)(v0:Int)(v1:List (List UInt8)):St:=⟨[(1,.d (.int IntKind.i64 p0)),(2,.d (.int IntKind.i64 p1)),(3,.loc (Root.l 3 0) [] (0) 0),(7,.bor (.l 7 0) [] 0 n0),(12,.d (.int IntKind.i64 v0))],[((3,0),.own [.d (.agg [.sl β (List.map ae p2),.sl β (List.map aq p3),.sl β (List.map ay p4),.sl β (List.map (au β) p5),.sl β (List.map (cu β) p6)])]),((7,0),.own (tl eS v1))],[]⟩
@[go_sem] def pn:=mkL (p:=fun β (Φ:Int→(List (List UInt8))→((Int)×(List (List UInt8))→Option ρ)→XT ρ→Option ρ)=>∀(R:St→Option ρ) g κ,(∀n0 v0 v1,n0=List.length v1→R (gc p0 p1 p2 p3 p4 p5 p6 β n0 v0 v1)=g (v0,v1))→∀v0 v1,go P hints fe b56 QT.1 (gc p0 p1 p2 p3 p4 p5 p6 β (List.length v1) v0 v1) (kLp R κ)=Φ v0 v1 g κ) _ _
def po(β:Bool)(κ:XT ρ)(n0:Nat)(v0:Int)(v1:List (List UInt8))(hn0:n0=List.length v1):=ql (S:=fun n0=>gc p0 p1 p2 p3 p4 p5 p6 β n0 v0 v1) hn0 (aj (κ:=κ) (Φ:=fun v k=>(pn p0 p1 p2 p3 p4 p5 p6 (ρ:=ρ)).f β v.1 v.2 k κ) QT.2 (S:=fun v=>gc p0 p1 p2 p3 p4 p5 p6 β (List.length v.2) v.1 v.2) (by intro R g hR v;exact(pn p0 p1 p2 p3 p4 p5 p6 (ρ:=ρ)).ok β R g κ (fun n0 v0 v1 hn0=>by subst hn0;exact hR (v0,v1)) v.1 v.2) (v0,v1))
end
@[go_sem] def KO(hn0:z12=List.length z24):=wl (po z0 z1 z3 z4 z5 z6 z22 false η z12 z9 z24 hn0)
@[go_sem] def KP(hn0:z12=List.length z24):=wl (po z0 z1 z3 z4 z5 z6 z22 true η z12 z9 z24 hn0)
def eP(a0:GModel)(a1:Int)(a2:Int):=mkF (p:=fun β (κ:KT ρ) (g:(List (List UInt8))→Option ρ)=>∀y0_0,κ ([.d (.sl false (List.map eS y0_0))],[])=g y0_0) (ds:=fun β=>[(eD β) a0,eI a1,eI a2]) ae7 (fun _=>rfl) _
def cR(a0:GModel)(a1:Int)(a2:Int)(g0):=(eP (ρ:=ρ) a0 a1 a2).1 g0
@[go_sem] def Rs:=wk (cR (ρ:=ρ) (GModel.mk z3 z4 z5 z6 z22) z0 z1) ((eP (GModel.mk z3 z4 z5 z6 z22) z0 z1).2 β κ _ (fun _=>rfl))
section
variable(p0:List (List UInt8))(p1:List UInt8)
@[go_sem] def nJ(β:Bool)(v0:Int):St:=⟨[(0,.d (.sl β (List.map eS p0))),(1,.d (.str p1)),(5,.d (.int IntKind.i64 v0))],[],[]⟩
@[go_sem] def uA:=mkL (p:=fun β (Φ:Int→(Int→Option ρ)→XT ρ→Option ρ)=>∀(R:St→Option ρ) g κ,(∀v0,R (nJ p0 p1 β v0)=g v0)→∀v0,go P hints sU b55 QO.1 (nJ p0 p1 β v0) (kLp R κ)=Φ v0 g κ) _ _
def uB(β:Bool)(κ:XT ρ)(v0:Int):=aj (κ:=κ) (Φ:=fun v k=>(uA p0 p1 (ρ:=ρ)).f β v k κ) QO.2 (S:=fun v=>nJ p0 p1 β v) (by intro R g hR v;exact(uA p0 p1 (ρ:=ρ)).ok β R g κ (fun v0=>hR v0) v) v0
end
@[go_sem] def OW:=wl (uB z24 z14 false η z0)
@[go_sem] def OX:=wl (uB z24 z14 true η z0)
def s9(a0:List (List UInt8))(a1:List UInt8):=mkF (p:=fun β (κ:KT ρ) (g:Bool→Option ρ)=>∀y0_0,κ ([.d (.bool y0_0)],[])=g y0_0) (ds:=fun β=>[(Kk β) a0,eS a1]) ae6 (fun _=>rfl) _
def ta(a0:List (List UInt8))(a1:List UInt8)(g0):=(s9 (ρ:=ρ) a0 a1).1 g0
@[go_sem] def Wg:=wk (ta (ρ:=ρ) z24 z14) ((s9 z24 z14).2 β κ _ (fun _=>rfl))
section
variable(p0:List GScalar)(p1:List GVar)(p2:List GChan)(p3:List GProc)(p4:List GProp)
@[go_sem] def lE(β:Bool)(v0:Int):St:=⟨[(1,.loc (Root.l 1 0) [] (0) 0),(2,.loc (Root.l 2 0) [] (0) 0),(5,.d (.int IntKind.i64 v0))],[((1,0),.own [.d (.agg [.sl β (List.map ae p0),.sl β (List.map aq p1),.sl β (List.map ay p2),.sl β (List.map (au β) p3),.sl β (List.map (cu β) p4)])]),((2,0),.own [.d (.agg [.int IntKind.i64 (0),.int IntKind.i64 (0),.int IntKind.i64 (0),.int IntKind.i64 (0)])])],[]⟩
@[go_sem] def rN:=mkL (p:=fun β (Φ:Int→(Int→Option ρ)→XT ρ→Option ρ)=>∀(R:St→Option ρ) g κ,(∀v0,R (lE p0 p1 p2 p3 p4 β v0)=g v0)→∀v0,go P hints mI b34 QC.1 (lE p0 p1 p2 p3 p4 β v0) (kLp R κ)=Φ v0 g κ) _ _
def rO(β:Bool)(κ:XT ρ)(v0:Int):=aj (κ:=κ) (Φ:=fun v k=>(rN p0 p1 p2 p3 p4 (ρ:=ρ)).f β v k κ) QC.2 (S:=fun v=>lE p0 p1 p2 p3 p4 β v) (by intro R g hR v;exact(rN p0 p1 p2 p3 p4 (ρ:=ρ)).ok β R g κ (fun v0=>hR v0) v) v0
end
@[go_sem] def Mu:=wl (rO z3 z4 z5 z6 z22 false η z0)
@[go_sem] def Mv:=wl (rO z3 z4 z5 z6 z22 true η z0)
section
variable(p0:List GScalar)(p1:List GVar)(p2:List GChan)(p3:List GProc)(p4:List GProp)
@[go_sem] def lF(β:Bool)(v0:Int):St:=⟨[(1,.loc (Root.l 1 0) [] (0) 0),(2,.loc (Root.l 2 0) [] (0) 0),(8,.d (.int IntKind.i64 v0))],[((1,0),.own [.d (.agg [.sl β (List.map ae p0),.sl β (List.map aq p1),.sl β (List.map ay p2),.sl β (List.map (au β) p3),.sl β (List.map (cu β) p4)])]),((2,0),.own [.d (.agg [.int IntKind.i64 (0),.int IntKind.i64 (0),.int IntKind.i64 (0),.int IntKind.i64 (0)])])],[]⟩
@[go_sem] def rP:=mkL (p:=fun β (Φ:Int→(Int→Option ρ)→XT ρ→Option ρ)=>∀(R:St→Option ρ) g κ,(∀v0,R (lF p0 p1 p2 p3 p4 β v0)=g v0)→∀v0,go P hints mI b34 QD.1 (lF p0 p1 p2 p3 p4 β v0) (kLp R κ)=Φ v0 g κ) _ _
def rQ(β:Bool)(κ:XT ρ)(v0:Int):=aj (κ:=κ) (Φ:=fun v k=>(rP p0 p1 p2 p3 p4 (ρ:=ρ)).f β v k κ) QD.2 (S:=fun v=>lF p0 p1 p2 p3 p4 β v) (by intro R g hR v;exact(rP p0 p1 p2 p3 p4 (ρ:=ρ)).ok β R g κ (fun v0=>hR v0) v) v0
end
@[go_sem] def Mw:=wl (rQ z3 z4 z5 z6 z22 false η z0)
@[go_sem] def Mx:=wl (rQ z3 z4 z5 z6 z22 true η z0)
def qD(a0:GModel):=mkF (p:=fun β (κ:KT ρ) (g:Int→Int→Int→Option ρ)=>∀y0_0 y0_1 y0_2,κ ([.d (.agg [.int IntKind.i64 y0_0,.int IntKind.i64 y0_1,.int IntKind.i64 y0_2,.int IntKind.i64 (0)])],[])=g y0_0 y0_1 y0_2) (ds:=fun β=>[(eD β) a0]) aeT (fun _=>rfl) _
def qE(a0:GModel)(g0):=(qD (ρ:=ρ) a0).1 g0
@[go_sem] def Uh:=wk (qE (ρ:=ρ) (GModel.mk z3 z4 z5 z6 z22)) ((qD (GModel.mk z3 z4 z5 z6 z22)).2 β κ _ (fun _ _ _=>rfl))
section
variable(p0:Int)(p1:List GScalar)(p2:List GVar)(p3:List GChan)(p4:List GProc)(p5:List GProp)(p6:List UInt8)(p7:Int)(p8:Int)(p9:List GVar)(p10:List GCmd)
@[go_sem] def gJ(β:Bool)(v0:Int):St:=⟨[(1,.d (.int IntKind.i64 p0)),(2,.loc (Root.l 2 0) [] (0) 0),(4,.loc (Root.l 4 0) [] (0) 0),(5,.loc (Root.l 5 0) [] (0) 0),(9,.d (.int IntKind.i64 v0))],[((2,0),.own [.d (.agg [.sl β (List.map ae p1),.sl β (List.map aq p2),.sl β (List.map ay p3),.sl β (List.map (au β) p4),.sl β (List.map (cu β) p5)])]),((4,0),.own [.d (.agg [.int IntKind.i64 (0),.int IntKind.i64 (0),.int IntKind.i64 (0),.int IntKind.i64 (0)])]),((5,0),.own [.d (.agg [.str p6,.int IntKind.i64 p7,.int IntKind.i64 p8,.sl β (List.map aq p9),.sl β (List.map (bS β) p10)])])],[]⟩
@[go_sem] def lY:=mkL (p:=fun β (Φ:Int→(Int→Option ρ)→XT ρ→Option ρ)=>∀(R:St→Option ρ) g κ,(∀v0,R (gJ p0 p1 p2 p3 p4 p5 p6 p7 p8 p9 p10 β v0)=g v0)→∀v0,go P hints sQ b35 QE.1 (gJ p0 p1 p2 p3 p4 p5 p6 p7 p8 p9 p10 β v0) (kLp R κ)=Φ v0 g κ) _ _
def lZ(β:Bool)(κ:XT ρ)(v0:Int):=aj (κ:=κ) (Φ:=fun v k=>(lY p0 p1 p2 p3 p4 p5 p6 p7 p8 p9 p10 (ρ:=ρ)).f β v k κ) QE.2 (S:=fun v=>gJ p0 p1 p2 p3 p4 p5 p6 p7 p8 p9 p10 β v) (by intro R g hR v;exact(lY p0 p1 p2 p3 p4 p5 p6 p7 p8 p9 p10 (ρ:=ρ)).ok β R g κ (fun v0=>hR v0) v) v0
end
@[go_sem] def HQ:=wl (lZ z0 z3 z4 z5 z6 z22 z14 z1 z9 z7 z18 false η z10)
@[go_sem] def HR:=wl (lZ z0 z3 z4 z5 z6 z22 z14 z1 z9 z7 z18 true η z10)
def jJ(a0:GModel)(a1:Int):=mkF (p:=fun β (κ:KT ρ) (g:Int→Int→Int→Int→Option ρ)=>∀y0_0 y0_1 y0_2 y0_3,κ ([.d (.agg [.int IntKind.i64 y0_0,.int IntKind.i64 y0_1,.int IntKind.i64 y0_2,.int IntKind.i64 y0_3])],[])=g y0_0 y0_1 y0_2 y0_3) (ds:=fun β=>[(eD β) a0,eI a1]) aeU (fun _=>rfl) _
def jK(a0:GModel)(a1:Int)(g0):=(jJ (ρ:=ρ) a0 a1).1 g0
@[go_sem] def My:=wk (jK (ρ:=ρ) (GModel.mk z3 z4 z5 z6 z22) z0) ((jJ (GModel.mk z3 z4 z5 z6 z22) z0).2 β κ _ (fun _ _ _ _=>rfl))
@[go_sem] def F7:=wk (iz (ρ:=ρ) z11 (GScope.mk z3 z4 z5 z6 ([]:List GVar) z0)) ((ld z11 (GScope.mk z3 z4 z5 z6 ([]:List GVar) z0)).2 β κ _ (fun _ _=>rfl))
def fj(a0:GModel)(a1:Int):=mkF (p:=fun β (κ:KT ρ) (g:Int→Option ρ)=>∀y0_0,κ ([.d (.int IntKind.i64 y0_0)],[])=g y0_0) (ds:=fun β=>[(eD β) a0,eI a1]) aeW (fun _=>rfl) _
def dG(a0:GModel)(a1:Int)(g0):=(fj (ρ:=ρ) a0 a1).1 g0
@[go_sem] def F8:=wk (dG (ρ:=ρ) (GModel.mk z3 z4 z5 z6 z22) z0) ((fj (GModel.mk z3 z4 z5 z6 z22) z0).2 β κ _ (fun _=>rfl))
section
variable(p0:List GScalar)(p1:List GVar)(p2:List GChan)(p3:List GProc)(p4:List GProp)
@[go_sem] def jL(β:Bool)(v0:Int)(v1:Int)(v2:Int)(v3:Int)(v4:Int):St:=⟨[(1,.loc (Root.l 1 0) [] (0) 0),(2,.loc (Root.l 2 0) [] (0) 0),(3,.loc (Root.l 3 0) [] (0) 0),(4,.d (.int IntKind.i64 v0))],[((1,0),.own [.d (.agg [.sl β (List.map ae p0),.sl β (List.map aq p1),.sl β (List.map ay p2),.sl β (List.map (au β) p3),.sl β (List.map (cu β) p4)])]),((2,0),.own [.d (.agg [.int IntKind.i64 (0),.int IntKind.i64 (0),.int IntKind.i64 (0),.int IntKind.i64 (0)])]),((3,0),.own [.d (.agg [.int IntKind.i64 v1,.int IntKind.i64 v2,.int IntKind.i64 v3,.int IntKind.i64 v4])])],[]⟩
@[go_sem] def pp:=mkL (p:=fun β (Φ:Int→Int→Int→Int→Int→((Int)×(Int)×(Int)×(Int)×(Int)→Option ρ)→XT ρ→Option ρ)=>∀(R:St→Option ρ) g κ,(∀v0 v1 v2 v3 v4,R (jL p0 p1 p2 p3 p4 β v0 v1 v2 v3 v4)=g (v0,v1,v2,v3,v4))→∀v0 v1 v2 v3 v4,go P hints mH b20 QA.1 (jL p0 p1 p2 p3 p4 β v0 v1 v2 v3 v4) (kLp R κ)=Φ v0 v1 v2 v3 v4 g κ) _ _
def pq(β:Bool)(κ:XT ρ)(v0:Int)(v1:Int)(v2:Int)(v3:Int)(v4:Int):=aj (κ:=κ) (Φ:=fun v k=>(pp p0 p1 p2 p3 p4 (ρ:=ρ)).f β v.1 v.2.1 v.2.2.1 v.2.2.2.1 v.2.2.2.2 k κ) QA.2 (S:=fun v=>jL p0 p1 p2 p3 p4 β v.1 v.2.1 v.2.2.1 v.2.2.2.1 v.2.2.2.2) (by intro R g hR v;exact(pp p0 p1 p2 p3 p4 (ρ:=ρ)).ok β R g κ (fun v0 v1 v2 v3 v4=>hR (v0,v1,v2,v3,v4)) v.1 v.2.1 v.2.2.1 v.2.2.2.1 v.2.2.2.2) (v0,v1,v2,v3,v4)
end
@[go_sem] def KQ:=wl (pq z3 z4 z5 z6 z22 false η z0 z1 z9 z10 z16)
@[go_sem] def KS:=wl (pq z3 z4 z5 z6 z22 true η z0 z1 z9 z10 z16)
section
variable(p0:List GScalar)(p1:List GVar)(p2:List GChan)(p3:List GProc)(p4:List GProp)
@[go_sem] def jM(β:Bool)(v0:Int):St:=⟨[(1,.loc (Root.l 1 0) [] (0) 0),(2,.loc (Root.l 2 0) [] (0) 0),(8,.d (.int IntKind.i64 v0))],[((1,0),.own [.d (.agg [.sl β (List.map ae p0),.sl β (List.map aq p1),.sl β (List.map ay p2),.sl β (List.map (au β) p3),.sl β (List.map (cu β) p4)])]),((2,0),.own [.d (.agg [.int IntKind.i64 (0),.int IntKind.i64 (0),.int IntKind.i64 (0),.int IntKind.i64 (0)])])],[]⟩
@[go_sem] def pu:=mkL (p:=fun β (Φ:Int→(Int→Option ρ)→XT ρ→Option ρ)=>∀(R:St→Option ρ) g κ,(∀v0,R (jM p0 p1 p2 p3 p4 β v0)=g v0)→∀v0,go P hints mH b20 QB.1 (jM p0 p1 p2 p3 p4 β v0) (kLp R κ)=Φ v0 g κ) _ _
def pw(β:Bool)(κ:XT ρ)(v0:Int):=aj (κ:=κ) (Φ:=fun v k=>(pu p0 p1 p2 p3 p4 (ρ:=ρ)).f β v k κ) QB.2 (S:=fun v=>jM p0 p1 p2 p3 p4 β v) (by intro R g hR v;exact(pu p0 p1 p2 p3 p4 (ρ:=ρ)).ok β R g κ (fun v0=>hR v0) v) v0
end
@[go_sem] def KU:=wl (pw z3 z4 z5 z6 z22 false η z0)
@[go_sem] def KV:=wl (pw z3 z4 z5 z6 z22 true η z0)
def nK(a0:GModel):=mkF (p:=fun β (κ:KT ρ) (g:Int→Int→Int→Int→Option ρ)=>∀y0_0 y0_1 y0_2 y0_3,κ ([.d (.agg [.int IntKind.i64 y0_0,.int IntKind.i64 y0_1,.int IntKind.i64 y0_2,.int IntKind.i64 y0_3])],[])=g y0_0 y0_1 y0_2 y0_3) (ds:=fun β=>[(eD β) a0]) aeQ (fun _=>rfl) _
def nL(a0:GModel)(g0):=(nK (ρ:=ρ) a0).1 g0
@[go_sem] def Rt:=wk (nL (ρ:=ρ) (GModel.mk z3 z4 z5 z6 z22)) ((nK (GModel.mk z3 z4 z5 z6 z22)).2 β κ _ (fun _ _ _ _=>rfl))
def td(a0:GModel):=mkF (p:=fun β (κ:KT ρ) (g:Bool→Option ρ)=>∀y0_0,κ ([.d (.bool y0_0)],[])=g y0_0) (ds:=fun β=>[(eD β) a0]) ge9 (fun _=>rfl) _
def tg(a0:GModel)(g0):=(td (ρ:=ρ) a0).1 g0
@[go_sem] def Wh:=wk (tg (ρ:=ρ) (GModel.mk z3 z4 z5 z6 z22)) ((td (GModel.mk z3 z4 z5 z6 z22)).2 β κ _ (fun _=>rfl))
section
variable(p0:List UInt8)(p1:Int)(p2:Int)(p3:List GNode)(p4:List GAct)(p5:Bool)
@[go_sem] def jN(β:Bool)(v0:Int):St:=⟨[(1,.loc (Root.l 1 0) [] (0) 0),(3,.d (.int IntKind.i64 v0))],[((1,0),.own [.d (.agg [.str p0,.int IntKind.i64 p1,.int IntKind.i64 p2,.sl β (List.map bh p3),.sl β (List.map (ff β) p4),.bool p5])])],[]⟩
@[go_sem] def px:=mkL (p:=fun β (Φ:Int→(Int→Option ρ)→XT ρ→Option ρ)=>∀(R:St→Option ρ) g κ,(∀v0,R (jN p0 p1 p2 p3 p4 p5 β v0)=g v0)→∀v0,go P hints sO b10 Qy.1 (jN p0 p1 p2 p3 p4 p5 β v0) (kLp R κ)=Φ v0 g κ) _ _
def pz(β:Bool)(κ:XT ρ)(v0:Int):=aj (κ:=κ) (Φ:=fun v k=>(px p0 p1 p2 p3 p4 p5 (ρ:=ρ)).f β v k κ) Qy.2 (S:=fun v=>jN p0 p1 p2 p3 p4 p5 β v) (by intro R g hR v;exact(px p0 p1 p2 p3 p4 p5 (ρ:=ρ)).ok β R g κ (fun v0=>hR v0) v) v0
end
@[go_sem] def KW:=wl (pz z14 z0 z1 z11 z19 z15 false η z9)
@[go_sem] def KX:=wl (pz z14 z0 z1 z11 z19 z15 true η z9)
def nM(a0:GCmd):=mkF (p:=fun β (κ:KT ρ) (g:Bool→Option ρ)=>∀y0_0,κ ([.d (.bool y0_0)],[])=g y0_0) (ds:=fun β=>[(bS β) a0]) aeN (fun _=>rfl) _
def nN(a0:GCmd)(g0):=(nM (ρ:=ρ) a0).1 g0
@[go_sem] def Ru:=wk (nN (ρ:=ρ) (GCmd.mk z14 z0 z1 z11 z19 z15)) ((nM (GCmd.mk z14 z0 z1 z11 z19 z15)).2 β κ _ (fun _=>rfl))
section
variable(p0:Int)(p1:List GScalar)(p2:List GVar)(p3:List GChan)(p4:List GProc)(p5:List GProp)
@[go_sem] def jO(β:Bool)(v0:Int):St:=⟨[(1,.loc (Root.l 1 0) [] (0) 0),(3,.d (.int IntKind.i64 p0)),(4,.d (.int IntKind.i64 v0))],[((1,0),.own [.d (.agg [.sl β (List.map ae p1),.sl β (List.map aq p2),.sl β (List.map ay p3),.sl β (List.map (au β) p4),.sl β (List.map (cu β) p5)])])],[]⟩
@[go_sem] def pA:=mkL (p:=fun β (Φ:Int→(Int→Option ρ)→XT ρ→Option ρ)=>∀(R:St→Option ρ) g κ,(∀v0,R (jO p0 p1 p2 p3 p4 p5 β v0)=g v0)→∀v0,go P hints oQ b4 Xy.1 (jO p0 p1 p2 p3 p4 p5 β v0) (kLp R κ)=Φ v0 g κ) _ _
def pB(β:Bool)(κ:XT ρ)(v0:Int):=aj (κ:=κ) (Φ:=fun v k=>(pA p0 p1 p2 p3 p4 p5 (ρ:=ρ)).f β v k κ) Xy.2 (S:=fun v=>jO p0 p1 p2 p3 p4 p5 β v) (by intro R g hR v;exact(pA p0 p1 p2 p3 p4 p5 (ρ:=ρ)).ok β R g κ (fun v0=>hR v0) v) v0
end
@[go_sem] def KY:=wl (pB z0 z3 z4 z5 z6 z22 false η z1)
@[go_sem] def KZ:=wl (pB z0 z3 z4 z5 z6 z22 true η z1)
section
variable(p0:List GScalar)(p1:List GVar)(p2:List GChan)(p3:List GProc)(p4:List GProp)
@[go_sem] def jP(β:Bool)(v0:Int):St:=⟨[(1,.loc (Root.l 1 0) [] (0) 0),(3,.d (.int IntKind.i64 v0))],[((1,0),.own [.d (.agg [.sl β (List.map ae p0),.sl β (List.map aq p1),.sl β (List.map ay p2),.sl β (List.map (au β) p3),.sl β (List.map (cu β) p4)])])],[]⟩
@[go_sem] def pC:=mkL (p:=fun β (Φ:Int→(Int→Option ρ)→XT ρ→Option ρ)=>∀(R:St→Option ρ) g κ,(∀v0,R (jP p0 p1 p2 p3 p4 β v0)=g v0)→∀v0,go P hints oQ b4 Xz.1 (jP p0 p1 p2 p3 p4 β v0) (kLp R κ)=Φ v0 g κ) _ _
def pD(β:Bool)(κ:XT ρ)(v0:Int):=aj (κ:=κ) (Φ:=fun v k=>(pC p0 p1 p2 p3 p4 (ρ:=ρ)).f β v k κ) Xz.2 (S:=fun v=>jP p0 p1 p2 p3 p4 β v) (by intro R g hR v;exact(pC p0 p1 p2 p3 p4 (ρ:=ρ)).ok β R g κ (fun v0=>hR v0) v) v0
end
@[go_sem] def K0:=wl (pD z3 z4 z5 z6 z22 false η z0)
@[go_sem] def K1:=wl (pD z3 z4 z5 z6 z22 true η z0)
section
variable(p0:List GScalar)(p1:List GVar)(p2:List GChan)(p3:List GProc)(p4:List GProp)
@[go_sem] def jQ(β:Bool)(v0:Int):St:=⟨[(1,.loc (Root.l 1 0) [] (0) 0),(5,.d (.int IntKind.i64 v0))],[((1,0),.own [.d (.agg [.sl β (List.map ae p0),.sl β (List.map aq p1),.sl β (List.map ay p2),.sl β (List.map (au β) p3),.sl β (List.map (cu β) p4)])])],[]⟩
@[go_sem] def pE:=mkL (p:=fun β (Φ:Int→(Int→Option ρ)→XT ρ→Option ρ)=>∀(R:St→Option ρ) g κ,(∀v0,R (jQ p0 p1 p2 p3 p4 β v0)=g v0)→∀v0,go P hints oQ b4 XA.1 (jQ p0 p1 p2 p3 p4 β v0) (kLp R κ)=Φ v0 g κ) _ _
def pF(β:Bool)(κ:XT ρ)(v0:Int):=aj (κ:=κ) (Φ:=fun v k=>(pE p0 p1 p2 p3 p4 (ρ:=ρ)).f β v k κ) XA.2 (S:=fun v=>jQ p0 p1 p2 p3 p4 β v) (by intro R g hR v;exact(pE p0 p1 p2 p3 p4 (ρ:=ρ)).ok β R g κ (fun v0=>hR v0) v) v0
end
@[go_sem] def K2:=wl (pF z3 z4 z5 z6 z22 false η z0)
@[go_sem] def K3:=wl (pF z3 z4 z5 z6 z22 true η z0)
def nP(a0:GModel):=mkF (p:=fun β (κ:KT ρ) (g:Bool→Option ρ)=>∀y0_0,κ ([.d (.bool y0_0)],[])=g y0_0) (ds:=fun β=>[(eD β) a0]) ge4 (fun _=>rfl) _
def nQ(a0:GModel)(g0):=(nP (ρ:=ρ) a0).1 g0
@[go_sem] def Rv:=wk (nQ (ρ:=ρ) (GModel.mk z3 z4 z5 z6 z22)) ((nP (GModel.mk z3 z4 z5 z6 z22)).2 β κ _ (fun _=>rfl))
def rR(a0:GTrace):=mkF (p:=fun β (κ:KT ρ) (g:Option ρ)=>κ ([.d (.str (Tr7.headF [115,116,101,109] (List.map (fun z ↦ (z.Cmd,z.Way)) a0.Stem)++10::(Tr7.headF [108,111,111,112] (List.map (fun z ↦ (z.Cmd,z.Way)) a0.Loop)++[10])))],[])=g) (ds:=fun β=>[(TY β) a0]) ge6 (fun _=>rfl) _
attribute [go_sem] afp
attribute [go_sem] ae1
attribute [go_sem] aeR
def fO(a0:List UInt8):=mkF (p:=fun β (κ:KT ρ) (g:(List UInt8)→(List UInt8)→Bool→Option ρ)=>∀y0_0 y0_1 y0_2,κ ([.d (.str y0_0),.d (.str y0_1),.d (.bool y0_2)],[])=g y0_0 y0_1 y0_2) (ds:=fun β=>[eS a0,eS ([10]:List UInt8)]) XD (fun _=>rfl) _
def fP(a0:List UInt8)(g0):=(fO (ρ:=ρ) a0).1 g0
@[go_sem] def HS:=wk (fP (ρ:=ρ) z14) ((fO z14).2 true κ _ (fun _ _ _=>rfl))
def fQ(a0:List UInt8):=mkF (p:=fun β (κ:KT ρ) (g:(List UInt8)→(List UInt8)→Bool→Option ρ)=>∀y0_0 y0_1 y0_2,κ ([.d (.str y0_0),.d (.str y0_1),.d (.bool y0_2)],[])=g y0_0 y0_1 y0_2) (ds:=fun β=>[eS a0,eS ([47]:List UInt8)]) XD (fun _=>rfl) _
def fR(a0:List UInt8)(g0):=(fQ (ρ:=ρ) a0).1 g0
@[go_sem] def HT:=wk (fR (ρ:=ρ) z14) ((fQ z14).2 true κ _ (fun _ _ _=>rfl))
attribute [go_sem] afr
attribute [go_sem] afq
attribute [go_sem] ae2
section
variable(p0:Int)(p1:Nat)
@[go_sem] def aT(β:Bool)(v0:List UInt8)(v1:Int)(v2:List (List UInt8)):St:=⟨[(0,.d (.str v0)),(1,.d (.str ([32]))),(2,.d (.int IntKind.i64 (0))),(3,.d (.int IntKind.i64 p0)),(9,.bor (.l 9 0) [] 0 p1),(10,.d (.int IntKind.i64 v1))],[((9,0),.own (tl eS v2))],[]⟩
@[go_sem] def bC:=mkL (p:=fun β (Φ:(List UInt8)→Int→(List (List UInt8))→((List UInt8)×(Int)×(List (List UInt8))→Option ρ)→XT ρ→Option ρ)=>∀(R:St→Option ρ) g κ,(∀v0 v1 v2,R (aT p0 p1 β v0 v1 v2)=g (v0,v1,v2))→∀v0 v1 v2,go P hints sR b50 QI.1 (aT p0 p1 β v0 v1 v2) (kLp R κ)=Φ v0 v1 v2 g κ) _ _
def dA(β:Bool)(κ:XT ρ)(v0:List UInt8)(v1:Int)(v2:List (List UInt8)):=aj (κ:=κ) (Φ:=fun v k=>(bC p0 p1 (ρ:=ρ)).f β v.1 v.2.1 v.2.2 k κ) QI.2 (S:=fun v=>aT p0 p1 β v.1 v.2.1 v.2.2) (by intro R g hR v;exact(bC p0 p1 (ρ:=ρ)).ok β R g κ (fun v0 v1 v2=>hR (v0,v1,v2)) v.1 v.2.1 v.2.2) (v0,v1,v2)
end
@[go_sem] def l6:=wl (dA z0 z12 true η z14 z1 z24)
def eE(a0:List UInt8):=mkF (p:=fun β (κ:KT ρ) (g:(List (List UInt8))→Option ρ)=>∀y0_0,κ ([.d (.sl false (List.map eS y0_0))],[])=g y0_0) (ds:=fun β=>[eS a0,eS ([32]:List UInt8)]) aeS (fun _=>rfl) _
def eF(a0:List UInt8)(g0):=(eE (ρ:=ρ) a0).1 g0
@[go_sem] def E2:=wk (eF (ρ:=ρ) z14) ((eE z14).2 true κ _ (fun _=>rfl))
section
variable(p0:List (List UInt8))(p1:Int)
@[go_sem] def eA(β:Bool)(n0:Nat)(v0:Int)(v1:List (GStep)):St:=⟨[(7,.bor (.l 7 0) [] 0 n0),(25,.d (.sl false (List.map eS p0))),(26,.d (.int IntKind.i64 p1)),(27,.d (.int IntKind.i64 v0))],[((7,0),.own (tl cf v1))],[]⟩
@[go_sem] def l7:=mkL (p:=fun β (Φ:Int→(List (GStep))→((Int)×(List (GStep))→Option ρ)→XT ρ→Option ρ)=>∀(R:St→Option ρ) g κ,(∀n0 v0 v1,n0=List.length v1→R (eA p0 p1 β n0 v0 v1)=g (v0,v1))→∀v0 v1,go P hints sP b19 Qz.1 (eA p0 p1 β (List.length v1) v0 v1) (kLp R κ)=Φ v0 v1 g κ) _ _
def uK(β:Bool)(κ:XT ρ)(n0:Nat)(v0:Int)(v1:List (GStep))(hn0:n0=List.length v1):=ql (S:=fun n0=>eA p0 p1 β n0 v0 v1) hn0 (aj (κ:=κ) (Φ:=fun v k=>(l7 p0 p1 (ρ:=ρ)).f β v.1 v.2 k κ) Qz.2 (S:=fun v=>eA p0 p1 β (List.length v.2) v.1 v.2) (by intro R g hR v;exact(l7 p0 p1 (ρ:=ρ)).ok β R g κ (fun n0 v0 v1 hn0=>by subst hn0;exact hR (v0,v1)) v.1 v.2) (v0,v1))
end
@[go_sem] def E3:=wl (uK z24 z0 true η 0 z1 [] rfl)
def jR(a0:List UInt8)(a1:List UInt8):=mkF (p:=fun β (κ:KT ρ) (g:(List GStep)→Bool→Option ρ)=>(∀(y0_0:List GStep) (y0_1:Bool),κ ([.d (.sl false (List.map cf y0_0)),.d (.bool y0_1)],[])=g y0_0 y0_1)∧(∀(y0_1:Bool),κ ([.d (.sl false (List.map cf ([]:List GStep))),.d (.bool y0_1)],[])=g ([]:List GStep) y0_1)) (ds:=fun β=>[eS a0,eS a1]) aeP (fun _=>rfl) _
def jS(a0:List UInt8)(a1:List UInt8)(g0):=(jR (ρ:=ρ) a0 a1).1 g0
@[go_sem] def Mz:=wk (jS (ρ:=ρ) z14 z20) ((jR z14 z20).2 true κ _ ⟨(fun _ _=>rfl),(fun _=>rfl)⟩)
@[go_sem] theorem ahc{ρ:Type}{env:List (Nat×SV)}{ct:List ((Nat×Nat)×T)}{H:List Ob}{κ:Ex×St→Option ρ}:cX P hints uu b7 0 ⟨env,ct,H⟩ κ=go P hints uu b7 XB.1 ⟨env,ct,H⟩ (kLp (fun s=>cX P hints uu b7 0 s κ) κ):=ap XB.2
def jT(a0:List UInt8):=mkF (p:=fun β (κ:KT ρ) (g:(List GStep)→(List GStep)→Int→Int→Option ρ)=>(∀(y0_0:List GStep) (y0_1:List GStep) (y0_2:Int) (y0_3:Int),κ ([.d (.agg [.sl false (List.map cf y0_0),.sl false (List.map cf y0_1)]),.d (.int IntKind.i64 y0_2),.d (.int IntKind.i64 y0_3)],[])=g y0_0 y0_1 y0_2 y0_3)∧(∀(y0_2:Int) (y0_3:Int),κ ([.d (.agg [.sl false (List.map cf ([]:List GStep)),.sl false (List.map cf ([]:List GStep))]),.d (.int IntKind.i64 y0_2),.d (.int IntKind.i64 y0_3)],[])=g ([]:List GStep) ([]:List GStep) y0_2 y0_3)) (ds:=fun β=>[eS a0]) ge7 (fun _=>rfl) _
def eg(a0:List UInt8)(g0):=(jT (ρ:=ρ) a0).1 g0
@[go_sem] def MA:=wk (eg (ρ:=ρ) z14) ((jT z14).2 true κ _ ⟨(fun _ _ _ _=>rfl),(fun _ _=>rfl)⟩)
end
abbrev w64(n:Int):Int:=IntKind.i64.wrap n
def eR(n:Int)(s:GScope):Bool:=decide (0≤n)&&decide (n≤(s.Scalars.length:Int))
def kOf(n:Int):Int:=if n=0 then 0 else w64 (1+n)
def bJ(l:List GVar)(n:Int)(s:GScope):Option GVar:=
 if 0≤n then(l[n.toNat]?).bind fun v=>if(eR v.Scalar s&&eR v.Over s)=true then some v else none else none
def HU(n:Int):Int×Int:=if -1048576≤n∧n≤1048576 then(0,0)else(0,10)
def nR(x:GNode)(s:GScope):Int×Int:=
 if x.Op=5 then(if 1≤s.Self∧s.Self≤(s.Scalars.length:Int)then(w64 (1+s.Self),0)else(0,8))
 else if x.Op=6 then(if 0≤x.N then match s.Chans[x.N.toNat]? with |some c=>if eR c.Scalar s=true then(0,0)else(0,8) |none=>(0,8)else(0,8))
 else if x.Op=7 then(if 0≤x.N∧w64 (Int.tdiv x.N 16)<(s.Procs.length:Int)then match s.Procs[(w64 (Int.tdiv x.N 16)).toNat]? with |some p=>if Int.tmod x.N 16<p.Locs then(0,0)else(0,8) |none=>(0,8)else(0,8))
 else if x.Op=8 then(if 0≤x.N∧x.N<(s.Scalars.length:Int)then(w64 (2+x.N),0)else(0,8))
 else(0,8)
def Dq:Option GVar→Int×Int
 |some v=>if v.Over=0 then(kOf v.Scalar,0)else(0,9)
 |none=>(0,8)
def Ak(x:GNode)(s:GScope):Int×Int:=
 if x.Op=1 then HU x.N
 else if x.Op=2 then Dq (bJ s.Vars x.N s)
 else if x.Op=4 then Dq (bJ s.Locals x.N s)
 else nR x s
def F9(x:GNode)(k:Int)(s:GScope):Int×Int:=
 match bJ s.Vars x.N s with |some v=>if v.Over=0 then(0,9)else if k=w64 (1+v.Over)then(kOf v.Scalar,0)else(0,9) |none=>(0,8)
section
variable{ρ:Type}{s:GScope}
theorem K4{n:Int}{g:Int→Bool→Option ρ}:js n s g=if eR n s=true then g (kOf n) true else g 0 false:=by
 simp only[js,jr,mkF,eR,kOf]
 by_cases h0:n=0
 ·subst h0;simp
 ·by_cases h1:n<0
  ·simp[h0,h1,show¬(0≤n)by omega]
  ·by_cases h2:(s.Scalars.length:Int)<n
   ·simp[h0,h1,h2,show¬(n≤(s.Scalars.length:Int))by omega]
   ·simp[h0,h1,h2,show 0≤n by omega,show n≤(s.Scalars.length:Int)by omega]
theorem Rw(hs:s.Scalars.length≤1000){n:Int}(h:eR n s=true):kOf n=0↔n=0:=by
 simp only[eR,xA,yD]at h
 unfold kOf;split
 ·simp_all
 ·rename_i h0
  unfold w64;rw[ef (by omega) (by omega)]
  omega
theorem Ga{l:List GVar}{n:Int}{g:Int→Int→Bool→Option ρ}{e:Option ρ}(he:∀a b,g a b false=e):ez l n s g=match bJ l n s with |some v=>g (kOf v.Scalar) (kOf v.Over) true |none=>e:=by
 simp only[ez,gF,mkF,bJ,K4]
 by_cases h0:n<0
 ·simp[h0,show¬(0≤n)by omega,he]
 ·by_cases h1:(l.length:Int)≤n
  ·have:l[n.toNat]? =none:=List.getElem?_eq_none (by omega)
   simp[h0,h1,this,he,show 0≤n by omega]
  ·have hlt:n.toNat<l.length:=by omega
   simp only[h0,h1,if_false,show 0≤n by omega,if_true,xG hlt,xS]
   cases ha:eR l[n.toNat].Scalar s <;>cases hb:eR l[n.toNat].Over s <;>simp[he]
theorem K5{n:Int}(h0:0≤n)(hn:n≤9223372036854775807):0≤w64 (Int.tdiv n 16):=by
 unfold w64;rw[Int.tdiv_eq_ediv_of_nonneg h0,ef (by omega) (by omega)]
 omega
theorem HV{x:GNode}(hN:x.N≤9223372036854775807){g:Int→Int→Option ρ}:kW x s g=g (nR x s).1 (nR x s).2:=by
 simp only[kW,kV,mkF,nR,K4]
 by_cases h5:x.Op=5
 ·simp only[h5,if_true]
  by_cases a:1≤s.Self <;>by_cases b:s.Self≤(s.Scalars.length:Int) <;>simp[a,b]
 simp only[h5,if_false]
 by_cases h6:x.Op=6
 ·simp only[h6,if_true]
  by_cases a:0≤x.N
  ·by_cases b:x.N<(s.Chans.length:Int)
   ·have hlt:x.N.toNat<s.Chans.length:=by omega
    simp only[a,b,if_true,xG hlt,xS]
    cases eR s.Chans[x.N.toNat].Scalar s <;>simp
   ·have:s.Chans[x.N.toNat]? =none:=List.getElem?_eq_none (by omega)
    simp[a,b,this]
  ·simp[a]
 simp only[h6,if_false]
 by_cases h7:x.Op=7
 ·simp only[h7,if_true]
  by_cases a:0≤x.N
  ·by_cases b:w64 (Int.tdiv x.N 16)<(s.Procs.length:Int)
   ·have hq:0≤w64 (Int.tdiv x.N 16):=K5 a hN
    have hlt:(w64 (Int.tdiv x.N 16)).toNat<s.Procs.length:=by omega
    simp only[a,b,and_self,if_true,hq,xG hlt,xS]
    by_cases c:Int.tmod x.N 16<s.Procs[(w64 (Int.tdiv x.N 16)).toNat].Locs <;>simp[c]
   ·simp[a,b]
  ·simp[a]
 simp only[h7,if_false]
 by_cases h8:x.Op=8
 ·simp only[h8,if_true]
  by_cases a:0≤x.N <;>by_cases b:x.N<(s.Scalars.length:Int) <;>simp[a,b]
 simp[h8]
theorem Al{l:List Int}(hl:l.length≤1000){g:Bool→Option ρ}:gW l g=g (l.all fun n=>decide (-1048576≤n)&&decide (n≤1048576)):=by
 simp only[gW,gV,mkF]
 refine(iterC_all l.length (fun i:Nat=>(i:Int)) (fun i=>match l[i]? with |some n=>decide (-1048576≤n)&&decide (n≤1048576) |none=>true) (g false) (g true) (fun i k hi=> ?_) (fun k=> ?_)).trans ?_
 ·rw[if_pos (by omega),if_pos (by omega),xV,xG hi,xS,aP (by omega)]
  by_cases a:l[i]< -1048576
  ·simp[a,show¬(-1048576≤l[i])by omega]
  ·by_cases b:1048576<l[i]
   ·simp[a,b,show¬(l[i]≤1048576)by omega]
   ·simp[a,b,show -1048576≤l[i]by omega,show l[i]≤1048576 by omega]
 ·rw[if_neg (by omega)]
 ·by_cases h:∀i,i<l.length→(match l[i]? with |some n=>decide (-1048576≤n)&&decide (n≤1048576) |none=>true)=true
  ·rw[if_pos h]
   congr 1;rw[eq_comm,List.all_eq_true]
   intro x hx;obtain⟨i,hi,rfl⟩:=List.mem_iff_getElem.1 hx
   have:=h i hi
   rw[xG hi]at this
   exact this
  ·rw[if_neg h]
   congr 1;rw[eq_comm,List.all_eq_false]
   by_cases hc:∃x∈l,¬(decide (-1048576≤x)&&decide (x≤1048576))=true
   ·exact hc
   ·refine absurd (fun i hi=> ?_) h
    rw[xG hi];exact Classical.not_not.1 fun hn=>hc ⟨_,List.getElem_mem hi,hn⟩
theorem OY{n:Int}{a b:Option ρ}:(s4 n 0 fun _ y=>if y=false then a else b)=if HU n=(0,0)then b else a:=by
 simp only[s4,sZ,mkF,uv,mM,Al (show([n,0]:List Int).length≤1000 by simp),Al (show([w64 (n+0)]:List Int).length≤1000 by simp),HU]
 by_cases h:-1048576≤n∧n≤1048576
 ·have hw:IntKind.i64.wrap (n+0)=n:=by rw[ef (by omega) (by omega)];omega
  simp only[hw];simp[h]
 ·simp only[h,if_false]
  have:(decide (-1048576≤n)&&decide (n≤1048576))=false:=by
   by_cases a:-1048576≤n
   ·by_cases b:n≤1048576
    ·exact absurd ⟨a,b⟩ h
    ·simp[a,b]
   ·simp[a]
  simp[this]
theorem E4{n:Int}{g:Bool→Option ρ}:kY n s g=g (eR n s):=by
 simp only[kY,kX,mkF,eR]
 by_cases h:0≤n <;>simp[h]
theorem rS{n:Int}{g:Int→Option ρ}:lc n g=g (kOf n):=by
 simp only[lc,kZ,mkF,kOf]
 by_cases h:n=0 <;>simp[h]
theorem vV{l:List GVar}{n:Int}{g:List UInt8→Int→Int→Int→Int→Int→Bool→Option ρ}{e:Option ρ}(he:∀a b c d f i,g a b c d f i false=e):fg l n s g=match bJ l n s with |some v=>g v.Name v.Scalar v.Over v.Lo v.Hi v.Init true |none=>e:=by
 simp only[fg,iy,mkF,bJ,E4]
 by_cases h0:n<0
 ·simp[h0,show¬(0≤n)by omega,he]
 ·by_cases h1:(l.length:Int)≤n
  ·have:l[n.toNat]? =none:=List.getElem?_eq_none (by omega)
   simp[h0,h1,this,he,show 0≤n by omega]
  ·have hlt:n.toNat<l.length:=by omega
   simp only[h0,h1,if_false,show 0≤n by omega,if_true,xG hlt,xS]
   cases ha:eR l[n.toNat].Scalar s <;>cases hb:eR l[n.toNat].Over s <;>simp[he]
theorem K6{x:GNode}(hN:x.N≤9223372036854775807)(hop:x.Op=1∨x.Op=2∨x.Op=4∨x.Op=5∨x.Op=6∨x.Op=7∨x.Op=8){g:Int→Int→Option ρ}:qn x s g=g (Ak x s).1 (Ak x s).2:=by
 simp only[qn,qm,mkF,Ak,rS]
 have hv:∀l:List GVar,(fg l x.N s fun y0_0 y0_1 y0_2 y0_3 y0_4 y0_5 y0_6=>if y0_6=false then g 0 8 else if y0_2=0 then g (kOf y0_1) 0 else g 0 9)=g (Dq (bJ l x.N s)).1 (Dq (bJ l x.N s)).2:=fun l=>by
  rw[vV (e:=g 0 8) (fun _ _ _ _ _ _=>by simp)]
  cases bJ l x.N s with
  |none=>rfl
  |some v=>by_cases h:v.Over=0 <;>simp[h,Dq]
 rcases hop with h |h |h |h |h |h |h
 ·simp only[h,if_true,HU]
  by_cases a:x.N< -1048576
  ·simp[a,show¬(-1048576≤x.N)by omega]
  ·by_cases b:1048576<x.N
   ·simp[a,b,show¬(x.N≤1048576)by omega]
   ·simp[a,b,show -1048576≤x.N by omega,show x.N≤1048576 by omega]
 ·simp only[h,if_true,show¬((2:Int)=1)by decide,show¬((2:Int)=4)by decide,if_false]
  exact hv s.Vars
 ·simp only[h,if_true,show¬((4:Int)=1)by decide,show¬((4:Int)=2)by decide,if_false]
  exact hv s.Locals
 ·simp only[h,nR,if_true,show¬((5:Int)=1)by decide,show¬((5:Int)=2)by decide,show¬((5:Int)=4)by decide,if_false]
  by_cases a:s.Self<1
  ·simp[a,show¬(1≤s.Self)by omega]
  ·by_cases b:(s.Scalars.length:Int)<s.Self
   ·simp[a,b,show¬(s.Self≤(s.Scalars.length:Int))by omega]
   ·simp[a,b,show 1≤s.Self by omega,show s.Self≤(s.Scalars.length:Int)by omega]
 ·simp only[h,nR,if_true,show¬((6:Int)=1)by decide,show¬((6:Int)=2)by decide,show¬((6:Int)=4)by decide,show¬((6:Int)=5)by decide,if_false,fX,fW,mkF,E4]
  by_cases a:x.N<0
  ·simp[a,show¬(0≤x.N)by omega]
  ·by_cases b:(s.Chans.length:Int)≤x.N
   ·have:s.Chans[x.N.toNat]? =none:=List.getElem?_eq_none (by omega)
    simp[a,b,this]
   ·have hlt:x.N.toNat<s.Chans.length:=by omega
    simp only[a,b,if_false,show 0≤x.N by omega,if_true,xG hlt,xS]
    cases eR s.Chans[x.N.toNat].Scalar s <;>simp
 ·simp only[h,nR,if_true,show¬((7:Int)=1)by decide,show¬((7:Int)=2)by decide,show¬((7:Int)=4)by decide,show¬((7:Int)=5)by decide,show¬((7:Int)=6)by decide,if_false]
  by_cases a:x.N<0
  ·simp[a,show¬(0≤x.N)by omega]
  ·have h0:0≤x.N:=by omega
   have hq:0≤w64 (Int.tdiv x.N 16):=K5 h0 hN
   by_cases b:(s.Procs.length:Int)≤w64 (Int.tdiv x.N 16)
   ·simp[a,b,h0,show¬(w64 (Int.tdiv x.N 16)<(s.Procs.length:Int))by omega]
   ·have hlt:(w64 (Int.tdiv x.N 16)).toNat<s.Procs.length:=by omega
    simp only[a,b,h0,hq,if_false,if_true,show w64 (Int.tdiv x.N 16)<(s.Procs.length:Int)by omega,and_self,xG hlt,xS]
    by_cases c:s.Procs[(w64 (Int.tdiv x.N 16)).toNat].Locs≤Int.tmod x.N 16
    ·simp[c,show¬(Int.tmod x.N 16<s.Procs[(w64 (Int.tdiv x.N 16)).toNat].Locs)by omega]
    ·simp[c,show Int.tmod x.N 16<s.Procs[(w64 (Int.tdiv x.N 16)).toNat].Locs by omega]
 ·simp only[h,nR,if_true,show¬((8:Int)=1)by decide,show¬((8:Int)=2)by decide,show¬((8:Int)=4)by decide,show¬((8:Int)=5)by decide,show¬((8:Int)=6)by decide,show¬((8:Int)=7)by decide,if_false]
  by_cases a:x.N<0
  ·simp[a,show¬(0≤x.N)by omega]
  ·by_cases b:(s.Scalars.length:Int)≤x.N
   ·simp[a,b,show¬(x.N<(s.Scalars.length:Int))by omega]
   ·simp[a,b,show 0≤x.N by omega,show x.N<(s.Scalars.length:Int)by omega]
end
def cc(op:Int):Int:=if op=3 then 1 else if 1≤op∧op≤8 then 0 else if opH op=true then opP op else -1
def ok29(nt:Int)(l:List Int)(i:Nat):Bool:=(l.drop i).all fun y=>(decide (nt=-1) || decide (y=nt))&&decide (l[0]? =some y)
def ov(op:Int)(l:List Int):Int×Int:=if ok29 (opT op) l 0=true then(opM op,0)else(0,9)
def dH(x:GNode)(s:GScope)(st:List Int):Int×Int:=
 if x.Op=3 then(match st.getLast? with |some k=>F9 x k s |none=>(0,8))
 else if cc x.Op=0 then Ak x s
 else ov x.Op (st.drop (st.length - (cc x.Op).toNat))
def cg(x:GNode)(s:GScope)(st:List Int):Int×List Int:=
 if cc x.Op<0 then(3,st)else if(st.length:Int)<cc x.Op then(4,st)
 else if(dH x s st).2≠0 then((dH x s st).2,st)
 else(if 12<st.length - (cc x.Op).toNat+1 then 12 else 0,st.take (st.length - (cc x.Op).toNat)++[(dH x s st).1])
def eG(s:GScope):List GNode→List Int→Int×List Int
 | [],st=>(0,st)
 |x::r,st=>if(cg x s st).1=0 then eG s r (cg x s st).2 else cg x s st
def dw(e:List GNode)(s:GScope):Int×Int:=
 if 24<e.length then(0,5)else if e=[]then(0,4)
 else if(eG s e []).1≠0 then(0,(eG s e []).1)else if 1<(eG s e []).2.length then(0,5)else((eG s e []).2.headD 0,0)
theorem lG{x:Int}:opH x=true↔9≤x∧x≤19:=by
 simp only[opH,Bool.or_eq_true,yD];omega
theorem yf{x:Int}(h:9≤x∧x≤19):opP x=if x≤10 then 1 else 2:=by
 unfold opP;split
 ·simp_all
 split
 ·simp_all
 by_cases h10:x≤10
 ·omega
 ·rw[if_neg h10]
  repeat' split
  all_goals first |rfl |omega
theorem nS(op:Int):(cc op=-1∧(op<1∨19<op))∨(cc op=0∧1≤op∧op≤8∧op≠3)∨(cc op=1∧(op=3∨op=9∨op=10))∨(cc op=2∧11≤op∧op≤19):=by
 unfold cc
 by_cases h3:op=3
 ·rw[if_pos h3];omega
 rw[if_neg h3]
 by_cases h8:1≤op∧op≤8
 ·rw[if_pos h8];omega
 rw[if_neg h8]
 by_cases hh:opH op=true
 ·rw[if_pos hh]
  have:=lG.1 hh
  rw[yf this]
  split <;>omega
 ·rw[if_neg hh]
  have:¬(9≤op∧op≤19):=fun q=>hh (lG.2 q)
  omega
section
variable{ρ:Type}{s:GScope}
theorem HW{op:Int}{g:Int→Option ρ}:mQ op g=g (cc op):=by
 simp only[mQ,mP,mkF]
 rcases nS op with⟨h,q⟩ |⟨h,q⟩ |⟨h,q⟩ |⟨h,q⟩
 ·rw[h]
  simp only[show¬op=1 by omega,show¬op=2 by omega,show¬op=4 by omega,show¬op=5 by omega,show¬op=6 by omega,show¬op=7 by omega,show¬op=8 by omega,show¬op=3 by omega,show¬op=9 by omega,show¬op=10 by omega,show¬op=11 by omega,show¬op=12 by omega,show¬op=13 by omega,show¬op=14 by omega,show¬op=15 by omega,show¬op=16 by omega,show¬op=17 by omega,show¬op=18 by omega,show¬op=19 by omega,if_false]
 ·rw[h]
  by_cases a1:op=1;· rw[if_pos a1]
  rw[if_neg a1]
  by_cases a2:op=2;· rw[if_pos a2]
  rw[if_neg a2]
  by_cases a4:op=4;· rw[if_pos a4]
  rw[if_neg a4]
  by_cases a5:op=5;· rw[if_pos a5]
  rw[if_neg a5]
  by_cases a6:op=6;· rw[if_pos a6]
  rw[if_neg a6]
  by_cases a7:op=7;· rw[if_pos a7]
  rw[if_neg a7]
  by_cases a8:op=8;· rw[if_pos a8]
  omega
 ·rw[h]
  rcases q with q |q |q <;>subst q <;>simp
 ·rw[h]
  obtain⟨q1,q2⟩:=q
  have:op=11∨op=12∨op=13∨op=14∨op=15∨op=16∨op=17∨op=18∨op=19:=by omega
  rcases this with q |q |q |q |q |q |q |q |q <;>subst q <;>simp
theorem An{x:GNode}{k:Int}:F9 x k s=match bJ s.Vars x.N s with |some v=>if v.Over=0 then(0,9)else if k=w64 (1+v.Over)then(kOf v.Scalar,0)else(0,9) |none=>(0,8):=rfl
theorem HX{x:GNode}(h:x.Op=3){k:Int}{g:Int→Int→Option ρ}:hY x k s g=g (F9 x k s).1 (F9 x k s).2:=by
 simp only[hY,oa,mkF,rS,h,if_true];rw[vV (e:=g 0 8) (fun _ _ _ _ _ _=>by simp),An]
 cases bJ s.Vars x.N s with
 |none=>rfl
 |some v=>
  simp only[Bool.true_eq_false,if_false]
  by_cases a:v.Over=0
  ·simp[a]
  ·by_cases b:k=w64 (1+v.Over)
   ·simp[a,b]
   ·simp[a,b]
theorem Ui{nt k:Int}:ok29 nt [k] 0=(decide (nt=-1) || decide (k=nt)):=by simp[ok29]
theorem Uj{nt a b:Int}:ok29 nt [a,b] 0=((decide (nt=-1) || decide (a=nt))&&decide (a=b)):=by
 simp only[ok29,List.drop_zero,List.all_cons,List.all_nil,yE,xJ,decide_true,Bool.and_true]
 by_cases h:a=b
 ·subst h;simp
 ·simp[h]
theorem OZ{x:GNode}(h:x.Op=9∨x.Op=10){k:Int}{g:Int→Int→Option ρ}:hY x k s g=g (ov x.Op [k]).1 (ov x.Op [k]).2:=by
 simp only[hY,oa,mkF,ov,Ui]
 rcases h with h |h
 ·by_cases a:k=1 <;>simp[h,a,opT,opM]
 ·by_cases a:k=0 <;>simp[h,a,opT,opM]
theorem O1{op:Int}(h:11≤op∧op≤19){a b:Int}{g:Int→Int→Option ρ}:oc op a b g=g (ov op [a,b]).1 (ov op [a,b]).2:=by
 simp only[oc,s5,mkF,ov,Uj]
 have:op=11∨op=12∨op=13∨op=14∨op=15∨op=16∨op=17∨op=18∨op=19:=by omega
 by_cases hab:a=b
 ·subst hab
  rcases this with q |q |q |q |q |q |q |q |q <;>subst q
  ·by_cases c:a=0 <;>simp[c,opT,opM]
  ·by_cases c:a=0 <;>simp[c,opT,opM]
  ·by_cases c:a=0 <;>simp[c,opT,opM]
  ·simp[opT,opM]
  ·simp[opT,opM]
  ·by_cases c:a=0 <;>simp[c,opT,opM]
  ·by_cases c:a=0 <;>simp[c,opT,opM]
  ·by_cases c:a=1 <;>simp[c,opT,opM]
  ·by_cases c:a=1 <;>simp[c,opT,opM]
 ·simp[hab]
end
theorem HY(l:List Int):fx (tl eI l)=true:=by
 induction l with
 |nil=>rfl
 |cons a l ih=>simp only[tl,List.map_cons,fx]at ih ⊢;simpa using ih
def BS{ρ:Type}(g:Int→Int→Option ρ)(p:Int×List Int):Option ρ:=
 if p.1≠0 then g 0 p.1 else if 1<p.2.length then g 0 5 else(p.2[0]?).bind fun a=>g a 0
section
variable{ρ:Type}{s:GScope}
theorem E5{n m:Nat}(h:m≤n)(hn:n<4611686018427387904):IntKind.i64.wrap ((n:Int) - (m:Int))=((n - m:Nat):Int):=by rw[ef (by omega) (by omega)];omega
theorem K7{e:List GNode}(hN:∀x∈e,x.N≤9223372036854775807){g:Int→Int→Option ρ}:iz e s g=if 24<e.length then g 0 5 else if e=[]then g 0 4 else BS g (eG s e []):=by
 simp only[iz,ld,mkF]
 by_cases h24:24<e.length
 ·rw[if_pos (by omega),if_pos h24]
 rw[if_neg (by omega),if_neg h24]
 by_cases he:e=[]
 ·rw[if_pos he,if_pos he]
 rw[if_neg he,if_neg he];refine ir (fun v:Int×List Int=>∃i:Nat,v.1=i∧i≤e.length∧v.2.length≤12) (fun v=>BS g (eG s (e.drop v.1.toNat) v.2)) (fun v=>e.length - v.1.toNat) ?_ (v:=((0:Int),([]:List Int))) ⟨0,rfl,Nat.zero_le _,by simp⟩ |>.trans (by simp)
 rintro⟨i,st⟩ k ⟨n,hi,hn,hst⟩ hk
 simp only at hi hst hn ⊢
 subst hi
 by_cases hlt:n<e.length
 ·rw[if_pos (by omega),if_pos (by omega),xV,xG hlt,xS,xW hlt,eG]
  have hk':∀st':List Int,st'.length≤12→k (w64 ((n:Int)+1),st')=BS g (eG s (e.drop (n+1)) st'):=fun st' h'=>by
   have e1:w64 ((n:Int)+1)=((n+1:Nat):Int):=aP (by omega)
   rw[e1];exact hk (((n+1:Nat):Int),st') ⟨n+1,rfl,by omega,h'⟩ (by simp only[xV];omega)
  have hx:=hN e[n] (List.getElem_mem hlt)
  revert hk'
  generalize e[n]=x at hx ⊢
  intro hk';simp only[HW];have bad:∀(y:Int) (st':List Int),y≠0→BS g (if(y,st').1=0 then eG s (e.drop (n+1)) (y,st').2 else(y,st'))=g 0 y:=fun y st' hy=>by simp[hy,BS]
  have fin:∀(m:Nat) (r:Int×Int),cc x.Op=(m:Int)→m≤st.length→m≤2→dH x s st=r→
    (if r.2=0 then if((st.length - m:Nat):Int)≤(st.length:Int)then if fx (tl eI (List.take (st.length - m) st))=true then if min (st.length - m) st.length * 8≤140737488355328∧min (st.length - m) st.length≤9223372036854775807 then if(min (st.length - m) st.length+1) * 8≤140737488355328∧min (st.length - m) st.length≤9223372036854775806 then
     if(12:Int)<((min (st.length - m) st.length:Nat):Int)+1 then g 0 12 else k (w64 ((n:Int)+1),List.take (min (st.length - m) st.length) (List.take (st.length - m) st)++[r.1])else none else none else none else none else g 0 r.2)=
     BS g (if(cg x s st).1=0 then eG s (e.drop (n+1)) (cg x s st).2 else cg x s st):=by
   intro m r ht hm hm2 hr
   have e1:cg x s st=if r.2≠0 then(r.2,st)else(if 12<st.length - m+1 then 12 else 0,st.take (st.length - m)++[r.1]):=by
    unfold cg;rw[ht,if_neg (by omega),if_neg (by omega),hr,xV]
   rw[e1]
   by_cases hr0:r.2=0
   ·have hpl:fx (tl eI (List.take (st.length - m) st))=true:=HY _
    have hmin:min (st.length - m) st.length=st.length - m:=by omega
    simp only[hr0,if_true,hpl,hmin,List.take_take,Nat.min_self];rw[if_pos (by omega),if_pos ⟨by omega,by omega⟩,if_pos ⟨by omega,by omega⟩]
    by_cases h12:12<st.length - m+1
    ·rw[if_pos (by omega)]
     simp[h12,BS]
    ·rw[if_neg (by omega),hk' _ (by simp;omega)]
     simp[h12]
   ·rw[if_neg hr0,if_pos hr0]
    exact(bad _ _ hr0).symm
  rcases nS x.Op with⟨h,q⟩ |⟨h,q⟩ |⟨h,q⟩ |⟨h,q⟩
  ·rw[h,if_pos (by omega),show cg x s st=(3,st)by unfold cg;rw[h,if_pos (by omega)]]
   exact(bad 3 st (by decide)).symm
  ·have h0:cc x.Op=((0:Nat):Int):=h
   have hop:x.Op=1∨x.Op=2∨x.Op=4∨x.Op=5∨x.Op=6∨x.Op=7∨x.Op=8:=by omega
   have hr:dH x s st=Ak x s:=by unfold dH;rw[if_neg q.2.2,if_pos h]
   have:=fin 0 _ h0 (Nat.zero_le _) (by omega) hr
   rw[←this];have hw0:IntKind.i64.wrap ((st.length:Int) - 0)=((st.length - 0:Nat):Int):=E5 (m:=0) (by omega) (by omega)
   simp only[h,hw0,show(0:Int)≤((st.length - 0:Nat):Int)by omega,show¬((0:Int)<0)by omega,show¬((st.length:Int)<0)by omega,show¬((0:Int)=1)by omega,show¬((0:Int)=2)by omega,if_false,if_true,K6 hx hop,xV,xG hlt,xS]
   rfl
  ·have h1:cc x.Op=((1:Nat):Int):=h
   by_cases hs:st.length<1
   ·rw[h,if_neg (by omega),if_pos (by omega),show cg x s st=(4,st)by unfold cg;rw[h,if_neg (by omega),if_pos (by omega)]]
    exact(bad 4 st (by decide)).symm
   have hi1:st.length - 1<st.length:=by omega
   have hlast:st.getLast? =some st[st.length - 1]:=by rw[List.getLast?_eq_getElem?,xG hi1]
   have hone:∀g':Int→Int→Option ρ,hY x st[st.length - 1] s g'=g' (dH x s st).1 (dH x s st).2:=fun g'=>by
    unfold dH
    by_cases h3:x.Op=3
    ·rw[if_pos h3,hlast,HX h3]
    ·rw[if_neg h3,if_neg (by omega),OZ (by omega),h,show st.drop (st.length - (1:Int).toNat)=[st[st.length - 1]]by
      rw[show(1:Int).toNat=1 from rfl,xW hi1,List.drop_eq_nil_of_le (by omega)]]
   have:=fin 1 _ h1 (by omega) (by omega) rfl
   rw[←this];have hw:IntKind.i64.wrap ((st.length:Int) - 1)=((st.length - 1:Nat):Int):=E5 (m:=1) (by omega) (by omega)
   simp only[h,show(0:Int)≤(n:Int)by omega,show¬((1:Int)<0)by omega,show¬((st.length:Int)<1)by omega,show¬((1:Int)=0)by omega,show¬((1:Int)=2)by omega,if_false,if_true,hw,show(0:Int)≤((st.length - 1:Nat):Int)by omega,show((st.length - 1:Nat):Int)<(st.length:Int)by omega,and_self,xV,xG hi1,xS,hone]
  ·have h2:cc x.Op=((2:Nat):Int):=h
   by_cases hs:st.length<2
   ·rw[h,if_neg (by omega),if_pos (by omega),show cg x s st=(4,st)by unfold cg;rw[h,if_neg (by omega),if_pos (by omega)]]
    exact(bad 4 st (by decide)).symm
   have hi1:st.length - 1<st.length:=by omega
   have hi2:st.length - 2<st.length:=by omega
   have htwo:∀g':Int→Int→Option ρ,oc x.Op st[st.length - 2] st[st.length - 1] g'=g' (dH x s st).1 (dH x s st).2:=fun g'=>by
    unfold dH
    rw[if_neg (by omega),if_neg (by omega),O1 q,h,show st.drop (st.length - (2:Int).toNat)=[st[st.length - 2],st[st.length - 1]]by
     rw[show(2:Int).toNat=2 from rfl,xW hi2,xW (by omega),List.drop_eq_nil_of_le (by omega)]
     simp only[show st.length - 2+1=st.length - 1 by omega]]
   have:=fin 2 _ h2 (by omega) (by omega) rfl
   rw[←this];have hw:IntKind.i64.wrap ((st.length:Int) - 1)=((st.length - 1:Nat):Int):=E5 (m:=1) (by omega) (by omega)
   have hw2:IntKind.i64.wrap ((st.length:Int) - 2)=((st.length - 2:Nat):Int):=E5 (m:=2) (by omega) (by omega)
   simp only[h,show(0:Int)≤(n:Int)by omega,show¬((2:Int)<0)by omega,show¬((st.length:Int)<2)by omega,show¬((2:Int)=0)by omega,show¬((2:Int)=1)by omega,if_false,if_true,hw,hw2,show(0:Int)≤((st.length - 1:Nat):Int)by omega,show((st.length - 1:Nat):Int)<(st.length:Int)by omega,show(0:Int)≤((st.length - 2:Nat):Int)by omega,show((st.length - 2:Nat):Int)<(st.length:Int)by omega,and_self,xV,xG hi1,xG hi2,xS,htwo]
 ·have hne:n=e.length:=by omega
  subst hne;rw[if_neg (by omega),xV,List.drop_length,eG,BS]
  by_cases h1:1<st.length
  ·rw[if_pos (by omega)];simp[h1]
  ·rw[if_neg (by omega)]
   simp only[ne_eq,not_true_eq_false,if_false,h1]
   by_cases h0:0<st.length
   ·simp[h0]
   ·have:st=[]:=yL (by omega)
    subst this
    simp
end
set_option maxHeartbeats 4000000
noncomputable section
def FK1(x0 x1:Int)(p2:List GScalar)(p3:List GVar)(p4:List GChan)(p5:List GProc)(p6:List GVar)(p7:Int)(st:List Int){ρ:Type}:
  {Φ:(Int→Int→Option ρ)→Option ρ // ∀(β:Bool) (κ:List T×List Ob→Option ρ) (g:Int→Int→Option ρ),(∀y0 y1,κ ([.d (.int IntKind.i64 y0),.d (.int IntKind.i64 y1)],[Ob.box (.d (.agg [.sl β (List.map ae p2),.sl β (List.map aq p3),.sl β (List.map ay p4),.sl β (List.map (au β) p5),.sl β (List.map aq p6),.int IntKind.i64 p7])),.box (.agg [.own (tl eI st),.d (.map (3))]),.box (.d (.ptr (1))),.map (opsL),.box (.d (.fn (Fn.func 202) [] [])),.box (.d (.fn (Fn.func 203) [] [])),.box (.d (.fn (Fn.func 204) [] [])),.box (.d (.fn (Fn.func 205) [] [])),.box (.d (.fn (Fn.func 206) [] [])),.box (.d (.fn (Fn.func 207) [] []))])=g y0 y1)→
   cbK (call 130 [.agg [.int .i64 x0,.int .i64 x1],.ptr 2,.ptr 0] ([Ob.box (.d (.agg [.sl β (List.map ae p2),.sl β (List.map aq p3),.sl β (List.map ay p4),.sl β (List.map (au β) p5),.sl β (List.map aq p6),.int IntKind.i64 p7])),.box (.agg [.own (tl eI st),.d (.map (3))]),.box (.d (.ptr (1))),.map (opsL),.box (.d (.fn (Fn.func 202) [] [])),.box (.d (.fn (Fn.func 203) [] [])),.box (.d (.fn (Fn.func 204) [] [])),.box (.d (.fn (Fn.func 205) [] [])),.box (.d (.fn (Fn.func 206) [] [])),.box (.d (.fn (Fn.func 207) [] []))])) κ=Φ g}:=by
 refine⟨?Φ,?h⟩
 case h=>
  intro β κ g hg
  refine(Y0 _ _ _ rfl).trans ?_
  try simp only[go_sem]at hg
  refine Dm fun r hr=> ?_
  cases β
  all_goals (simp -implicitDefEqProofs (maxSteps:=1000000) [go_sem,hg,Y3,ZD,-List.map_append,-List.map_take,-List.map_drop,-List.map_set];exact hr)
def fK1(x0 x1:Int)(p2:List GScalar)(p3:List GVar)(p4:List GChan)(p5:List GProc)(p6:List GVar)(p7:Int)(st:List Int){ρ:Type}(g:Int→Int→Option ρ):Option ρ:=(FK1 x0 x1 p2 p3 p4 p5 p6 p7 st).1 g
@[go_sem] theorem WK1(x0 x1:Int)(p2:List GScalar)(p3:List GVar)(p4:List GChan)(p5:List GProc)(p6:List GVar)(p7:Int)(st:List Int){ρ:Type}(β:Bool)(κ:List T×List Ob→Option ρ):
   cbK (call 130 [.agg [.int .i64 x0,.int .i64 x1],.ptr 2,.ptr 0] ([Ob.box (.d (.agg [.sl β (List.map ae p2),.sl β (List.map aq p3),.sl β (List.map ay p4),.sl β (List.map (au β) p5),.sl β (List.map aq p6),.int IntKind.i64 p7])),.box (.agg [.own (tl eI st),.d (.map (3))]),.box (.d (.ptr (1))),.map (opsL),.box (.d (.fn (Fn.func 202) [] [])),.box (.d (.fn (Fn.func 203) [] [])),.box (.d (.fn (Fn.func 204) [] [])),.box (.d (.fn (Fn.func 205) [] [])),.box (.d (.fn (Fn.func 206) [] [])),.box (.d (.fn (Fn.func 207) [] []))])) κ=fK1 x0 x1 p2 p3 p4 p5 p6 p7 st fun y0 y1=>κ ([.d (.int IntKind.i64 y0),.d (.int IntKind.i64 y1)],[Ob.box (.d (.agg [.sl β (List.map ae p2),.sl β (List.map aq p3),.sl β (List.map ay p4),.sl β (List.map (au β) p5),.sl β (List.map aq p6),.int IntKind.i64 p7])),.box (.agg [.own (tl eI st),.d (.map (3))]),.box (.d (.ptr (1))),.map (opsL),.box (.d (.fn (Fn.func 202) [] [])),.box (.d (.fn (Fn.func 203) [] [])),.box (.d (.fn (Fn.func 204) [] [])),.box (.d (.fn (Fn.func 205) [] [])),.box (.d (.fn (Fn.func 206) [] [])),.box (.d (.fn (Fn.func 207) [] []))]):=
 (FK1 x0 x1 p2 p3 p4 p5 p6 p7 st).2 β κ _ fun _ _=>rfl
theorem K8{nt:Int}{l:List Int}{i:Nat}(h:l.length≤i):ok29 nt l i=true:=by simp[ok29,List.drop_eq_nil_of_le h]
theorem O2{nt:Int}{l:List Int}{i:Nat}(h:i<l.length):ok29 nt l i=((decide (nt=-1) || decide (l[i]=nt))&&decide (l[0]? =some l[i])&&ok29 nt l (i+1)):=by
 simp only[ok29,xW h,List.all_cons]
theorem K9{ρ:Type}(np nt nm:Int)(l:List Int)(fn:Nat)(cp:List D)(c:Bool)(H:List Ob)(κ:Ex×St→Option ρ)(i:Int):
  cX P hints gT EZ 0 ((⟨[(1,SV.d (D.sl c (List.map eI l))),(2,SV.loc (Root.l 2 0) [] 0 0),(8,SV.d (D.sl c (List.map eI l))),(9,SV.d (D.int IntKind.i64 (List.length l))),(10,SV.d (D.int IntKind.i64 i))],[((2,0),T.own [T.d (D.agg [D.int IntKind.i64 np,D.int IntKind.i64 nt,D.int IntKind.i64 nm,D.fn (Fn.func fn) [] cp])])],H⟩:St)) κ=if i<(l.length:Int)then(if 0≤i then(l[i.toNat]?).bind fun y=>if nt=-1 then(l[0]?).bind fun y1=>if y=y1 then cX P hints gT EZ 0 ((⟨[(1,SV.d (D.sl c (List.map eI l))),(2,SV.loc (Root.l 2 0) [] 0 0),(8,SV.d (D.sl c (List.map eI l))),(9,SV.d (D.int IntKind.i64 (List.length l))),(10,SV.d (D.int IntKind.i64 (IntKind.i64.wrap (i+1))))],[((2,0),T.own [T.d (D.agg [D.int IntKind.i64 np,D.int IntKind.i64 nt,D.int IntKind.i64 nm,D.fn (Fn.func fn) [] cp])])],H⟩:St)) κ else κ (.ret,⟨[(4,.d (.int .i64 0)),(5,.d (.int .i64 9))],[],H⟩)else if y=nt then(l[0]?).bind fun y1=>if y=y1 then cX P hints gT EZ 0 ((⟨[(1,SV.d (D.sl c (List.map eI l))),(2,SV.loc (Root.l 2 0) [] 0 0),(8,SV.d (D.sl c (List.map eI l))),(9,SV.d (D.int IntKind.i64 (List.length l))),(10,SV.d (D.int IntKind.i64 (IntKind.i64.wrap (i+1))))],[((2,0),T.own [T.d (D.agg [D.int IntKind.i64 np,D.int IntKind.i64 nt,D.int IntKind.i64 nm,D.fn (Fn.func fn) [] cp])])],H⟩:St)) κ else κ (.ret,⟨[(4,.d (.int .i64 0)),(5,.d (.int .i64 9))],[],H⟩)else κ (.ret,⟨[(4,.d (.int .i64 0)),(5,.d (.int .i64 9))],[],H⟩)else none)
   else κ (.exit 0,⟨[(1,SV.d (D.sl c (List.map eI l))),(2,SV.loc (Root.l 2 0) [] 0 0),(8,SV.d (D.sl c (List.map eI l))),(9,SV.d (D.int IntKind.i64 (List.length l))),(10,SV.d (D.int IntKind.i64 i)),(11,SV.d (D.bool false))],[((2,0),T.own [T.d (D.agg [D.int IntKind.i64 np,D.int IntKind.i64 nt,D.int IntKind.i64 nm,D.fn (Fn.func fn) [] cp])])],H⟩):=by
 refine(ap TI.2).trans ?_
 simp -implicitDefEqProofs (maxSteps:=1000000) [go_sem,-List.map_append,-List.map_take,-List.map_drop,-List.map_set]
theorem afz{ρ:Type}(np nt nm:Int)(l:List Int)(hl:l.length≤1000)(fn:Nat)(cp:List D)(c:Bool)(H:List Ob)(κ:Ex×St→Option ρ):∀(n i:Nat),l.length - i=n→i≤l.length→
  cX P hints gT EZ 0 ((⟨[(1,SV.d (D.sl c (List.map eI l))),(2,SV.loc (Root.l 2 0) [] 0 0),(8,SV.d (D.sl c (List.map eI l))),(9,SV.d (D.int IntKind.i64 (List.length l))),(10,SV.d (D.int IntKind.i64 i))],[((2,0),T.own [T.d (D.agg [D.int IntKind.i64 np,D.int IntKind.i64 nt,D.int IntKind.i64 nm,D.fn (Fn.func fn) [] cp])])],H⟩:St)) κ=if ok29 nt l i=true then κ (.exit 0,⟨[(1,SV.d (D.sl c (List.map eI l))),(2,SV.loc (Root.l 2 0) [] 0 0),(8,SV.d (D.sl c (List.map eI l))),(9,SV.d (D.int IntKind.i64 (List.length l))),(10,SV.d (D.int IntKind.i64 (List.length l))),(11,SV.d (D.bool false))],[((2,0),T.own [T.d (D.agg [D.int IntKind.i64 np,D.int IntKind.i64 nt,D.int IntKind.i64 nm,D.fn (Fn.func fn) [] cp])])],H⟩)else κ (.ret,⟨[(4,.d (.int .i64 0)),(5,.d (.int .i64 9))],[],H⟩):=by
 intro n
 induction n with
 |zero=>
  intro i hn hi
  obtain rfl:i=l.length:=by omega
  rw[K9,if_neg (by omega),K8 (Nat.le_refl _),if_pos rfl]
 |succ n ih=>
  intro i hn hi;have hlt:i<l.length:=by omega
  have hw:IntKind.i64.wrap ((i:Int)+1)=((i+1:Nat):Int):=by exact aP (by omega)
  rw[K9,if_pos (by omega),if_pos (by omega),xV,xG hlt,xS,hw,ih (i+1) (by omega) (by omega),O2 hlt,xG (Nat.lt_of_le_of_lt (Nat.zero_le _) hlt),xS]
  simp only[xJ]
  by_cases h1:nt=-1
  ·simp only[h1,decide_true,Bool.true_or,Bool.true_and,if_true]
   by_cases h2:l[0]=l[i]
   ·simp[h2]
   ·simp[h2,Ne.symm h2,eq_comm]
  ·simp only[h1,decide_false,Bool.false_or,if_false]
   by_cases h2:l[i]=nt
   ·rw[if_pos h2]
    by_cases h3:l[i]=l[0]
    ·rw[if_pos h3];simp only[h2,decide_true,Bool.true_and,show(l[0]=l[i])from h3.symm]
    ·rw[if_neg h3];simp only[show¬(l[0]=l[i])from fun e=>h3 e.symm,decide_false,Bool.and_false,Bool.false_and,xH,if_false]
   ·rw[if_neg h2];simp only[h2,decide_false,Bool.false_and,xH,if_false]
def x29{ρ:Type}(np nt nm:Int)(l:List Int)(fn:Nat)(cp:List D)(c:Bool)(H:List Ob)(κ:List T×List Ob→Option ρ):Option ρ:=cbK (call 132 [.agg [.int .i64 np,.int .i64 nt,.int .i64 nm,.fn (.func fn) [] cp],.sl c (List.map eI l)] H) κ
theorem W29{ρ:Type}(np nt nm:Int)(l:List Int)(fn:Nat)(cp:List D)(c:Bool)(H:List Ob)(κ:List T×List Ob→Option ρ):cbK (call 132 [.agg [.int .i64 np,.int .i64 nt,.int .i64 nm,.fn (.func fn) [] cp],.sl c (List.map eI l)] H) κ=
  if l.length≤1000 then(if ok29 nt l 0=true then κ ([.d (.int .i64 nm),.d (.int .i64 0)],H)else κ ([.d (.int .i64 0),.d (.int .i64 9)],H))else x29 np nt nm l fn cp c H κ:=by
 by_cases hl:l.length≤1000
 ·rw[if_pos hl]
  refine(Y5 _ _ _ rfl).trans ?_
  have h:=fun κ=>afz (ρ:=ρ) np nt nm l hl fn cp c H κ _ 0 rfl (Nat.zero_le _)
  simp only[Int.natCast_zero]at h
  simp -implicitDefEqProofs (maxSteps:=1000000) [go_sem,h,-List.map_append,-List.map_take,-List.map_drop,-List.map_set]
 ·rw[if_neg hl];rfl
attribute [go_sem] W29
attribute [irreducible] x29
theorem lH:(opsL.all fun e=>e.1.imm&&e.2.imm)=true:=rfl
theorem Lb(x0 x1:Int)(s:GScope)(hs:s.Scalars.length≤1000)(hN:x1≤9223372036854775807)(st:List Int)(hst:st.length≤12)(hx:x0=3→st≠[]){ρ:Type}(g:Int→Int→Option ρ)(ht:cc x0=0∨x0=3):
  fK1 x0 x1 s.Scalars s.Vars s.Chans s.Procs s.Locals s.Self st g=g (dH ⟨x0,x1⟩ s st).1 (dH ⟨x0,x1⟩ s st).2:=by
 have hsc:GScope.mk s.Scalars s.Vars s.Chans s.Procs s.Locals s.Self=s:=rfl;simp only[fK1,FK1,hsc,OY,dH]
 rcases ht with ht |ht
 ·have h3:¬x0=3:=fun e=>by subst e;simp[cc]at ht
  simp only[h3,if_false,ht,if_true,Ak]
  have vr:∀l:List GVar,(ez l x1 s fun y0_0 y0_1 y0_2=>if y0_2=false then g 0 8 else if y0_1=0 then g y0_0 0 else g 0 9)=g (Dq (bJ l x1 s)).1 (Dq (bJ l x1 s)).2:=fun l=>by
   rw[Ga (e:=g 0 8) (fun _ _=>by simp)]
   cases hv:bJ l x1 s with
   |none=>rfl
   |some v=>
    have hsv:eR v.Over s=true:=by
     unfold bJ at hv
     split at hv
     ·simp only[xB]at hv
      obtain⟨u,_,hu⟩:=hv
      split at hu
      ·rename_i hb
       simp only[xJ]at hu
       subst hu;simp only[xA]at hb
       exact hb.2
      ·cases hu
     ·cases hv
    simp only[Bool.true_eq_false,if_false,Rw hs hsv,Dq]
    by_cases h:v.Over=0 <;>simp[h]
  by_cases h1:x0=1
  ·simp only[h1,if_true]
   by_cases h:HU x1=(0,0)
   ·simp[h]
   ·rw[if_neg h]
    unfold HU at h ⊢
    split
    ·rename_i q;exact absurd (if_pos q) h
    ·rfl
  ·by_cases h4:x0=4
   ·subst h4
    simpa using vr s.Locals
   ·by_cases h2:x0=2
    ·subst h2
     simpa using vr s.Vars
    ·simp only[h1,h4,h2,if_false]
     exact HV (x:=⟨x0,x1⟩) hN
 ·subst ht
  have hne:=hx rfl;obtain⟨k,hk⟩:∃k,st.getLast? =some k:=by cases h:st.getLast? with |none=>exact absurd (List.getLast?_eq_none_iff.1 h) hne |some k=>exact⟨k,rfl⟩
  have hpos:0<st.length:=List.length_pos_iff.2 hne;have hw:IntKind.i64.wrap ((st.length:Int) - 1)=((st.length - 1:Nat):Int):=E5 (m:=1) (by omega) (by omega)
  have hk':st[st.length - 1]? =some k:=by rw[←List.getLast?_eq_getElem?];exact hk
  simp only[show¬((3:Int)=1)by decide,show¬((3:Int)=4)by decide,show¬((3:Int)=2)by decide,if_false,if_true,hk,An]
  rw[Ga (e:=g 0 8) (fun _ _=>by simp)]
  cases hv:bJ s.Vars x1 s with
  |none=>rfl
  |some v=>
   have hsv:eR v.Over s=true:=by
    unfold bJ at hv
    split at hv
    ·simp only[xB]at hv
     obtain⟨u,_,hu⟩:=hv
     split at hu
     ·rename_i hb
      simp only[xJ]at hu
      subst hu;simp only[xA]at hb
      exact hb.2
     ·cases hu
    ·cases hv
   simp only[Bool.true_eq_false,if_false,Rw hs hsv,hw,xV,hk',xS,show(0:Int)≤((st.length - 1:Nat):Int)by omega,show((st.length - 1:Nat):Int)<(st.length:Int)by omega,and_self,if_true]
   by_cases h:v.Over=0
   ·simp[h]
   ·have hko:kOf v.Over=w64 (1+v.Over):=by simp[kOf,h]
    simp only[h,if_false,hko]
    by_cases hkk:k=w64 (1+v.Over) <;>simp[hkk]
def qF{ρ:Type}(β:Bool)(s:GScope)(κ:List T×List Ob→Option ρ)(p:Int×List Int):Option ρ:=κ ([.d (.int IntKind.i64 p.1)],[Ob.box (.d (.agg [.sl β (List.map ae s.Scalars),.sl β (List.map aq s.Vars),.sl β (List.map ay s.Chans),.sl β (List.map (au β) s.Procs),.sl β (List.map aq s.Locals),.int IntKind.i64 s.Self])),.box (.agg [.own (tl eI p.2),.d (.map (3))]),.box (.d (.ptr (1))),.map (opsL),.box (.d (.fn (Fn.func 202) [] [])),.box (.d (.fn (Fn.func 203) [] [])),.box (.d (.fn (Fn.func 204) [] [])),.box (.d (.fn (Fn.func 205) [] [])),.box (.d (.fn (Fn.func 206) [] [])),.box (.d (.fn (Fn.func 207) [] []))])
set_option maxHeartbeats 8000000 in
theorem abm(β:Bool)(x0 x1:Int)(s:GScope)(st:List Int)(hst:st.length≤12)(m:Nat)(hm:1≤m)(hm2:m≤2)(hP:opP x0=(m:Int))(hx:9≤x0∧x0≤19)(hl:m≤st.length){ρ:Type}(κ:List T×List Ob→Option ρ):
   cbK (call 160 [.ptr 1,.agg [.int .i64 x0,.int .i64 x1],.fn (.func 130) [] [.ptr 2,.ptr 0],.fn (.func 132) [] []] ([Ob.box (.d (.agg [.sl β (List.map ae s.Scalars),.sl β (List.map aq s.Vars),.sl β (List.map ay s.Chans),.sl β (List.map (au β) s.Procs),.sl β (List.map aq s.Locals),.int IntKind.i64 s.Self])),.box (.agg [.own (tl eI st),.d (.map (3))]),.box (.d (.ptr (1))),.map (opsL),.box (.d (.fn (Fn.func 202) [] [])),.box (.d (.fn (Fn.func 203) [] [])),.box (.d (.fn (Fn.func 204) [] [])),.box (.d (.fn (Fn.func 205) [] [])),.box (.d (.fn (Fn.func 206) [] [])),.box (.d (.fn (Fn.func 207) [] []))])) κ=
    qF β s κ (if(ov x0 (st.drop (st.length - m))).2≠0 then((ov x0 (st.drop (st.length - m))).2,st)else(if 12<st.length - m+1 then 12 else 0,st.take (st.length - m)++[(ov x0 (st.drop (st.length - m))).1])):=by
 refine(FY _ _ _ rfl).trans ?_
 have hH:opH x0=true:=lG.2 hx;have e3:¬x0=3:=by omega
 have e8:¬x0≤8:=by omega
 have n0:¬(m:Int)<0:=by omega
 have nl:¬(st.length:Int)<(m:Int):=by omega
 have hw:IntKind.i64.wrap ((st.length:Int) - (m:Int))=((st.length - m:Nat):Int):=E5 hl (by omega)
 have q1:(0:Int)≤((st.length - m:Nat):Int):=by omega
 have q2:((st.length - m:Nat):Int)≤(st.length:Int):=by omega
 have q3:st.length≤1000+(st.length - m):=by omega
 have b1:(st.length - m+1) * 8≤140737488355328:=by omega
 have b2:st.length≤9223372036854775806+m:=by omega
 have hd:st.length - (st.length - m)=m:=by omega
 have q4:m≤1000:=by omega
 have htk:List.take m (List.drop (st.length - m) st)=List.drop (st.length - m) st:=List.take_of_length_le (by simp;omega)
 have h12:¬12<st.length - m+1:=by omega
 have h12':¬(12:Int)<((st.length - m:Nat):Int)+1:=by omega
 by_cases hk:ok29 (opT x0) (st.drop (st.length - m)) 0=true
 ·have hz:ov x0 (st.drop (st.length - m))=(opM x0,0):=by rw[ov,if_pos hk]
  rw[hz]
  cases β <;>simp -implicitDefEqProofs (maxSteps:=1000000) [go_sem,lS,hH,hP,e3,e8,n0,nl,hw,q1,q2,q3,b1,b2,hd,htk,q4,hk,h12,h12',lH,qF,-List.map_append,-List.map_take,-List.map_drop,-List.map_set]
 ·have hz:ov x0 (st.drop (st.length - m))=(0,9):=by rw[ov,if_neg hk]
  rw[hz]
  cases β <;>simp -implicitDefEqProofs (maxSteps:=1000000) [go_sem,lS,hH,hP,e3,e8,n0,nl,hw,q1,q2,q3,b1,b2,hd,htk,q4,hk,h12,h12',lH,qF,-List.map_append,-List.map_take,-List.map_drop,-List.map_set]
set_option maxHeartbeats 8000000 in
theorem afA(β:Bool)(x0 x1:Int)(s:GScope)(hs:s.Scalars.length≤1000)(hN:x1≤9223372036854775807)(st:List Int)(hst:st.length≤12){ρ:Type}(κ:List T×List Ob→Option ρ):
   cbK (call 160 [.ptr 1,.agg [.int .i64 x0,.int .i64 x1],.fn (.func 130) [] [.ptr 2,.ptr 0],.fn (.func 132) [] []] ([Ob.box (.d (.agg [.sl β (List.map ae s.Scalars),.sl β (List.map aq s.Vars),.sl β (List.map ay s.Chans),.sl β (List.map (au β) s.Procs),.sl β (List.map aq s.Locals),.int IntKind.i64 s.Self])),.box (.agg [.own (tl eI st),.d (.map (3))]),.box (.d (.ptr (1))),.map (opsL),.box (.d (.fn (Fn.func 202) [] [])),.box (.d (.fn (Fn.func 203) [] [])),.box (.d (.fn (Fn.func 204) [] [])),.box (.d (.fn (Fn.func 205) [] [])),.box (.d (.fn (Fn.func 206) [] [])),.box (.d (.fn (Fn.func 207) [] []))])) κ=qF β s κ (cg ⟨x0,x1⟩ s st):=by
 refine(FY _ _ _ rfl).trans ?_
 have key:∀n:Nat,n≤st.length→n≤2→IntKind.i64.wrap ((st.length:Int) - (n:Int))=((st.length - n:Nat):Int):=fun n hn h2=>E5 hn (by omega)
 have stp:∀n:Nat,cc x0=(n:Int)→n≤st.length→cg ⟨x0,x1⟩ s st=if(dH ⟨x0,x1⟩ s st).2≠0 then((dH ⟨x0,x1⟩ s st).2,st)else(if 12<st.length - n+1 then 12 else 0,st.take (st.length - n)++[(dH ⟨x0,x1⟩ s st).1]):=fun n ht hn=>by
  unfold cg;rw[ht,if_neg (by omega),if_neg (by omega),xV]
 rcases nS x0 with⟨h,q⟩ |⟨h,q⟩ |⟨h,q⟩ |⟨h,q⟩
 ·-- none
  have hH:¬opH x0=true:=fun hh=>by have:=lG.1 hh;omega
  have e3:¬x0=3:=by omega
  have e18:¬(1≤x0∧x0≤8):=by omega
  have hstep:cg ⟨x0,x1⟩ s st=(3,st):=by unfold cg;rw[h,if_pos (by omega)]
  rw[hstep]
  by_cases e1:1≤x0
  ·have e8:¬x0≤8:=fun q=>e18 ⟨e1,q⟩
   cases β <;>simp -implicitDefEqProofs (maxSteps:=1000000) [go_sem,lS,hH,e3,e1,e8,qF,-List.map_append,-List.map_take,-List.map_drop,-List.map_set]
  ·cases β <;>simp -implicitDefEqProofs (maxSteps:=1000000) [go_sem,lS,hH,e3,e1,qF,-List.map_append,-List.map_take,-List.map_drop,-List.map_set]
 ·-- a leaf
  have hH:¬opH x0=true:=fun hh=>by have:=lG.1 hh;omega
  have hHf:opH x0=false:=by simpa using hH
  have e3:¬x0=3:=by omega
  have e1:1≤x0:=q.1;have e8:x0≤8:=q.2.1;have hw:=key 0 (Nat.zero_le _) (by omega)
  have hw':IntKind.i64.wrap ((st.length:Int))=(st.length:Int):=by simpa using hw
  have hcall:=fun g=>Lb x0 x1 s hs hN st hst (fun e=>absurd e e3) (ρ:=ρ) g (.inl h)
  have n0:¬(st.length:Int)<0:=by omega
  have b1:(st.length+1) * 8≤140737488355328:=by omega
  have b2:st.length≤9223372036854775806:=by omega
  rw[stp 0 h (Nat.zero_le _)]
  by_cases hz:(dH ⟨x0,x1⟩ s st).2=0
  ·by_cases h12:12<st.length+1
   ·have h12':(12:Int)<(st.length:Int)+1:=by omega
    cases β <;>simp -implicitDefEqProofs (maxSteps:=1000000) [go_sem,lS,hH,hHf,e3,e1,e8,hw',hcall,lH,n0,b1,b2,hz,h12,h12',qF,-List.map_append,-List.map_take,-List.map_drop,-List.map_set]
   ·have h12':¬(12:Int)<(st.length:Int)+1:=by omega
    cases β <;>simp -implicitDefEqProofs (maxSteps:=1000000) [go_sem,lS,hH,hHf,e3,e1,e8,hw',hcall,lH,n0,b1,b2,hz,h12,h12',qF,-List.map_append,-List.map_take,-List.map_drop,-List.map_set]
  ·cases β <;>simp -implicitDefEqProofs (maxSteps:=1000000) [go_sem,lS,hH,hHf,e3,e1,e8,hw',hcall,lH,n0,b1,b2,hz,qF,-List.map_append,-List.map_take,-List.map_drop,-List.map_set]
 ·by_cases hlt:st.length<1
  ·have hstep:cg ⟨x0,x1⟩ s st=(4,st):=by unfold cg;rw[h,if_neg (by omega),if_pos (by omega)]
   have hlt':(st.length:Int)<1:=by omega
   rw[hstep]
   rcases q with q |q
   ·cases β <;>simp -implicitDefEqProofs (maxSteps:=1000000) [go_sem,lS,q,hlt',qF,-List.map_append,-List.map_take,-List.map_drop,-List.map_set]
   ·have hH:opH x0=true:=lG.2 (by omega)
    have e3:¬x0=3:=by omega
    have e8:¬x0≤8:=by omega
    have hP:opP x0=1:=by rw[yf (by omega),if_pos (by omega)]
    cases β <;>simp -implicitDefEqProofs (maxSteps:=1000000) [go_sem,lS,hH,hP,e3,e8,hlt',qF,-List.map_append,-List.map_take,-List.map_drop,-List.map_set]
  have n0:¬(st.length:Int)<1:=by omega
  have hw:IntKind.i64.wrap ((st.length:Int) - 1)=((st.length - 1:Nat):Int):=key 1 (by omega) (by omega)
  have q1:(0:Int)≤((st.length - 1:Nat):Int):=by omega
  have q2:((st.length - 1:Nat):Int)≤(st.length:Int):=by omega
  have q3:st.length≤1000+(st.length - 1):=by omega
  have b1:(st.length - 1+1) * 8≤140737488355328:=by omega
  have b2:st.length≤9223372036854775806+1:=by omega
  have b3:st.length≤9223372036854775807:=by omega
  have hd:st.length - (st.length - 1)=1:=by omega
  have h1:cc x0=((1:Nat):Int):=h;rw[stp 1 h1 (by omega)]
  rcases q with q |q
  ·subst q
   have hHf:opH 3=false:=rfl;have hcall:=fun g=>Lb 3 x1 s hs hN st hst (fun _ e=>by subst e;simp at hlt) (ρ:=ρ) g (.inr rfl)
   by_cases hz:(dH ⟨3,x1⟩ s st).2=0
   ·by_cases h12:12<st.length - 1+1
    ·omega
    ·have h12':¬(12:Int)<((st.length - 1:Nat):Int)+1:=by omega
     cases β <;>simp -implicitDefEqProofs (maxSteps:=1000000) [go_sem,lS,hHf,hw,q1,q2,q3,hcall,lH,n0,b1,b2,b3,hd,hz,h12,h12',qF,-List.map_append,-List.map_take,-List.map_drop,-List.map_set]
   ·cases β <;>simp -implicitDefEqProofs (maxSteps:=1000000) [go_sem,lS,hHf,hw,q1,q2,q3,hcall,lH,n0,b1,b2,b3,hd,hz,qF,-List.map_append,-List.map_take,-List.map_drop,-List.map_set]
  ·have hn:dH ⟨x0,x1⟩ s st=ov x0 (st.drop (st.length - 1)):=by
    unfold dH;rw[if_neg (by show¬x0=3;omega),if_neg (by show¬cc x0=0;omega),show(cc x0).toNat=1 by rw[h];rfl]
   rw[hn,←abm β x0 x1 s st hst 1 (by omega) (by omega) (by rw[yf (by omega),if_pos (by omega)];rfl) (by omega) (by omega)]
   exact(FY _ _ _ rfl).symm
 ·by_cases hlt:st.length<2
  ·have hstep:cg ⟨x0,x1⟩ s st=(4,st):=by unfold cg;rw[h,if_neg (by omega),if_pos (by omega)]
   have hlt':(st.length:Int)<2:=by omega
   rw[hstep];have hH:opH x0=true:=lG.2 (by omega)
   have e3:¬x0=3:=by omega
   have e8:¬x0≤8:=by omega
   have hP:opP x0=2:=by rw[yf (by omega),if_neg (by omega)]
   cases β <;>simp -implicitDefEqProofs (maxSteps:=1000000) [go_sem,lS,hH,hP,e3,e8,hlt',qF,-List.map_append,-List.map_take,-List.map_drop,-List.map_set]
  have h2:cc x0=((2:Nat):Int):=h;rw[stp 2 h2 (by omega)]
  have hn:dH ⟨x0,x1⟩ s st=ov x0 (st.drop (st.length - 2)):=by
   unfold dH;rw[if_neg (by show¬x0=3;omega),if_neg (by show¬cc x0=0;omega),show(cc x0).toNat=2 by rw[h];rfl]
  rw[hn,←abm β x0 x1 s st hst 2 (by omega) (by omega) (by rw[yf (by omega),if_neg (by omega)];rfl) (by omega) (by omega)]
  exact(FY _ _ _ rfl).symm
end
noncomputable section
theorem Uk(β:Bool)(e:List GNode)(s:GScope)(hs:s.Scalars.length≤1000)(st:List Int)(hst:st.length≤12)(i:Nat)(hi:i<e.length)(hN:e[i].N≤9223372036854775807)(hlen:e.length≤24){ρ:Type}(κ:Ex×St→Option ρ):cX P hints gR EX 0 ((⟨[(0,.d (.ptr (1))),(2,.d (.fn (Fn.func 130) [] [.ptr (2),.ptr (0)])),(3,.d (.fn (Fn.func 132) [] [])),(25,.d (.sl β (List.map bh e))),(26,.d (.int IntKind.i64 (List.length e))),(27,.d (.int IntKind.i64 (i:Int)))],[],[Ob.box (.d (.agg [.sl β (List.map ae s.Scalars),.sl β (List.map aq s.Vars),.sl β (List.map ay s.Chans),.sl β (List.map (au β) s.Procs),.sl β (List.map aq s.Locals),.int IntKind.i64 s.Self])),.box (.agg [.own (tl eI st),.d (.map (3))]),.box (.d (.ptr (1))),.map (opsL),.box (.d (.fn (Fn.func 202) [] [])),.box (.d (.fn (Fn.func 203) [] [])),.box (.d (.fn (Fn.func 204) [] [])),.box (.d (.fn (Fn.func 205) [] [])),.box (.d (.fn (Fn.func 206) [] [])),.box (.d (.fn (Fn.func 207) [] []))]⟩:St)) κ=
  if(cg e[i] s st).1=0 then cX P hints gR EX 0 ((⟨[(0,.d (.ptr (1))),(2,.d (.fn (Fn.func 130) [] [.ptr (2),.ptr (0)])),(3,.d (.fn (Fn.func 132) [] [])),(25,.d (.sl β (List.map bh e))),(26,.d (.int IntKind.i64 (List.length e))),(27,.d (.int IntKind.i64 ((i+1:Nat):Int)))],[],[Ob.box (.d (.agg [.sl β (List.map ae s.Scalars),.sl β (List.map aq s.Vars),.sl β (List.map ay s.Chans),.sl β (List.map (au β) s.Procs),.sl β (List.map aq s.Locals),.int IntKind.i64 s.Self])),.box (.agg [.own (tl eI ((cg e[i] s st).2)),.d (.map (3))]),.box (.d (.ptr (1))),.map (opsL),.box (.d (.fn (Fn.func 202) [] [])),.box (.d (.fn (Fn.func 203) [] [])),.box (.d (.fn (Fn.func 204) [] [])),.box (.d (.fn (Fn.func 205) [] [])),.box (.d (.fn (Fn.func 206) [] [])),.box (.d (.fn (Fn.func 207) [] []))]⟩:St)) κ else κ (.ret,⟨[(8,SV.d (D.int IntKind.i64 0)),(9,SV.d (D.int IntKind.i64 (cg e[i] s st).1))],[],[Ob.box (.d (.agg [.sl β (List.map ae s.Scalars),.sl β (List.map aq s.Vars),.sl β (List.map ay s.Chans),.sl β (List.map (au β) s.Procs),.sl β (List.map aq s.Locals),.int IntKind.i64 s.Self])),.box (.agg [.own (tl eI ((cg e[i] s st).2)),.d (.map (3))]),.box (.d (.ptr (1))),.map (opsL),.box (.d (.fn (Fn.func 202) [] [])),.box (.d (.fn (Fn.func 203) [] [])),.box (.d (.fn (Fn.func 204) [] [])),.box (.d (.fn (Fn.func 205) [] [])),.box (.d (.fn (Fn.func 206) [] [])),.box (.d (.fn (Fn.func 207) [] []))]⟩):=by
 refine(ap Kj.2).trans ?_
 have hw:IntKind.i64.wrap ((i:Int)+1)=((i+1:Nat):Int):=aP (by omega)
 have h1:(i:Int)<(e.length:Int):=by omega
 have h2:e[i]? =some e[i]:=xG hi;have h60:=fun κ=>afA (ρ:=ρ) β e[i].Op e[i].N s hs hN st hst κ
 cases β <;>simp -implicitDefEqProofs (maxSteps:=1000000) [go_sem,h1,h2,hw,h60,qF,-List.map_append,-List.map_take,-List.map_drop,-List.map_set]
theorem Ul(β:Bool)(e:List GNode)(s:GScope)(st:List Int){ρ:Type}(κ:Ex×St→Option ρ):cX P hints gR EX 0 ((⟨[(0,.d (.ptr (1))),(2,.d (.fn (Fn.func 130) [] [.ptr (2),.ptr (0)])),(3,.d (.fn (Fn.func 132) [] [])),(25,.d (.sl β (List.map bh e))),(26,.d (.int IntKind.i64 (List.length e))),(27,.d (.int IntKind.i64 (e.length:Int)))],[],[Ob.box (.d (.agg [.sl β (List.map ae s.Scalars),.sl β (List.map aq s.Vars),.sl β (List.map ay s.Chans),.sl β (List.map (au β) s.Procs),.sl β (List.map aq s.Locals),.int IntKind.i64 s.Self])),.box (.agg [.own (tl eI st),.d (.map (3))]),.box (.d (.ptr (1))),.map (opsL),.box (.d (.fn (Fn.func 202) [] [])),.box (.d (.fn (Fn.func 203) [] [])),.box (.d (.fn (Fn.func 204) [] [])),.box (.d (.fn (Fn.func 205) [] [])),.box (.d (.fn (Fn.func 206) [] [])),.box (.d (.fn (Fn.func 207) [] []))]⟩:St)) κ=κ (.exit 1,(⟨[(0,.d (.ptr (1))),(2,.d (.fn (Fn.func 130) [] [.ptr (2),.ptr (0)])),(3,.d (.fn (Fn.func 132) [] [])),(25,.d (.sl β (List.map bh e))),(26,.d (.int IntKind.i64 (List.length e))),(27,.d (.int IntKind.i64 (List.length e))),(28,SV.d (D.bool false))],[],[Ob.box (.d (.agg [.sl β (List.map ae s.Scalars),.sl β (List.map aq s.Vars),.sl β (List.map ay s.Chans),.sl β (List.map (au β) s.Procs),.sl β (List.map aq s.Locals),.int IntKind.i64 s.Self])),.box (.agg [.own (tl eI st),.d (.map (3))]),.box (.d (.ptr (1))),.map (opsL),.box (.d (.fn (Fn.func 202) [] [])),.box (.d (.fn (Fn.func 203) [] [])),.box (.d (.fn (Fn.func 204) [] [])),.box (.d (.fn (Fn.func 205) [] [])),.box (.d (.fn (Fn.func 206) [] [])),.box (.d (.fn (Fn.func 207) [] []))]⟩:St)):=by
 refine(ap Kj.2).trans ?_
 cases β <;>simp -implicitDefEqProofs (maxSteps:=1000000) [go_sem,-List.map_append,-List.map_take,-List.map_drop,-List.map_set]
theorem Dr{x:GNode}{s:GScope}{st:List Int}(h:st.length≤12)(h0:(cg x s st).1=0):(cg x s st).2.length≤12:=by
 unfold cg at h0 ⊢
 split at h0;· simp at h0
 rename_i h1
 split at h0;· simp at h0
 rename_i h2
 split at h0
 ·rename_i h3;simp only at h0;exact absurd h0 h3
 ·rename_i h3
  rw[if_neg h1,if_neg h2,if_neg h3];simp only at h0
  split at h0
  ·cases h0
  ·simp only[xP,yR,xZ,yN];omega
theorem Um(β:Bool)(e:List GNode)(s:GScope)(hs:s.Scalars.length≤1000)(hN:∀x∈e,x.N≤9223372036854775807)(hlen:e.length≤24){ρ:Type}(κ:Ex×St→Option ρ):∀(n i:Nat) (st:List Int),e.length - i=n→i≤e.length→st.length≤12→cX P hints gR EX 0 ((⟨[(0,.d (.ptr (1))),(2,.d (.fn (Fn.func 130) [] [.ptr (2),.ptr (0)])),(3,.d (.fn (Fn.func 132) [] [])),(25,.d (.sl β (List.map bh e))),(26,.d (.int IntKind.i64 (List.length e))),(27,.d (.int IntKind.i64 (i:Int)))],[],[Ob.box (.d (.agg [.sl β (List.map ae s.Scalars),.sl β (List.map aq s.Vars),.sl β (List.map ay s.Chans),.sl β (List.map (au β) s.Procs),.sl β (List.map aq s.Locals),.int IntKind.i64 s.Self])),.box (.agg [.own (tl eI st),.d (.map (3))]),.box (.d (.ptr (1))),.map (opsL),.box (.d (.fn (Fn.func 202) [] [])),.box (.d (.fn (Fn.func 203) [] [])),.box (.d (.fn (Fn.func 204) [] [])),.box (.d (.fn (Fn.func 205) [] [])),.box (.d (.fn (Fn.func 206) [] [])),.box (.d (.fn (Fn.func 207) [] []))]⟩:St)) κ=
  if(eG s (e.drop i) st).1=0 then κ (.exit 1,(⟨[(0,.d (.ptr (1))),(2,.d (.fn (Fn.func 130) [] [.ptr (2),.ptr (0)])),(3,.d (.fn (Fn.func 132) [] [])),(25,.d (.sl β (List.map bh e))),(26,.d (.int IntKind.i64 (List.length e))),(27,.d (.int IntKind.i64 (List.length e))),(28,SV.d (D.bool false))],[],[Ob.box (.d (.agg [.sl β (List.map ae s.Scalars),.sl β (List.map aq s.Vars),.sl β (List.map ay s.Chans),.sl β (List.map (au β) s.Procs),.sl β (List.map aq s.Locals),.int IntKind.i64 s.Self])),.box (.agg [.own (tl eI ((eG s (e.drop i) st).2)),.d (.map (3))]),.box (.d (.ptr (1))),.map (opsL),.box (.d (.fn (Fn.func 202) [] [])),.box (.d (.fn (Fn.func 203) [] [])),.box (.d (.fn (Fn.func 204) [] [])),.box (.d (.fn (Fn.func 205) [] [])),.box (.d (.fn (Fn.func 206) [] [])),.box (.d (.fn (Fn.func 207) [] []))]⟩:St))else κ (.ret,⟨[(8,SV.d (D.int IntKind.i64 0)),(9,SV.d (D.int IntKind.i64 (eG s (e.drop i) st).1))],[],[Ob.box (.d (.agg [.sl β (List.map ae s.Scalars),.sl β (List.map aq s.Vars),.sl β (List.map ay s.Chans),.sl β (List.map (au β) s.Procs),.sl β (List.map aq s.Locals),.int IntKind.i64 s.Self])),.box (.agg [.own (tl eI ((eG s (e.drop i) st).2)),.d (.map (3))]),.box (.d (.ptr (1))),.map (opsL),.box (.d (.fn (Fn.func 202) [] [])),.box (.d (.fn (Fn.func 203) [] [])),.box (.d (.fn (Fn.func 204) [] [])),.box (.d (.fn (Fn.func 205) [] [])),.box (.d (.fn (Fn.func 206) [] [])),.box (.d (.fn (Fn.func 207) [] []))]⟩):=by
 intro n
 induction n with
 |zero=>
  intro i st hn hi hst
  obtain rfl:i=e.length:=by omega
  rw[Ul,List.drop_length,eG,if_pos rfl]
 |succ n ih=>
  intro i st hn hi hst;have hlt:i<e.length:=by omega
  rw[Uk β e s hs st hst i hlt (hN _ (List.getElem_mem hlt)) hlen,xW hlt,eG]
  by_cases h0:(cg e[i] s st).1=0
  ·rw[if_pos h0,if_pos h0,ih (i+1) _ (by omega) (by omega) (Dr hst h0)]
  ·rw[if_neg h0,if_neg h0,if_neg h0]
theorem BT{s:GScope}:∀{e:List GNode} {st:List Int},st.length≤12→(eG s e st).1=0→(eG s e st).2.length≤12∧(e≠[]→0<(eG s e st).2.length)
 | [],st,h,_=>⟨h,fun q=>absurd rfl q⟩
 |x::r,st,h,h0=>by
  unfold eG at h0 ⊢
  by_cases hx:(cg x s st).1=0
  ·rw[if_pos hx]at h0 ⊢
   have hl:=Dr h hx
   have:=BT hl h0
   refine⟨this.1,fun _=> ?_⟩
   cases r with
   |cons y r=>exact this.2 (by simp)
   |nil=>
    rw[eG];unfold cg at hx ⊢
    split at hx;· simp at hx
    rename_i h1
    split at hx;· simp at hx
    rename_i h2
    split at hx
    ·rename_i h3;simp only at hx;exact absurd hx h3
    ·rename_i h3
     rw[if_neg h1,if_neg h2,if_neg h3]
     simp
  ·rw[if_neg hx]at h0;exact absurd h0 hx
set_option maxHeartbeats 8000000 in
theorem Gb(β:Bool)(e:List GNode)(s:GScope)(hs:s.Scalars.length≤1000)(hN:∀x∈e,x.N≤9223372036854775807){ρ:Type}(κ:List T×List Ob→Option ρ):
  cbK (call 76 [.sl β (List.map bh e),.agg [.sl β (List.map ae s.Scalars),.sl β (List.map aq s.Vars),.sl β (List.map ay s.Chans),.sl β (List.map (au β) s.Procs),.sl β (List.map aq s.Locals),.int .i64 s.Self]] []) κ=κ ([.d (.int .i64 (dw e s).1),.d (.int .i64 (dw e s).2)],[]):=by
 refine(afn _ _ _ rfl).trans ?_
 unfold dw
 by_cases h24:24<e.length
 ·have h24':(24:Int)<(e.length:Int):=by omega
  rw[if_pos h24]
  cases β <;>simp -implicitDefEqProofs (maxSteps:=1000000) [go_sem,Dn,Do,Dp,h24',-List.map_append,-List.map_take,-List.map_drop,-List.map_set]
 rw[if_neg h24];have h24':¬(24:Int)<(e.length:Int):=by omega
 by_cases he:e=[]
 ·rw[if_pos he]
  subst he
  cases β <;>simp -implicitDefEqProofs (maxSteps:=1000000) [go_sem,Dn,Do,Dp,-List.map_append,-List.map_take,-List.map_drop,-List.map_set]
 rw[if_neg he];have hl:=fun κ=>Um (ρ:=ρ) β e s hs hN (by omega) κ _ 0 [] rfl (Nat.zero_le _) (by simp)
 simp only[Int.natCast_zero,List.drop_zero,kS]at hl
 by_cases h0:(eG s e []).1=0
 ·have hok:=BT (s:=s) (e:=e) (st:=[]) (by simp) h0
  have hpos:=hok.2 he
  by_cases h1:1<(eG s e []).2.length
  ·have h1':(1:Int)<((eG s e []).2.length:Int):=by omega
   cases β <;>simp -implicitDefEqProofs (maxSteps:=1000000) [go_sem,Dn,Do,Dp,h24',he,hl,h0,h1,h1',-List.map_append,-List.map_take,-List.map_drop,-List.map_set]
  ·have h1':¬(1:Int)<((eG s e []).2.length:Int):=by omega
   obtain⟨a,ha⟩:∃a,(eG s e []).2=[a]:=List.length_eq_one_iff.1 (by omega)
   cases β <;>simp -implicitDefEqProofs (maxSteps:=1000000) [go_sem,Dn,Do,Dp,h24',he,hl,h0,h1,h1',ha,-List.map_append,-List.map_take,-List.map_drop,-List.map_set]
 ·cases β <;>simp -implicitDefEqProofs (maxSteps:=1000000) [go_sem,Dn,Do,Dp,h24',he,hl,h0,-List.map_append,-List.map_take,-List.map_drop,-List.map_set]
end
end Go.Etx
namespace Go.Am
open Go
def O3(r:SV×Wk):Option (Option D×SV×Wk):=
 match r.1 with
 | .tup [.d d,.agg []]=>if d.flat=true then some (some d,.dead,r.2)else none
 |v=>some (none,v,r.2)
section
variable{P:Program}{call:ak}{h:Hint}{dst:Nat}{ty:TypeId}{ρ:Operand→SV}{k:Wk}
def BU(P:Program)(call:ak)(h:Hint)(dst:Nat)(f:SV)(xs:List SV)(k:Wk):Option (Option D×SV×Wk):=
 match f with
 | .d (.fn (.func g) first cap)=>if YB≤g then none else(dp (h.nvAt dst) xs k {}).bind fun p=>(cF call h dst g (canon p.2.2.sn (first++p.1++cap)) p.2.2 p.2.1).bind O3
 |_=>none
theorem aN{f:Operand}{args:Array Operand}{ats:Array TypeId}(hm:h.mv.contains dst=false):cZ P call h dst ty (.call {callee:=.value f,args:=args,argTypes:=ats}) ρ k=BU P call h dst (ρ f) (args.toList.map ρ) k:=by
 unfold BU;simp only[cZ]
 cases ρ f with
 |d x=>
  cases x with
  |fn g a c=>
   cases g with
   |func g=>
    simp only[hm,xH,if_false];split
    ·rfl
    ·congr 1
   |_=>rfl
  |_=>rfl
 |_=>rfl
@[go_sem] theorem Wi{g:FuncId}{first cap:List D}{xs:List SV}(hg:g<1099511627776):BU P call h dst (.d (.fn (.func g) first cap)) xs k=(dp (h.nvAt dst) xs k {}).bind fun p=>(cF call h dst g (canon p.2.2.sn (first++p.1++cap)) p.2.2 p.2.1).bind O3:=by
 simp only[BU,if_neg (show¬YB≤g from Nat.not_le.2 hg)]
@[go_sem] theorem afB{k:Wk}:O3 (.tup [],k)=some (none,.tup [],k):=rfl
@[go_sem] theorem afC{d:D}{k:Wk}:O3 (.tup [.d d,.agg []],k)=if d.flat=true then some (some d,.dead,k)else none:=rfl
def Uo(k:Wk):SV→Option (Option D×SV×Wk)
 | .d (.iface t y)=>if y.flat=true then some (some (.iface t y),.dead,k)else none
 |_=>none
@[go_sem] theorem Wj{x:Operand}:cZ P call h dst ty (.panic x) ρ k=Uo k (ρ x):=by
 unfold Uo;simp only[cZ]
 cases ρ x with
 |d y=>cases y <;>rfl
 |_=>rfl
@[go_sem] theorem afD{t:TypeId}{y:D}:Uo k (.d (.iface t y))=if y.flat=true then some (some (.iface t y),.dead,k)else none:=rfl
@[go_sem] theorem Wl{t:TypeId}{x:Operand}:cZ P call h dst ty (.makeInterface t x) ρ k=(am P call h dst ty (.makeInterface t x) ρ k).bind fun p=>some (none,p.1,p.2):=qj rfl
attribute [go_sem] D.flat D.flats
@[go_sem] theorem abn{t:TypeId}{x:Operand}:am P call h dst ty (.makeInterface t x) ρ k=(pH P t (ρ x)).bind fun v=>some (v,k):=by
 simp only[am,opE,xF];rfl
@[go_sem] theorem Wm{x:Operand}{s u:TypeId}{ok:Bool}:am P call h dst ty (.typeAssert x s u ok) ρ k=(kq P u ok (ρ x)).bind fun v=>some (v,k):=by
 simp only[am,opE,xF];rfl
theorem Lc{t:TypeId}{x:D}(h:(P.underlying t).map (fun d=>match d with | .interface _=>false |_=>true)=some true):pH P t (.d x)=some (.d (.iface t x)):=by
 unfold pH
 cases hu:P.underlying t with
 |none=>rw[hu]at h;cases h
 |some d=>
  rw[hu]at h
  cases d <;>first |rfl |(simp at h)
theorem HZ{t:TypeId}{x:D}(h:(P.underlying t).map (fun d=>match d with | .interface _=>false |_=>true)=some true):kq P t true (.d (.iface t x))=some (.tup [.d x,.d (.bool true)]):=by
 unfold kq
 cases hu:P.underlying t with
 |none=>rw[hu]at h;cases h
 |some d=>
  rw[hu]at h
  cases d <;>first |(simp;done) |(simp at h;done)
end
section
variable(P:Program)(hints:FuncId→Hint)
noncomputable def fm(r:D)(g:FuncId)(ds:List D)(H:List Ob):Option (List T×List Ob):=
 (P.funcs[g]?).bind fun fn=>fn.body.bind fun c=>
  match c with
  | .seq (.region id ops false) rest=>
   match ops.toList with
   |o::l=>match o.op,o.dst,o.guard with
    | .call {callee:=.builtin .recover, .. },some t,none=>
     if ds.length=fn.params.size+fn.nfree∧aD fn.ntmps c=true∧(fn.name== "runtime.NumGoroutine")=false then
      (ba P kz (hints g) ops.toList l {env:=(t,.d r)::(enter ds H).env,ct:=[],H}).bind fun s=>(aY P hints {hints g with nest:=true} rest (prune ((hints g).live id) s)).bind fun(e,s)=>match e with
       | .normal=>cJ P (hints g).own fn H.length (.normal,s)
       | .ret=>cJ P (hints g).own fn H.length (.ret,s)
       |_=>none
     else none
    |_,_,_=>none
   |_=>none
  |_=>none
noncomputable def H4(f:FuncId)(c:Code)(nt:Nat)(s:St):Option (Ex×St):=
 match c with
 | .seq (.region i0 o0 false) (.seq (.region i1 o1 false) rest)=>
  (ba P (aX P hints) (hints f) o0.toList o0.toList s).bind fun s=>match o1.toList.getLast? with
   |some o=>match o.op,o.dst,o.guard with
    | .defer {callee:=.value x,args, .. },none,none=>
     (ba P (aX P hints) (hints f) o1.toList o1.toList.dropLast (prune ((hints f).live i0) s)).bind fun s=>match s.val x with
      | .d (.fn (.func g) [] cap)=>
       if args.size=0∧cap.all D.pin=true then
        (aY P hints (hints f) rest (prune ((hints f).live i1) s)).bind fun(e,s)=>(Gp e).bind fun r=>
         ((aU (fm P hints r) {hints f with keep:=[]} nt g (canon false cap) {} s.wk).bind eH).map fun(_,k)=>(.ret,s.fin none .dead k)
       else none
      |_=>none
    |_,_,_=>none
   |_=>none
 |_=>none
variable{P hints}
theorem qG{r:D}{g:FuncId}{ds:List D}{H:List Ob}{x:List T×List Ob}:fm P hints r g ds H=some x↔∃n,fy P (aR P hints n) hints n r g ds H=some x:=by
 constructor
 ·intro e
  simp only[fm,xB]at e
  obtain⟨fn,h1,cd,h2,e⟩:=e
  split at e
  ·split at e
   ·rename_i hops
    split at e
    ·rename_i hop hdst hgu
     split at e
     ·rename_i hh
      simp only[xB]at e
      obtain⟨s1,e1,y,e2,e3⟩:=e;obtain⟨n,hn⟩:=aA.1 e2
      refine⟨n,?_⟩
      simp only[fy,h1,h2,xS,hops,hop,hdst,hgu,if_pos hh];rw[hops]at e1
      rw[e1,xS,hn];exact e3
     ·cases e
    ·cases e
   ·cases e
  ·cases e
 ·rintro⟨n,e⟩
  simp only[fy,xB]at e
  obtain⟨fn,h1,cd,h2,e⟩:=e
  split at e
  ·split at e
   ·rename_i hops
    split at e
    ·rename_i hop hdst hgu
     split at e
     ·rename_i hh
      simp only[xB]at e
      obtain⟨s1,e1,y,e2,e3⟩:=e;have hn:=aA.2 ⟨n,e2⟩;simp only[fm,h1,h2,xS,hops,hop,hdst,hgu,if_pos hh];rw[hops]at e1
      rw[e1,xS,hn];exact e3
     ·cases e
    ·cases e
   ·cases e
  ·cases e
theorem Ds{f:FuncId}{c:Code}{nt:Nat}{s:St}{x:Ex×St}:H4 P hints f c nt s=some x↔∃n,yU P (aR P hints n) hints n f c nt s=some x:=by
 constructor
 ·intro e
  unfold H4 at e
  split at e
  ·simp only[xB]at e
   obtain⟨s1,e1,e⟩:=e;obtain⟨n1,m1⟩:=i6 _ e1
   split at e
   ·rename_i hl
    split at e
    ·rename_i hop hdst hgu
     simp only[xB]at e
     obtain⟨s2,e2,e⟩:=e;obtain⟨n2,m2⟩:=i6 _ e2
     split at e
     ·rename_i g cap hx
      split at e
      ·rename_i hp
       simp only[xB,xM]at e
       obtain⟨y,e3,q,e4,z,⟨z0,e5,e6⟩,e7⟩:=e;obtain⟨n3,m3⟩:=aA.1 e3
       have:∃n4,aU (fy P (aR P hints n4) hints n4 q) {hints f with keep:=[]} nt g (canon false cap) {} y.2.wk=some z0:=by
        unfold aU at e5
        split at e5
        ·rename_i hk
         simp only[xB]at e5
         obtain⟨u,u1,u2⟩:=e5;obtain⟨n4,m4⟩:=qG.1 u1
         exact⟨n4,by unfold aU;rw[if_pos hk,m4];exact u2⟩
        rename_i hk0
        split at e5
        ·cases e5
        ·rename_i hk
         simp only[xB]at e5
         obtain⟨u,u1,u2⟩:=e5;obtain⟨n4,m4⟩:=qG.1 u1
         exact⟨n4,by unfold aU;rw[if_neg hk0,if_neg hk,m4];exact u2⟩
       obtain⟨n4,m4⟩:=this
       refine⟨max (max n1 n2) (max n3 n4),?_⟩
       have l1:n1≤max (max n1 n2) (max n3 n4):=by omega
       have l2:n2≤max (max n1 n2) (max n3 n4):=by omega
       have l3:n3≤max (max n1 n2) (max n3 n4):=by omega
       have l4:n4≤max (max n1 n2) (max n3 n4):=by omega
       unfold yU;simp only[cr (aM l1) _ m1,xS,hl,hop,hdst,hgu,cr (aM l2) _ m2,hx,if_pos hp,az (aM l3) l3 _ _ _ m3,e4,eM (ui (aM l4) l4) m4,e6,xQ,e7]
      ·cases e
     ·cases e
    ·cases e
   ·cases e
  ·cases e
 ·rintro⟨n,e⟩
  unfold yU at e
  split at e
  ·simp only[xB]at e
   obtain⟨s1,e1,e⟩:=e
   split at e
   ·rename_i hl
    split at e
    ·rename_i hop hdst hgu
     simp only[xB]at e
     obtain⟨s2,e2,e⟩:=e
     split at e
     ·rename_i hx
      split at e
      ·rename_i hp
       simp only[xB,xM]at e
       obtain⟨y,e3,q,e4,z,⟨z0,e5,e6⟩,e7⟩:=e;unfold H4;simp only[cr (rj n) _ e1,xS,hl,hop,hdst,hgu,cr (rj n) _ e2,hx,if_pos hp,aA.2 ⟨n,e3⟩,e4,eM (fun g ds H x e=>qG.2 ⟨n,e⟩) e5,e6,xQ,e7]
      ·cases e
     ·cases e
    ·cases e
   ·cases e
  ·cases e
theorem H5{f:FuncId}{ds:List D}{H:List Ob}{fn:Func}{c:Code}(hy:¬YB≤f)(hr:(hints f).rcv=true)(hxt:(hints f).ext=none)(hf:P.funcs[f]? =some fn)(hb:fn.body=some c)(hl:ds.length=fn.params.size+fn.nfree)(hk:aD fn.ntmps c=true)(hn:(fn.name== "runtime.NumGoroutine")=false):
  aX P hints f ds H=(H4 P hints f c fn.ntmps (enter ds H)).bind (cJ P (hints f).own fn H.length):=by
 refine dd fun r=> ?_
 rw[cx];constructor
 ·rintro⟨n,e⟩
  cases n with
  |zero=>cases e
  |succ n=>
   rw[aR,if_neg hy]at e
   simp only[hxt,hf,hb,xS]at e
   rw[if_pos ⟨hl,hk,hn⟩,if_pos hr]at e
   simp only[xB]at e
   obtain⟨x,e1,e2⟩:=e;rw[Ds.2 ⟨n,e1⟩,xS];exact e2
 ·intro e
  simp only[xB]at e
  obtain⟨x,e1,e2⟩:=e;obtain⟨n,e1⟩:=Ds.1 e1
  refine⟨n+1,?_⟩
  rw[aR,if_neg hy];simp only[hxt,hf,hb,xS];rw[if_pos ⟨hl,hk,hn⟩,if_pos hr,e1];exact e2
end
end Go.Am
namespace Go.Etx
open Go Go.Am Go.Proofs
set_option maxHeartbeats 4000000
set_option maxRecDepth 20000
@[go_sem] theorem ahd{x:D}:pH P 106 (.d x)=some (.d (.iface 106 x)):=Lc (by kernel_rfl)
@[go_sem] theorem ahe{x:D}:kq P 106 true (.d (.iface 106 x))=some (.tup [.d x,.d (.bool true)]):=HZ (by kernel_rfl)
def gK(e a b c:Int):D:=.iface 106 (.agg [.int .i64 e,.int .i64 a,.int .i64 b,.int .i64 c])
def zg(d:D):List T:=[.d d,.agg []]
theorem O4{ρ:Type}(e a b c:Int)(κ:KT ρ):cbK (call 68 [.int .i64 e,.int .i64 a,.int .i64 b,.int .i64 c] []) κ=if e=0 then κ ([],[])else κ (zg (gK e a b c),[]):=by
 refine(afg _ _ _ rfl).trans ?_
 simp -implicitDefEqProofs [go_sem,zg,gK]
attribute [go_sem] O4
@[go_sem] theorem Wn{e a b c:Int}:(gK e a b c).flat=true:=rfl
@[go_sem] theorem abo{dst:Nat}{d:D}{k:Wk}:iT dst (zg d) k=some (.tup [.d d,.agg []],k):=by
 simp -implicitDefEqProofs [go_sem,zg]
@[go_sem] theorem afE(n:Nat):hint70.mv.contains n=false:=rfl
theorem Ld{ρ:Type}(f:D)(l:List (List UInt8×Bool))(R:List Ob)(nm:List UInt8)(a b:Int)(hR:bE R=true)(κ:KT ρ):cbK (call 70 [.map 1,.str nm,.int .i64 a,.int .i64 b] (.box (.d f):: .map (dT eS eB l)::R)) κ=
  if dU false l nm=true then κ (zg (gK 7 a b 0),.box (.d f):: .map (dT eS eB l)::R)else κ ([],.box (.d f):: .map (dT eS eB (fd l nm true))::R):=by
 refine(afi _ _ _ rfl).trans ?_
 simp -implicitDefEqProofs [go_sem,aN (afE _)]
 rfl
@[go_sem] theorem abp{ks:List (List UInt8)}{s:List UInt8}:kT P 108 (.sset ks) (.str s) false=some (.d (.bool (ks.contains s))):=by
 have hk:aI P 9 (.str s) (.str s)=some true:=by rw[show aI P 9 (.str s) (.str s)=(dl P 9).bind fun n=>eqK n (.str s) (.str s)from rfl,t9.2.2.2.2.1];simp[eqK]
 simp only[kT,Qx,xS,hk,Option.isSome_some,if_true,B5,ze4]
 cases ks.contains s <;>rfl
theorem E6(l:List (List UInt8×Bool)):qP (dT eS eB l)=some (l.map (·.1)):=by
 induction l with
 |nil=>rfl
 |cons a l ih=>
  show(qP (dT eS eB l)).map _=_
  rw[ih];rfl
attribute [go_sem] E6
@[go_sem] theorem afF{src all:Nat}{W:List Nat}{env:List (Nat×SV)}{ct:List ((Nat×Nat)×T)}{H:List Ob}{q o:Nat}{es:List (D×T)}{ks:List (List UInt8)}(h1:St.get ⟨env,ct,H⟩ src=.d (.map q))(h2:St.get ⟨env,ct,H⟩ all=.d (.map o))(h3:H[q]? =some (.map es))(h4:H[o]? =some (.sset ks)):
  B7 P ⟨src,all,108,108,W⟩ ⟨env,ct,H⟩=(qP es).bind fun l=>some (.normal,⟨env.filter fun e=> !W.contains e.1,ct,H.set o (.sset (l++ks))⟩):=by
 simp only[B7,h1,h2,h3,h4,Qx,Option.isSome_some,xS,t9.2.2.2.2.1,and_self,if_true,xF];rfl
def tkn(ns:List (List UInt8)):List (List UInt8×Bool):=ns.foldl (fun l x=>fd l x true) []
theorem Le(l:List (List UInt8×Bool))(x y:List UInt8):dU false (fd l x true) y=if y=x then true else dU false l y:=by
 unfold dU
 induction l with
 |nil=>simp only[fd,xE];split <;>rfl
 |cons a l ih=>
  obtain⟨k,v⟩:=a;simp only[fd,xE]at ih ⊢
  by_cases h:x=k
  ·subst h
   simp only[if_true,xE]
   by_cases h2:y=x
   ·simp[h2]
   ·simp[h2]
  ·simp only[h,if_false,xE]
   by_cases h2:y=k
   ·subst h2
    simp only[if_true];rw[if_neg (fun q=>h q.symm)]
   ·simp only[h2,if_false];exact ih
theorem nT(ns:List (List UInt8))(y:List UInt8):dU false (tkn ns) y=decide (y∈ns):=by
 unfold tkn
 have key:∀(ns:List (List UInt8)) (l:List (List UInt8×Bool)),dU false (ns.foldl (fun l x=>fd l x true) l) y=(dU false l y || decide (y∈ns)):=by
  intro ns
  induction ns with
  |nil=>simp
  |cons a ns ih=>
   intro l;rw[List.foldl_cons,ih,Le]
   by_cases h:y=a
   ·simp[h]
   ·simp[h]
 rw[key];simp[dU,xE]
theorem Lf(l:List (List UInt8×Bool))(x:List UInt8)(v:Bool)(y:List UInt8):y∈(fd l x v).map (·.1)↔y=x∨y∈l.map (·.1):=by
 induction l with
 |nil=>simp[fd]
 |cons a l ih=>
  obtain⟨k,w⟩:=a;simp only[fd]
  by_cases h:x=k
  ·subst h;simp
  ·simp only[h,if_false,List.map_cons,xY,ih]
   grind
theorem Lg(ns:List (List UInt8))(y:List UInt8):y∈(tkn ns).map (·.1)↔y∈ns:=by
 unfold tkn
 have key:∀(ns:List (List UInt8)) (l:List (List UInt8×Bool)),y∈(ns.foldl (fun l x=>fd l x true) l).map (·.1)↔y∈l.map (·.1)∨y∈ns:=by
  intro ns
  induction ns with
  |nil=>simp
  |cons a ns ih=>
   intro l;rw[List.foldl_cons,ih,Lf,xY]
   grind
 rw[key]
 simp
theorem nU(ns:List (List UInt8))(x:List UInt8):fd (tkn ns) x true=tkn (ns++[x]):=by simp[tkn]
theorem O5:tkn []=[]:=rfl
attribute [-simp] List.map_append List.map_take List.map_drop List.map_set
theorem E7{ρ:Type}{l:List GNode}(h:l.length≤1048576)(g:List GNode→Option ρ):bA l g=g l:=by
 simp only[bA,bz];rw[if_pos ⟨by omega,by omega⟩]
theorem E8{ρ:Type}{l:List GVar}(h:l.length≤1048576)(g:List GVar→Option ρ):bX l g=g l:=by
 simp only[bX,bW];rw[if_pos ⟨by omega,by omega⟩]
theorem Up{ρ:Type}{l:List GChan}(h:l.length≤1048576)(g:List GChan→Option ρ):bw l g=g l:=by
 simp only[bw,bu];rw[if_pos ⟨by omega,by omega⟩]
theorem Uq{ρ:Type}{l:List GScalar}(h:l.length≤1048576)(g:List GScalar→Option ρ):bd l g=g l:=by
 simp only[bd,bc];rw[if_pos ⟨by omega,by omega⟩]
def SI(β:Bool)(O:List T)(C:T)(cs:List GCmd)(j:Int)(ac:List GAct)(i:Int)(dn:List GAct):St:=
 ⟨[(3,.bor (.l 3 0) [] 0 O.length),(5,.loc (Root.l 5 0) [] 0 0),(6,.bor (.l 6 0) [] 0 dn.length),(9,.d (.sl β (List.map (bS β) cs))),(10,.d (.int .i64 cs.length)),(11,.d (.int .i64 j)),(20,.d (.sl β (List.map (ff β) ac))),(21,.d (.int .i64 ac.length)),(22,.d (.int .i64 i))],[((3,0),.own O),((5,0),.own [C]),((6,0),.own (tl (ff false) dn))],[]⟩
def XI(β:Bool)(O:List T)(C:T)(cs:List GCmd)(j:Int)(ac:List GAct)(dn:List GAct):St:=
 ⟨[(3,.bor (.l 3 0) [] 0 O.length),(5,.loc (Root.l 5 0) [] 0 0),(6,.bor (.l 6 0) [] 0 dn.length),(9,.d (.sl β (List.map (bS β) cs))),(10,.d (.int .i64 cs.length)),(11,.d (.int .i64 j)),(20,.d (.sl β (List.map (ff β) ac))),(21,.d (.int .i64 ac.length)),(22,.d (.int .i64 ac.length)),(23,.d (.bool false))],[((3,0),.own O),((5,0),.own [C]),((6,0),.own (tl (ff false) dn))],[]⟩
theorem Lh{l:List GAct}{a:GAct}:tl (ff false) l++[T.d (D.agg [D.int IntKind.i64 a.Kind,D.int IntKind.i64 a.To,D.int IntKind.i64 a.Local,D.sl false (List.map bh a.Index),D.sl false (List.map bh a.Value)])]=tl (ff false) (l++[a]):=uS
theorem Dt{l:List GCmd}{c:GCmd}:tl (bS false) l++[T.d (D.agg [D.str c.Name,D.int IntKind.i64 c.From,D.int IntKind.i64 c.To,D.sl false (List.map bh c.Guard),D.sl false (List.map (ff false) c.Acts),D.bool c.Fair])]=tl (bS false) (l++[c]):=uS
theorem Ao{l:List GProc}{c:GProc}:tl (au false) l++[T.d (D.agg [D.str c.Name,D.int IntKind.i64 c.Over,D.int IntKind.i64 c.Locs,D.sl false (List.map aq c.Vars),D.sl false (List.map (bS false) c.Cmds)])]=tl (au false) (l++[c]):=uS
theorem O6{ρ:Type}(β:Bool)(O:List T)(C:T)(cs:List GCmd)(j:Int)(ac:List GAct)(hl:ac.length≤1000000)(i:Nat)(hi:i<ac.length)(h1:ac[i].Index.length≤1048576)(h2:ac[i].Value.length≤1048576)(dn:List GAct)(hd:dn.length≤1000000)(R:St→Option ρ)(κ:Ex×St→Option ρ):
  go P hints ew ze BL.1 (SI β O C cs j ac i dn) (kLp R κ)=R (SI β O C cs j ac (i+1:Nat) (dn++[ac[i]])):=by
 have e1:ac[i]? =some ac[i]:=xG hi;have e2:(i:Int)<(ac.length:Int):=by omega
 have c1:=fun g=>E7 (ρ:=ρ) h1 g
 have c2:=fun g=>E7 (ρ:=ρ) h2 g
 have w1:IntKind.i64.wrap ((i:Int)+1)=((i+1:Nat):Int):=aP (by omega)
 have b1:(dn.length+1) * 72≤140737488355328:=by omega
 have b2:dn.length≤9223372036854775806:=by omega
 unfold SI
 cases β <;>simp -implicitDefEqProofs [go_sem,e1,e2,c1,c2,w1,b1,b2,Lh]
theorem O7{ρ:Type}(β:Bool)(O:List T)(C:T)(cs:List GCmd)(j:Int)(ac:List GAct)(dn:List GAct)(R:St→Option ρ)(κ:Ex×St→Option ρ):
  go P hints ew ze BL.1 (SI β O C cs j ac (ac.length:Nat) dn) (kLp R κ)=κ (.exit 2,XI β O C cs j ac dn):=by
 unfold SI XI
 cases β <;>simp -implicitDefEqProofs [go_sem]
theorem O8{ρ:Type}(β:Bool)(O:List T)(C:T)(cs:List GCmd)(j:Int)(ac:List GAct)(hl:ac.length≤1000000)(h:∀a∈ac,a.Index.length≤1048576∧a.Value.length≤1048576)(κ:Ex×St→Option ρ):∀(n i:Nat),ac.length - i=n→i≤ac.length→
  cX P hints ew ze 0 (SI β O C cs j ac i (ac.take i)) κ=κ (.exit 2,XI β O C cs j ac ac):=by
 intro n
 induction n with
 |zero=>
  intro i hn hi
  have:i=ac.length:=by omega
  subst this;rw[ap BL.2,O7,List.take_length]
 |succ n ih=>
  intro i hn hi;have hlt:i<ac.length:=by omega
  rw[ap BL.2,O6 β O C cs j ac hl i hlt (h _ (List.getElem_mem hlt)).1 (h _ (List.getElem_mem hlt)).2 _ (by simp;omega),←bn hlt]
  exact ih (i+1) (by omega) (by omega)
def SO(β:Bool)(O:List GCmd)(cs:List GCmd)(j:Int):St:=
 ⟨[(3,.bor (.l 3 0) [] 0 O.length),(9,.d (.sl β (List.map (bS β) cs))),(10,.d (.int .i64 cs.length)),(11,.d (.int .i64 j))],[((3,0),.own (tl (bS false) O))],[]⟩
def XO(β:Bool)(O:List GCmd)(cs:List GCmd):St:=
 ⟨[(3,.bor (.l 3 0) [] 0 O.length),(9,.d (.sl β (List.map (bS β) cs))),(10,.d (.int .i64 cs.length)),(11,.d (.int .i64 cs.length)),(12,.d (.bool false))],[((3,0),.own (tl (bS false) O))],[]⟩
structure CmdOk(c:GCmd):Prop where
 g:c.Guard.length≤1000
 n:c.Acts.length≤1000
 a:∀a∈c.Acts,a.Index.length≤1000∧a.Value.length≤1000
theorem Li{ρ:Type}(β:Bool)(cs:List GCmd)(hl:cs.length≤1000000)(i:Nat)(hi:i<cs.length)(hc:CmdOk cs[i])(O:List GCmd)(hd:O.length≤1000000)(R:St→Option ρ)(κ:Ex×St→Option ρ):
  go P hints ew ze BM.1 (SO β O cs i) (kLp R κ)=R (SO β (O++[cs[i]]) cs (i+1:Nat)):=by
 have e1:cs[i]? =some cs[i]:=xG hi;have e2:(i:Int)<(cs.length:Int):=by omega
 have c1:=fun g=>E7 (ρ:=ρ) (l:=cs[i].Guard) (by have:=hc.g;omega) g
 have w1:IntKind.i64.wrap ((i:Int)+1)=((i+1:Nat):Int):=aP (by omega)
 have hin:=fun(b:Bool) (O:List T) (C:T) κ=>O8 (ρ:=ρ) b O C cs i cs[i].Acts (by have:=hc.n;omega) (fun a ha=>by have:=hc.a a ha;omega) κ _ 0 rfl (Nat.zero_le _)
 simp only[SI,XI,List.take_zero,yN,Int.natCast_zero,kS]at hin
 have b1:(O.length+1) * 88≤140737488355328:=by omega
 have b2:O.length≤9223372036854775806:=by omega
 unfold SO;cases β
 ·have hin':=hin false (tl (bS false) O)
  simp only[J3]at hin'
  simp -implicitDefEqProofs [go_sem,e1,e2,c1,w1,hin',b1,b2,Dt]
 ·have hin':=hin true (tl (bS false) O)
  simp only[J3]at hin'
  simp -implicitDefEqProofs [go_sem,e1,e2,c1,w1,hin',b1,b2,Dt]
theorem Lj{ρ:Type}(β:Bool)(cs:List GCmd)(O:List GCmd)(R:St→Option ρ)(κ:Ex×St→Option ρ):
  go P hints ew ze BM.1 (SO β O cs (cs.length:Nat)) (kLp R κ)=κ (.exit 0,XO β O cs):=by
 unfold SO XO
 cases β <;>simp -implicitDefEqProofs [go_sem]
theorem Lk{ρ:Type}(β:Bool)(cs:List GCmd)(hl:cs.length≤1000000)(h:∀c∈cs,CmdOk c)(κ:Ex×St→Option ρ):∀(n i:Nat),cs.length - i=n→i≤cs.length→
  cX P hints ew ze 1 (SO β (cs.take i) cs i) κ=κ (.exit 0,XO β cs cs):=by
 intro n
 induction n with
 |zero=>
  intro i hn hi
  have:i=cs.length:=by omega
  subst this;rw[ap BM.2,Lj,List.take_length]
 |succ n ih=>
  intro i hn hi;have hlt:i<cs.length:=by omega
  rw[ap BM.2,Li β cs hl i hlt (h _ (List.getElem_mem hlt)) _ (by simp;omega),←bn hlt]
  exact ih (i+1) (by omega) (by omega)
theorem E9{ρ:Type}(β:Bool)(cs:List GCmd)(hl:cs.length≤1000000)(h:∀c∈cs,CmdOk c)(κ:KT ρ):cbK (call 174 [.sl β (List.map (bS β) cs)] []) κ=κ ([.d (.sl false (List.map (bS false) cs))],[]):=by
 refine(Z8 _ _ _ rfl).trans ?_
 have hout:=fun κ=>Lk (ρ:=ρ) β cs hl h κ _ 0 rfl (Nat.zero_le _)
 simp only[SO,XO,List.take_zero,yN,Int.natCast_zero,kS]at hout
 cases β <;>simp -implicitDefEqProofs [go_sem,hout]
end Go.Etx
namespace Go.Etx
open Go Go.Am Go.Proofs
set_option maxHeartbeats 4000000
set_option maxRecDepth 20000
attribute [-simp] List.map_append List.map_take List.map_drop List.map_set
structure ProcOk(p:GProc):Prop where
 v:p.Vars.length≤1000
 n:p.Cmds.length≤1000
 c:∀c∈p.Cmds,CmdOk c
def SP(β:Bool)(s:GScope)(i:Int)(dn:List GProc):St:=
 ⟨[(1,.loc (.l 1 0) [] 0 0),(2,.loc (.l 2 0) [] 0 0),(3,.bor (.l 3 0) [] 0 dn.length),(23,.d (.sl β (List.map (au β) s.Procs))),(24,.d (.int .i64 s.Procs.length)),(25,.d (.int .i64 i))],
  [((1,0),.own [.agg [.own (tl ae s.Scalars),.own (tl aq s.Vars),.own (tl ay s.Chans),.d (.sl β (List.map (au β) s.Procs)),.own (tl aq s.Locals),.d (.int .i64 s.Self)]]),((2,0),.own [.agg [.own [],.own [],.own [],.own [],.own [],.d (.int .i64 0)]]),((3,0),.own (tl (au false) dn))],[]⟩
theorem O9{ρ:Type}(β:Bool)(s:GScope)(hl:s.Procs.length≤1000000)(i:Nat)(hi:i<s.Procs.length)(hc:ProcOk s.Procs[i])(dn:List GProc)(hd:dn.length≤1000000)(R:St→Option ρ)(κ:Ex×St→Option ρ):
  go P hints je HE BI.1 (SP β s i dn) (kLp R κ)=R (SP β s (i+1:Nat) (dn++[s.Procs[i]])):=by
 have e1:s.Procs[i]? =some s.Procs[i]:=xG hi;have e2:(i:Int)<(s.Procs.length:Int):=by omega
 have c1:=fun g=>E8 (ρ:=ρ) (l:=s.Procs[i].Vars) (by have:=hc.v;omega) g
 have w1:IntKind.i64.wrap ((i:Int)+1)=((i+1:Nat):Int):=aP (by omega)
 have hcm:=fun(b:Bool) κ=>E9 (ρ:=ρ) b s.Procs[i].Cmds (by have:=hc.n;omega) hc.c κ
 have b1:(dn.length+1) * 80≤140737488355328:=by omega
 have b2:dn.length≤9223372036854775806:=by omega
 unfold SP;cases β
 ·simp -implicitDefEqProofs [go_sem,e1,e2,c1,w1,hcm,b1,b2,Ao]
 ·simp -implicitDefEqProofs [go_sem,e1,e2,c1,w1,hcm,b1,b2,Ao]
def XP(β:Bool)(s:GScope)(dn:List GProc):St:=
 ⟨[(1,.loc (.l 1 0) [] 0 0),(2,.loc (.l 2 0) [] 0 0),(3,.bor (.l 3 0) [] 0 dn.length),(23,.d (.sl β (List.map (au β) s.Procs))),(24,.d (.int .i64 s.Procs.length)),(25,.d (.int .i64 s.Procs.length)),(26,.d (.bool false))],
  [((1,0),.own [.agg [.own (tl ae s.Scalars),.own (tl aq s.Vars),.own (tl ay s.Chans),.d (.sl β (List.map (au β) s.Procs)),.own (tl aq s.Locals),.d (.int .i64 s.Self)]]),((2,0),.own [.agg [.own [],.own [],.own [],.own [],.own [],.d (.int .i64 0)]]),((3,0),.own (tl (au false) dn))],[]⟩
theorem Pa{ρ:Type}(β:Bool)(s:GScope)(dn:List GProc)(R:St→Option ρ)(κ:Ex×St→Option ρ):
  go P hints je HE BI.1 (SP β s (s.Procs.length:Nat) dn) (kLp R κ)=κ (.exit 0,XP β s dn):=by
 unfold SP XP
 cases β <;>simp -implicitDefEqProofs [go_sem]
theorem Pb{ρ:Type}(β:Bool)(s:GScope)(hl:s.Procs.length≤1000000)(h:∀p∈s.Procs,ProcOk p)(κ:Ex×St→Option ρ):∀(n i:Nat),s.Procs.length - i=n→i≤s.Procs.length→
  cX P hints je HE 0 (SP β s i (s.Procs.take i)) κ=κ (.exit 0,XP β s s.Procs):=by
 intro n
 induction n with
 |zero=>
  intro i hn hi
  have:i=s.Procs.length:=by omega
  subst this;rw[ap BI.2,Pa,List.take_length]
 |succ n ih=>
  intro i hn hi;have hlt:i<s.Procs.length:=by omega
  rw[ap BI.2,O9 β s hl i hlt (h _ (List.getElem_mem hlt)) _ (by simp;omega),←bn hlt]
  exact ih (i+1) (by omega) (by omega)
structure ScOk(s:GScope):Prop where
 sc:s.Scalars.length≤1000
 v:s.Vars.length≤1000
 c:s.Chans.length≤1000
 l:s.Locals.length≤1000
 n:s.Procs.length≤1000
 p:∀p∈s.Procs,ProcOk p
abbrev scD(β:Bool)(s:GScope):D:=.agg [.sl β (List.map ae s.Scalars),.sl β (List.map aq s.Vars),.sl β (List.map ay s.Chans),.sl β (List.map (au β) s.Procs),.sl β (List.map aq s.Locals),.int .i64 s.Self]
theorem Du{ρ:Type}(β:Bool)(s:GScope)(h:ScOk s)(κ:KT ρ):cbK (call 126 [scD β s] []) κ=κ ([.d (scD false s)],[]):=by
 refine(YP _ _ _ rfl).trans ?_
 have hout:=fun κ=>Pb (ρ:=ρ) β s (by have:=h.n;omega) h.p κ _ 0 rfl (Nat.zero_le _)
 simp only[SP,XP,List.take_zero,yN,Int.natCast_zero,kS]at hout
 have c1:=fun g=>Uq (ρ:=ρ) (l:=s.Scalars) (by have:=h.sc;omega) g
 have c2:=fun g=>E8 (ρ:=ρ) (l:=s.Vars) (by have:=h.v;omega) g
 have c3:=fun g=>Up (ρ:=ρ) (l:=s.Chans) (by have:=h.c;omega) g
 have c4:=fun g=>E8 (ρ:=ρ) (l:=s.Locals) (by have:=h.l;omega) g
 cases β
 ·simp -implicitDefEqProofs [go_sem,hout,c1,c2,c3,c4]
 ·simp -implicitDefEqProofs [go_sem,hout,c1,c2,c3,c4]
structure MoOk(m:GModel):Prop where
 sc:m.Scalars.length≤1000
 v:m.Vars.length≤1000
 c:m.Chans.length≤1000
 n:m.Procs.length≤1000
 q:m.Props.length≤1000
 p:∀p∈m.Procs,ProcOk p
def bT(m:GModel)(i:Nat):GScope:=match m.Procs[i]? with |some p=>⟨m.Scalars,m.Vars,m.Chans,m.Procs,p.Vars,p.Over⟩ |none=>⟨m.Scalars,m.Vars,m.Chans,m.Procs,[],0⟩
theorem Ll{m:GModel}(h:MoOk m)(i:Nat):ScOk (bT m i):=by
 unfold bT
 cases hp:m.Procs[i]? with
 |none=>exact⟨h.sc,h.v,h.c,by simp,h.n,h.p⟩
 |some p=>exact⟨h.sc,h.v,h.c,(h.p p (yS hp)).v,h.n,h.p⟩
abbrev moD(m:GModel):D:=.agg [.sl false (List.map ae m.Scalars),.sl false (List.map aq m.Vars),.sl false (List.map ay m.Chans),.sl false (List.map (au false) m.Procs),.sl false (List.map (cu false) m.Props)]
theorem Rx:hint73.nvAt 30=1099511627776:=rfl
theorem Ry:hint73.nvAt 32=6:=rfl
theorem Pc{ρ:Type}(m:GModel)(h:MoOk m)(i:Nat)(hi:i<m.Procs.length)(κ:KT ρ):cbK (call 73 [moD m,.int .i64 i] []) κ=κ ([.d (scD false (bT m i))],[]):=by
 refine(XF _ _ _ rfl).trans ?_
 have e1:m.Procs[i]? =some m.Procs[i]:=xG hi;have e2:(i:Int)<(m.Procs.length:Int):=by omega
 have hc:=fun b κ=>Du (ρ:=ρ) b (bT m i) (Ll h i) κ
 simp only[bT,e1]at hc
 simp only[bT,e1]
 simp -implicitDefEqProofs [go_sem,hc,e1,e2,gY,fh,mkF,Rx,Ry]
theorem Lm{ρ:Type}(m:GModel)(h:MoOk m)(κ:KT ρ):cbK (call 73 [moD m,.int .i64 (-1)] []) κ=κ ([.d (scD false ⟨m.Scalars,m.Vars,m.Chans,m.Procs,[],0⟩)],[]):=by
 refine(XF _ _ _ rfl).trans ?_
 have hc:=fun b κ=>Du (ρ:=ρ) b ⟨m.Scalars,m.Vars,m.Chans,m.Procs,[],0⟩ ⟨h.sc,h.v,h.c,by simp,h.n,h.p⟩ κ
 simp only[scD,List.map_nil]at hc
 simp -implicitDefEqProofs [go_sem,hc,Rx,Ry]
 rfl
end Go.Etx
namespace Go.Etx
open Go Go.Am Go.Proofs
set_option maxRecDepth 20000
def ma(n:Int):Bool:=decide (97≤n∧n≤122) || decide (65≤n∧n≤90)
def digB(n:Int):Bool:=decide (48≤n∧n≤57)
def cw(n:Int):Bool:=ma n || digB n || decide (n=95)
def bI(b:UInt8):Int:=(b.toNat:Int)
def fS(nm:List UInt8):Bool:= !nm.isEmpty&&decide (nm.length≤16)&&ma (bI (nm.headD 0))&&nm.all (fun b=>cw (bI b))&& !ownL.contains nm
theorem abq{s:List UInt8}{p:Nat}(h:p<s.length):((⟨s.toArray⟩:ByteArray).get! (p+0))=s[p]:=by
 show(s.toArray)[p]! =_
 simp[h]
theorem Pd{s:List UInt8}{p:Nat}(h:p<s.length)(hb:s[p].toNat<128):uJ s p=(s[p].toNat,1):=by
 unfold uJ Utf8.decode;simp only[abq h];rw[if_pos hb]
theorem Pe{s:List UInt8}{p:Nat}(h:p<s.length)(hb:128≤s[p].toNat):128≤(uJ s p).1:=by
 unfold uJ Utf8.decode;simp only[abq h];rw[if_neg (by omega)]
 split
 ·split
  ·assumption
  ·simp[Utf8.runeError]
 split
 ·split
  ·rename_i q;simp only[xA,yD]at q;exact Nat.le_trans (by decide) q.1
  ·simp[Utf8.runeError]
 split
 ·split
  ·rename_i q;simp only[xA,yD]at q;exact Nat.le_trans (by decide) q.1
  ·simp[Utf8.runeError]
 simp[Utf8.runeError]
theorem th{s:List UInt8}{p:Nat}(h:p<s.length):cw ((uJ s p).1:Int)=cw (bI s[p])∧(cw (bI s[p])=true→(uJ s p).2=1):=by
 by_cases hb:s[p].toNat<128
 ·rw[Pd h hb];exact⟨rfl,fun _=>rfl⟩
 ·have h1:=Pe h (by omega)
  have e1:cw ((uJ s p).1:Int)=false:=by
   simp only[cw,ma,digB,Bool.or_eq_false_iff,decide_eq_false_iff_not];omega
  have e2:cw (bI s[p])=false:=by
   simp only[cw,ma,digB,bI,Bool.or_eq_false_iff]
   exact⟨⟨⟨decide_eq_false (by omega),decide_eq_false (by omega)⟩,decide_eq_false (by omega)⟩,decide_eq_false (by omega)⟩
  rw[e1,e2]
  exact⟨rfl,fun q=>by cases q⟩
section
variable{ρ:Type}
theorem Pf{n:Int}{g:Bool→Option ρ}:lg n g=g (ma n):=by
 simp only[lg,lf,mkF,ma]
 by_cases a:97≤n <;>by_cases b:n≤122 <;>by_cases c:65≤n <;>simp[a,b,c]
theorem Pg{n:Int}{g:Bool→Option ρ}:ll n g=g (ma n):=by
 simp only[ll,lj,mkF,ma]
 by_cases a:97≤n <;>by_cases b:n≤122 <;>by_cases c:65≤n <;>simp[a,b,c]
theorem Ph{n:Int}{g:Bool→Option ρ}:mS n g=g (digB n):=by
 simp only[mS,mR,mkF,digB]
 by_cases a:48≤n <;>by_cases b:n≤57 <;>simp[a,b]
theorem H6:List.take 4 ownL=ownL:=rfl
theorem Ln{nm:List UInt8}{g:Bool→Option ρ}:(dD (fun(v:Int) k=>if v<4 then if 0≤v∧v<4 then((List.take 4 ownL)[v.toNat]?).bind fun y=>if y=nm then g false else k (IntKind.i64.wrap (v+1))else none else g true) 0)=g (!ownL.contains nm):=by
 refine(iterC_all 4 (fun i:Nat=>(i:Int)) (fun i=>match ownL[i]? with |some y=>decide (y≠nm) |none=>true) (g false) (g true) (fun i k hi=> ?_) (fun k=> ?_)).trans ?_
 ·have hl:i<ownL.length:=hi
  rw[if_pos (by omega),if_pos (by omega),xV,H6,xG hl,xS,aP (by omega)]
  by_cases e:ownL[i]=nm <;>simp[e]
 ·rw[if_neg (by omega)]
 ·by_cases h:ownL.contains nm=true
  ·rw[h,if_neg]
   ·rfl
   ·intro hall
    simp only[List.contains_iff_mem]at h
    obtain⟨i,hi,rfl⟩:=List.mem_iff_getElem.1 h
    have:=hall i hi
    rw[xG hi]at this
    simp at this
  ·have h':ownL.contains nm=false:=by simpa using h
   rw[h',if_pos]
   ·rfl
   ·intro i hi
    have hl:i<ownL.length:=hi;rw[xG hl];simp only[yD];intro e;exact h (by rw[List.contains_iff_mem,←e];exact List.getElem_mem hl)
theorem rT{nm:List UInt8}{p:Nat}(h:p<nm.length):(nm.drop p).all (fun b=>cw (bI b))=(cw (bI nm[p])&&(nm.drop (p+1)).all fun b=>cw (bI b)):=by
 rw[xW h,List.all_cons]
theorem Ur(b:UInt8):IntKind.i32.wrap ((b.toNat:Nat):Int)=(b.toNat:Int):=by
 have h:=b.toNat_lt
 revert h
 generalize b.toNat=n;intro h
 have:∀n:Fin 256,IntKind.i32.wrap ((n.val:Nat):Int)=((n.val:Nat):Int):=by decide
 exact this ⟨n,h⟩
theorem Lp{n:Int}{x y:Option ρ}:(if ma n=true then x else if 48≤n then if n≤57 then x else if n=95 then x else y else if n=95 then x else y)=if cw n=true then x else y:=by
 unfold cw digB
 cases ma n
 ·by_cases a:48≤n
  ·by_cases b:n≤57
   ·simp[a,b]
   ·by_cases c:n=95 <;>simp[a,b,c]
  ·by_cases c:n=95 <;>simp[a,c]
 ·simp
theorem fo{nm:List UInt8}{g:Bool→Option ρ}:qp nm g=g (fS nm):=by
 simp only[qp,qo,mkF,Pf,Ln,fS]
 by_cases h0:nm=[]
 ·subst h0;rfl
 rw[if_neg h0]
 by_cases h16:16<nm.length
 ·rw[if_pos (by omega)]
  have:¬nm.length≤16:=by omega
  simp[this]
 rw[if_neg (by omega)]
 have hpos:0<nm.length:=List.length_pos_iff.2 h0;have hget:nm[0]? =some nm[0]:=xG hpos;simp only[Lp,hget,xS,Ur]
 have loop:∀p:Nat,p≤nm.length→(dD (fun(v:Int×Bool×Nat) k=>if v.2.2<nm.length then(if cw ((uJ nm v.2.2).1:Int)=true then k ((v.2.2:Int),false,v.2.2+(uJ nm v.2.2).2)else if v.2.2<nm.length then g false else g (!ownL.contains nm))else g (!ownL.contains nm)) ((0:Int),false,p))=if((nm.drop p).all fun b=>cw (bI b))=true then g (!ownL.contains nm)else g false:=fun p hp=>by
  refine ir (fun v:Int×Bool×Nat=>v.2.2≤nm.length) (fun v=>if((nm.drop v.2.2).all fun b=>cw (bI b))=true then g (!ownL.contains nm)else g false) (fun v=>nm.length - v.2.2) ?_ (v:=((0:Int),false,p)) hp
  rintro⟨a,b,q⟩ k hq hk
  simp only at hq ⊢
  by_cases hlt:q<nm.length
  ·rw[if_pos hlt,(th hlt).1,rT hlt]
   cases hb:cw (bI nm[q])with
   |true=>
    rw[if_pos rfl,(th hlt).2 hb,hk _ (by simp only;omega) (by simp only;omega),Bool.true_and]
   |false=>simp[hlt]
  ·rw[if_neg hlt]
   simp[List.drop_eq_nil_of_le (yC hlt)]
 have hall:nm.all (fun b=>cw (bI b))=(cw (bI nm[0])&&(nm.drop 1).all fun b=>cw (bI b)):=rT (p:=0) hpos
 have hfst:nm.headD 0=nm[0]:=by cases nm with |nil=>exact absurd rfl h0 |cons b r=>rfl
 have hne:(!nm.isEmpty)=true:=by simp[h0]
 rw[hne,hfst,hall,show decide (nm.length≤16)=true by simp;omega]
 simp only[Bool.true_and]
 show(if ma (bI nm[0])=false then g false else _)=_
 cases hl:ma (bI nm[0])with
 |false=>simp
 |true=>
  rw[if_neg (by simp),if_pos hpos]
  have hp:cw (bI nm[0])=true:=by simp[cw,hl]
  obtain⟨r1,r2⟩:=th hpos;rw[r1,hp,if_pos rfl,r2 hp]
  refine(loop 1 hpos).trans ?_
  cases h:(nm.drop 1).all fun b=>cw (bI b) <;>simp
theorem H7{nm:List UInt8}(h0:nm≠[])(h16:nm.length≤16){g:Bool→Option ρ}:(ln nm 0 fun y0 y1=>if y1=1 then g (decide (y0=(nm.length:Int)))else g false)=g (ma (bI (nm.headD 0))&&nm.all fun b=>cw (bI b)):=by
 simp only[ln,lm,mkF,Pg,Ph,uw,mT];have hpos:0<nm.length:=List.length_pos_iff.2 h0;have hget:nm[(0:Int).toNat]? =some nm[0]:=xG hpos;have hfst:nm.headD 0=nm[0]:=by cases nm with |nil=>exact absurd rfl h0 |cons b r=>rfl
 have hall:nm.all (fun b=>cw (bI b))=(cw (bI nm[0])&&(nm.drop 1).all fun b=>cw (bI b)):=rT (p:=0) hpos
 have hw1:IntKind.i64.wrap ((0:Int)+1)=((1:Nat):Int):=aP (k:=0) (by omega)
 have h00:(0:Int)≤0:=Int.le_refl _;have hpi:(0:Int)<(nm.length:Int):=by omega
 rw[hfst,hall];simp only[h00,hpi,if_true,hget,xS,show¬((2:Int)=1)by decide,show¬((3:Int)=1)by decide,show¬((0:Int)=1)by decide,if_false]
 show(if ma (bI nm[0])=true then _ else _)=_
 cases hl:ma (bI nm[0])with
 |true=>
  rw[if_pos rfl,show ma ((nm[0].toNat:Nat):Int)=true from hl,if_pos rfl,hw1]
  have hp:cw (bI nm[0])=true:=by simp[cw,hl]
  rw[hp,Bool.true_and,Bool.true_and]
  refine(ir (fun v:Int=>∃i:Nat,v=i∧i≤nm.length) (fun v=>g ((nm.drop v.toNat).all fun b=>cw (bI b))) (fun v=>nm.length - v.toNat) ?_ (v:=((1:Nat):Int)) ⟨1,rfl,hpos⟩).trans rfl
  rintro v k ⟨i,rfl,hi⟩ hk;have hwi:IntKind.i64.wrap ((i:Int) - 0)=(i:Int):=by rw[Int.sub_zero,ef (by omega) (by omega)]
  rw[xV,hwi]
  by_cases hlt:i<nm.length
  ·have e1:(i:Int)<(nm.length:Int):=by omega
   have e2:(0:Int)≤(i:Int):=by omega
   have e3:¬((i:Int)=(nm.length:Int)):=by omega
   simp only[e1,e2,if_true,xG hlt,xS,aP (show i<4611686018427387904 by omega),e3,decide_false]
   have hk1:k ((i+1:Nat):Int)=g ((nm.drop (i+1)).all fun b=>cw (bI b)):=by
    rw[hk _ ⟨i+1,rfl,hlt⟩ (by simp only[xV];omega),xV]
   rw[rT hlt,hk1]
   show(if ma (bI nm[i])=true then _ else if digB (bI nm[i])=true then _ else if bI nm[i]=95 then _ else _)=_
   unfold cw
   cases ma (bI nm[i])
   ·cases digB (bI nm[i])
    ·by_cases h:bI nm[i]=95
     ·rw[h];simp
     ·simp[h]
    ·simp
   ·simp
  ·have e1:¬(i:Int)<(nm.length:Int):=by omega
   have e3:((i:Int)=(nm.length:Int)):=by omega
   rw[if_neg e1,decide_eq_true e3,List.drop_eq_nil_of_le (yC hlt)];rfl
 |false=>
  rw[if_neg (by simp),Bool.false_and]
  show(if digB (bI nm[0])=true then _ else _)=_
  cases hd:digB (bI nm[0])with
  |true=>
   rw[if_pos rfl,show digB ((nm[0].toNat:Nat):Int)=true from hd,if_pos rfl,hw1]
   refine ir (fun v:Int=>∃i:Nat,v=i∧i≤nm.length) (fun v=>g false) (fun v=>nm.length - v.toNat) ?_ (v:=((1:Nat):Int)) ⟨1,rfl,hpos⟩
   rintro v k ⟨i,rfl,hi⟩ hk
   by_cases hlt:i<nm.length
   ·have e1:(i:Int)<(nm.length:Int):=by omega
    have e2:(0:Int)≤(i:Int):=by omega
    simp only[e1,e2,if_true,xV,xG hlt,xS,aP (show i<4611686018427387904 by omega)]
    split
    ·exact hk _ ⟨i+1,rfl,hlt⟩ (by simp only[xV];omega)
    ·rfl
   ·rw[if_neg (by omega)]
  |false=>
   rw[if_neg (by simp)]
   have hsg:∀y∈sgL,y.length≤2:=by decide
   refine ir (fun v:Int=>∃i:Nat,v=i∧i≤25) (fun v=>g false) (fun v=>25 - v.toNat) ?_ (v:=(0:Int)) ⟨0,rfl,by omega⟩
   rintro v k ⟨i,rfl,hi⟩ hk
   by_cases hlt:i<25
   ·have hli:i<sgL.length:=hlt
    have e1:(i:Int)<25:=by omega
    have e2:(0:Int)≤(i:Int):=by omega
    have hy:=hsg sgL[i] (List.getElem_mem hli);have w1:IntKind.i64.wrap ((nm.length:Int) - 0)=(nm.length:Int):=by rw[Int.sub_zero,ef (by omega) (by omega)]
    have w2:IntKind.i64.wrap (0+(sgL[i].length:Int))=(sgL[i].length:Int):=by rw[Int.zero_add,ef (by omega) (by omega)]
    have e3:(0:Int)≤(sgL[i].length:Int):=by omega
    simp only[e1,e2,if_true,xV,xG hli,xS,aP (show i<4611686018427387904 by omega),w1,w2,e3]
    have hk1:=hk ((i+1:Nat):Int) ⟨i+1,rfl,hlt⟩ (by simp only[xV];omega)
    by_cases c:(sgL[i].length:Int)≤(nm.length:Int)
    ·rw[if_pos c,if_pos ⟨by omega,c⟩]
     split
     ·rfl
     ·exact hk1
    ·rw[if_neg c];exact hk1
   ·rw[if_neg (by omega)]
theorem ia{nm:List UInt8}{g:Bool→Option ρ}:qr nm g=g (fS nm):=by
 simp only[qr,qq,mkF,fS]
 by_cases h0:nm=[]
 ·subst h0;rfl
 rw[if_neg h0]
 by_cases h16:16<nm.length
 ·rw[if_pos (by omega)]
  have:¬nm.length≤16:=by omega
  simp[this]
 rw[if_neg (by omega)]
 by_cases a1:nm=[115,101,108,102]
 ·subst a1;rfl
 by_cases a2:nm=[110,111,110,101]
 ·subst a2;rfl
 by_cases a3:nm=[108,101,110]
 ·subst a3;rfl
 by_cases a4:nm=[97,116]
 ·subst a4;rfl
 rw[if_neg a1,if_neg a2,if_neg a3,if_neg a4,H7 h0 (by omega)]
 have hno:ownL.contains nm=false:=by
  rw[Bool.eq_false_iff];intro h;rw[List.contains_iff_mem]at h
  simp only[ownL,xY,List.not_mem_nil,or_false]at h
  rcases h with h |h |h |h
  ·exact a1 h
  ·exact a2 h
  ·exact a3 h
  ·exact a4 h
 have hne:nm.isEmpty=false:=by simp[h0]
 have hle:decide (nm.length≤16)=true:=by simp;omega
 rw[hno,hne,hle]
 simp
end
def aw(n:Nat)(f:Nat→Int):Option (Nat×Int):=(List.range n).findSome? fun i=>if f i=0 then none else some (i,f i)
theorem H8{ρ:Type}{f:Nat→Int}{g:Nat→Int→Option ρ}{fin:Option ρ}(N:Nat):((List.range N).findSome? fun i=>if f i=0 then none else some (g i (f i))).getD fin=(aw N f).elim fin fun p=>g p.1 p.2:=by
 unfold aw;generalize List.range N=l
 induction l with
 |nil=>rfl
 |cons a l ih=>
  simp only[List.findSome?_cons]
  by_cases h:f a=0
  ·simp only[h,if_true];exact ih
  ·simp only[h,if_false];rfl
theorem Dv{N:Nat}{f g:Nat→Int}(h:∀i,i<N→f i=g i):aw N f=aw N g:=by
 unfold aw
 have:∀l:List Nat,(∀i∈l,i<N)→(l.findSome? fun i=>if f i=0 then none else some (i,f i))=l.findSome? fun i=>if g i=0 then none else some (i,g i):=by
  intro l
  induction l with
  |nil=>intro _;rfl
  |cons a l ih=>
   intro hl;simp only[List.findSome?_cons,h a (hl a (by simp)),ih fun i hi=>hl i (by simp[hi])]
 exact this _ fun i hi=>List.mem_range.1 hi
theorem bG{N:Nat}{f:Nat→Int}{i:Nat}{e:Int}(h:aw N f=some (i,e)):i<N∧f i=e∧e≠0∧∀k,k<i→f k=0:=by
 unfold aw at h
 induction N with
 |zero=>simp at h
 |succ N ih=>
  rw[List.range_succ,List.findSome?_append]at h
  cases hq:(List.range N).findSome? fun i=>if f i=0 then none else some (i,f i)with
  |some p=>
   rw[hq]at h
   simp only[Option.some_or,xJ]at h
   subst h;obtain⟨a,b,c,d⟩:=ih hq
   exact⟨by omega,b,c,d⟩
  |none=>
   rw[hq]at h
   simp only[Option.none_or,List.findSome?_cons,List.findSome?_nil]at h
   by_cases h0:f N=0
   ·simp[h0]at h
   ·simp only[h0,if_false,xJ,pJ]at h
    obtain⟨rfl,rfl⟩:=h
    refine⟨by omega,rfl,h0,fun k hk=> ?_⟩
    have:=List.findSome?_eq_none_iff.1 hq k (List.mem_range.2 hk)
    by_cases h1:f k=0
    ·exact h1
    ·simp[h1]at this
theorem fT{N:Nat}{f:Nat→Int}(h:aw N f=none):∀k,k<N→f k=0:=fun k hk=>by
 have:=List.findSome?_eq_none_iff.1 h k (List.mem_range.2 hk)
 by_cases h1:f k=0
 ·exact h1
 ·simp[h1]at this
theorem gy{N:Nat}{f:Nat→Int}{i:Nat}(hi:i<N)(h0:f i≠0)(h:∀k,k<i→f k=0):aw N f=some (i,f i):=by
 cases hq:aw N f with
 |none=>exact absurd (fT hq i hi) h0
 |some p=>
  obtain⟨j,e⟩:=p;obtain⟨a,b,c,d⟩:=bG hq
  rcases Nat.lt_trichotomy i j with q |q |q
  ·exact absurd (d i q) h0
  ·subst q;rw[b]
  ·exact absurd (h j q) (by rw[b];exact c)
theorem dx{N:Nat}{f:Nat→Int}(h:∀k,k<N→f k=0):aw N f=none:=by
 cases hq:aw N f with
 |none=>rfl
 |some p=>
  obtain⟨a,b,c,d⟩:=bG (i:=p.1) (e:=p.2) hq;exact absurd (b▸h _ a) c
abbrev Nm:=List UInt8
def lI(most:Nat)(nms:List Nm)(more:Nat→Int)(i:Nat):Int:=
 if most≤i then 11 else match nms[i]? with
 |some x=>if fS x=false then 6 else if x∈nms.take i then 7 else more i
 |none=>0
def bK(s:List GScalar)(k:Int):Int:=
 if 1≤k then match s[(k - 1).toNat]? with |some x=>if 1≤x.Size∧x.Size≤4 then x.Size else 0 |none=>0 else 0
def jU(s:List GScalar)(k:Int):Bool:=decide (k=0) || decide (bK s k≠0)
def fp(lo hi:Int):Bool:=decide (-1048576≤lo∧lo≤hi∧hi≤1048576∧hi - lo<256)
def Dw(x:GScalar):Int:=if 1≤x.Size∧x.Size≤4 then 0 else 10
def Fa(s:List GScalar)(v:GVar):Int:=
 if(jU s v.Scalar&&jU s v.Over)=false then 8
 else if v.Scalar=0 then(if fp v.Lo v.Hi=true∧v.Lo≤v.Init∧v.Init≤v.Hi then 0 else 10)
 else(if 0≤v.Init∧v.Init≤bK s v.Scalar then 0 else 10)
def Ap(s:List GScalar)(c:GChan):Int:=
 if jU s c.Scalar=false then 8 else if 1≤c.Cap∧c.Cap≤4∧(c.Scalar=0→fp c.Lo c.Hi=true)then 0 else 10
def aV{α:Type}(l:List α)(f:α→Int)(i:Nat):Int:=match l[i]? with |some x=>f x |none=>0
def km(l:List GScalar):Option (Nat×Int):=aw l.length (lI 2 (l.map (·.Name)) (aV l Dw))
def jh(l:List GVar)(s:List GScalar)(most:Nat):Nat→Int:=lI most (l.map (·.Name)) (aV l (Fa s))
def l8(l:List GVar)(s:List GScalar)(most:Nat):Option (Nat×Int):=aw l.length (jh l s most)
def fq(l:List GChan)(s:List GScalar):Nat→Int:=lI 4 (l.map (·.Name)) (aV l (Ap s))
def lJ(l:List GChan)(s:List GScalar):Option (Nat×Int):=aw l.length (fq l s)
def atE{ρ:Type}(o:Option (Nat×Int))(g:Int→Int→Option ρ):Option ρ:=o.elim (g 0 0) fun p=>g p.1 p.2
def dh(e:List GNode)(k:Int)(s:GScope):Int:=if(dw e s).2=0 then(if(dw e s).1=k then 0 else 9)else(dw e s).2
def lK(n:Int)(s:GScope):Option GChan:=if 0≤n then(s.Chans[n.toNat]?).bind fun c=>if eR c.Scalar s=true then some c else none else none
def H9(a:GAct)(s:GScope):Int:=
 if a.Kind=1∨a.Kind=2∨a.Kind=3 then
  match bJ (if a.Kind=3 then s.Locals else s.Vars) a.To s with
  |none=>8
  |some v=>
   if a.Kind=2 then(if v.Over=0 then 9 else if dh a.Index (w64 (1+v.Over)) s=0 then dh a.Value (kOf v.Scalar) s else dh a.Index (w64 (1+v.Over)) s)
   else(if v.Over=0 then dh a.Value (kOf v.Scalar) s else 9)
 else if a.Kind=4∨a.Kind=5 then
  match lK a.To s with
  |none=>8
  |some c=>
   if a.Kind=5 then(match bJ s.Locals a.Local s with |none=>8 |some v=>if v.Over=0∧kOf v.Scalar=kOf c.Scalar then 0 else 9)
   else dh a.Value (kOf c.Scalar) s
 else 3
def talksP(a:GAct):Bool:=decide (a.Kind=4) || decide (a.Kind=5)
def Aq(c:GCmd)(p:GProc):Int:=
 if fS c.Name=false then 6 else if 0≤c.From∧c.From<p.Locs∧0≤c.To∧c.To<p.Locs then(if 6<c.Acts.length then 11 else 0)else 10
def gN(l:List GAct)(s:GScope)(i:Nat):Int:=match l[i]? with |some a=>if talksP a=true∧(l.take i).any talksP=true then 7 else H9 a s |none=>0
def ti(c:GCmd)(p:GProc)(s:GScope):Int×Int:=
 if Aq c p≠0 then(0,Aq c p)
 else if 0<c.Guard.length∧dh c.Guard 1 s≠0 then(1,dh c.Guard 1 s)
 else(aw c.Acts.length (gN c.Acts s)).elim (0,0) fun q=>(2+q.1,q.2)
def tj(p:GProc)(s:GScope):Int:=
 if fS p.Name=false then 6 else if p.Over<0∨(s.Scalars.length:Int)<p.Over then 8 else if p.Locs<1∨12<p.Locs then 10 else if 12<p.Cmds.length then 11 else 0
def dm(s:GScope)(v:GVar):Int:=if v.Over≠0 then 9 else if v.Name∈s.Vars.map (·.Name)then 7 else 0
def oe(p:GProc)(s:GScope):Option (Nat×Int):=(l8 p.Vars s.Scalars 4).or (aw p.Vars.length (aV p.Vars (dm s)))
def innerP(p:GProc)(s:GScope):GScope:={s with Locals:=p.Vars,Self:=p.Over}
def dI(p:GProc)(s:GScope)(i:Nat):Int×Int:=match p.Cmds[i]? with |some c=>if(ti c p s).2≠0 then ti c p s else if c.Name∈(p.Cmds.take i).map (·.Name)then(0,7)else(0,0) |none=>(0,0)
def ej(p:GProc)(s:GScope):Int×Int×Int:=
 if tj p s≠0 then(0,0,tj p s)
 else match oe p s with
 |some q=>(1,q.1,q.2)
 |none=>(aw p.Cmds.length fun i=>(dI p (innerP p s) i).2).elim (0,0,0) fun q=>(2+q.1,(dI p (innerP p s) q.1).1,q.2)
abbrev Flt:=Int×Int×Int×Int
def aK(m:GModel)(p:GProc):Int:=if p.Over=0 then 1 else bK m.Scalars p.Over
def bg(m:GModel)(v:GVar):Int:=if v.Over=0 then 1 else bK m.Scalars v.Over
def gZ(c:GChan):Int:=1+min (max c.Cap 0) 4
def bq{α:Type}(f:α→Int)(l:List α):Int:=l.foldl (fun n x=>n+f x) 0
def tm(m:GModel):Int:=bq (aK m) m.Procs
def tn(m:GModel):Int:=bq (bg m) m.Vars+bq gZ m.Chans+bq (fun p=>aK m p * (1+(p.Vars.length:Int))) m.Procs
def sN(m:GModel):List Nm:=m.Scalars.map (·.Name)
def vN(m:GModel):List Nm:=m.Vars.map (·.Name)
def cN(m:GModel):List Nm:=m.Chans.map (·.Name)
def pN(m:GModel):List Nm:=m.Procs.map (·.Name)
def qN(m:GModel):List Nm:=m.Props.map (·.Name)
def orF(n:Nat)(f:Nat→Flt):Option Flt:=(List.range n).findSome? fun i=>if(f i).1=0 then none else some (f i)
def twF(e:Int)(x:Nm)(l:List Nm):Int:=if e≠0 then e else if x∈l then 7 else 0
def gvF(m:GModel)(i:Nat):Flt:=(twF (jh m.Vars m.Scalars 12 i) ((vN m).getD i []) (sN m++(vN m).take i),2,i,0)
def gcF(m:GModel)(i:Nat):Flt:=(twF (fq m.Chans m.Scalars i) ((cN m).getD i []) (sN m++vN m++(cN m).take i),3,i,0)
def rU(m:GModel):Option Flt:=((km m.Scalars).map fun q=>(q.2,1,(q.1:Int),0)).or ((orF m.Vars.length (gvF m)).or (orF m.Chans.length (gcF m)))
def Pi(m:GModel)(p:GProc):Option (Nat×Int):=aw p.Vars.length (aV p.Vars fun v=>if v.Name∈sN m++vN m++cN m++pN m then 7 else 0)
def gpF(m:GModel)(i:Nat):Flt:=match m.Procs[i]? with
 |none=>(0,0,0,0)
 |some p=>if 6≤i then(11,4,i,0)else
  let r:=ej p (bT m i)
  if r.2.2≠0 then(r.2.2,4,i,IntKind.i64.wrap (IntKind.i64.wrap (16 * r.1)+r.2.1))
  else if p.Name∈sN m++vN m++cN m++(pN m).take i then(7,4,i,0)
  else(Pi m p).elim (0,0,0,0) fun q=>(7,4,i,16+q.1)
def yg(m:GModel):Option Flt:=(orF m.Procs.length (gpF m)).or (if 12<tm m∨64<tn m then some (11,4,m.Procs.length,0)else none)
def iQ(m:GModel)(i:Nat):Int:=match m.Props[i]? with
 |none=>0
 |some p=>if 8≤i then 11 else if fS p.Name=false then 6 else if p.Name∈sN m++vN m++cN m++pN m++(qN m).take i then 7 else
  let k:=dw p.Expr ⟨m.Scalars,m.Vars,m.Chans,m.Procs,[],0⟩
  if k.2≠0 then k.2 else if k.1≠1 then 9 else 0
def nV(m:GModel):Option Flt:=orF m.Props.length fun i=>(iQ m i,5,i,0)
def lL(m:GModel):Option Flt:=(rU m).or ((yg m).or (nV m))
set_option maxHeartbeats 4000000
attribute [-simp] List.map_append List.map_take List.map_drop List.map_set
def okE(e:List GNode):Prop:=∀x∈e,x.N≤9223372036854775807
theorem BV{ρ:Type}(e:List GNode)(k:Int)(s:GScope)(hs:s.Scalars.length≤1000)(hN:okE e)(κ:KT ρ):
  cbK (call 167 [.sl false (List.map bh e),.int .i64 k,scD false s] []) κ=κ ([.d (.int .i64 (dh e k s))],[]):=by
 refine(ZP _ _ _ rfl).trans ?_
 have hk:=fun κ=>Gb (ρ:=ρ) false e s hs hN κ
 unfold dh
 simp -implicitDefEqProofs [go_sem,hk]
 by_cases h1:(dw e s).2=0 <;>by_cases h2:(dw e s).1=k <;>simp[h1,h2]
section
variable{ρ:Type}
theorem Us{s:GScope}:eR 0 s=true:=by simp[eR]
theorem vW{a:Int}{s:GScope}(h:a<0∨(s.Scalars.length:Int)<a):eR a s=false:=by
 simp only[eR,Bool.and_eq_false_iff,decide_eq_false_iff_not];omega
theorem Dx{a:Int}{s:GScope}(h0:¬a<0)(h1:¬(s.Scalars.length:Int)<a):eR a s=true:=by
 simp only[eR,xA,yD];omega
theorem Dy{a b:Int}{s:GScope}{g:Int→Bool→Option ρ}:nh a b s g=if(eR a s&&eR b s)=true then g (kOf a) true else g 0 false:=by
 simp only[nh,ng,mkF]
 by_cases h0:a<0
 ·simp[h0,vW (.inl h0)]
 by_cases h1:(s.Scalars.length:Int)<a
 ·simp[h0,h1,vW (.inr h1)]
 by_cases h2:b<0
 ·simp[h0,h1,h2,vW (.inl h2)]
 by_cases h3:(s.Scalars.length:Int)<b
 ·simp[h0,h1,h2,h3,vW (.inr h3)]
 rw[Dx h0 h1,Dx h2 h3];simp only[h0,h1,h2,h3,if_false,Bool.and_self,if_true,kOf]
 by_cases h4:a=0 <;>simp[h4]
theorem ji{l:List GVar}{n:Int}{s:GScope}{g:List UInt8→Int→Int→Int→Int→Int→Int→Bool→Option ρ}{e:Option ρ}(he:∀a b c d f h k,g a b c d f h k false=e):iG l n s g=match bJ l n s with |some v=>g v.Name v.Scalar v.Over v.Lo v.Hi v.Init (kOf v.Scalar) true |none=>e:=by
 simp only[iG,iF,mkF,Dy,bJ,he]
 by_cases h0:n<0
 ·simp[h0,show¬(0≤n)by omega]
 by_cases h1:(l.length:Int)≤n
 ·simp[h0,h1,show 0≤n by omega,List.getElem?_eq_none (show l.length≤n.toNat by omega)]
 have hlt:n.toNat<l.length:=by omega
 simp only[h0,h1,if_false,show 0≤n by omega,if_true,xG hlt,xS]
 cases h2:(eR l[n.toNat].Scalar s&&eR l[n.toNat].Over s) <;>simp
theorem yh{n:Int}{s:GScope}{g:Int→Bool→Option ρ}{e:Option ρ}(he:∀k,g k false=e):jz n s g=match lK n s with |some c=>g (kOf c.Scalar) true |none=>e:=by
 simp only[jz,jy,mkF,Dy,lK,he,Us,Bool.and_true]
 by_cases h0:n<0
 ·simp[h0,show¬(0≤n)by omega]
 by_cases h1:(s.Chans.length:Int)≤n
 ·simp[h0,h1,show 0≤n by omega,List.getElem?_eq_none (show s.Chans.length≤n.toNat by omega)]
 have hlt:n.toNat<s.Chans.length:=by omega
 simp only[h0,h1,if_false,show 0≤n by omega,if_true,xG hlt,xS]
 cases h2:eR s.Chans[n.toNat].Scalar s <;>simp
theorem Dz{a:GAct}{k:Int}{s:GScope}{g:Int→Option ρ}:iI a k s g=g (match bJ s.Locals a.Local s with |none=>8 |some v=>if v.Over=0∧kOf v.Scalar=k then 0 else 9):=by
 simp only[iI,iH,mkF];rw[ji (e:=g 8) (fun _ _ _ _ _ _ _=>by simp)]
 cases bJ s.Locals a.Local s with
 |none=>rfl
 |some v=>by_cases h:v.Over=0 <;>by_cases h2:kOf v.Scalar=k <;>simp[h,h2]
theorem og{c:GCmd}{p:GProc}{g:Int→Option ρ}:qu c p g=g (Aq c p):=by
 simp only[qu,qt,mkF,fo,Aq]
 cases fS c.Name
 ·simp
 by_cases h0:c.From<0
 ·simp[h0,show¬(0≤c.From)by omega]
 by_cases h1:p.Locs≤c.From
 ·simp[h0,h1,show¬(c.From<p.Locs)by omega]
 by_cases h2:c.To<0
 ·simp[h0,h1,h2,show¬(0≤c.To)by omega]
 by_cases h3:p.Locs≤c.To
 ·simp[h0,h1,h2,h3,show¬(c.To<p.Locs)by omega]
 have q:0≤c.From∧c.From<p.Locs∧0≤c.To∧c.To<p.Locs:=by omega
 by_cases h4:6<c.Acts.length
 ·simp[h0,h1,h2,h3,h4,q,show(6:Int)<(c.Acts.length:Int)by omega]
 ·simp[h0,h1,h2,h3,h4,q,show¬(6:Int)<(c.Acts.length:Int)by omega]
end
structure ActE(a:GAct):Prop where
 i:okE a.Index
 v:okE a.Value
theorem abr{ρ:Type}(x:Int)(a:GAct)(s:GScope)(hs:s.Scalars.length≤1000)(ha:ActE a)(k:Int)(κ:KT ρ):
  cbK (call 213 [.int .i64 k,.ptr 0,.ptr 1] [.box (.d (.agg [.int .i64 x,.int .i64 a.To,.int .i64 a.Local,.sl false (List.map bh a.Index),.sl false (List.map bh a.Value)])),.box (.d (scD false s))]) κ=
   κ ([.d (.int .i64 (dh a.Value k s))],[.box (.d (.agg [.int .i64 x,.int .i64 a.To,.int .i64 a.Local,.sl false (List.map bh a.Index),.sl false (List.map bh a.Value)])),.box (.d (scD false s))]):=by
 refine(aaI _ _ _ rfl).trans ?_
 have hk2:=fun k κ=>BV (ρ:=ρ) a.Value k s hs ha.v κ
 simp -implicitDefEqProofs [go_sem,hk2]
theorem abs{ρ:Type}(a:GAct)(s:GScope)(hs:s.Scalars.length≤1000)(ha:ActE a)(κ:KT ρ):
  cbK (call 169 [.agg [.int .i64 a.Kind,.int .i64 a.To,.int .i64 a.Local,.sl false (List.map bh a.Index),.sl false (List.map bh a.Value)],scD false s] []) κ=κ ([.d (.int .i64 (H9 a s))],[]):=by
 refine(ZV _ _ _ rfl).trans ?_
 have hk1:=fun k κ=>BV (ρ:=ρ) a.Index k s hs ha.i κ
 have hv:=fun x k κ=>abr (ρ:=ρ) x a s hs ha k κ
 unfold H9
 by_cases k3:a.Kind=3
 ·simp -implicitDefEqProofs [go_sem,hk1,hv,k3]
  rw[ji (e:=κ ([.d (.int .i64 8)],[])) (fun _ _ _ _ _ _ _=>by simp)]
  cases bJ s.Locals a.To s with
  |none=>rfl
  |some v=>by_cases h:v.Over=0 <;>simp[h]
 by_cases k1:a.Kind=1
 ·simp -implicitDefEqProofs [go_sem,hk1,hv,k1]
  rw[ji (e:=κ ([.d (.int .i64 8)],[])) (fun _ _ _ _ _ _ _=>by simp)]
  cases bJ s.Vars a.To s with
  |none=>rfl
  |some v=>by_cases h:v.Over=0 <;>simp[h]
 by_cases k2:a.Kind=2
 ·simp -implicitDefEqProofs [go_sem,hk1,hv,k2]
  rw[ji (e:=κ ([.d (.int .i64 8)],[])) (fun _ _ _ _ _ _ _=>by simp)]
  cases bJ s.Vars a.To s with
  |none=>rfl
  |some v=>by_cases h:v.Over=0 <;>by_cases h2:dh a.Index (w64 (1+v.Over)) s=0 <;>simp[h,h2]
 by_cases k4:a.Kind=4
 ·simp -implicitDefEqProofs [go_sem,hk1,hv,k4]
  rw[yh (e:=κ ([.d (.int .i64 8)],[])) (fun _=>by simp)]
  cases lK a.To s with
  |none=>rfl
  |some c=>simp
 by_cases k5:a.Kind=5
 ·simp -implicitDefEqProofs [go_sem,hk1,hv,k5]
  rw[yh (e:=κ ([.d (.int .i64 8)],[])) (fun _=>by simp)]
  cases lK a.To s with
  |none=>rfl
  |some c=>
   simp only[Dz]
   cases bJ s.Locals a.Local s with
   |none=>rfl
   |some v=>by_cases h:v.Over=0 <;>by_cases h2:kOf v.Scalar=kOf c.Scalar <;>simp[h,h2]
 simp -implicitDefEqProofs [go_sem,hk1,hv,k1,k2,k3,k4,k5]
end Go.Etx
namespace Go.Etx
open Go Go.Am Go.Proofs
set_option maxHeartbeats 4000000
set_option maxRecDepth 20000
attribute [-simp] List.map_append List.map_take List.map_drop List.map_set
abbrev cmD(c:GCmd):D:=.agg [.str c.Name,.int .i64 c.From,.int .i64 c.To,.sl false (List.map bh c.Guard),.sl false (List.map (ff false) c.Acts),.bool c.Fair]
abbrev prD(p:GProc):D:=.agg [.str p.Name,.int .i64 p.Over,.int .i64 p.Locs,.sl false (List.map aq p.Vars),.sl false (List.map (bS false) p.Cmds)]
structure CmdE(c:GCmd):Prop where
 g:okE c.Guard
 a:∀a∈c.Acts,ActE a
theorem Lq{ρ:Type}{a:GAct}{g:Bool→Option ρ}:nf a g=g (talksP a):=by
 simp only[nf,nb,mkF,talksP]
 by_cases h4:a.Kind=4 <;>by_cases h5:a.Kind=5 <;>simp[h4,h5]
def SC(s:GScope)(ac:List GAct)(b:Bool)(i:Int):St:=
 ⟨[(5,.loc (.l 5 0) [] 0 0),(10,.d (.bool b)),(32,.d (.sl false (List.map (ff false) ac))),(33,.d (.int .i64 ac.length)),(34,.d (.int .i64 i))],[((5,0),.own [.d (scD false s)])],[]⟩
def XC(s:GScope)(ac:List GAct)(b:Bool):St:=
 ⟨[(5,.loc (.l 5 0) [] 0 0),(10,.d (.bool b)),(32,.d (.sl false (List.map (ff false) ac))),(33,.d (.int .i64 ac.length)),(34,.d (.int .i64 ac.length)),(35,.d (.bool false))],[((5,0),.own [.d (scD false s)])],[]⟩
def RC(a e:Int):St:=⟨[(6,.d (.int .i64 a)),(7,.d (.int .i64 e))],[],[]⟩
theorem Pj{ρ:Type}(s:GScope)(hs:s.Scalars.length≤1000)(ac:List GAct)(hl:ac.length≤1000)(i:Nat)(hi:i<ac.length)(ha:ActE ac[i])(R:St→Option ρ)(κ:Ex×St→Option ρ):
  go P hints jd HD BH.1 (SC s ac ((ac.take i).any talksP) i) (kLp R κ)=if gN ac s i=0 then R (SC s ac ((ac.take (i+1)).any talksP) (i+1:Nat))else κ (.ret,RC (2+i) (gN ac s i)):=by
 have e1:ac[i]? =some ac[i]:=xG hi;have e2:(i:Int)<(ac.length:Int):=by omega
 have w1:IntKind.i64.wrap ((i:Int)+1)=((i+1:Nat):Int):=aP (by omega)
 have w2:IntKind.i64.wrap (2+(i:Int))=2+(i:Int):=bt (by omega) (by omega)
 have hk:=fun κ=>abs (ρ:=ρ) ac[i] s hs ha κ
 have t1:(ac.take (i+1)).any talksP=((ac.take i).any talksP || talksP ac[i]):=by rw[bn hi,List.any_append];simp
 unfold SC RC gN;rw[e1,t1]
 simp only
 generalize (ac.take i).any talksP=b
 cases b <;>cases ht:talksP ac[i]
 all_goals
  simp -implicitDefEqProofs [go_sem,e1,e2,w1,w2,hk,Lq,ht]
theorem Pk{ρ:Type}(s:GScope)(ac:List GAct)(b:Bool)(R:St→Option ρ)(κ:Ex×St→Option ρ):
  go P hints jd HD BH.1 (SC s ac b (ac.length:Nat)) (kLp R κ)=κ (.exit 0,XC s ac b):=by
 unfold SC XC
 simp -implicitDefEqProofs [go_sem]
theorem Pl{ρ:Type}(s:GScope)(hs:s.Scalars.length≤1000)(ac:List GAct)(hl:ac.length≤1000)(ha:∀a∈ac,ActE a)(κ:Ex×St→Option ρ):∀(n i:Nat),ac.length - i=n→i≤ac.length→(∀k,k<i→gN ac s k=0)→
  cX P hints jd HD 0 (SC s ac ((ac.take i).any talksP) i) κ=(aw ac.length (gN ac s)).elim (κ (.exit 0,XC s ac (ac.any talksP))) fun q=>κ (.ret,RC (2+q.1) q.2):=by
 intro n
 induction n with
 |zero=>
  intro i hn hi h0
  have:i=ac.length:=by omega
  subst this;rw[ap BH.2,Pk,List.take_length,dx h0];rfl
 |succ n ih=>
  intro i hn hi h0;have hlt:i<ac.length:=by omega
  rw[ap BH.2,Pj s hs ac hl i hlt (ha _ (List.getElem_mem hlt))]
  by_cases hf:gN ac s i=0
  ·rw[if_pos hf]
   exact ih (i+1) (by omega) (by omega) fun k hk=>by
    rcases Nat.lt_or_ge k i with q |q
    ·exact h0 k q
    ·rw[show k=i by omega];exact hf
  ·rw[if_neg hf,gy hlt hf h0];rfl
theorem abt{ρ:Type}(c:GCmd)(p:GProc)(s:GScope)(hs:s.Scalars.length≤1000)(hc:CmdE c)(hn:c.Acts.length≤1000)(κ:KT ρ):
  cbK (call 123 [cmD c,prD p,scD false s] []) κ=κ ([.d (.int .i64 (ti c p s).1),.d (.int .i64 (ti c p s).2)],[]):=by
 refine(YH _ _ _ rfl).trans ?_
 have hk:=fun κ=>BV (ρ:=ρ) c.Guard 1 s hs hc.g κ
 have hl:=fun κ=>Pl (ρ:=ρ) s hs c.Acts hn hc.a κ _ 0 rfl (Nat.zero_le _) (fun k hk=>by omega)
 simp only[SC,XC,RC,List.take_zero,List.any_nil,Int.natCast_zero]at hl
 unfold ti
 by_cases h0:Aq c p=0
 ·by_cases h1:0<c.Guard.length
  ·by_cases h2:dh c.Guard 1 s=0
   ·cases hf:aw c.Acts.length (gN c.Acts s)with
    |none=>simp -implicitDefEqProofs [go_sem,hk,hl,og,h0,h1,h2,hf]
    |some q=>simp -implicitDefEqProofs [go_sem,hk,hl,og,h0,h1,h2,hf]
   ·simp -implicitDefEqProofs [go_sem,hk,og,h0,h1,h2]
  ·cases hf:aw c.Acts.length (gN c.Acts s)with
    |none=>simp -implicitDefEqProofs [go_sem,hk,hl,og,h0,h1,hf]
    |some q=>simp -implicitDefEqProofs [go_sem,hk,hl,og,h0,h1,hf]
 ·simp -implicitDefEqProofs [go_sem,hk,og,h0]
theorem Pm{ρ:Type}(x v:GVar)(H:List Ob)(n:Nat)(hH:H[n]? =some (.box (.d (aq v))))(κ:KT ρ):
  cbK (call 165 [aq x,.ptr n] H) κ=κ ([.d (.bool (decide (x.Name=v.Name)))],H):=by
 refine(ZJ _ _ _ rfl).trans ?_
 simp -implicitDefEqProofs [go_sem,hH]
theorem Pn{ρ:Type}(x v:GCmd)(H:List Ob)(n:Nat)(hH:H[n]? =some (.box (.d (bS false v))))(κ:KT ρ):
  cbK (call 125 [bS false x,.ptr n] H) κ=κ ([.d (.bool (decide (x.Name=v.Name)))],H):=by
 refine(YN _ _ _ rfl).trans ?_
 simp -implicitDefEqProofs [go_sem,hH]
def hvS(l:List GVar)(n:Nat)(H:List Ob)(i:Int):St:=⟨[(0,.d (.sl false (List.map aq l))),(1,.d (.fn (.func 165) [] [.ptr n])),(7,.d (.int .i64 l.length)),(8,.d (.int .i64 i))],[],H⟩
def hvX(l:List GVar)(n:Nat)(H:List Ob):St:=⟨[(0,.d (.sl false (List.map aq l))),(1,.d (.fn (.func 165) [] [.ptr n])),(7,.d (.int .i64 l.length)),(8,.d (.int .i64 l.length)),(9,.d (.bool false))],[],H⟩
def hvF(l:List GVar)(x:Nm)(i:Nat):Int:=aV l (fun y=>if y.Name=x then 1 else 0) i
theorem Po{ρ:Type}(l:List GVar)(hl:l.length≤1000)(v:GVar)(H:List Ob)(n:Nat)(hH:H[n]? =some (.box (.d (aq v))))(i:Nat)(hi:i<l.length)(R:St→Option ρ)(κ:Ex×St→Option ρ):
  go P hints jg HI BN.1 (hvS l n H i) (kLp R κ)=if hvF l v.Name i=0 then R (hvS l n H (i+1:Nat))else κ (.ret,⟨[(4,.d (.int .i64 i))],[],H⟩):=by
 have e1:l[i]? =some l[i]:=xG hi;have e2:(i:Int)<(l.length:Int):=by omega
 have w1:IntKind.i64.wrap ((i:Int)+1)=((i+1:Nat):Int):=aP (by omega)
 have hs:=fun κ=>Pm (ρ:=ρ) l[i] v H n hH κ
 simp only[aq,eS,eI,eB,iu,Ah]at hs
 unfold hvS hvF aV;rw[e1]
 by_cases hq:l[i].Name=v.Name
 ·simp only[decide_eq_true hq]at hs
  rw[if_neg (by simp[hq])]
  simp -implicitDefEqProofs [go_sem,e1,e2,w1,hs]
 ·simp only[decide_eq_false hq]at hs
  rw[if_pos (by simp[hq])]
  simp -implicitDefEqProofs [go_sem,e1,e2,w1,hs]
theorem Pp{ρ:Type}(l:List GVar)(n:Nat)(H:List Ob)(R:St→Option ρ)(κ:Ex×St→Option ρ):
  go P hints jg HI BN.1 (hvS l n H (l.length:Nat)) (kLp R κ)=κ (.exit 0,hvX l n H):=by
 unfold hvS hvX
 simp -implicitDefEqProofs [go_sem]
theorem Pq{ρ:Type}(l:List GVar)(hl:l.length≤1000)(v:GVar)(H:List Ob)(n:Nat)(hH:H[n]? =some (.box (.d (aq v))))(κ:Ex×St→Option ρ):∀(m i:Nat),l.length - i=m→i≤l.length→(∀k,k<i→hvF l v.Name k=0)→
  cX P hints jg HI 0 (hvS l n H i) κ=(aw l.length (hvF l v.Name)).elim (κ (.exit 0,hvX l n H)) fun q=>κ (.ret,⟨[(4,.d (.int .i64 q.1))],[],H⟩):=by
 intro m
 induction m with
 |zero=>
  intro i hn hi h0
  have:i=l.length:=by omega
  subst this;rw[ap BN.2,Pp,dx h0];rfl
 |succ m ih=>
  intro i hn hi h0;have hlt:i<l.length:=by omega
  rw[ap BN.2,Po l hl v H n hH i hlt]
  by_cases hf:hvF l v.Name i=0
  ·rw[if_pos hf]
   exact ih (i+1) (by omega) (by omega) fun k hk=>by
    rcases Nat.lt_or_ge k i with q |q
    ·exact h0 k q
    ·rw[show k=i by omega];exact hf
  ·rw[if_neg hf,gy hlt hf h0];rfl
theorem abu(l:List GVar)(x:Nm):aw l.length (hvF l x)=none↔x∉l.map (·.Name):=by
 constructor
 ·intro h hx
  obtain⟨y,hy,rfl⟩:=List.mem_map.1 hx;obtain⟨i,hi,rfl⟩:=List.mem_iff_getElem.1 hy
  have:=fT h i hi
  simp[hvF,aV,xG hi]at this
 ·intro h
  refine dx fun k hk=> ?_
  simp only[hvF,aV,xG hk];rw[if_neg];intro e;exact h (List.mem_map.2 ⟨_,List.getElem_mem hk,e⟩)
theorem afG{ρ:Type}(l:List GVar)(hl:l.length≤1000)(v:GVar)(H:List Ob)(n:Nat)(hH:H[n]? =some (.box (.d (aq v))))(κ:KT ρ):
  cbK (call 211 [.sl false (List.map aq l),.fn (.func 165) [] [.ptr n]] H) κ=κ ([.d (.int .i64 ((aw l.length (hvF l v.Name)).elim (-1) fun q=>(q.1:Int)))],H):=by
 refine(aaC _ _ _ rfl).trans ?_
 have hlp:=fun κ=>Pq (ρ:=ρ) l hl v H n hH κ _ 0 rfl (Nat.zero_le _) (fun k hk=>by omega)
 simp only[hvS,hvX,Int.natCast_zero]at hlp
 cases hf:aw l.length (hvF l v.Name)with
 |none=>simp -implicitDefEqProofs [go_sem,hlp,hf]
 |some q=>simp -implicitDefEqProofs [go_sem,hlp,hf]
theorem Ut{ρ:Type}(l:List GVar)(hl:l.length≤1000)(v:GVar)(H:List Ob)(n:Nat)(hH:H[n]? =some (.box (.d (aq v))))(κ:KT ρ):
  cbK (call 164 [.sl false (List.map aq l),.fn (.func 165) [] [.ptr n]] H) κ=κ ([.d (.bool (decide (v.Name∈l.map (·.Name))))],H):=by
 refine(ZG _ _ _ rfl).trans ?_
 have hw:=fun κ=>afG (ρ:=ρ) l hl v H n hH κ
 have hin:=abu l v.Name
 cases hf:aw l.length (hvF l v.Name)with
 |none=>
  have:v.Name∉l.map (·.Name):=hin.1 hf
  rw[decide_eq_false this];simp only[hf]at hw
  simp -implicitDefEqProofs [go_sem,hw]
 |some q=>
  have:v.Name∈l.map (·.Name):=Classical.byContradiction fun h=>by rw[hin.2 h]at hf;cases hf
  rw[decide_eq_true this];simp only[hf]at hw
  simp -implicitDefEqProofs [go_sem,hw]
def hcS(l:List GCmd)(n:Nat)(H:List Ob)(i:Int):St:=⟨[(0,.d (.sl false (List.map (bS false) l))),(1,.d (.fn (.func 125) [] [.ptr n])),(7,.d (.int .i64 l.length)),(8,.d (.int .i64 i))],[],H⟩
def hcX(l:List GCmd)(n:Nat)(H:List Ob):St:=⟨[(0,.d (.sl false (List.map (bS false) l))),(1,.d (.fn (.func 125) [] [.ptr n])),(7,.d (.int .i64 l.length)),(8,.d (.int .i64 l.length)),(9,.d (.bool false))],[],H⟩
def hcF(l:List GCmd)(x:Nm)(i:Nat):Int:=aV l (fun y=>if y.Name=x then 1 else 0) i
theorem Pr{ρ:Type}(l:List GCmd)(hl:l.length≤1000)(v:GCmd)(H:List Ob)(n:Nat)(hH:H[n]? =some (.box (.d (bS false v))))(i:Nat)(hi:i<l.length)(R:St→Option ρ)(κ:Ex×St→Option ρ):
  go P hints jf HG BK.1 (hcS l n H i) (kLp R κ)=if hcF l v.Name i=0 then R (hcS l n H (i+1:Nat))else κ (.ret,⟨[(4,.d (.int .i64 i))],[],H⟩):=by
 have e1:l[i]? =some l[i]:=xG hi;have e2:(i:Int)<(l.length:Int):=by omega
 have w1:IntKind.i64.wrap ((i:Int)+1)=((i+1:Nat):Int):=aP (by omega)
 have hs:=fun κ=>Pn (ρ:=ρ) l[i] v H n hH κ
 simp only[bS,eS,eI,eB,iu,Ah]at hs
 unfold hcS hcF aV;rw[e1]
 by_cases hq:l[i].Name=v.Name
 ·simp only[decide_eq_true hq]at hs
  rw[if_neg (by simp[hq])]
  simp -implicitDefEqProofs [go_sem,e1,e2,w1,hs]
 ·simp only[decide_eq_false hq]at hs
  rw[if_pos (by simp[hq])]
  simp -implicitDefEqProofs [go_sem,e1,e2,w1,hs]
theorem Ps{ρ:Type}(l:List GCmd)(n:Nat)(H:List Ob)(R:St→Option ρ)(κ:Ex×St→Option ρ):
  go P hints jf HG BK.1 (hcS l n H (l.length:Nat)) (kLp R κ)=κ (.exit 0,hcX l n H):=by
 unfold hcS hcX
 simp -implicitDefEqProofs [go_sem]
theorem Pt{ρ:Type}(l:List GCmd)(hl:l.length≤1000)(v:GCmd)(H:List Ob)(n:Nat)(hH:H[n]? =some (.box (.d (bS false v))))(κ:Ex×St→Option ρ):∀(m i:Nat),l.length - i=m→i≤l.length→(∀k,k<i→hcF l v.Name k=0)→
  cX P hints jf HG 0 (hcS l n H i) κ=(aw l.length (hcF l v.Name)).elim (κ (.exit 0,hcX l n H)) fun q=>κ (.ret,⟨[(4,.d (.int .i64 q.1))],[],H⟩):=by
 intro m
 induction m with
 |zero=>
  intro i hn hi h0
  have:i=l.length:=by omega
  subst this;rw[ap BK.2,Ps,dx h0];rfl
 |succ m ih=>
  intro i hn hi h0;have hlt:i<l.length:=by omega
  rw[ap BK.2,Pr l hl v H n hH i hlt]
  by_cases hf:hcF l v.Name i=0
  ·rw[if_pos hf]
   exact ih (i+1) (by omega) (by omega) fun k hk=>by
    rcases Nat.lt_or_ge k i with q |q
    ·exact h0 k q
    ·rw[show k=i by omega];exact hf
  ·rw[if_neg hf,gy hlt hf h0];rfl
theorem abv(l:List GCmd)(x:Nm):aw l.length (hcF l x)=none↔x∉l.map (·.Name):=by
 constructor
 ·intro h hx
  obtain⟨y,hy,rfl⟩:=List.mem_map.1 hx;obtain⟨i,hi,rfl⟩:=List.mem_iff_getElem.1 hy
  have:=fT h i hi
  simp[hcF,aV,xG hi]at this
 ·intro h
  refine dx fun k hk=> ?_
  simp only[hcF,aV,xG hk];rw[if_neg];intro e;exact h (List.mem_map.2 ⟨_,List.getElem_mem hk,e⟩)
theorem afH{ρ:Type}(l:List GCmd)(hl:l.length≤1000)(v:GCmd)(H:List Ob)(n:Nat)(hH:H[n]? =some (.box (.d (bS false v))))(κ:KT ρ):
  cbK (call 170 [.sl false (List.map (bS false) l),.fn (.func 125) [] [.ptr n]] H) κ=κ ([.d (.int .i64 ((aw l.length (hcF l v.Name)).elim (-1) fun q=>(q.1:Int)))],H):=by
 refine(ZX _ _ _ rfl).trans ?_
 have hlp:=fun κ=>Pt (ρ:=ρ) l hl v H n hH κ _ 0 rfl (Nat.zero_le _) (fun k hk=>by omega)
 simp only[hcS,hcX,Int.natCast_zero]at hlp
 cases hf:aw l.length (hcF l v.Name)with
 |none=>simp -implicitDefEqProofs [go_sem,hlp,hf]
 |some q=>simp -implicitDefEqProofs [go_sem,hlp,hf]
theorem Uu{ρ:Type}(l:List GCmd)(hl:l.length≤1000)(v:GCmd)(H:List Ob)(n:Nat)(hH:H[n]? =some (.box (.d (bS false v))))(κ:KT ρ):
  cbK (call 124 [.sl false (List.map (bS false) l),.fn (.func 125) [] [.ptr n]] H) κ=κ ([.d (.bool (decide (v.Name∈l.map (·.Name))))],H):=by
 refine(YK _ _ _ rfl).trans ?_
 have hw:=fun κ=>afH (ρ:=ρ) l hl v H n hH κ
 have hin:=abv l v.Name
 cases hf:aw l.length (hcF l v.Name)with
 |none=>
  have:v.Name∉l.map (·.Name):=hin.1 hf
  rw[decide_eq_false this];simp only[hf]at hw
  simp -implicitDefEqProofs [go_sem,hw]
 |some q=>
  have:v.Name∈l.map (·.Name):=Classical.byContradiction fun h=>by rw[hin.2 h]at hf;cases hf
  rw[decide_eq_true this];simp only[hf]at hw
  simp -implicitDefEqProofs [go_sem,hw]
end Go.Etx
namespace Go.Etx
open Go Go.Am Go.Proofs
set_option maxHeartbeats 4000000
set_option maxRecDepth 20000
section
variable{ρ:Type}
theorem rV{s:List GScalar}{k:Int}(h:k<1∨(s.length:Int)<k):bK s k=0:=by
 unfold bK
 by_cases h1:1≤k
 ·rw[if_pos h1,List.getElem?_eq_none (by omega)]
 ·rw[if_neg h1]
theorem DA{s:List GScalar}{k:Int}(h1:1≤k)(h2:(k - 1).toNat<s.length):bK s k=if 1≤s[(k - 1).toNat].Size∧s[(k - 1).toNat].Size≤4 then s[(k - 1).toNat].Size else 0:=by
 unfold bK;rw[if_pos h1,xG h2]
theorem size_eq{k:Int}{s:List GScalar}(hs:s.length≤1000){g:Int→Bool→Option ρ}:mY k s g=if bK s k=0 then g 0 false else g (bK s k) true:=by
 simp only[mY,mX,mkF]
 by_cases h1:k<1
 ·simp[h1,rV (.inl h1)]
 by_cases h2:(s.length:Int)<k
 ·simp[h1,h2,rV (.inr h2)]
 have hw:IntKind.i64.wrap (k - 1)=k - 1:=bt (by omega) (by omega)
 have hlt:(k - 1).toNat<s.length:=by omega
 simp only[h1,h2,if_false,hw,show 0≤k - 1 by omega,if_true,xG hlt,xS,DA (show 1≤k by omega) hlt]
 generalize s[(k - 1).toNat]=x
 by_cases h3:x.Size<1
 ·simp[h3,show¬(1≤x.Size)by omega]
 by_cases h4:4<x.Size
 ·simp[h3,h4,show¬(x.Size≤4)by omega]
 simp[h3,h4,show 1≤x.Size by omega,show x.Size≤4 by omega,show x.Size≠0 by omega]
theorem Lr{v:GVar}{s:List GScalar}(hs:s.length≤1000){g:Int→Option ρ}:lq v s g=g (if v.Over=0 then 1 else bK s v.Over):=by
 simp only[lq,lp,mkF,size_eq hs]
 by_cases h:v.Over=0
 ·simp[h]
 ·by_cases h2:bK s v.Over=0 <;>simp[h,h2]
theorem Ia{v:GVar}{s:List GScalar}(hs:s.length≤1000){g:Int→Int→Option ρ}:jv v s g=if v.Scalar=0 then g v.Lo v.Hi else g 0 (bK s v.Scalar):=by
 simp only[jv,jt,mkF,size_eq hs]
 by_cases h:v.Scalar=0
 ·simp[h]
 ·by_cases h2:bK s v.Scalar=0 <;>simp[h,h2]
theorem DB{k:Int}{s:List GScalar}(hs:s.length≤1000){g:Bool→Option ρ}:lu k s g=g (jU s k):=by
 simp only[lu,lr,mkF,size_eq hs,jU]
 by_cases h:k=0
 ·simp[h]
 ·by_cases h2:bK s k=0 <;>simp[h,h2]
theorem Ar{a b:Int}{g:Bool→Option ρ}:jx a b g=g (fp a b):=by
 simp only[jx,jw,mkF,fp]
 by_cases h1:-1048576≤a
 ·by_cases h2:a≤b
  ·by_cases h3:b≤1048576
   ·have hw:IntKind.i64.wrap (b - a)=b - a:=bt (by omega) (by omega)
    simp[h1,h2,h3,hw]
   ·simp[h1,h2,h3]
  ·simp[h1,h2]
 ·simp[h1]
theorem Pu{most:Nat}{nms:List Nm}{more:Nat→Int}{i:Nat}(hi:i<nms.length):lI most nms more i=if most≤i then 11 else if fS nms[i]=false then 6 else if nms[i]∈nms.take i then 7 else more i:=by
 unfold lI;rw[xG hi]
theorem yi{α:Type}{most:Nat}{l:List α}{nm:α→Nm}{f:α→Int}{i:Nat}(hi:i<l.length):lI most (l.map nm) (aV l f) i=if most≤i then 11 else if fS (nm l[i])=false then 6 else if nm l[i]∈(l.map nm).take i then 7 else f l[i]:=by
 rw[Pu (by simpa using hi)]
 simp only[List.getElem_map,aV,xG hi]
theorem Gc{α:Type}{l:List α}{nm:α→Nm}{i:Nat}(hi:i<l.length):fd (tkn ((l.map nm).take i)) (nm l[i]) true=tkn ((l.map nm).take (i+1)):=by
 rw[nU,bn (by simpa using hi)]
 simp
theorem qH{α:Type}(most:Nat)(l:List α)(hl:l.length≤1000000)(nm:α→Nm)(f:α→Int)(g:Int→Int→Option ρ)(Φ:Int×List (Nm×Bool)→(Int×List (Nm×Bool)→Option ρ)→Option ρ)
  (hΦ:∀(i:Nat) (hi:i<l.length) (t:List (Nm×Bool)) (k:Int×List (Nm×Bool)→Option ρ),Φ ((i:Int),t) k=if most≤i then g i 11 else if fS (nm l[i])=false then g i 6 else if dU false t (nm l[i])=true then g i 7 else if f l[i]=0 then k (IntKind.i64.wrap ((i:Int)+1),fd t (nm l[i]) true)else g i (f l[i]))
  (hf:∀t k,Φ ((l.length:Int),t) k=g 0 0):dD Φ (0,[])=atE (aw l.length (lI most (l.map nm) (aV l f))) g:=by
 refine(kU (τ:=Int×List (Nm×Bool)) l.length (fun i:Nat=>((i:Int),tkn ((l.map nm).take i))) (fun i=>if lI most (l.map nm) (aV l f) i=0 then none else some (g i (lI most (l.map nm) (aV l f) i))) (g 0 0) (fun i k hi=> ?_) (fun k=>hf _ k)).trans ?_
 ·rw[hΦ i hi,yi hi,nT]
  by_cases h1:most≤i
  ·simp[h1]
  by_cases h2:fS (nm l[i])=false
  ·simp[h1,h2]
  by_cases h3:nm l[i]∈(l.map nm).take i
  ·simp[h1,h2,h3]
  by_cases h4:f l[i]=0
  ·have ht:=Gc (nm:=nm) hi
   have hw:IntKind.i64.wrap ((i:Int)+1)=((i+1:Nat):Int):=aP (by omega)
   simp[h1,h2,h3,h4,hw,ht]
  ·simp[h1,h2,h3,h4]
 ·rw[H8 (g:=fun i e=>g i e)]
  rfl
theorem Fb{l:List GScalar}(hl:l.length≤1000){g:Int→Int→Option ρ}:iE l g=atE (km l) g:=by
 simp only[iE,iD,mkF,fo];refine qH 2 l (by omega) (·.Name) Dw g _ (fun i hi t k=> ?_) (fun t k=> ?_)
 ·simp only[show(i:Int)<(l.length:Int)by omega,show(0:Int)≤(i:Int)by omega,if_true,xV,xG hi,xS,Dw]
  by_cases h1:2≤i
  ·simp[h1,show(2:Int)≤(i:Int)by omega]
  by_cases h3:l[i].Size<1
  ·simp[h1,show¬(2:Int)≤(i:Int)by omega,h3,show¬(1≤l[i].Size)by omega]
  by_cases h4:4<l[i].Size
  ·simp[h1,show¬(2:Int)≤(i:Int)by omega,h3,h4,show¬(l[i].Size≤4)by omega]
  simp[h1,show¬(2:Int)≤(i:Int)by omega,h3,h4,show 1≤l[i].Size by omega,show l[i].Size≤4 by omega]
 ·simp
theorem Gd{l:List GVar}{s:List GScalar}{n:Nat}(hl:l.length≤1000)(hs:s.length≤1000){g:Int→Int→Option ρ}:na l s n g=atE (l8 l s n) g:=by
 simp only[na,mZ,mkF,fo,DB hs,Ia hs,Ar];refine qH n l (by omega) (·.Name) (Fa s) g _ (fun i hi t k=> ?_) (fun t k=> ?_)
 ·simp only[show(i:Int)<(l.length:Int)by omega,show(0:Int)≤(i:Int)by omega,if_true,xV,xG hi,xS,show¬((n:Int)<0)by omega,if_false,Int.ofNat_le]
  by_cases h1:n≤i
  ·simp[h1]
  simp only[h1,if_false,Fa]
  by_cases ht1:jU s l[i].Scalar=false
  ·simp[ht1]
  by_cases ht2:jU s l[i].Over=false
  ·simp[ht1,ht2]
  rw[Bool.not_eq_false]at ht1 ht2
  simp only[ht1,ht2,Bool.and_self,Bool.true_eq_false,if_false]
  by_cases h0:l[i].Scalar=0
  ·by_cases hn:fp l[i].Lo l[i].Hi=false
   ·simp[h0,hn]
   rw[Bool.not_eq_false]at hn
   by_cases h3:l[i].Init<l[i].Lo
   ·simp[h0,hn,h3,show¬(l[i].Lo≤l[i].Init)by omega]
   by_cases h4:l[i].Hi<l[i].Init
   ·simp[h0,hn,h3,h4,show¬(l[i].Init≤l[i].Hi)by omega]
   simp[h0,hn,h3,h4,show l[i].Lo≤l[i].Init by omega,show l[i].Init≤l[i].Hi by omega]
  ·by_cases h3:l[i].Init<0
   ·simp[h0,h3,show¬(0≤l[i].Init)by omega]
   by_cases h4:bK s l[i].Scalar<l[i].Init
   ·simp[h0,h3,h4,show¬(l[i].Init≤bK s l[i].Scalar)by omega]
   simp[h0,h3,h4,show 0≤l[i].Init by omega,show l[i].Init≤bK s l[i].Scalar by omega]
 ·simp
theorem Ls{l:List GChan}{s:List GScalar}(hl:l.length≤1000)(hs:s.length≤1000){g:Int→Int→Option ρ}:lx l s g=atE (lJ l s) g:=by
 simp only[lx,lw,mkF,fo,DB hs,Ar];refine qH 4 l (by omega) (·.Name) (Ap s) g _ (fun i hi t k=> ?_) (fun t k=> ?_)
 ·simp only[show(i:Int)<(l.length:Int)by omega,show(0:Int)≤(i:Int)by omega,if_true,xV,xG hi,xS]
  by_cases h1:4≤i
  ·simp[h1,show(4:Int)≤(i:Int)by omega]
  simp only[h1,show¬(4:Int)≤(i:Int)by omega,if_false,Ap]
  by_cases ht1:jU s l[i].Scalar=false
  ·simp[ht1]
  rw[Bool.not_eq_false]at ht1
  simp only[ht1,Bool.true_eq_false,if_false]
  by_cases h2:l[i].Cap<1
  ·simp[h2,show¬(1≤l[i].Cap)by omega]
  by_cases h3:4<l[i].Cap
  ·simp[h2,h3,show¬(l[i].Cap≤4)by omega]
  by_cases h0:l[i].Scalar=0
  ·by_cases hn:fp l[i].Lo l[i].Hi=false
   ·simp[h0,h2,h3,hn,show 1≤l[i].Cap by omega,show l[i].Cap≤4 by omega]
   ·rw[Bool.not_eq_false]at hn
    simp[h0,h2,h3,hn,show 1≤l[i].Cap by omega,show l[i].Cap≤4 by omega]
  ·simp[h0,h2,h3,show 1≤l[i].Cap by omega,show l[i].Cap≤4 by omega]
 ·simp
end
end Go.Etx
