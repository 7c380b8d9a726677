/- A part of the proof: texts of mine, merged by a program (wip/dev/merge.py). -/
import Derived.Test.YteeabnledfmpjaaGreatDoorFn7
set_option linter.defProp false
set_option linter.unusedSimpArgs false
set_option linter.unusedVariables false
namespace Go.Etx
open Go Go.Am Go.Proofs
set_option maxHeartbeats 400000
set_option maxRecDepth 20000
noncomputable section
variable{ρ:Type}(β:Bool)(κ:KT ρ)(η:XT ρ)(z0 z1 z9 z10 z16:Int)(z2:J Int)(z3:J aw)(z4 z7 z8:J aB)(z5:J aD)(z6:J az)(z11 z21:J aF)(z12:Nat)(z13:J (Int))(z14 z20:J UInt8)(z15 z23:Bool)(z17:J (J UInt8×Bool))(z18:J aK)(z19:J aP)(z22:J aW)(z24:J (J UInt8))
def uH(a0 a:Int):=mkF (p:=λβ (κ:KT ρ) (g:U ρ)=>κ ([.d (.int .i64 (IntKind.wrap .i64 (a0+a)))],[])=g) (ds:=λβ=>[eI a0,eI a]) adj (λ_=>rfl) _
def DJ(a0 a:Int)(g0):=(uH (ρ:=ρ) a0 a).1 g0
@[go_sem] def ads:=wk (DJ (ρ:=ρ) z0 z1) ((uH z0 z1).2 true κ _ rfl)
section
variable(p0:J Int)(p1:Int)
@[go_sem] def nV(β:Bool)(a:Int):St:=⟨[(5,.d (.sl β (List.map eI p0))),(6,.d (.int .i64 p1)),(7,.d (.int .i64 a))],[],[]⟩
@[go_sem] def uI:=mkL (p:=λβ (b:Int->(Int->U ρ)->XT ρ->U ρ)=>∀(R:St->U ρ) g κ,(∀a,R (nV p0 p1 β a)=g a)->∀a,go P hints wu M_ XH.1 (nV p0 p1 β a) (kLp R κ)=b a g κ) _ _
def uJ(β:Bool)(κ:XT ρ)(a:Int):=dA (κ:=κ) (Φ:=λv k=>(uI p0 p1 (ρ:=ρ)).f β v k κ) XH.2 (S:=λv=>nV p0 p1 β v) (by intro R g b v;exact(uI p0 p1 (ρ:=ρ)).ok β R g κ (λa=>b a) v) a
end
@[go_sem] def Va:=wl (uJ z2 z0 false η z1)
@[go_sem] def Vb:=wl (uJ z2 z0 true η z1)
def nw(a0:J Int):=mkF (p:=λβ (κ:KT ρ) (g:Bool->U ρ)=>∀a,κ ([.d (.bool a)],[])=g a) (ds:=λβ=>[(fH β) a0]) apD (λ_=>rfl) _
def jy(a0:J Int)(g0):=(nw (ρ:=ρ) a0).1 g0
attribute [go_sem] Q6
@[go_sem] def Re:=wk (jy (ρ:=ρ) ([z0,z1]:J Int)) ((nw ([z0,z1]:J Int)).2 β κ _ (λ_=>rfl))
@[go_sem] def Rf:=wk (jy (ρ:=ρ) ([z0]:J Int)) ((nw ([z0]:J Int)).2 β κ _ (λ_=>rfl))
def Cy(a0 c:Int):=mkF (p:=λβ (κ:KT ρ) (g:Int->Bool->U ρ)=>∀a b,κ ([.d (.int .i64 a),.d (.bool b)],[])=g a b) (ds:=λβ=>[eI a0,eI c]) adi (λ_=>rfl) _
def Cz(a0 a:Int)(g0):=(Cy (ρ:=ρ) a0 a).1 g0
@[go_sem] def aiI:=wk (Cz (ρ:=ρ) z0 z1) ((Cy z0 z1).2 true κ _ (λ_ _=>rfl))
def pM(a0:Int)(c:au):=mkF (p:=λβ (κ:KT ρ) (g:Int->Bool->U ρ)=>∀a b,κ ([.d (.int .i64 a),.d (.bool b)],[])=g a b) (ds:=λβ=>[eI a0,(ii β) c]) apt (λ_=>rfl) _
def pO(a0:Int)(a:au)(g0):=(pM (ρ:=ρ) a0 a).1 g0
@[go_sem] def h!:=wk (pO (ρ:=ρ) z0 (au.mk z3 z4 z5 z6 z7 z1)) ((pM z0 (au.mk z3 z4 z5 z6 z7 z1)).2 β κ _ (λ_ _=>rfl))
def mN(a0:J aB)(d:Int)(e:au):=mkF (p:=λβ (κ:KT ρ) (g:Int->Int->Bool->U ρ)=>∀a c b,κ ([.d (.int .i64 a),.d (.int .i64 c),.d (.bool b)],[])=g a c b) (ds:=λβ=>[(tz β) a0,eI d,(ii β) e]) aor (λ_=>rfl) _
def kb(a0:J aB)(a:Int)(b:au)(g0):=(mN (ρ:=ρ) a0 a b).1 g0
@[go_sem] def Vc:=wk (kb (ρ:=ρ) z4 z0 (au.mk z3 z7 z5 z6 z8 z1)) ((mN z4 z0 (au.mk z3 z7 z5 z6 z8 z1)).2 β κ _ (λ_ _ _=>rfl))
def rV(a0:aF)(c:au):=mkF (p:=λβ (κ:KT ρ) (g:Int->Int->U ρ)=>∀a b,κ ([.d (.int .i64 a),.d (.int .i64 b)],[])=g a b) (ds:=λβ=>[eH a0,(ii β) c]) aoo (λ_=>rfl) _
def rW(a0:aF)(a:au)(g0):=(rV (ρ:=ρ) a0 a).1 g0
@[go_sem] def P!:=wk (rW (ρ:=ρ) (aF.mk z0 z1) (au.mk z3 z4 z5 z6 z7 z9)) ((rV (aF.mk z0 z1) (au.mk z3 z4 z5 z6 z7 z9)).2 β κ _ (λ_ _=>rfl))
def uK(a0:Int):=mkF (p:=λβ (κ:KT ρ) (g:Int->U ρ)=>∀a,κ ([.d (.int .i64 a)],[])=g a) (ds:=λβ=>[eI a0]) avj (λ_=>rfl) _
def uL(a0:Int)(g0):=(uK (ρ:=ρ) a0).1 g0
@[go_sem] def adt:=wk (uL (ρ:=ρ) z0) ((uK z0).2 true κ _ (λ_=>rfl))
def rX(a0:Int)(b:au):=mkF (p:=λβ (κ:KT ρ) (g:Bool->U ρ)=>∀a,κ ([.d (.bool a)],[])=g a) (ds:=λβ=>[eI a0,(ii β) b]) amA (λ_=>rfl) _
def rY(a0:Int)(a:au)(g0):=(rX (ρ:=ρ) a0 a).1 g0
@[go_sem] def Q_:=wk (rY (ρ:=ρ) z0 (au.mk z3 z4 z5 z6 z7 z1)) ((rX z0 (au.mk z3 z4 z5 z6 z7 z1)).2 β κ _ (λ_=>rfl))
def nW(a0:J aB)(i:Int)(j:au):=mkF (p:=λβ (κ:KT ρ) (g:(J UInt8)->Int->Int->Int->Int->Int->Bool->U ρ)=>∀c h a d b f e,κ ([.d (.agg [.str c,.int .i64 h,.int .i64 a,.int .i64 d,.int .i64 b,.int .i64 f]),.d (.bool e)],[])=g c h a d b f e) (ds:=λβ=>[(tz β) a0,eI i,(ii β) j]) alv (λ_=>rfl) _
def kW(a0:J aB)(a:Int)(b:au)(g0):=(nW (ρ:=ρ) a0 a b).1 g0
@[go_sem] def X1:=wk (kW (ρ:=ρ) z4 z0 (au.mk z3 z7 z5 z6 z8 z1)) ((nW z4 z0 (au.mk z3 z7 z5 z6 z8 z1)).2 β κ _ (λ_ _ _ _ _ _ _=>rfl))
def rZ(a0:Int):=mkF (p:=λβ (κ:KT ρ) (g:Int->U ρ)=>∀a,κ ([.d (.int .i64 a)],[])=g a) (ds:=λβ=>[eI a0]) aly (λ_=>rfl) _
def sd(a0:Int)(g0):=(rZ (ρ:=ρ) a0).1 g0
@[go_sem] def Q?:=wk (sd (ρ:=ρ) z0) ((rZ z0).2 true κ _ (λ_=>rfl))
def lT(a0:Int)(i:au):=mkF (p:=λβ (κ:KT ρ) (g:(J UInt8)->Int->Int->Int->Int->Bool->Bool->U ρ)=>∀b h d a f e c,κ ([.d (.agg [.str b,.int .i64 h,.int .i64 d,.int .i64 a,.int .i64 f,.bool e]),.d (.bool c)],[])=g b h d a f e c) (ds:=λβ=>[eI a0,(ii β) i]) alB (λ_=>rfl) _
def lU(a0:Int)(a:au)(g0):=(lT (ρ:=ρ) a0 a).1 g0
@[go_sem] def i_:=wk (lU (ρ:=ρ) z0 (au.mk z3 z4 z5 z6 z7 z1)) ((lT z0 (au.mk z3 z4 z5 z6 z7 z1)).2 β κ _ (λ_ _ _ _ _ _ _=>rfl))
def zu(a0:aF)(c:au):=mkF (p:=λβ (κ:KT ρ) (g:Int->Int->U ρ)=>∀a b,κ ([.d (.int .i64 a),.d (.int .i64 b)],[])=g a b) (ds:=λβ=>[eH a0,(ii β) c]) akG (λ_=>rfl) _
def zw(a0:aF)(a:au)(g0):=(zu (ρ:=ρ) a0 a).1 g0
@[go_sem] def afA:=wk (zw (ρ:=ρ) (aF.mk z0 z1) (au.mk z3 z4 z5 z6 z7 z9)) ((zu (aF.mk z0 z1) (au.mk z3 z4 z5 z6 z7 z9)).2 β κ _ (λ_ _=>rfl))
def ww(a0:aF)(c:Int)(d:au):=mkF (p:=λβ (κ:KT ρ) (g:Int->Int->U ρ)=>∀a b,κ ([.d (.int .i64 a),.d (.int .i64 b)],[])=g a b) (ds:=λβ=>[eH a0,eI c,(ii β) d]) akJ (λ_=>rfl) _
def nI(a0:aF)(a:Int)(b:au)(g0):=(ww (ρ:=ρ) a0 a b).1 g0
@[go_sem] def aiJ:=wk (nI (ρ:=ρ) (aF.mk z0 z1) z9 (au.mk z3 z4 z5 z6 z7 z10)) ((ww (aF.mk z0 z1) z9 (au.mk z3 z4 z5 z6 z7 z10)).2 β κ _ (λ_ _=>rfl))
def CA(a0 c d:Int):=mkF (p:=λβ (κ:KT ρ) (g:Int->Int->U ρ)=>∀a b,κ ([.d (.int .i64 a),.d (.int .i64 b)],[])=g a b) (ds:=λβ=>[eI a0,eI c,eI d]) akM (λ_=>rfl) _
def wz(a0 a b:Int)(g0):=(CA (ρ:=ρ) a0 a b).1 g0
@[go_sem] def aiK:=wk (wz (ρ:=ρ) z0 z1 z9) ((CA z0 z1 z9).2 true κ _ (λ_ _=>rfl))
section
variable(p0:J aF)(p1:J aw)(p2:J aB)(p3:J aD)(p4:J az)(p5:J aB)(p6:Int)
@[go_sem] def ny(β:Bool)(n0:Nat)(b:Int)(a:J (Int)):St:=⟨[(0,.d (.sl β (List.map eH p0))),(3,.loc (aj.l 3 0) [] (0) 0),(6,.aG (.l 6 0) [] 0 n0),(7,.d (.int .i64 b))],[((3,0),.own [.d (.agg [.sl β (List.map dz p1),.sl β (List.map dH p2),.sl β (List.map dM p3),.sl β (List.map (dI β) p4),.sl β (List.map dH p5),.int .i64 p6])]),((6,0),.own (tl eI a))],[]⟩
@[go_sem] def A8:=mkL (p:=λβ (d:Int->(J (Int))->((Int)×(J (Int))->U ρ)->XT ρ->U ρ)=>∀(R:St->U ρ) g κ,(∀c b a,c=List.length a->R (ny p0 p1 p2 p3 p4 p5 p6 β c b a)=g (b,a))->∀b a,go P hints Cv b80 ac4.1 (ny p0 p1 p2 p3 p4 p5 p6 β (List.length a) b a) (kLp R κ)=d b a g κ) _ _
def A9(β:Bool)(κ:XT ρ)(n0:Nat)(c:Int)(b:J (Int))(a:n0=List.length b):=jI (S:=λn0=>ny p0 p1 p2 p3 p4 p5 p6 β n0 c b) a (dA (κ:=κ) (Φ:=λv k=>(A8 p0 p1 p2 p3 p4 p5 p6 (ρ:=ρ)).f β v.1 v.2 k κ) ac4.2 (S:=λv=>ny p0 p1 p2 p3 p4 p5 p6 β (List.length v.2) v.1 v.2) (by intro R g d v;exact(A8 p0 p1 p2 p3 p4 p5 p6 (ρ:=ρ)).ok β R g κ (λn0 c b a=>by subst a;exact d (c,b)) v.1 v.2) (c,b))
end
@[go_sem] def Vd:=wl (A9 z11 z3 z4 z5 z6 z7 z0 false η 0 z1 [] rfl)
@[go_sem] def Ve:=wl (A9 z11 z3 z4 z5 z6 z7 z0 true η 0 z1 [] rfl)
def se(a0:J aF)(c:au):=mkF (p:=λβ (κ:KT ρ) (g:Int->Int->U ρ)=>∀a b,κ ([.d (.int .i64 a),.d (.int .i64 b)],[])=g a b) (ds:=λβ=>[(nT β) a0,(ii β) c]) ava (λ_=>rfl) _
def nX(a0:J aF)(a:au)(g0):=(se (ρ:=ρ) a0 a).1 g0
@[go_sem] def afB:=wk (nX (ρ:=ρ) z11 (au.mk z3 z4 z5 z6 z7 z0)) ((se z11 (au.mk z3 z4 z5 z6 z7 z0)).2 β κ _ (λ_ _=>rfl))
def sf(a0:Int):=mkF (p:=λβ (κ:KT ρ) (g:Bool->U ρ)=>∀a,κ ([.d (.bool a)],[])=g a) (ds:=λβ=>[(eK .i32) a0]) anm (λ_=>rfl) _
def sg(a0:Int)(g0):=(sf (ρ:=ρ) a0).1 g0
@[go_sem] def Q!:=wk (sg (ρ:=ρ) z0) ((sf z0).2 true κ _ (λ_=>rfl))
attribute [go_sem] ano
attribute [go_sem] aol
attribute [go_sem] anr
@[go_sem] theorem aiL{ρ:Type}{c a b:SV}{ct:J ((Nat×Nat)×T)}{H:J Ob}{κ:Ex×St->U ρ}:dG P hints nk P1 0 ⟨[(0,c),(1,a),(8,b)],ct,H⟩ κ=go P hints nk P1 Lx.1 ⟨[(0,c),(1,a),(8,b)],ct,H⟩ (kLp (λs=>dG P hints nk P1 0 s κ) κ):=ap Lx.2
section
variable(p0:J UInt8)
@[go_sem] def iB(β:Bool)(b:Int)(a:Bool)(c:Nat):St:=⟨[(0,.d (.str p0)),(1,.d (.fn (Fn.func 180) [] [])),(5,.d (.int .i64 b)),(8,.d (.ptr (0))),(16,.d (.bool a))],[],[.iter p0 c]⟩
@[go_sem] def ky:=mkL (p:=λβ (d:Int->Bool->Nat->((Int)×(Bool)×(Nat)->U ρ)->XT ρ->U ρ)=>∀(R:St->U ρ) g κ,(∀b a c,R (iB p0 β b a c)=g (b,a,c))->∀b a c,go P hints nk P1 Lx.1 (iB p0 β b a c) (kLp R κ)=d b a c g κ) _ _
def qz(β:Bool)(κ:XT ρ)(a:Int)(b:Bool)(c:Nat):=dA (κ:=κ) (Φ:=λv k=>(ky p0 (ρ:=ρ)).f β v.1 v.2.1 v.2.2 k κ) Lx.2 (S:=λv=>iB p0 β v.1 v.2.1 v.2.2) (by intro R g d v;exact(ky p0 (ρ:=ρ)).ok β R g κ (λa b c=>d (a,b,c)) v.1 v.2.1 v.2.2) (a,b,c)
end
@[go_sem] def Ix:=wl (qz z14 true η z0 z15 z12)
section
variable(p0:J UInt8)
@[go_sem] def si(β:Bool)(a:Int):St:=⟨[(0,.d (.str p0)),(26,.d (.agg (List.map eS (List.take 4 ownL)))),(27,.d (.int .i64 a))],[],[]⟩
@[go_sem] def Ba:=mkL (p:=λβ (b:Int->(Int->U ρ)->XT ρ->U ρ)=>∀(R:St->U ρ) g κ,(∀a,R (si p0 β a)=g a)->∀a,go P hints hint145 L? XB.1 (si p0 β a) (kLp R κ)=b a g κ) _ _
def LJ(β:Bool)(κ:XT ρ)(a:Int):=dA (κ:=κ) (Φ:=λv k=>(Ba p0 (ρ:=ρ)).f β v k κ) XB.2 (S:=λv=>si p0 β v) (by intro R g b v;exact(Ba p0 (ρ:=ρ)).ok β R g κ (λa=>b a) v) a
end
@[go_sem] def i?:=wl (LJ z14 true η z0)
def zx(a0:J UInt8):=mkF (p:=λβ (κ:KT ρ) (g:Bool->U ρ)=>∀a,κ ([.d (.bool a)],[])=g a) (ds:=λβ=>[eS a0]) alY (λ_=>rfl) _
def zy(a0:J UInt8)(g0):=(zx (ρ:=ρ) a0).1 g0
@[go_sem] def afC:=wk (zy (ρ:=ρ) z14) ((zx z14).2 true κ _ (λ_=>rfl))
def sj(a0:Int):=mkF (p:=λβ (κ:KT ρ) (g:Bool->U ρ)=>∀a,κ ([.d (.bool a)],[])=g a) (ds:=λβ=>[(eK .u8) a0]) alm (λ_=>rfl) _
def sk(a0:Int)(g0):=(sj (ρ:=ρ) a0).1 g0
@[go_sem] def R_:=wk (sk (ρ:=ρ) z0) ((sj z0).2 true κ _ (λ_=>rfl))
def uM(a0:Int):=mkF (p:=λβ (κ:KT ρ) (g:Bool->U ρ)=>∀a,κ ([.d (.bool a)],[])=g a) (ds:=λβ=>[(eK .u8) a0]) alp (λ_=>rfl) _
def uN(a0:Int)(g0):=(uM (ρ:=ρ) a0).1 g0
@[go_sem] def adu:=wk (uN (ρ:=ρ) z0) ((uM z0).2 true κ _ (λ_=>rfl))
def uO:=mkF (p:=λβ (κ:KT ρ) (g:U ρ)=>κ ([.d (.sl false (List.map eS (sgL)))],[])=g) (ds:=λβ=>[]) als (λ_=>rfl) _
def DK(g0):=(uO (ρ:=ρ)).1 g0
@[go_sem] def adv:=wk (DK (ρ:=ρ)) ((uO).2 true κ _ rfl)
@[go_sem] theorem aiM{ρ:Type}{d c b a:SV}{ct:J ((Nat×Nat)×T)}{H:J Ob}{κ:Ex×St->U ρ}:dG P hints iw A5 0 ⟨[(0,d),(1,c),(6,b),(13,a)],ct,H⟩ κ=go P hints iw A5 Li.1 ⟨[(0,d),(1,c),(6,b),(13,a)],ct,H⟩ (kLp (λs=>dG P hints iw A5 0 s κ) κ):=ap Li.2
section
variable(p0:J UInt8)(p1:Int)
@[go_sem] def nY(β:Bool)(a:Int):St:=⟨[(0,.d (.str p0)),(1,.d (.int .i64 p1)),(6,.d (.int .i64 a))],[],[]⟩
@[go_sem] def uP:=mkL (p:=λβ (b:Int->(Int->U ρ)->XT ρ->U ρ)=>∀(R:St->U ρ) g κ,(∀a,R (nY p0 p1 β a)=g a)->∀a,go P hints iw A5 Li.1 (nY p0 p1 β a) (kLp R κ)=b a g κ) _ _
def Hw(β:Bool)(κ:XT ρ)(a:Int):=dA (κ:=κ) (Φ:=λv k=>(uP p0 p1 (ρ:=ρ)).f β v k κ) Li.2 (S:=λv=>nY p0 p1 β v) (by intro R g b v;exact(uP p0 p1 (ρ:=ρ)).ok β R g κ (λa=>b a) v) a
end
@[go_sem] def Vf:=wl (Hw z14 z0 true η z1)
@[go_sem] theorem aiN{ρ:Type}{d c b a:SV}{ct:J ((Nat×Nat)×T)}{H:J Ob}{κ:Ex×St->U ρ}:dG P hints iw A5 1 ⟨[(0,d),(1,c),(6,b),(44,a)],ct,H⟩ κ=go P hints iw A5 Lj.1 ⟨[(0,d),(1,c),(6,b),(44,a)],ct,H⟩ (kLp (λs=>dG P hints iw A5 1 s κ) κ):=ap Lj.2
section
variable(p0:J UInt8)(p1:Int)
@[go_sem] def nZ(β:Bool)(a:Int):St:=⟨[(0,.d (.str p0)),(1,.d (.int .i64 p1)),(6,.d (.int .i64 a))],[],[]⟩
@[go_sem] def uQ:=mkL (p:=λβ (b:Int->(Int->U ρ)->XT ρ->U ρ)=>∀(R:St->U ρ) g κ,(∀a,R (nZ p0 p1 β a)=g a)->∀a,go P hints iw A5 Lj.1 (nZ p0 p1 β a) (kLp R κ)=b a g κ) _ _
def Hx(β:Bool)(κ:XT ρ)(a:Int):=dA (κ:=κ) (Φ:=λv k=>(uQ p0 p1 (ρ:=ρ)).f β v k κ) Lj.2 (S:=λv=>nZ p0 p1 β v) (by intro R g b v;exact(uQ p0 p1 (ρ:=ρ)).ok β R g κ (λa=>b a) v) a
end
@[go_sem] def Vg:=wl (Hx z14 z0 true η z1)
section
variable(p0:J UInt8)(p1:Int)
@[go_sem] def n7(β:Bool)(a:Int):St:=⟨[(0,.d (.str p0)),(1,.d (.int .i64 p1)),(7,.d (.sl false (List.map eS (sgL)))),(8,.d (.int .i64 a))],[],[]⟩
@[go_sem] def uR:=mkL (p:=λβ (b:Int->(Int->U ρ)->XT ρ->U ρ)=>∀(R:St->U ρ) g κ,(∀a,R (n7 p0 p1 β a)=g a)->∀a,go P hints iw A5 Xl.1 (n7 p0 p1 β a) (kLp R κ)=b a g κ) _ _
def Hy(β:Bool)(κ:XT ρ)(a:Int):=dA (κ:=κ) (Φ:=λv k=>(uR p0 p1 (ρ:=ρ)).f β v k κ) Xl.2 (S:=λv=>n7 p0 p1 β v) (by intro R g b v;exact(uR p0 p1 (ρ:=ρ)).ok β R g κ (λa=>b a) v) a
end
@[go_sem] def Vh:=wl (Hy z14 z0 true η z1)
def sq(a0:J UInt8)(c:Int):=mkF (p:=λβ (κ:KT ρ) (g:Int->Int->U ρ)=>∀a b,κ ([.d (.int .i64 a),.d (.int .i64 b)],[])=g a b) (ds:=λβ=>[eS a0,eI c]) akD (λ_=>rfl) _
def sr(a0:J UInt8)(a:Int)(g0):=(sq (ρ:=ρ) a0 a).1 g0
@[go_sem] def R?:=wk (sr (ρ:=ρ) z14 z0) ((sq z14 z0).2 true κ _ (λ_ _=>rfl))
def zz(a0:J UInt8):=mkF (p:=λβ (κ:KT ρ) (g:Bool->U ρ)=>∀a,κ ([.d (.bool a)],[])=g a) (ds:=λβ=>[eS a0]) au9 (λ_=>rfl) _
def zA(a0:J UInt8)(g0):=(zz (ρ:=ρ) a0).1 g0
@[go_sem] def afD:=wk (zA (ρ:=ρ) z14) ((zz z14).2 true κ _ (λ_=>rfl))
def uS(a0:Int)(c:J aw):=mkF (p:=λβ (κ:KT ρ) (g:Int->Bool->U ρ)=>∀a b,κ ([.d (.int .i64 a),.d (.bool b)],[])=g a b) (ds:=λβ=>[eI a0,(fP β) c]) anD (λ_=>rfl) _
def uT(a0:Int)(a:J aw)(g0):=(uS (ρ:=ρ) a0 a).1 g0
@[go_sem] def adw:=wk (uT (ρ:=ρ) z0 z3) ((uS z0 z3).2 β κ _ (λ_ _=>rfl))
def su(a0:aB)(b:J aw):=mkF (p:=λβ (κ:KT ρ) (g:Int->U ρ)=>∀a,κ ([.d (.int .i64 a)],[])=g a) (ds:=λβ=>[dH a0,(fP β) b]) al6 (λ_=>rfl) _
def jz(a0:aB)(a:J aw)(g0):=(su (ρ:=ρ) a0 a).1 g0
@[go_sem] def R!:=wk (jz (ρ:=ρ) (aB.mk z14 z0 z1 z9 z10 z16) z3) ((su (aB.mk z14 z0 z1 z9 z10 z16) z3).2 β κ _ (λ_=>rfl))
def pP(a0:aB)(c:J aw):=mkF (p:=λβ (κ:KT ρ) (g:Int->Int->U ρ)=>∀a b,κ ([.d (.int .i64 a),.d (.int .i64 b)],[])=g a b) (ds:=λβ=>[dH a0,(fP β) c]) amj (λ_=>rfl) _
def jW(a0:aB)(a:J aw)(g0):=(pP (ρ:=ρ) a0 a).1 g0
@[go_sem] def i!:=wk (jW (ρ:=ρ) (aB.mk z14 z0 z1 z9 z10 z16) z3) ((pP (aB.mk z14 z0 z1 z9 z10 z16) z3).2 β κ _ (λ_ _=>rfl))
def pQ(a0 b:Int):=mkF (p:=λβ (κ:KT ρ) (g:Bool->U ρ)=>∀a,κ ([.d (.bool a)],[])=g a) (ds:=λβ=>[eI a0,eI b]) amU (λ_=>rfl) _
def pR(a0 a:Int)(g0):=(pQ (ρ:=ρ) a0 a).1 g0
@[go_sem] def j_:=wk (pR (ρ:=ρ) z0 z1) ((pQ z0 z1).2 true κ _ (λ_=>rfl))
def sw(a0:Int)(b:J aw):=mkF (p:=λβ (κ:KT ρ) (g:Bool->U ρ)=>∀a,κ ([.d (.bool a)],[])=g a) (ds:=λβ=>[eI a0,(fP β) b]) amR (λ_=>rfl) _
def sy(a0:Int)(a:J aw)(g0):=(sw (ρ:=ρ) a0 a).1 g0
@[go_sem] def S_:=wk (sy (ρ:=ρ) z0 z3) ((sw z0 z3).2 β κ _ (λ_=>rfl))
attribute [go_sem] amF
attribute [go_sem] amI
attribute [go_sem] amC
section
variable(p0:Int)(p1:J aw)
@[go_sem] def fT(β:Bool)(b:Int)(a:J (J UInt8×Bool)):St:=⟨[(1,.d (.int .i64 (2))),(2,.d (.fn (Fn.func 163) [] [.ptr (0)])),(3,.d (.fn (Fn.func 164) [] [.ptr (0)])),(10,.d (.map (1))),(15,.d (.int .i64 p0)),(16,.d (.int .i64 b))],[],[.box (.d (.sl β (List.map dz p1))),.map (jw eS eB a)]⟩
@[go_sem] def iC:=mkL (p:=λβ (c:Int->(J (J UInt8×Bool))->((Int)×(J (J UInt8×Bool))->U ρ)->XT ρ->U ρ)=>∀(R:St->U ρ) g κ,(∀b a,R (fT p0 p1 β b a)=g (b,a))->∀b a,go P hints o7 T2 Cw.1 (fT p0 p1 β b a) (kLp R κ)=c b a g κ) _ _
def iD(β:Bool)(κ:XT ρ)(b:Int)(a:J (J UInt8×Bool)):=dA (κ:=κ) (Φ:=λv k=>(iC p0 p1 (ρ:=ρ)).f β v.1 v.2 k κ) Cw.2 (S:=λv=>fT p0 p1 β v.1 v.2) (by intro R g c v;exact(iC p0 p1 (ρ:=ρ)).ok β R g κ (λb a=>c (b,a)) v.1 v.2) (b,a)
end
@[go_sem] def Al:=wl (iD z0 z3 false η z1 [])
@[go_sem] def An:=wl (iD z0 z3 true η z1 [])
def n8(a0:J aw):=mkF (p:=λβ (κ:KT ρ) (g:Int->Int->U ρ)=>∀b a,κ ([.d (.int .i64 b),.d (.int .i64 a)],[])=g b a) (ds:=λβ=>[(fP β) a0]) alE (λ_=>rfl) _
def n9(a0:J aw)(g0):=(n8 (ρ:=ρ) a0).1 g0
@[go_sem] def X2:=wk (n9 (ρ:=ρ) z3) ((n8 z3).2 β κ _ (λ_ _=>rfl))
attribute [go_sem] amL
attribute [go_sem] amO
section
variable(p0:Int)(p1:Int)(p2:J aB)(p3:J aw)
@[go_sem] def gL(β:Bool)(b:Int)(a:J (J UInt8×Bool)):St:=⟨[(1,.d (.int .i64 p0)),(2,.d (.fn (Fn.func 165) [] [.ptr (0)])),(3,.d (.fn (Fn.func 166) [] [.ptr (0),.ptr (1)])),(10,.d (.map (2))),(15,.d (.int .i64 p1)),(16,.d (.int .i64 b))],[],[.box (.d (.sl β (List.map dH p2))),.box (.d (.sl β (List.map dz p3))),.map (jw eS eB a)]⟩
@[go_sem] def jc:=mkL (p:=λβ (c:Int->(J (J UInt8×Bool))->((Int)×(J (J UInt8×Bool))->U ρ)->XT ρ->U ρ)=>∀(R:St->U ρ) g κ,(∀b a,R (gL p0 p1 p2 p3 β b a)=g (b,a))->∀b a,go P hints o7 T2 Cw.1 (gL p0 p1 p2 p3 β b a) (kLp R κ)=c b a g κ) _ _
def jd(β:Bool)(κ:XT ρ)(b:Int)(a:J (J UInt8×Bool)):=dA (κ:=κ) (Φ:=λv k=>(jc p0 p1 p2 p3 (ρ:=ρ)).f β v.1 v.2 k κ) Cw.2 (S:=λv=>gL p0 p1 p2 p3 β v.1 v.2) (by intro R g c v;exact(jc p0 p1 p2 p3 (ρ:=ρ)).ok β R g κ (λb a=>c (b,a)) v.1 v.2) (b,a)
end
@[go_sem] def CB:=wl (jd z0 z1 z4 z3 false η z9 [])
@[go_sem] def CC:=wl (jd z0 z1 z4 z3 true η z9 [])
def uU(a0:J aB)(c:J aw)(d:Int):=mkF (p:=λβ (κ:KT ρ) (g:Int->Int->U ρ)=>∀a b,κ ([.d (.int .i64 a),.d (.int .i64 b)],[])=g a b) (ds:=λβ=>[(tz β) a0,(fP β) c,eI d]) alK (λ_=>rfl) _
def uV(a0:J aB)(a:J aw)(b:Int)(g0):=(uU (ρ:=ρ) a0 a b).1 g0
@[go_sem] def adx:=wk (uV (ρ:=ρ) z4 z3 z0) ((uU z4 z3 z0).2 β κ _ (λ_ _=>rfl))
attribute [go_sem] amX
attribute [go_sem] am0
section
variable(p0:Int)(p1:J aD)(p2:J aw)
@[go_sem] def gw(β:Bool)(b:Int)(a:J (J UInt8×Bool)):St:=⟨[(1,.d (.int .i64 (4))),(2,.d (.fn (Fn.func 169) [] [.ptr (0)])),(3,.d (.fn (Fn.func 170) [] [.ptr (0),.ptr (1)])),(10,.d (.map (2))),(15,.d (.int .i64 p0)),(16,.d (.int .i64 b))],[],[.box (.d (.sl β (List.map dM p1))),.box (.d (.sl β (List.map dz p2))),.map (jw eS eB a)]⟩
@[go_sem] def iS:=mkL (p:=λβ (c:Int->(J (J UInt8×Bool))->((Int)×(J (J UInt8×Bool))->U ρ)->XT ρ->U ρ)=>∀(R:St->U ρ) g κ,(∀b a,R (gw p0 p1 p2 β b a)=g (b,a))->∀b a,go P hints o7 T2 Cw.1 (gw p0 p1 p2 β b a) (kLp R κ)=c b a g κ) _ _
def iT(β:Bool)(κ:XT ρ)(b:Int)(a:J (J UInt8×Bool)):=dA (κ:=κ) (Φ:=λv k=>(iS p0 p1 p2 (ρ:=ρ)).f β v.1 v.2 k κ) Cw.2 (S:=λv=>gw p0 p1 p2 β v.1 v.2) (by intro R g c v;exact(iS p0 p1 p2 (ρ:=ρ)).ok β R g κ (λb a=>c (b,a)) v.1 v.2) (b,a)
end
@[go_sem] def BO:=wl (iT z0 z5 z3 false η z1 [])
@[go_sem] def BP:=wl (iT z0 z5 z3 true η z1 [])
def sA(a0:J aD)(c:J aw):=mkF (p:=λβ (κ:KT ρ) (g:Int->Int->U ρ)=>∀a b,κ ([.d (.int .i64 a),.d (.int .i64 b)],[])=g a b) (ds:=λβ=>[(zt β) a0,(fP β) c]) alQ (λ_=>rfl) _
def sB(a0:J aD)(a:J aw)(g0):=(sA (ρ:=ρ) a0 a).1 g0
@[go_sem] def S?:=wk (sB (ρ:=ρ) z5 z3) ((sA z5 z3).2 β κ _ (λ_ _=>rfl))
def sD(a0:az)(b:au):=mkF (p:=λβ (κ:KT ρ) (g:Int->U ρ)=>∀a,κ ([.d (.int .i64 a)],[])=g a) (ds:=λβ=>[(dI β) a0,(ii β) b]) am3 (λ_=>rfl) _
def sE(a0:az)(a:au)(g0):=(sD (ρ:=ρ) a0 a).1 g0
@[go_sem] def S!:=wk (sE (ρ:=ρ) (az.mk z14 z0 z1 z4 z18) (au.mk z3 z7 z5 z6 z8 z9)) ((sD (az.mk z14 z0 z1 z4 z18) (au.mk z3 z7 z5 z6 z8 z9)).2 β κ _ (λ_=>rfl))
def kX(a0:az)(a:au):=mkF (p:=λβ (κ:KT ρ) (g:U ρ)=>κ ([.d (.agg [.sl β (List.map dz (a.aa)),.sl β (List.map dH (a.aq)),.sl β (List.map dM (a.ah)),.sl β (List.map (dI β) (a.ak)),.sl β (List.map dH (a0.aq)),.int .i64 (a0.aH)])],[])=g) (ds:=λβ=>[(dI β) a0,(ii β) a]) am8 (λ_=>rfl) _
def nz(a0:az)(a:au)(g0):=(kX (ρ:=ρ) a0 a).1 g0
@[go_sem] def T_:=wk (nz (ρ:=ρ) (az.mk z14 z0 z1 z4 z18) (au.mk z3 z7 z5 z6 z8 z9)) ((kX (az.mk z14 z0 z1 z4 z18) (au.mk z3 z7 z5 z6 z8 z9)).2 β κ _ rfl)
def fq(a0:J aw){ρ:Type}:{Φ:(J aw->U ρ)->U ρ // ∀(β:Bool) (κ:J T×J Ob->U ρ) (g:J aw->U ρ),a0≠[]->(∀y,κ ([.own (tl dz y)],[])=g y)->cbK (call 198 [.sl β (List.map dz a0)] []) κ=Φ g}:=by
 refine⟨?f,?h⟩
 case h=>
  intro β κ g a c;refine NN λr b=> ?_
  cases β
  all_goals
   simp -implicitDefEqProofs (maxSteps:=1000000) [go_sem,aoa,a,c,-List.map_append,-List.map_take,-List.map_drop]
   exact b
def ft(a0:J aw){ρ:Type}(g:J aw->U ρ):U ρ:=(fq a0).1 g
theorem my(β:Bool):call 198 [.sl β []] []=some ([.own []],[]):=by cases β <;>exact gP.2 ⟨60,by kernel_rfl⟩
@[go_sem] theorem DL{ρ:Type}(β:Bool)(a0:J aw)(κ:J T×J Ob->U ρ):cbK (call 198 [.sl β (List.map dz a0)] []) κ=ft a0 λy=>κ ([.own (tl dz y)],[]):=by
 cases a0 with
 |nil=>show cbK (call 198 [.sl β []] []) κ=_;rw[my];simp[ft,fq,cbK,iY]
 |cons x l=>exact(fq _).2 β κ _ (by simp) λ_=>rfl
def gp(a0:J aB){ρ:Type}:{Φ:(J aB->U ρ)->U ρ // ∀(β:Bool) (κ:J T×J Ob->U ρ) (g:J aB->U ρ),a0≠[]->(∀y,κ ([.own (tl dH y)],[])=g y)->cbK (call 199 [.sl β (List.map dH a0)] []) κ=Φ g}:=by
 refine⟨?f,?h⟩
 case h=>
  intro β κ g a c;refine NN λr b=> ?_
  cases β
  all_goals
   simp -implicitDefEqProofs (maxSteps:=1000000) [go_sem,aod,a,c,-List.map_append,-List.map_take,-List.map_drop]
   exact b
def gq(a0:J aB){ρ:Type}(g:J aB->U ρ):U ρ:=(gp a0).1 g
theorem qA(β:Bool):call 199 [.sl β []] []=some ([.own []],[]):=by cases β <;>exact gP.2 ⟨60,by kernel_rfl⟩
@[go_sem] theorem Jv{ρ:Type}(β:Bool)(a0:J aB)(κ:J T×J Ob->U ρ):cbK (call 199 [.sl β (List.map dH a0)] []) κ=gq a0 λy=>κ ([.own (tl dH y)],[]):=by
 cases a0 with
 |nil=>show cbK (call 199 [.sl β []] []) κ=_;rw[qA];simp[gq,gp,cbK,iY]
 |cons x l=>exact(gp _).2 β κ _ (by simp) λ_=>rfl
def fI(a0:J aD){ρ:Type}:{Φ:(J aD->U ρ)->U ρ // ∀(β:Bool) (κ:J T×J Ob->U ρ) (g:J aD->U ρ),a0≠[]->(∀y,κ ([.own (tl dM y)],[])=g y)->cbK (call 200 [.sl β (List.map dM a0)] []) κ=Φ g}:=by
 refine⟨?f,?h⟩
 case h=>
  intro β κ g a c;refine NN λr b=> ?_
  cases β
  all_goals
   simp -implicitDefEqProofs (maxSteps:=1000000) [go_sem,aog,a,c,-List.map_append,-List.map_take,-List.map_drop]
   exact b
def fJ(a0:J aD){ρ:Type}(g:J aD->U ρ):U ρ:=(fI a0).1 g
theorem oG(β:Bool):call 200 [.sl β []] []=some ([.own []],[]):=by cases β <;>exact gP.2 ⟨60,by kernel_rfl⟩
@[go_sem] theorem Ij{ρ:Type}(β:Bool)(a0:J aD)(κ:J T×J Ob->U ρ):cbK (call 200 [.sl β (List.map dM a0)] []) κ=fJ a0 λy=>κ ([.own (tl dM y)],[]):=by
 cases a0 with
 |nil=>show cbK (call 200 [.sl β []] []) κ=_;rw[oG];simp[fJ,fI,cbK,iY]
 |cons x l=>exact(fI _).2 β κ _ (by simp) λ_=>rfl
def fK(a0:J aF){ρ:Type}:{Φ:(J aF->U ρ)->U ρ // ∀(β:Bool) (κ:J T×J Ob->U ρ) (g:J aF->U ρ),a0≠[]->(∀y,κ ([.own (tl eH y)],[])=g y)->cbK (call 226 [.sl β (List.map eH a0)] []) κ=Φ g}:=by
 refine⟨?f,?h⟩
 case h=>
  intro β κ g a c;refine NN λr b=> ?_
  cases β
  all_goals
   simp -implicitDefEqProofs (maxSteps:=1000000) [go_sem,apq,a,c,-List.map_append,-List.map_take,-List.map_drop]
   exact b
def fL(a0:J aF){ρ:Type}(g:J aF->U ρ):U ρ:=(fK a0).1 g
theorem oH(β:Bool):call 226 [.sl β []] []=some ([.own []],[]):=by cases β <;>exact gP.2 ⟨60,by kernel_rfl⟩
@[go_sem] theorem Ik{ρ:Type}(β:Bool)(a0:J aF)(κ:J T×J Ob->U ρ):cbK (call 226 [.sl β (List.map eH a0)] []) κ=fL a0 λy=>κ ([.own (tl eH y)],[]):=by
 cases a0 with
 |nil=>show cbK (call 226 [.sl β []] []) κ=_;rw[oH];simp[fL,fK,cbK,iY]
 |cons x l=>exact(fK _).2 β κ _ (by simp) λ_=>rfl
@[go_sem] def OV:=wk (nz (ρ:=ρ) (az.mk z14 z0 z1 z4 z18) (au.mk z3 z7 z5 z6 ([]:J aB) z9)) ((kX (az.mk z14 z0 z1 z4 z18) (au.mk z3 z7 z5 z6 ([]:J aB) z9)).2 β κ _ rfl)
attribute [go_sem] apb
def zB(a0:aK)(b:az):=mkF (p:=λβ (κ:KT ρ) (g:Int->U ρ)=>∀a,κ ([.d (.int .i64 a)],[])=g a) (ds:=λβ=>[(fQ β) a0,(dI β) b]) anZ (λ_=>rfl) _
def zC(a0:aK)(a:az)(g0):=(zB (ρ:=ρ) a0 a).1 g0
@[go_sem] def afE:=wk (zC (ρ:=ρ) (aK.mk z14 z0 z1 z11 z19 z15) (az.mk z20 z9 z10 z4 z18)) ((zB (aK.mk z14 z0 z1 z11 z19 z15) (az.mk z20 z9 z10 z4 z18)).2 β κ _ (λ_=>rfl))
def uW(a0:aP):=mkF (p:=λβ (κ:KT ρ) (g:Bool->U ρ)=>∀a,κ ([.d (.bool a)],[])=g a) (ds:=λβ=>[(jL β) a0]) ave (λ_=>rfl) _
def uX(a0:aP)(g0):=(uW (ρ:=ρ) a0).1 g0
@[go_sem] def ady:=wk (uX (ρ:=ρ) (aP.mk z0 z1 z9 z11 z21)) ((uW (aP.mk z0 z1 z9 z11 z21)).2 β κ _ (λ_=>rfl))
def uY(a0 c:Int)(d:au):=mkF (p:=λβ (κ:KT ρ) (g:Int->Bool->U ρ)=>∀a b,κ ([.d (.int .i64 a),.d (.bool b)],[])=g a b) (ds:=λβ=>[eI a0,eI c,(ii β) d]) apG (λ_=>rfl) _
def uZ(a0 a:Int)(b:au)(g0):=(uY (ρ:=ρ) a0 a b).1 g0
@[go_sem] def adz:=wk (uZ (ρ:=ρ) z0 z1 (au.mk z3 z4 z5 z6 z7 z9)) ((uY z0 z1 (au.mk z3 z4 z5 z6 z7 z9)).2 β κ _ (λ_ _=>rfl))
def oa(a0:J aB)(j:Int)(k:au):=mkF (p:=λβ (κ:KT ρ) (g:(J UInt8)->Int->Int->Int->Int->Int->Int->Bool->U ρ)=>∀d i a e b h f c,κ ([.d (.agg [.str d,.int .i64 i,.int .i64 a,.int .i64 e,.int .i64 b,.int .i64 h]),.d (.int .i64 f),.d (.bool c)],[])=g d i a e b h f c) (ds:=λβ=>[(tz β) a0,eI j,(ii β) k]) aph (λ_=>rfl) _
def oc(a0:J aB)(a:Int)(b:au)(g0):=(oa (ρ:=ρ) a0 a b).1 g0
@[go_sem] def X3:=wk (oc (ρ:=ρ) z4 z0 (au.mk z3 z7 z5 z6 z8 z1)) ((oa z4 z0 (au.mk z3 z7 z5 z6 z8 z1)).2 β κ _ (λ_ _ _ _ _ _ _ _=>rfl))
def pS(a0:Int)(c:au):=mkF (p:=λβ (κ:KT ρ) (g:Int->Bool->U ρ)=>∀a b,κ ([.d (.int .i64 a),.d (.bool b)],[])=g a b) (ds:=λβ=>[eI a0,(ii β) c]) apk (λ_=>rfl) _
def pT(a0:Int)(a:au)(g0):=(pS (ρ:=ρ) a0 a).1 g0
@[go_sem] def j?:=wk (pT (ρ:=ρ) z0 (au.mk z3 z4 z5 z6 z7 z1)) ((pS z0 (au.mk z3 z4 z5 z6 z7 z1)).2 β κ _ (λ_ _=>rfl))
def od(a0:aP)(b:Int)(c:au):=mkF (p:=λβ (κ:KT ρ) (g:Int->U ρ)=>∀a,κ ([.d (.int .i64 a)],[])=g a) (ds:=λβ=>[(jL β) a0,eI b,(ii β) c]) apn (λ_=>rfl) _
def oe(a0:aP)(a:Int)(b:au)(g0):=(od (ρ:=ρ) a0 a b).1 g0
@[go_sem] def X4:=wk (oe (ρ:=ρ) (aP.mk z0 z1 z9 z11 z21) z10 (au.mk z3 z4 z5 z6 z7 z16)) ((od (aP.mk z0 z1 z9 z11 z21) z10 (au.mk z3 z4 z5 z6 z7 z16)).2 β κ _ (λ_=>rfl))
section
variable(p0:J aB)(p1:Int)(p2:J aw)(p3:J aD)(p4:J az)(p5:J aW)
@[go_sem] def lF(β:Bool)(b:Int)(a:Int):St:=⟨[(1,.loc (aj.l 1 0) [] (0) 0),(5,.d (.int .i64 (0))),(6,.d (.int .i64 (0))),(7,.d (.int .i64 b)),(16,.d (.sl β (List.map dH p0))),(17,.d (.int .i64 p1)),(18,.d (.int .i64 a))],[((1,0),.own [.d (.agg [.sl β (List.map dz p2),.sl β (List.map dH p0),.sl β (List.map dM p3),.sl β (List.map (dI β) p4),.sl β (List.map (e9 β) p5)])])],[]⟩
@[go_sem] def qB:=mkL (p:=λβ (c:Int->Int->((Int)×(Int)->U ρ)->XT ρ->U ρ)=>∀(R:St->U ρ) g κ,(∀b a,R (lF p0 p1 p2 p3 p4 p5 β b a)=g (b,a))->∀b a,go P hints lS NP Xy.1 (lF p0 p1 p2 p3 p4 p5 β b a) (kLp R κ)=c b a g κ) _ _
def qC(β:Bool)(κ:XT ρ)(b:Int)(a:Int):=dA (κ:=κ) (Φ:=λv k=>(qB p0 p1 p2 p3 p4 p5 (ρ:=ρ)).f β v.1 v.2 k κ) Xy.2 (S:=λv=>lF p0 p1 p2 p3 p4 p5 β v.1 v.2) (by intro R g c v;exact(qB p0 p1 p2 p3 p4 p5 (ρ:=ρ)).ok β R g κ (λb a=>c (b,a)) v.1 v.2) (b,a)
end
@[go_sem] def Rg:=wl (qC z4 z0 z3 z5 z6 z22 false η z1 z9)
@[go_sem] def Rh:=wl (qC z4 z0 z3 z5 z6 z22 true η z1 z9)
section
variable(p0:J aD)(p1:Int)(p2:J aw)(p3:J aB)(p4:J az)(p5:J aW)
@[go_sem] def lG(β:Bool)(b:Int)(a:Int):St:=⟨[(1,.loc (aj.l 1 0) [] (0) 0),(5,.d (.int .i64 (0))),(6,.d (.int .i64 (0))),(7,.d (.int .i64 b)),(30,.d (.sl β (List.map dM p0))),(31,.d (.int .i64 p1)),(32,.d (.int .i64 a))],[((1,0),.own [.d (.agg [.sl β (List.map dz p2),.sl β (List.map dH p3),.sl β (List.map dM p0),.sl β (List.map (dI β) p4),.sl β (List.map (e9 β) p5)])])],[]⟩
@[go_sem] def qD:=mkL (p:=λβ (c:Int->Int->((Int)×(Int)->U ρ)->XT ρ->U ρ)=>∀(R:St->U ρ) g κ,(∀b a,R (lG p0 p1 p2 p3 p4 p5 β b a)=g (b,a))->∀b a,go P hints lS NP Xz.1 (lG p0 p1 p2 p3 p4 p5 β b a) (kLp R κ)=c b a g κ) _ _
def qE(β:Bool)(κ:XT ρ)(b:Int)(a:Int):=dA (κ:=κ) (Φ:=λv k=>(qD p0 p1 p2 p3 p4 p5 (ρ:=ρ)).f β v.1 v.2 k κ) Xz.2 (S:=λv=>lG p0 p1 p2 p3 p4 p5 β v.1 v.2) (by intro R g c v;exact(qD p0 p1 p2 p3 p4 p5 (ρ:=ρ)).ok β R g κ (λb a=>c (b,a)) v.1 v.2) (b,a)
end
@[go_sem] def Ri:=wl (qE z5 z0 z3 z4 z6 z22 false η z1 z9)
@[go_sem] def Rj:=wl (qE z5 z0 z3 z4 z6 z22 true η z1 z9)
section
variable(p0:J az)(p1:Int)(p2:J aw)(p3:J aB)(p4:J aD)(p5:J aW)
@[go_sem] def lH(β:Bool)(d:Int)(a:Int)(b:Int)(c:Int):St:=⟨[(1,.loc (aj.l 1 0) [] (0) 0),(5,.d (.int .i64 d)),(6,.d (.int .i64 a)),(7,.d (.int .i64 b)),(45,.d (.sl β (List.map (dI β) p0))),(46,.d (.int .i64 p1)),(47,.d (.int .i64 c))],[((1,0),.own [.d (.agg [.sl β (List.map dz p2),.sl β (List.map dH p3),.sl β (List.map dM p4),.sl β (List.map (dI β) p0),.sl β (List.map (e9 β) p5)])])],[]⟩
@[go_sem] def qF:=mkL (p:=λβ (e:Int->Int->Int->Int->((Int)×(Int)×(Int)×(Int)->U ρ)->XT ρ->U ρ)=>∀(R:St->U ρ) g κ,(∀b a c d,R (lH p0 p1 p2 p3 p4 p5 β b a c d)=g (b,a,c,d))->∀b a c d,go P hints lS NP XA.1 (lH p0 p1 p2 p3 p4 p5 β b a c d) (kLp R κ)=e b a c d g κ) _ _
def qG(β:Bool)(κ:XT ρ)(b:Int)(c:Int)(d:Int)(a:Int):=dA (κ:=κ) (Φ:=λv k=>(qF p0 p1 p2 p3 p4 p5 (ρ:=ρ)).f β v.1 v.2.1 v.2.2.1 v.2.2.2 k κ) XA.2 (S:=λv=>lH p0 p1 p2 p3 p4 p5 β v.1 v.2.1 v.2.2.1 v.2.2.2) (by intro R g e v;exact(qF p0 p1 p2 p3 p4 p5 (ρ:=ρ)).ok β R g κ (λb c d a=>e (b,c,d,a)) v.1 v.2.1 v.2.2.1 v.2.2.2) (b,c,d,a)
end
@[go_sem] def Rk:=wl (qG z6 z0 z3 z4 z5 z22 false η z1 z9 z10 z16)
@[go_sem] def Rl:=wl (qG z6 z0 z3 z4 z5 z22 true η z1 z9 z10 z16)
def og(a0:ae):=mkF (p:=λβ (κ:KT ρ) (g:Int->Int->Int->U ρ)=>∀c b a,κ ([.d (.int .i64 c),.d (.int .i64 b),.d (.int .i64 a)],[])=g c b a) (ds:=λβ=>[(gv β) a0]) alW (λ_=>rfl) _
def oh(a0:ae)(g0):=(og (ρ:=ρ) a0).1 g0
@[go_sem] def X5:=wk (oh (ρ:=ρ) (ae.mk z3 z4 z5 z6 z22)) ((og (ae.mk z3 z4 z5 z6 z22)).2 β κ _ (λ_ _ _=>rfl))
section
variable(p0:J aw)(p1:Int)
@[go_sem] def mO(β:Bool)(a:Int):St:=⟨[(0,.d (.sl β (List.map dz p0))),(4,.d (.int .i64 p1)),(5,.d (.int .i64 a))],[],[]⟩
@[go_sem] def tA:=mkL (p:=λβ (b:Int->(Int->U ρ)->XT ρ->U ρ)=>∀(R:St->U ρ) g κ,(∀a,R (mO p0 p1 β a)=g a)->∀a,go P hints uC b70 acM.1 (mO p0 p1 β a) (kLp R κ)=b a g κ) _ _
def tB(β:Bool)(κ:XT ρ)(a:Int):=dA (κ:=κ) (Φ:=λv k=>(tA p0 p1 (ρ:=ρ)).f β v k κ) acM.2 (S:=λv=>mO p0 p1 β v) (by intro R g b v;exact(tA p0 p1 (ρ:=ρ)).ok β R g κ (λa=>b a) v) a
end
@[go_sem] def T9:=wl (tB z3 z0 false η z1)
@[go_sem] def Ua:=wl (tB z3 z0 true η z1)
section
variable(p0:J aw)
@[go_sem] def mP(β:Bool)(a:Int):St:=⟨[(0,.d (.sl β (List.map dz p0))),(4,.d (.int .i64 a))],[],[]⟩
@[go_sem] def tC:=mkL (p:=λβ (b:Int->(Int->U ρ)->XT ρ->U ρ)=>∀(R:St->U ρ) g κ,(∀a,R (mP p0 β a)=g a)->∀a,go P hints uC b70 acN.1 (mP p0 β a) (kLp R κ)=b a g κ) _ _
def tD(β:Bool)(κ:XT ρ)(a:Int):=dA (κ:=κ) (Φ:=λv k=>(tC p0 (ρ:=ρ)).f β v k κ) acN.2 (S:=λv=>mP p0 β v) (by intro R g b v;exact(tC p0 (ρ:=ρ)).ok β R g κ (λa=>b a) v) a
end
@[go_sem] def Ub:=wl (tD z3 false η z0)
@[go_sem] def Uc:=wl (tD z3 true η z0)
def pU(a0:J aw):=mkF (p:=λβ (κ:KT ρ) (g:Int->Int->U ρ)=>∀b a,κ ([.d (.int .i64 b),.d (.int .i64 a)],[])=g b a) (ds:=λβ=>[(fP β) a0]) au0 (λ_=>rfl) _
def pW(a0:J aw)(g0):=(pU (ρ:=ρ) a0).1 g0
@[go_sem] def j!:=wk (pW (ρ:=ρ) z3) ((pU z3).2 β κ _ (λ_ _=>rfl))
def zD(a0:J aw)(b:Int):=mkF (p:=λβ (κ:KT ρ) (g:Int->U ρ)=>∀a,κ ([.d (.int .i64 a)],[])=g a) (ds:=λβ=>[(fP β) a0,eI b]) akw (λ_=>rfl) _
def zE(a0:J aw)(a:Int)(g0):=(zD (ρ:=ρ) a0 a).1 g0
@[go_sem] def afF:=wk (zE (ρ:=ρ) z3 z0) ((zD z3 z0).2 β κ _ (λ_=>rfl))
def zG(a0 b:Int):=mkF (p:=λβ (κ:KT ρ) (g:Bool->U ρ)=>∀a,κ ([.d (.bool a)],[])=g a) (ds:=λβ=>[eI a0,eI b]) akz (λ_=>rfl) _
def zH(a0 a:Int)(g0):=(zG (ρ:=ρ) a0 a).1 g0
@[go_sem] def afG:=wk (zH (ρ:=ρ) z0 z1) ((zG z0 z1).2 true κ _ (λ_=>rfl))
def oi(a0:aB)(b:J aw):=mkF (p:=λβ (κ:KT ρ) (g:Int->U ρ)=>∀a,κ ([.d (.int .i64 a)],[])=g a) (ds:=λβ=>[dH a0,(fP β) b]) akt (λ_=>rfl) _
def oj(a0:aB)(a:J aw)(g0):=(oi (ρ:=ρ) a0 a).1 g0
@[go_sem] def X6:=wk (oj (ρ:=ρ) (aB.mk z14 z0 z1 z9 z10 z16) z3) ((oi (aB.mk z14 z0 z1 z9 z10 z16) z3).2 β κ _ (λ_=>rfl))
section
variable(p0:J aB)(p1:J aw)(p2:Int)(p3:Int)
@[go_sem] def sG(β:Bool)(a:Int):St:=⟨[(0,.d (.sl β (List.map dH p0))),(1,.d (.sl β (List.map dz p1))),(2,.d (.int .i64 p2)),(8,.d (.int .i64 p3)),(9,.d (.int .i64 a))],[],[]⟩
@[go_sem] def Bb:=mkL (p:=λβ (b:Int->(Int->U ρ)->XT ρ->U ρ)=>∀(R:St->U ρ) g κ,(∀a,R (sG p0 p1 p2 p3 β a)=g a)->∀a,go P hints uD b71 acO.1 (sG p0 p1 p2 p3 β a) (kLp R κ)=b a g κ) _ _
def Bc(β:Bool)(κ:XT ρ)(a:Int):=dA (κ:=κ) (Φ:=λv k=>(Bb p0 p1 p2 p3 (ρ:=ρ)).f β v k κ) acO.2 (S:=λv=>sG p0 p1 p2 p3 β v) (by intro R g b v;exact(Bb p0 p1 p2 p3 (ρ:=ρ)).ok β R g κ (λa=>b a) v) a
end
@[go_sem] def k_:=wl (Bc z4 z3 z0 z1 false η z9)
@[go_sem] def k?:=wl (Bc z4 z3 z0 z1 true η z9)
section
variable(p0:J aB)(p1:J aw)(p2:Int)
@[go_sem] def sH(β:Bool)(a:Int):St:=⟨[(0,.d (.sl β (List.map dH p0))),(1,.d (.sl β (List.map dz p1))),(2,.d (.int .i64 p2)),(8,.d (.int .i64 a))],[],[]⟩
@[go_sem] def Be:=mkL (p:=λβ (b:Int->(Int->U ρ)->XT ρ->U ρ)=>∀(R:St->U ρ) g κ,(∀a,R (sH p0 p1 p2 β a)=g a)->∀a,go P hints uD b71 acP.1 (sH p0 p1 p2 β a) (kLp R κ)=b a g κ) _ _
def Bf(β:Bool)(κ:XT ρ)(a:Int):=dA (κ:=κ) (Φ:=λv k=>(Be p0 p1 p2 (ρ:=ρ)).f β v k κ) acP.2 (S:=λv=>sH p0 p1 p2 β v) (by intro R g b v;exact(Be p0 p1 p2 (ρ:=ρ)).ok β R g κ (λa=>b a) v) a
end
@[go_sem] def k!:=wl (Bf z4 z3 z0 false η z1)
@[go_sem] def l_:=wl (Bf z4 z3 z0 true η z1)
def zI(a0:J aB)(c:J aw)(d:Int):=mkF (p:=λβ (κ:KT ρ) (g:Int->Int->U ρ)=>∀a b,κ ([.d (.int .i64 a),.d (.int .i64 b)],[])=g a b) (ds:=λβ=>[(tz β) a0,(fP β) c,eI d]) au1 (λ_=>rfl) _
def zJ(a0:J aB)(a:J aw)(b:Int)(g0):=(zI (ρ:=ρ) a0 a b).1 g0
@[go_sem] def afH:=wk (zJ (ρ:=ρ) z4 z3 z0) ((zI z4 z3 z0).2 β κ _ (λ_ _=>rfl))
section
variable(p0:J aD)(p1:J aw)(p2:Int)
@[go_sem] def pX(β:Bool)(a:Int):St:=⟨[(0,.d (.sl β (List.map dM p0))),(1,.d (.sl β (List.map dz p1))),(6,.d (.int .i64 p2)),(7,.d (.int .i64 a))],[],[]⟩
@[go_sem] def xj:=mkL (p:=λβ (b:Int->(Int->U ρ)->XT ρ->U ρ)=>∀(R:St->U ρ) g κ,(∀a,R (pX p0 p1 p2 β a)=g a)->∀a,go P hints uE b74 acW.1 (pX p0 p1 p2 β a) (kLp R κ)=b a g κ) _ _
def xk(β:Bool)(κ:XT ρ)(a:Int):=dA (κ:=κ) (Φ:=λv k=>(xj p0 p1 p2 (ρ:=ρ)).f β v k κ) acW.2 (S:=λv=>pX p0 p1 p2 β v) (by intro R g b v;exact(xj p0 p1 p2 (ρ:=ρ)).ok β R g κ (λa=>b a) v) a
end
@[go_sem] def X7:=wl (xk z5 z3 z0 false η z1)
@[go_sem] def X8:=wl (xk z5 z3 z0 true η z1)
section
variable(p0:J aD)(p1:J aw)
@[go_sem] def pY(β:Bool)(a:Int):St:=⟨[(0,.d (.sl β (List.map dM p0))),(1,.d (.sl β (List.map dz p1))),(6,.d (.int .i64 a))],[],[]⟩
@[go_sem] def xl:=mkL (p:=λβ (b:Int->(Int->U ρ)->XT ρ->U ρ)=>∀(R:St->U ρ) g κ,(∀a,R (pY p0 p1 β a)=g a)->∀a,go P hints uE b74 acX.1 (pY p0 p1 β a) (kLp R κ)=b a g κ) _ _
def xm(β:Bool)(κ:XT ρ)(a:Int):=dA (κ:=κ) (Φ:=λv k=>(xl p0 p1 (ρ:=ρ)).f β v k κ) acX.2 (S:=λv=>pY p0 p1 β v) (by intro R g b v;exact(xl p0 p1 (ρ:=ρ)).ok β R g κ (λa=>b a) v) a
end
@[go_sem] def X9:=wl (xm z5 z3 false η z0)
@[go_sem] def Ya:=wl (xm z5 z3 true η z0)
def u0(a0:J aD)(c:J aw):=mkF (p:=λβ (κ:KT ρ) (g:Int->Int->U ρ)=>∀a b,κ ([.d (.int .i64 a),.d (.int .i64 b)],[])=g a b) (ds:=λβ=>[(zt β) a0,(fP β) c]) au4 (λ_=>rfl) _
def u5(a0:J aD)(a:J aw)(g0):=(u0 (ρ:=ρ) a0 a).1 g0
@[go_sem] def adA:=wk (u5 (ρ:=ρ) z5 z3) ((u0 z5 z3).2 β κ _ (λ_ _=>rfl))
def Hz(a0:J aF)(b:Int)(c:au):=mkF (p:=λβ (κ:KT ρ) (g:Int->U ρ)=>∀a,κ ([.d (.int .i64 a)],[])=g a) (ds:=λβ=>[(nT β) a0,eI b,(ii β) c]) alf (λ_=>rfl) _
def HA(a0:J aF)(a:Int)(b:au)(g0):=(Hz (ρ:=ρ) a0 a b).1 g0
@[go_sem] def aqA:=wk (HA (ρ:=ρ) z11 z0 (au.mk z3 z4 z5 z6 z7 z1)) ((Hz z11 z0 (au.mk z3 z4 z5 z6 z7 z1)).2 β κ _ (λ_=>rfl))
def zK(a0:aP)(b:au):=mkF (p:=λβ (κ:KT ρ) (g:Int->U ρ)=>∀a,κ ([.d (.int .i64 a)],[])=g a) (ds:=λβ=>[(jL β) a0,(ii β) b]) amu (λ_=>rfl) _
def zL(a0:aP)(a:au)(g0):=(zK (ρ:=ρ) a0 a).1 g0
@[go_sem] def afI:=wk (zL (ρ:=ρ) (aP.mk z0 z1 z9 z11 z21) (au.mk z3 z4 z5 z6 z7 z10)) ((zK (aP.mk z0 z1 z9 z11 z21) (au.mk z3 z4 z5 z6 z7 z10)).2 β κ _ (λ_=>rfl))
def u6(a0:J aB)(c:Int)(d:au):=mkF (p:=λβ (κ:KT ρ) (g:Int->Int->U ρ)=>∀a b,κ ([.d (.int .i64 a),.d (.int .i64 b)],[])=g a b) (ds:=λβ=>[(tz β) a0,eI c,(ii β) d]) amx (λ_=>rfl) _
def u7(a0:J aB)(a:Int)(b:au)(g0):=(u6 (ρ:=ρ) a0 a b).1 g0
@[go_sem] def adB:=wk (u7 (ρ:=ρ) z4 z0 (au.mk z3 z7 z5 z6 z8 z1)) ((u6 z4 z0 (au.mk z3 z7 z5 z6 z8 z1)).2 β κ _ (λ_ _=>rfl))
def CE(a0:aP)(b:au)(c:Bool):=mkF (p:=λβ (κ:KT ρ) (g:Int->U ρ)=>∀a,κ ([.d (.int .i64 a)],[])=g a) (ds:=λβ=>[(jL β) a0,(ii β) b,eB c]) ali (λ_=>rfl) _
def wA(a0:aP)(a:au)(b:Bool)(g0):=(CE (ρ:=ρ) a0 a b).1 g0
@[go_sem] def aiO:=wk (wA (ρ:=ρ) (aP.mk z0 z1 z9 z11 z21) (au.mk z3 z4 z5 z6 z7 z10) z15) ((CE (aP.mk z0 z1 z9 z11 z21) (au.mk z3 z4 z5 z6 z7 z10) z15).2 β κ _ (λ_=>rfl))
section
variable(p0:J UInt8)(p1:Int)(p2:Int)(p3:J aF)(p4:J aP)(p5:Bool)(p6:J aw)(p7:J aB)(p8:J aD)(p9:J az)(p10:J aB)(p11:Int)
@[go_sem] def pZ(β b:Bool)(a:Int):St:=⟨[(3,.loc (aj.l 3 0) [] (0) 0),(5,.loc (aj.l 5 0) [] (0) 0),(9,.d (.bool b)),(10,.d (.int .i64 a))],[((3,0),.own [.d (.agg [.str p0,.int .i64 p1,.int .i64 p2,.sl β (List.map eH p3),.sl β (List.map (jL β) p4),.bool p5])]),((5,0),.own [.d (.agg [.sl β (List.map dz p6),.sl β (List.map dH p7),.sl β (List.map dM p8),.sl β (List.map (dI β) p9),.sl β (List.map dH p10),.int .i64 p11])])],[]⟩
@[go_sem] def xn:=mkL (p:=λβ (c:Bool->Int->((Bool)×(Int)->U ρ)->XT ρ->U ρ)=>∀(R:St->U ρ) g κ,(∀b a,R (pZ p0 p1 p2 p3 p4 p5 p6 p7 p8 p9 p10 p11 β b a)=g (b,a))->∀b a,go P hints wt L_ Xk.1 (pZ p0 p1 p2 p3 p4 p5 p6 p7 p8 p9 p10 p11 β b a) (kLp R κ)=c b a g κ) _ _
def xo(β:Bool)(κ:XT ρ)(b:Bool)(a:Int):=dA (κ:=κ) (Φ:=λv k=>(xn p0 p1 p2 p3 p4 p5 p6 p7 p8 p9 p10 p11 (ρ:=ρ)).f β v.1 v.2 k κ) Xk.2 (S:=λv=>pZ p0 p1 p2 p3 p4 p5 p6 p7 p8 p9 p10 p11 β v.1 v.2) (by intro R g c v;exact(xn p0 p1 p2 p3 p4 p5 p6 p7 p8 p9 p10 p11 (ρ:=ρ)).ok β R g κ (λb a=>c (b,a)) v.1 v.2) (b,a)
end
@[go_sem] def Yb:=wl (xo z14 z0 z1 z11 z19 z15 z3 z4 z5 z6 z7 z9 false η z23 z10)
@[go_sem] def Yc:=wl (xo z14 z0 z1 z11 z19 z15 z3 z4 z5 z6 z7 z9 true η z23 z10)
def u9(a0:aK)(c:az)(d:au):=mkF (p:=λβ (κ:KT ρ) (g:Int->Int->U ρ)=>∀a b,κ ([.d (.int .i64 a),.d (.int .i64 b)],[])=g a b) (ds:=λβ=>[(fQ β) a0,(dI β) c,(ii β) d]) akB (λ_=>rfl) _
def vb(a0:aK)(a:az)(b:au)(g0):=(u9 (ρ:=ρ) a0 a b).1 g0
@[go_sem] def adC:=wk (vb (ρ:=ρ) (aK.mk z14 z0 z1 z11 z19 z15) (az.mk z20 z9 z10 z4 z18) (au.mk z3 z7 z5 z6 z8 z16)) ((u9 (aK.mk z14 z0 z1 z11 z19 z15) (az.mk z20 z9 z10 z4 z18) (au.mk z3 z7 z5 z6 z8 z16)).2 β κ _ (λ_ _=>rfl))
section
variable(p0:Int)(p1:J UInt8)(p2:Int)(p3:Int)(p4:J aB)(p5:J aK)(p6:J aw)(p7:J aB)(p8:J aD)(p9:J az)(p10:J aB)(p11:Int)
@[go_sem] def qa(β:Bool)(a:Int):St:=⟨[(2,.loc (aj.l 2 0) [] (0) 0),(3,.loc (aj.l 3 0) [] (0) 0),(9,.d (.int .i64 p0)),(10,.d (.int .i64 a))],[((2,0),.own [.d (.agg [.str p1,.int .i64 p2,.int .i64 p3,.sl β (List.map dH p4),.sl β (List.map (fQ β) p5)])]),((3,0),.own [.d (.agg [.sl β (List.map dz p6),.sl β (List.map dH p7),.sl β (List.map dM p8),.sl β (List.map (dI β) p9),.sl β (List.map dH p10),.int .i64 p11])])],[]⟩
@[go_sem] def xp:=mkL (p:=λβ (b:Int->(Int->U ρ)->XT ρ->U ρ)=>∀(R:St->U ρ) g κ,(∀a,R (qa p0 p1 p2 p3 p4 p5 p6 p7 p8 p9 p10 p11 β a)=g a)->∀a,go P hints mL b75 acY.1 (qa p0 p1 p2 p3 p4 p5 p6 p7 p8 p9 p10 p11 β a) (kLp R κ)=b a g κ) _ _
def xq(β:Bool)(κ:XT ρ)(a:Int):=dA (κ:=κ) (Φ:=λv k=>(xp p0 p1 p2 p3 p4 p5 p6 p7 p8 p9 p10 p11 (ρ:=ρ)).f β v k κ) acY.2 (S:=λv=>qa p0 p1 p2 p3 p4 p5 p6 p7 p8 p9 p10 p11 β v) (by intro R g b v;exact(xp p0 p1 p2 p3 p4 p5 p6 p7 p8 p9 p10 p11 (ρ:=ρ)).ok β R g κ (λa=>b a) v) a
end
@[go_sem] def Yd:=wl (xq z0 z14 z1 z9 z4 z18 z3 z7 z5 z6 z8 z10 false η z16)
@[go_sem] def Ye:=wl (xq z0 z14 z1 z9 z4 z18 z3 z7 z5 z6 z8 z10 true η z16)
section
variable(p0:J UInt8)(p1:Int)(p2:Int)(p3:J aB)(p4:J aK)(p5:J aw)(p6:J aB)(p7:J aD)(p8:J az)(p9:J aB)(p10:Int)
@[go_sem] def qb(β:Bool)(a:Int):St:=⟨[(2,.loc (aj.l 2 0) [] (0) 0),(3,.loc (aj.l 3 0) [] (0) 0),(9,.d (.int .i64 a))],[((2,0),.own [.d (.agg [.str p0,.int .i64 p1,.int .i64 p2,.sl β (List.map dH p3),.sl β (List.map (fQ β) p4)])]),((3,0),.own [.d (.agg [.sl β (List.map dz p5),.sl β (List.map dH p6),.sl β (List.map dM p7),.sl β (List.map (dI β) p8),.sl β (List.map dH p9),.int .i64 p10])])],[]⟩
@[go_sem] def xr:=mkL (p:=λβ (b:Int->(Int->U ρ)->XT ρ->U ρ)=>∀(R:St->U ρ) g κ,(∀a,R (qb p0 p1 p2 p3 p4 p5 p6 p7 p8 p9 p10 β a)=g a)->∀a,go P hints mL b75 acZ.1 (qb p0 p1 p2 p3 p4 p5 p6 p7 p8 p9 p10 β a) (kLp R κ)=b a g κ) _ _
def xu(β:Bool)(κ:XT ρ)(a:Int):=dA (κ:=κ) (Φ:=λv k=>(xr p0 p1 p2 p3 p4 p5 p6 p7 p8 p9 p10 (ρ:=ρ)).f β v k κ) acZ.2 (S:=λv=>qb p0 p1 p2 p3 p4 p5 p6 p7 p8 p9 p10 β v) (by intro R g b v;exact(xr p0 p1 p2 p3 p4 p5 p6 p7 p8 p9 p10 (ρ:=ρ)).ok β R g κ (λa=>b a) v) a
end
@[go_sem] def Yf:=wl (xu z14 z0 z1 z4 z18 z3 z7 z5 z6 z8 z9 false η z10)
@[go_sem] def Yg:=wl (xu z14 z0 z1 z4 z18 z3 z7 z5 z6 z8 z9 true η z10)
section
variable(p0:Int)(p1:J UInt8)(p2:Int)(p3:Int)(p4:J aB)(p5:J aK)(p6:J aw)(p7:J aB)(p8:J aD)(p9:J az)
@[go_sem] def qc(β:Bool)(a:Int):St:=⟨[(2,.loc (aj.l 2 0) [] (0) 0),(11,.loc (aj.l 11 0) [] (0) 0),(12,.d (.int .i64 p0)),(15,.d (.int .i64 a))],[((2,0),.own [.d (.agg [.str p1,.int .i64 p2,.int .i64 p3,.sl β (List.map dH p4),.sl β (List.map (fQ β) p5)])]),((11,0),.own [.d (.agg [.sl β (List.map dz p6),.sl β (List.map dH p7),.sl β (List.map dM p8),.sl β (List.map (dI β) p9),.sl β (List.map dH p4),.int .i64 p2])])],[]⟩
@[go_sem] def xw:=mkL (p:=λβ (b:Int->(Int->U ρ)->XT ρ->U ρ)=>∀(R:St->U ρ) g κ,(∀a,R (qc p0 p1 p2 p3 p4 p5 p6 p7 p8 p9 β a)=g a)->∀a,go P hints mL b75 ac0.1 (qc p0 p1 p2 p3 p4 p5 p6 p7 p8 p9 β a) (kLp R κ)=b a g κ) _ _
def xy(β:Bool)(κ:XT ρ)(a:Int):=dA (κ:=κ) (Φ:=λv k=>(xw p0 p1 p2 p3 p4 p5 p6 p7 p8 p9 (ρ:=ρ)).f β v k κ) ac0.2 (S:=λv=>qc p0 p1 p2 p3 p4 p5 p6 p7 p8 p9 β v) (by intro R g b v;exact(xw p0 p1 p2 p3 p4 p5 p6 p7 p8 p9 (ρ:=ρ)).ok β R g κ (λa=>b a) v) a
end
@[go_sem] def Yh:=wl (xy z0 z14 z1 z9 z4 z18 z3 z7 z5 z6 false η z10)
@[go_sem] def Yi:=wl (xy z0 z14 z1 z9 z4 z18 z3 z7 z5 z6 true η z10)
section
variable(p0:J UInt8)(p1:Int)(p2:Int)(p3:J aB)(p4:J aK)(p5:J aw)(p6:J aB)(p7:J aD)(p8:J az)
@[go_sem] def qd(β:Bool)(a:Int):St:=⟨[(2,.loc (aj.l 2 0) [] (0) 0),(11,.loc (aj.l 11 0) [] (0) 0),(12,.d (.int .i64 a))],[((2,0),.own [.d (.agg [.str p0,.int .i64 p1,.int .i64 p2,.sl β (List.map dH p3),.sl β (List.map (fQ β) p4)])]),((11,0),.own [.d (.agg [.sl β (List.map dz p5),.sl β (List.map dH p6),.sl β (List.map dM p7),.sl β (List.map (dI β) p8),.sl β (List.map dH p3),.int .i64 p1])])],[]⟩
@[go_sem] def xz:=mkL (p:=λβ (b:Int->(Int->U ρ)->XT ρ->U ρ)=>∀(R:St->U ρ) g κ,(∀a,R (qd p0 p1 p2 p3 p4 p5 p6 p7 p8 β a)=g a)->∀a,go P hints mL b75 ac3.1 (qd p0 p1 p2 p3 p4 p5 p6 p7 p8 β a) (kLp R κ)=b a g κ) _ _
def xE(β:Bool)(κ:XT ρ)(a:Int):=dA (κ:=κ) (Φ:=λv k=>(xz p0 p1 p2 p3 p4 p5 p6 p7 p8 (ρ:=ρ)).f β v k κ) ac3.2 (S:=λv=>qd p0 p1 p2 p3 p4 p5 p6 p7 p8 β v) (by intro R g b v;exact(xz p0 p1 p2 p3 p4 p5 p6 p7 p8 (ρ:=ρ)).ok β R g κ (λa=>b a) v) a
end
@[go_sem] def Yj:=wl (xE z14 z0 z1 z4 z18 z3 z7 z5 z6 false η z9)
@[go_sem] def Yk:=wl (xE z14 z0 z1 z4 z18 z3 z7 z5 z6 true η z9)
def vc(a0:az)(d:au):=mkF (p:=λβ (κ:KT ρ) (g:Int->Int->Int->U ρ)=>∀a c b,κ ([.d (.int .i64 a),.d (.int .i64 c),.d (.int .i64 b)],[])=g a c b) (ds:=λβ=>[(dI β) a0,(ii β) d]) au5 (λ_=>rfl) _
def vd(a0:az)(a:au)(g0):=(vc (ρ:=ρ) a0 a).1 g0
@[go_sem] def adD:=wk (vd (ρ:=ρ) (az.mk z14 z0 z1 z4 z18) (au.mk z3 z7 z5 z6 z8 z9)) ((vc (az.mk z14 z0 z1 z4 z18) (au.mk z3 z7 z5 z6 z8 z9)).2 β κ _ (λ_ _ _=>rfl))
def ve(a0:ae)(c:Int):=mkF (p:=λβ (κ:KT ρ) (g:(J aB)->Int->U ρ)=>(∀(b:J aB) (a:Int),κ ([.d (.agg [.sl β (List.map dz (a0.aa)),.sl β (List.map dH (a0.aq)),.sl β (List.map dM (a0.ah)),.sl β (List.map (dI β) (a0.ak)),.sl β (List.map dH b),.int .i64 a])],[])=g b a)/\(∀(a:Int),κ ([.d (.agg [.sl β (List.map dz (a0.aa)),.sl β (List.map dH (a0.aq)),.sl β (List.map dM (a0.ah)),.sl β (List.map (dI β) (a0.ak)),.sl β (List.map dH ([]:J aB)),.int .i64 a])],[])=g ([]:J aB) a)) (ds:=λβ=>[(gv β) a0,eI c]) au6 (λ_=>rfl) _
def vf(a0:ae)(a:Int)(g0):=(ve (ρ:=ρ) a0 a).1 g0
@[go_sem] def adE:=wk (vf (ρ:=ρ) (ae.mk z3 z4 z5 z6 z22) z0) ((ve (ae.mk z3 z4 z5 z6 z22) z0).2 β κ _ ⟨(λ_ _=>rfl),(λ_=>rfl)⟩)
def ph(a0:aB)(b:J aw):=mkF (p:=λβ (κ:KT ρ) (g:Int->U ρ)=>∀a,κ ([.d (.int .i64 a)],[])=g a) (ds:=λβ=>[dH a0,(fP β) b]) au7 (λ_=>rfl) _
def pj(a0:aB)(a:J aw)(g0):=(ph (ρ:=ρ) a0 a).1 g0
@[go_sem] def adF:=wk (pj (ρ:=ρ) (aB.mk z14 z0 z1 z9 z10 z16) z3) ((ph (aB.mk z14 z0 z1 z9 z10 z16) z3).2 β κ _ (λ_=>rfl))
def vg(a0:ae)(b:az):=mkF (p:=λβ (κ:KT ρ) (g:Int->U ρ)=>∀a,κ ([.d (.int .i64 a)],[])=g a) (ds:=λβ=>[(gv β) a0,(dI β) b]) au8 (λ_=>rfl) _
def DM(a0:ae)(a:az)(g0):=(vg (ρ:=ρ) a0 a).1 g0
@[go_sem] def adG:=wk (DM (ρ:=ρ) (ae.mk z3 z4 z5 z6 z22) (az.mk z14 z0 z1 z7 z18)) ((vg (ae.mk z3 z4 z5 z6 z22) (az.mk z14 z0 z1 z7 z18)).2 β κ _ (λ_=>rfl))
section
variable(p0:J aw)(p1:J aB)(p2:J aD)(p3:J az)(p4:J aW)
@[go_sem] def ol(β:Bool)(b:Int)(a:Int):St:=⟨[(1,.loc (aj.l 1 0) [] (0) 0),(5,.d (.int .i64 (0))),(6,.d (.int .i64 (0))),(7,.d (.int .i64 b)),(8,.d (.int .i64 a))],[((1,0),.own [.d (.agg [.sl β (List.map dz p0),.sl β (List.map dH p1),.sl β (List.map dM p2),.sl β (List.map (dI β) p3),.sl β (List.map (e9 β) p4)])])],[]⟩
@[go_sem] def vh:=mkL (p:=λβ (c:Int->Int->((Int)×(Int)->U ρ)->XT ρ->U ρ)=>∀(R:St->U ρ) g κ,(∀b a,R (ol p0 p1 p2 p3 p4 β b a)=g (b,a))->∀b a,go P hints pL b49 acE.1 (ol p0 p1 p2 p3 p4 β b a) (kLp R κ)=c b a g κ) _ _
def vj(β:Bool)(κ:XT ρ)(b:Int)(a:Int):=dA (κ:=κ) (Φ:=λv k=>(vh p0 p1 p2 p3 p4 (ρ:=ρ)).f β v.1 v.2 k κ) acE.2 (S:=λv=>ol p0 p1 p2 p3 p4 β v.1 v.2) (by intro R g c v;exact(vh p0 p1 p2 p3 p4 (ρ:=ρ)).ok β R g κ (λb a=>c (b,a)) v.1 v.2) (b,a)
end
@[go_sem] def Vi:=wl (vj z3 z4 z5 z6 z22 false η z0 z1)
@[go_sem] def Vj:=wl (vj z3 z4 z5 z6 z22 true η z0 z1)
section
variable(p0:J aw)(p1:J aB)(p2:J aD)(p3:J az)(p4:J aW)
@[go_sem] def om(β:Bool)(b:Int)(a:Int):St:=⟨[(1,.loc (aj.l 1 0) [] (0) 0),(5,.d (.int .i64 (0))),(6,.d (.int .i64 (0))),(7,.d (.int .i64 b)),(9,.d (.int .i64 a))],[((1,0),.own [.d (.agg [.sl β (List.map dz p0),.sl β (List.map dH p1),.sl β (List.map dM p2),.sl β (List.map (dI β) p3),.sl β (List.map (e9 β) p4)])])],[]⟩
@[go_sem] def vk:=mkL (p:=λβ (c:Int->Int->((Int)×(Int)->U ρ)->XT ρ->U ρ)=>∀(R:St->U ρ) g κ,(∀b a,R (om p0 p1 p2 p3 p4 β b a)=g (b,a))->∀b a,go P hints pL b49 acF.1 (om p0 p1 p2 p3 p4 β b a) (kLp R κ)=c b a g κ) _ _
def vl(β:Bool)(κ:XT ρ)(b:Int)(a:Int):=dA (κ:=κ) (Φ:=λv k=>(vk p0 p1 p2 p3 p4 (ρ:=ρ)).f β v.1 v.2 k κ) acF.2 (S:=λv=>om p0 p1 p2 p3 p4 β v.1 v.2) (by intro R g c v;exact(vk p0 p1 p2 p3 p4 (ρ:=ρ)).ok β R g κ (λb a=>c (b,a)) v.1 v.2) (b,a)
end
@[go_sem] def Vk:=wl (vl z3 z4 z5 z6 z22 false η z0 z1)
@[go_sem] def Vl:=wl (vl z3 z4 z5 z6 z22 true η z0 z1)
section
variable(p0:J aw)(p1:J aB)(p2:J aD)(p3:J az)(p4:J aW)
@[go_sem] def oq(β:Bool)(d:Int)(a:Int)(b:Int)(c:Int):St:=⟨[(1,.loc (aj.l 1 0) [] (0) 0),(5,.d (.int .i64 d)),(6,.d (.int .i64 a)),(7,.d (.int .i64 b)),(10,.d (.int .i64 c))],[((1,0),.own [.d (.agg [.sl β (List.map dz p0),.sl β (List.map dH p1),.sl β (List.map dM p2),.sl β (List.map (dI β) p3),.sl β (List.map (e9 β) p4)])])],[]⟩
@[go_sem] def vm:=mkL (p:=λβ (e:Int->Int->Int->Int->((Int)×(Int)×(Int)×(Int)->U ρ)->XT ρ->U ρ)=>∀(R:St->U ρ) g κ,(∀b a c d,R (oq p0 p1 p2 p3 p4 β b a c d)=g (b,a,c,d))->∀b a c d,go P hints pL b49 acG.1 (oq p0 p1 p2 p3 p4 β b a c d) (kLp R κ)=e b a c d g κ) _ _
def vo(β:Bool)(κ:XT ρ)(b:Int)(c:Int)(d:Int)(a:Int):=dA (κ:=κ) (Φ:=λv k=>(vm p0 p1 p2 p3 p4 (ρ:=ρ)).f β v.1 v.2.1 v.2.2.1 v.2.2.2 k κ) acG.2 (S:=λv=>oq p0 p1 p2 p3 p4 β v.1 v.2.1 v.2.2.1 v.2.2.2) (by intro R g e v;exact(vm p0 p1 p2 p3 p4 (ρ:=ρ)).ok β R g κ (λb c d a=>e (b,c,d,a)) v.1 v.2.1 v.2.2.1 v.2.2.2) (b,c,d,a)
end
@[go_sem] def Vm:=wl (vo z3 z4 z5 z6 z22 false η z0 z1 z9 z10)
@[go_sem] def Vn:=wl (vo z3 z4 z5 z6 z22 true η z0 z1 z9 z10)
def sJ(a0:ae):=mkF (p:=λβ (κ:KT ρ) (g:Int->Int->Int->U ρ)=>∀c b a,κ ([.d (.int .i64 c),.d (.int .i64 b),.d (.int .i64 a)],[])=g c b a) (ds:=λβ=>[(gv β) a0]) auN (λ_=>rfl) _
def sK(a0:ae)(g0):=(sJ (ρ:=ρ) a0).1 g0
@[go_sem] def T?:=wk (sK (ρ:=ρ) (ae.mk z3 z4 z5 z6 z22)) ((sJ (ae.mk z3 z4 z5 z6 z22)).2 β κ _ (λ_ _ _=>rfl))
section
variable(p0:Int)(p1:Int)(p2:J aw)(p3:J aB)(p4:J aD)(p5:J az)(p6:J aW)
@[go_sem] def lV(β:Bool)(n0:Nat)(b:Int)(a:J (J UInt8)):St:=⟨[(1,.d (.int .i64 p0)),(2,.d (.int .i64 p1)),(3,.loc (aj.l 3 0) [] (0) 0),(7,.aG (.l 7 0) [] 0 n0),(8,.d (.int .i64 b))],[((3,0),.own [.d (.agg [.sl β (List.map dz p2),.sl β (List.map dH p3),.sl β (List.map dM p4),.sl β (List.map (dI β) p5),.sl β (List.map (e9 β) p6)])]),((7,0),.own (tl eS a))],[]⟩
@[go_sem] def xI:=mkL (p:=λβ (d:Int->(J (J UInt8))->((Int)×(J (J UInt8))->U ρ)->XT ρ->U ρ)=>∀(R:St->U ρ) g κ,(∀c b a,c=List.length a->R (lV p0 p1 p2 p3 p4 p5 p6 β c b a)=g (b,a))->∀b a,go P hints kU b73 acR.1 (lV p0 p1 p2 p3 p4 p5 p6 β (List.length a) b a) (kLp R κ)=d b a g κ) _ _
def x7(β:Bool)(κ:XT ρ)(n0:Nat)(c:Int)(b:J (J UInt8))(a:n0=List.length b):=jI (S:=λn0=>lV p0 p1 p2 p3 p4 p5 p6 β n0 c b) a (dA (κ:=κ) (Φ:=λv k=>(xI p0 p1 p2 p3 p4 p5 p6 (ρ:=ρ)).f β v.1 v.2 k κ) acR.2 (S:=λv=>lV p0 p1 p2 p3 p4 p5 p6 β (List.length v.2) v.1 v.2) (by intro R g d v;exact(xI p0 p1 p2 p3 p4 p5 p6 (ρ:=ρ)).ok β R g κ (λn0 c b a=>by subst a;exact d (c,b)) v.1 v.2) (c,b))
end
@[go_sem] def Ud:=wl (x7 z0 z1 z3 z4 z5 z6 z22 false η 0 z9 [] rfl)
@[go_sem] def Ue:=wl (x7 z0 z1 z3 z4 z5 z6 z22 true η 0 z9 [] rfl)
section
variable(p0:Int)(p1:Int)(p2:J aw)(p3:J aB)(p4:J aD)(p5:J az)(p6:J aW)
@[go_sem] def lW(β:Bool)(n0:Nat)(b:Int)(a:J (J UInt8)):St:=⟨[(1,.d (.int .i64 p0)),(2,.d (.int .i64 p1)),(3,.loc (aj.l 3 0) [] (0) 0),(7,.aG (.l 7 0) [] 0 n0),(9,.d (.int .i64 b))],[((3,0),.own [.d (.agg [.sl β (List.map dz p2),.sl β (List.map dH p3),.sl β (List.map dM p4),.sl β (List.map (dI β) p5),.sl β (List.map (e9 β) p6)])]),((7,0),.own (tl eS a))],[]⟩
@[go_sem] def x9:=mkL (p:=λβ (d:Int->(J (J UInt8))->((Int)×(J (J UInt8))->U ρ)->XT ρ->U ρ)=>∀(R:St->U ρ) g κ,(∀c b a,c=List.length a->R (lW p0 p1 p2 p3 p4 p5 p6 β c b a)=g (b,a))->∀b a,go P hints kU b73 acS.1 (lW p0 p1 p2 p3 p4 p5 p6 β (List.length a) b a) (kLp R κ)=d b a g κ) _ _
def ya(β:Bool)(κ:XT ρ)(n0:Nat)(c:Int)(b:J (J UInt8))(a:n0=List.length b):=jI (S:=λn0=>lW p0 p1 p2 p3 p4 p5 p6 β n0 c b) a (dA (κ:=κ) (Φ:=λv k=>(x9 p0 p1 p2 p3 p4 p5 p6 (ρ:=ρ)).f β v.1 v.2 k κ) acS.2 (S:=λv=>lW p0 p1 p2 p3 p4 p5 p6 β (List.length v.2) v.1 v.2) (by intro R g d v;exact(x9 p0 p1 p2 p3 p4 p5 p6 (ρ:=ρ)).ok β R g κ (λn0 c b a=>by subst a;exact d (c,b)) v.1 v.2) (c,b))
end
@[go_sem] def Yl(a:z12=List.length z24):=wl (ya z0 z1 z3 z4 z5 z6 z22 false η z12 z9 z24 a)
@[go_sem] def Ym(a:z12=List.length z24):=wl (ya z0 z1 z3 z4 z5 z6 z22 true η z12 z9 z24 a)
section
variable(p0:Int)(p1:Int)(p2:J aw)(p3:J aB)(p4:J aD)(p5:J az)(p6:J aW)
@[go_sem] def lX(β:Bool)(n0:Nat)(b:Int)(a:J (J UInt8)):St:=⟨[(1,.d (.int .i64 p0)),(2,.d (.int .i64 p1)),(3,.loc (aj.l 3 0) [] (0) 0),(7,.aG (.l 7 0) [] 0 n0),(10,.d (.int .i64 b))],[((3,0),.own [.d (.agg [.sl β (List.map dz p2),.sl β (List.map dH p3),.sl β (List.map dM p4),.sl β (List.map (dI β) p5),.sl β (List.map (e9 β) p6)])]),((7,0),.own (tl eS a))],[]⟩
@[go_sem] def yb:=mkL (p:=λβ (d:Int->(J (J UInt8))->((Int)×(J (J UInt8))->U ρ)->XT ρ->U ρ)=>∀(R:St->U ρ) g κ,(∀c b a,c=List.length a->R (lX p0 p1 p2 p3 p4 p5 p6 β c b a)=g (b,a))->∀b a,go P hints kU b73 acT.1 (lX p0 p1 p2 p3 p4 p5 p6 β (List.length a) b a) (kLp R κ)=d b a g κ) _ _
def yc(β:Bool)(κ:XT ρ)(n0:Nat)(c:Int)(b:J (J UInt8))(a:n0=List.length b):=jI (S:=λn0=>lX p0 p1 p2 p3 p4 p5 p6 β n0 c b) a (dA (κ:=κ) (Φ:=λv k=>(yb p0 p1 p2 p3 p4 p5 p6 (ρ:=ρ)).f β v.1 v.2 k κ) acT.2 (S:=λv=>lX p0 p1 p2 p3 p4 p5 p6 β (List.length v.2) v.1 v.2) (by intro R g d v;exact(yb p0 p1 p2 p3 p4 p5 p6 (ρ:=ρ)).ok β R g κ (λn0 c b a=>by subst a;exact d (c,b)) v.1 v.2) (c,b))
end
@[go_sem] def Yn(a:z12=List.length z24):=wl (yc z0 z1 z3 z4 z5 z6 z22 false η z12 z9 z24 a)
@[go_sem] def Yo(a:z12=List.length z24):=wl (yc z0 z1 z3 z4 z5 z6 z22 true η z12 z9 z24 a)
section
variable(p0:Int)(p1:Int)(p2:J aw)(p3:J aB)(p4:J aD)(p5:J az)(p6:J aW)
@[go_sem] def lY(β:Bool)(n0:Nat)(b:Int)(a:J (J UInt8)):St:=⟨[(1,.d (.int .i64 p0)),(2,.d (.int .i64 p1)),(3,.loc (aj.l 3 0) [] (0) 0),(7,.aG (.l 7 0) [] 0 n0),(11,.d (.int .i64 b))],[((3,0),.own [.d (.agg [.sl β (List.map dz p2),.sl β (List.map dH p3),.sl β (List.map dM p4),.sl β (List.map (dI β) p5),.sl β (List.map (e9 β) p6)])]),((7,0),.own (tl eS a))],[]⟩
@[go_sem] def yd:=mkL (p:=λβ (d:Int->(J (J UInt8))->((Int)×(J (J UInt8))->U ρ)->XT ρ->U ρ)=>∀(R:St->U ρ) g κ,(∀c b a,c=List.length a->R (lY p0 p1 p2 p3 p4 p5 p6 β c b a)=g (b,a))->∀b a,go P hints kU b73 acU.1 (lY p0 p1 p2 p3 p4 p5 p6 β (List.length a) b a) (kLp R κ)=d b a g κ) _ _
def ye(β:Bool)(κ:XT ρ)(n0:Nat)(c:Int)(b:J (J UInt8))(a:n0=List.length b):=jI (S:=λn0=>lY p0 p1 p2 p3 p4 p5 p6 β n0 c b) a (dA (κ:=κ) (Φ:=λv k=>(yd p0 p1 p2 p3 p4 p5 p6 (ρ:=ρ)).f β v.1 v.2 k κ) acU.2 (S:=λv=>lY p0 p1 p2 p3 p4 p5 p6 β (List.length v.2) v.1 v.2) (by intro R g d v;exact(yd p0 p1 p2 p3 p4 p5 p6 (ρ:=ρ)).ok β R g κ (λn0 c b a=>by subst a;exact d (c,b)) v.1 v.2) (c,b))
end
@[go_sem] def Yp(a:z12=List.length z24):=wl (ye z0 z1 z3 z4 z5 z6 z22 false η z12 z9 z24 a)
@[go_sem] def Yq(a:z12=List.length z24):=wl (ye z0 z1 z3 z4 z5 z6 z22 true η z12 z9 z24 a)
section
variable(p0:Int)(p1:Int)(p2:J aw)(p3:J aB)(p4:J aD)(p5:J az)(p6:J aW)
@[go_sem] def lZ(β:Bool)(n0:Nat)(b:Int)(a:J (J UInt8)):St:=⟨[(1,.d (.int .i64 p0)),(2,.d (.int .i64 p1)),(3,.loc (aj.l 3 0) [] (0) 0),(7,.aG (.l 7 0) [] 0 n0),(12,.d (.int .i64 b))],[((3,0),.own [.d (.agg [.sl β (List.map dz p2),.sl β (List.map dH p3),.sl β (List.map dM p4),.sl β (List.map (dI β) p5),.sl β (List.map (e9 β) p6)])]),((7,0),.own (tl eS a))],[]⟩
@[go_sem] def yf:=mkL (p:=λβ (d:Int->(J (J UInt8))->((Int)×(J (J UInt8))->U ρ)->XT ρ->U ρ)=>∀(R:St->U ρ) g κ,(∀c b a,c=List.length a->R (lZ p0 p1 p2 p3 p4 p5 p6 β c b a)=g (b,a))->∀b a,go P hints kU b73 acV.1 (lZ p0 p1 p2 p3 p4 p5 p6 β (List.length a) b a) (kLp R κ)=d b a g κ) _ _
def yg(β:Bool)(κ:XT ρ)(n0:Nat)(c:Int)(b:J (J UInt8))(a:n0=List.length b):=jI (S:=λn0=>lZ p0 p1 p2 p3 p4 p5 p6 β n0 c b) a (dA (κ:=κ) (Φ:=λv k=>(yf p0 p1 p2 p3 p4 p5 p6 (ρ:=ρ)).f β v.1 v.2 k κ) acV.2 (S:=λv=>lZ p0 p1 p2 p3 p4 p5 p6 β (List.length v.2) v.1 v.2) (by intro R g d v;exact(yf p0 p1 p2 p3 p4 p5 p6 (ρ:=ρ)).ok β R g κ (λn0 c b a=>by subst a;exact d (c,b)) v.1 v.2) (c,b))
end
@[go_sem] def Yr(a:z12=List.length z24):=wl (yg z0 z1 z3 z4 z5 z6 z22 false η z12 z9 z24 a)
@[go_sem] def Ys(a:z12=List.length z24):=wl (yg z0 z1 z3 z4 z5 z6 z22 true η z12 z9 z24 a)
def kz(a0:ae)(b:Int)(c:Int):=mkF (p:=λβ (κ:KT ρ) (g:(J (J UInt8))->U ρ)=>∀a,κ ([.d (.sl false (List.map eS a))],[])=g a) (ds:=λβ=>[(gv β) a0,eI b,eI c]) au3 (λ_=>rfl) _
def ia(a0:ae)(a:Int)(b:Int)(g0):=(kz (ρ:=ρ) a0 a b).1 g0
@[go_sem] def adH:=wk (ia (ρ:=ρ) (ae.mk z3 z4 z5 z6 z22) z0 z1) ((kz (ae.mk z3 z4 z5 z6 z22) z0 z1).2 β κ _ (λ_=>rfl))
section
variable(p0:J (J UInt8))(p1:J UInt8)
@[go_sem] def vp(β:Bool)(a:Int):St:=⟨[(0,.d (.sl β (List.map eS p0))),(1,.d (.str p1)),(5,.d (.int .i64 a))],[],[]⟩
@[go_sem] def DN:=mkL (p:=λβ (b:Int->(Int->U ρ)->XT ρ->U ρ)=>∀(R:St->U ρ) g κ,(∀a,R (vp p0 p1 β a)=g a)->∀a,go P hints Cu b72 acQ.1 (vp p0 p1 β a) (kLp R κ)=b a g κ) _ _
def DO(β:Bool)(κ:XT ρ)(a:Int):=dA (κ:=κ) (Φ:=λv k=>(DN p0 p1 (ρ:=ρ)).f β v k κ) acQ.2 (S:=λv=>vp p0 p1 β v) (by intro R g b v;exact(DN p0 p1 (ρ:=ρ)).ok β R g κ (λa=>b a) v) a
end
@[go_sem] def T!:=wl (DO z24 z14 false η z0)
@[go_sem] def V_:=wl (DO z24 z14 true η z0)
def CF(a0:J (J UInt8))(b:J UInt8):=mkF (p:=λβ (κ:KT ρ) (g:Bool->U ρ)=>∀a,κ ([.d (.bool a)],[])=g a) (ds:=λβ=>[(XM β) a0,eS b]) au2 (λ_=>rfl) _
def CG(a0:J (J UInt8))(a:J UInt8)(g0):=(CF (ρ:=ρ) a0 a).1 g0
@[go_sem] def aiP:=wk (CG (ρ:=ρ) z24 z14) ((CF z24 z14).2 β κ _ (λ_=>rfl))
section
variable(p0:J aw)(p1:J aB)(p2:J aD)(p3:J az)(p4:J aW)
@[go_sem] def sL(β:Bool)(a:Int):St:=⟨[(1,.loc (aj.l 1 0) [] (0) 0),(2,.loc (aj.l 2 0) [] (0) 0),(5,.d (.int .i64 a))],[((1,0),.own [.d (.agg [.sl β (List.map dz p0),.sl β (List.map dH p1),.sl β (List.map dM p2),.sl β (List.map (dI β) p3),.sl β (List.map (e9 β) p4)])]),((2,0),.own [.d (.agg [.int .i64 (0),.int .i64 (0),.int .i64 (0),.int .i64 (0)])])],[]⟩
@[go_sem] def Bg:=mkL (p:=λβ (b:Int->(Int->U ρ)->XT ρ->U ρ)=>∀(R:St->U ρ) g κ,(∀a,R (sL p0 p1 p2 p3 p4 β a)=g a)->∀a,go P hints uB b47 acB.1 (sL p0 p1 p2 p3 p4 β a) (kLp R κ)=b a g κ) _ _
def Bh(β:Bool)(κ:XT ρ)(a:Int):=dA (κ:=κ) (Φ:=λv k=>(Bg p0 p1 p2 p3 p4 (ρ:=ρ)).f β v k κ) acB.2 (S:=λv=>sL p0 p1 p2 p3 p4 β v) (by intro R g b v;exact(Bg p0 p1 p2 p3 p4 (ρ:=ρ)).ok β R g κ (λa=>b a) v) a
end
@[go_sem] def l?:=wl (Bh z3 z4 z5 z6 z22 false η z0)
@[go_sem] def l!:=wl (Bh z3 z4 z5 z6 z22 true η z0)
section
variable(p0:J aw)(p1:J aB)(p2:J aD)(p3:J az)(p4:J aW)
@[go_sem] def sM(β:Bool)(a:Int):St:=⟨[(1,.loc (aj.l 1 0) [] (0) 0),(2,.loc (aj.l 2 0) [] (0) 0),(8,.d (.int .i64 a))],[((1,0),.own [.d (.agg [.sl β (List.map dz p0),.sl β (List.map dH p1),.sl β (List.map dM p2),.sl β (List.map (dI β) p3),.sl β (List.map (e9 β) p4)])]),((2,0),.own [.d (.agg [.int .i64 (0),.int .i64 (0),.int .i64 (0),.int .i64 (0)])])],[]⟩
@[go_sem] def Bi:=mkL (p:=λβ (b:Int->(Int->U ρ)->XT ρ->U ρ)=>∀(R:St->U ρ) g κ,(∀a,R (sM p0 p1 p2 p3 p4 β a)=g a)->∀a,go P hints uB b47 acC.1 (sM p0 p1 p2 p3 p4 β a) (kLp R κ)=b a g κ) _ _
def Bj(β:Bool)(κ:XT ρ)(a:Int):=dA (κ:=κ) (Φ:=λv k=>(Bi p0 p1 p2 p3 p4 (ρ:=ρ)).f β v k κ) acC.2 (S:=λv=>sM p0 p1 p2 p3 p4 β v) (by intro R g b v;exact(Bi p0 p1 p2 p3 p4 (ρ:=ρ)).ok β R g κ (λa=>b a) v) a
end
@[go_sem] def m_:=wl (Bj z3 z4 z5 z6 z22 false η z0)
@[go_sem] def m?:=wl (Bj z3 z4 z5 z6 z22 true η z0)
def zM(a0:ae):=mkF (p:=λβ (κ:KT ρ) (g:Int->Int->Int->U ρ)=>∀c b a,κ ([.d (.agg [.int .i64 c,.int .i64 b,.int .i64 a,.int .i64 (0)])],[])=g c b a) (ds:=λβ=>[(gv β) a0]) auL (λ_=>rfl) _
def zN(a0:ae)(g0):=(zM (ρ:=ρ) a0).1 g0
@[go_sem] def afJ:=wk (zN (ρ:=ρ) (ae.mk z3 z4 z5 z6 z22)) ((zM (ae.mk z3 z4 z5 z6 z22)).2 β κ _ (λ_ _ _=>rfl))
section
variable(p0:Int)(p1:J aw)(p2:J aB)(p3:J aD)(p4:J az)(p5:J aW)(p6:J UInt8)(p7:Int)(p8:Int)(p9:J aB)(p10:J aK)
@[go_sem] def mQ(β:Bool)(a:Int):St:=⟨[(1,.d (.int .i64 p0)),(2,.loc (aj.l 2 0) [] (0) 0),(4,.loc (aj.l 4 0) [] (0) 0),(5,.loc (aj.l 5 0) [] (0) 0),(9,.d (.int .i64 a))],[((2,0),.own [.d (.agg [.sl β (List.map dz p1),.sl β (List.map dH p2),.sl β (List.map dM p3),.sl β (List.map (dI β) p4),.sl β (List.map (e9 β) p5)])]),((4,0),.own [.d (.agg [.int .i64 (0),.int .i64 (0),.int .i64 (0),.int .i64 (0)])]),((5,0),.own [.d (.agg [.str p6,.int .i64 p7,.int .i64 p8,.sl β (List.map dH p9),.sl β (List.map (fQ β) p10)])])],[]⟩
@[go_sem] def tE:=mkL (p:=λβ (b:Int->(Int->U ρ)->XT ρ->U ρ)=>∀(R:St->U ρ) g κ,(∀a,R (mQ p0 p1 p2 p3 p4 p5 p6 p7 p8 p9 p10 β a)=g a)->∀a,go P hints Cp b48 acD.1 (mQ p0 p1 p2 p3 p4 p5 p6 p7 p8 p9 p10 β a) (kLp R κ)=b a g κ) _ _
def tF(β:Bool)(κ:XT ρ)(a:Int):=dA (κ:=κ) (Φ:=λv k=>(tE p0 p1 p2 p3 p4 p5 p6 p7 p8 p9 p10 (ρ:=ρ)).f β v k κ) acD.2 (S:=λv=>mQ p0 p1 p2 p3 p4 p5 p6 p7 p8 p9 p10 β v) (by intro R g b v;exact(tE p0 p1 p2 p3 p4 p5 p6 p7 p8 p9 p10 (ρ:=ρ)).ok β R g κ (λa=>b a) v) a
end
@[go_sem] def Uf:=wl (tF z0 z3 z4 z5 z6 z22 z14 z1 z9 z7 z18 false η z10)
@[go_sem] def Ug:=wl (tF z0 z3 z4 z5 z6 z22 z14 z1 z9 z7 z18 true η z10)
def qe(a0:ae)(e:Int):=mkF (p:=λβ (κ:KT ρ) (g:Int->Int->Int->Int->U ρ)=>∀b d c a,κ ([.d (.agg [.int .i64 b,.int .i64 d,.int .i64 c,.int .i64 a])],[])=g b d c a) (ds:=λβ=>[(gv β) a0,eI e]) auM (λ_=>rfl) _
def qf(a0:ae)(a:Int)(g0):=(qe (ρ:=ρ) a0 a).1 g0
@[go_sem] def n_:=wk (qf (ρ:=ρ) (ae.mk z3 z4 z5 z6 z22) z0) ((qe (ae.mk z3 z4 z5 z6 z22) z0).2 β κ _ (λ_ _ _ _=>rfl))
@[go_sem] def Rm:=wk (nX (ρ:=ρ) z11 (au.mk z3 z4 z5 z6 ([]:J aB) z0)) ((se z11 (au.mk z3 z4 z5 z6 ([]:J aB) z0)).2 β κ _ (λ_ _=>rfl))
def kY(a0:ae)(b:Int):=mkF (p:=λβ (κ:KT ρ) (g:Int->U ρ)=>∀a,κ ([.d (.int .i64 a)],[])=g a) (ds:=λβ=>[(gv β) a0,eI b]) auO (λ_=>rfl) _
def je(a0:ae)(a:Int)(g0):=(kY (ρ:=ρ) a0 a).1 g0
@[go_sem] def Rn:=wk (je (ρ:=ρ) (ae.mk z3 z4 z5 z6 z22) z0) ((kY (ae.mk z3 z4 z5 z6 z22) z0).2 β κ _ (λ_=>rfl))
section
variable(p0:J aw)(p1:J aB)(p2:J aD)(p3:J az)(p4:J aW)
@[go_sem] def qg(β:Bool)(d:Int)(a:Int)(b:Int)(c:Int)(e:Int):St:=⟨[(1,.loc (aj.l 1 0) [] (0) 0),(2,.loc (aj.l 2 0) [] (0) 0),(3,.loc (aj.l 3 0) [] (0) 0),(4,.d (.int .i64 d))],[((1,0),.own [.d (.agg [.sl β (List.map dz p0),.sl β (List.map dH p1),.sl β (List.map dM p2),.sl β (List.map (dI β) p3),.sl β (List.map (e9 β) p4)])]),((2,0),.own [.d (.agg [.int .i64 (0),.int .i64 (0),.int .i64 (0),.int .i64 (0)])]),((3,0),.own [.d (.agg [.int .i64 a,.int .i64 b,.int .i64 c,.int .i64 e])])],[]⟩
@[go_sem] def yh:=mkL (p:=λβ (f:Int->Int->Int->Int->Int->((Int)×(Int)×(Int)×(Int)×(Int)->U ρ)->XT ρ->U ρ)=>∀(R:St->U ρ) g κ,(∀c b d e a,R (qg p0 p1 p2 p3 p4 β c b d e a)=g (c,b,d,e,a))->∀c b d e a,go P hints uz b25 acu.1 (qg p0 p1 p2 p3 p4 β c b d e a) (kLp R κ)=f c b d e a g κ) _ _
def yi(β:Bool)(κ:XT ρ)(b:Int)(d:Int)(e:Int)(a:Int)(c:Int):=dA (κ:=κ) (Φ:=λv k=>(yh p0 p1 p2 p3 p4 (ρ:=ρ)).f β v.1 v.2.1 v.2.2.1 v.2.2.2.1 v.2.2.2.2 k κ) acu.2 (S:=λv=>qg p0 p1 p2 p3 p4 β v.1 v.2.1 v.2.2.1 v.2.2.2.1 v.2.2.2.2) (by intro R g f v;exact(yh p0 p1 p2 p3 p4 (ρ:=ρ)).ok β R g κ (λb d e a c=>f (b,d,e,a,c)) v.1 v.2.1 v.2.2.1 v.2.2.2.1 v.2.2.2.2) (b,d,e,a,c)
end
@[go_sem] def Yt:=wl (yi z3 z4 z5 z6 z22 false η z0 z1 z9 z10 z16)
@[go_sem] def Yu:=wl (yi z3 z4 z5 z6 z22 true η z0 z1 z9 z10 z16)
section
variable(p0:J aw)(p1:J aB)(p2:J aD)(p3:J az)(p4:J aW)
@[go_sem] def qh(β:Bool)(a:Int):St:=⟨[(1,.loc (aj.l 1 0) [] (0) 0),(2,.loc (aj.l 2 0) [] (0) 0),(8,.d (.int .i64 a))],[((1,0),.own [.d (.agg [.sl β (List.map dz p0),.sl β (List.map dH p1),.sl β (List.map dM p2),.sl β (List.map (dI β) p3),.sl β (List.map (e9 β) p4)])]),((2,0),.own [.d (.agg [.int .i64 (0),.int .i64 (0),.int .i64 (0),.int .i64 (0)])])],[]⟩
@[go_sem] def yj:=mkL (p:=λβ (b:Int->(Int->U ρ)->XT ρ->U ρ)=>∀(R:St->U ρ) g κ,(∀a,R (qh p0 p1 p2 p3 p4 β a)=g a)->∀a,go P hints uz b25 acv.1 (qh p0 p1 p2 p3 p4 β a) (kLp R κ)=b a g κ) _ _
def yk(β:Bool)(κ:XT ρ)(a:Int):=dA (κ:=κ) (Φ:=λv k=>(yj p0 p1 p2 p3 p4 (ρ:=ρ)).f β v k κ) acv.2 (S:=λv=>qh p0 p1 p2 p3 p4 β v) (by intro R g b v;exact(yj p0 p1 p2 p3 p4 (ρ:=ρ)).ok β R g κ (λa=>b a) v) a
end
@[go_sem] def Yv:=wl (yk z3 z4 z5 z6 z22 false η z0)
@[go_sem] def Yw:=wl (yk z3 z4 z5 z6 z22 true η z0)
def vq(a0:ae):=mkF (p:=λβ (κ:KT ρ) (g:Int->Int->Int->Int->U ρ)=>∀d c a b,κ ([.d (.agg [.int .i64 d,.int .i64 c,.int .i64 a,.int .i64 b])],[])=g d c a b) (ds:=λβ=>[(gv β) a0]) auA (λ_=>rfl) _
def vt(a0:ae)(g0):=(vq (ρ:=ρ) a0).1 g0
@[go_sem] def adI:=wk (vt (ρ:=ρ) (ae.mk z3 z4 z5 z6 z22)) ((vq (ae.mk z3 z4 z5 z6 z22)).2 β κ _ (λ_ _ _ _=>rfl))
def CH(a0:ae):=mkF (p:=λβ (κ:KT ρ) (g:Bool->U ρ)=>∀a,κ ([.d (.bool a)],[])=g a) (ds:=λβ=>[(gv β) a0]) auI (λ_=>rfl) _
def CJ(a0:ae)(g0):=(CH (ρ:=ρ) a0).1 g0
@[go_sem] def aiQ:=wk (CJ (ρ:=ρ) (ae.mk z3 z4 z5 z6 z22)) ((CH (ae.mk z3 z4 z5 z6 z22)).2 β κ _ (λ_=>rfl))
end
noncomputable section
variable{ρ:Type}(β:Bool)(κ:KT ρ)(η:XT ρ)(z0 z7 z8 z11 z15 z21 z22 z23:Int)(z1:J aw)(z2 z9:J aB)(z3:J aD)(z4:J az)(z5:J aW)(z6:J UInt8)(z10:J aK)(z12:J aP)(z13:J aF)(z14:Bool)(z16:Nat)(z17:J aE)(z18:J (aE))(z19:J aA)(z20:J (aA))(z24 z25 z26 z27 z28:J (Int))(z29:J bc)(z30:J (bc))(z31 z32 z33 z34 z35 z36:J Int)
section
variable(p0:Int)(p1:J aw)(p2:J aB)(p3:J aD)(p4:J az)(p5:J aW)(p6:J UInt8)(p7:Int)(p8:Int)(p9:J aB)(p10:J aK)
@[go_sem] def mR(β:Bool)(a:Int):St:=⟨[(1,.loc (aj.l 1 0) [] (0) 0),(3,.d (.int .i64 p0)),(4,.loc (aj.l 4 0) [] (0) 0),(5,.d (.int .i64 a))],[((1,0),.own [.d (.agg [.sl β (List.map dz p1),.sl β (List.map dH p2),.sl β (List.map dM p3),.sl β (List.map (dI β) p4),.sl β (List.map (e9 β) p5)])]),((4,0),.own [.d (.agg [.str p6,.int .i64 p7,.int .i64 p8,.sl β (List.map dH p9),.sl β (List.map (fQ β) p10)])])],[]⟩
@[go_sem] def tG:=mkL (p:=λβ (b:Int->(Int->U ρ)->XT ρ->U ρ)=>∀(R:St->U ρ) g κ,(∀a,R (mR p0 p1 p2 p3 p4 p5 p6 p7 p8 p9 p10 β a)=g a)->∀a,go P hints DG b9 akk.1 (mR p0 p1 p2 p3 p4 p5 p6 p7 p8 p9 p10 β a) (kLp R κ)=b a g κ) _ _
def tH(β:Bool)(κ:XT ρ)(a:Int):=dA (κ:=κ) (Φ:=λv k=>(tG p0 p1 p2 p3 p4 p5 p6 p7 p8 p9 p10 (ρ:=ρ)).f β v k κ) akk.2 (S:=λv=>mR p0 p1 p2 p3 p4 p5 p6 p7 p8 p9 p10 β v) (by intro R g b v;exact(tG p0 p1 p2 p3 p4 p5 p6 p7 p8 p9 p10 (ρ:=ρ)).ok β R g κ (λa=>b a) v) a
end
@[go_sem] def Uh:=wl (tH z0 z1 z2 z3 z4 z5 z6 z7 z8 z9 z10 false η z11)
@[go_sem] def Ui:=wl (tH z0 z1 z2 z3 z4 z5 z6 z7 z8 z9 z10 true η z11)
section
variable(p0:J aw)(p1:J aB)(p2:J aD)(p3:J az)(p4:J aW)
@[go_sem] def mS(β:Bool)(a:Int):St:=⟨[(1,.loc (aj.l 1 0) [] (0) 0),(3,.d (.int .i64 a))],[((1,0),.own [.d (.agg [.sl β (List.map dz p0),.sl β (List.map dH p1),.sl β (List.map dM p2),.sl β (List.map (dI β) p3),.sl β (List.map (e9 β) p4)])])],[]⟩
@[go_sem] def tI:=mkL (p:=λβ (b:Int->(Int->U ρ)->XT ρ->U ρ)=>∀(R:St->U ρ) g κ,(∀a,R (mS p0 p1 p2 p3 p4 β a)=g a)->∀a,go P hints DG b9 akl.1 (mS p0 p1 p2 p3 p4 β a) (kLp R κ)=b a g κ) _ _
def tJ(β:Bool)(κ:XT ρ)(a:Int):=dA (κ:=κ) (Φ:=λv k=>(tI p0 p1 p2 p3 p4 (ρ:=ρ)).f β v k κ) akl.2 (S:=λv=>mS p0 p1 p2 p3 p4 β v) (by intro R g b v;exact(tI p0 p1 p2 p3 p4 (ρ:=ρ)).ok β R g κ (λa=>b a) v) a
end
@[go_sem] def Uj:=wl (tJ z1 z2 z3 z4 z5 false η z0)
@[go_sem] def Uk:=wl (tJ z1 z2 z3 z4 z5 true η z0)
def qi(a0:ae):=mkF (p:=λβ (κ:KT ρ) (g:Int->U ρ)=>∀a,κ ([.d (.int .i64 a)],[])=g a) (ds:=λβ=>[(gv β) a0]) ge9 (λ_=>rfl) _
def qj(a0:ae)(g0):=(qi (ρ:=ρ) a0).1 g0
@[go_sem] def n?:=wk (qj (ρ:=ρ) (ae.mk z1 z2 z3 z4 z5)) ((qi (ae.mk z1 z2 z3 z4 z5)).2 β κ _ (λ_=>rfl))
section
variable(p0:J aP)(p1:Int)
@[go_sem] def sO(β:Bool)(a:Int):St:=⟨[(7,.d (.sl β (List.map (jL β) p0))),(8,.d (.int .i64 p1)),(9,.d (.int .i64 a))],[],[]⟩
@[go_sem] def Bk:=mkL (p:=λβ (b:Int->(Int->U ρ)->XT ρ->U ρ)=>∀(R:St->U ρ) g κ,(∀a,R (sO p0 p1 β a)=g a)->∀a,go P hints Cq b57 acH.1 (sO p0 p1 β a) (kLp R κ)=b a g κ) _ _
def Bl(β:Bool)(κ:XT ρ)(a:Int):=dA (κ:=κ) (Φ:=λv k=>(Bk p0 p1 (ρ:=ρ)).f β v k κ) acH.2 (S:=λv=>sO p0 p1 β v) (by intro R g b v;exact(Bk p0 p1 (ρ:=ρ)).ok β R g κ (λa=>b a) v) a
end
@[go_sem] def n!:=wl (Bl z12 z0 false η z7)
@[go_sem] def o_:=wl (Bl z12 z0 true η z7)
def sP(a0:aK):=mkF (p:=λβ (κ:KT ρ) (g:Int->Int->U ρ)=>∀b a,κ ([.d (.int .i64 b),.d (.int .i64 a)],[])=g b a) (ds:=λβ=>[(fQ β) a0]) auS (λ_=>rfl) _
def zO(a0:aK)(g0):=(sP (ρ:=ρ) a0).1 g0
@[go_sem] def afK:=wk (zO (ρ:=ρ) (aK.mk z6 z0 z7 z13 z12 z14)) ((sP (aK.mk z6 z0 z7 z13 z12 z14)).2 β κ _ (λ_ _=>rfl))
def zP(a0:aK)(b:J aD):=mkF (p:=λβ (κ:KT ρ) (g:Int->U ρ)=>∀a,κ ([.d (.int .i64 a)],[])=g a) (ds:=λβ=>[(fQ β) a0,(zt β) b]) auE (λ_=>rfl) _
def HB(a0:aK)(a:J aD)(g0):=(zP (ρ:=ρ) a0 a).1 g0
def sQ(a0:aB)(c:J aw):=mkF (p:=λβ (κ:KT ρ) (g:Int->Int->U ρ)=>∀a b,κ ([.d (.int .i64 a),.d (.int .i64 b)],[])=g a b) (ds:=λβ=>[dH a0,(fP β) c]) akq (λ_=>rfl) _
def sR(a0:aB)(a:J aw)(g0):=(sQ (ρ:=ρ) a0 a).1 g0
@[go_sem] def V?:=wk (sR (ρ:=ρ) (aB.mk z6 z0 z7 z8 z11 z15) z1) ((sQ (aB.mk z6 z0 z7 z8 z11 z15) z1).2 β κ _ (λ_ _=>rfl))
def zQ(a0:Int):=mkF (p:=λβ (κ:KT ρ) (g:Int->U ρ)=>∀a,κ ([.d (.int .i64 a)],[])=g a) (ds:=λβ=>[eI a0]) alc (λ_=>rfl) _
def zR(a0:Int)(g0):=(zQ (ρ:=ρ) a0).1 g0
@[go_sem] def afL:=wk (zR (ρ:=ρ) z0) ((zQ z0).2 true κ _ (λ_=>rfl))
def vu(a0:ae)(b:az):=mkF (p:=λβ (κ:KT ρ) (g:Int->U ρ)=>∀a,κ ([.d (.int .i64 a)],[])=g a) (ds:=λβ=>[(gv β) a0,(dI β) b]) auW (λ_=>rfl) _
def pk(a0:ae)(a:az)(g0):=(vu (ρ:=ρ) a0 a).1 g0
@[go_sem] def adJ:=wk (pk (ρ:=ρ) (ae.mk z1 z2 z3 z4 z5) (az.mk z6 z0 z7 z9 z10)) ((vu (ae.mk z1 z2 z3 z4 z5) (az.mk z6 z0 z7 z9 z10)).2 β κ _ (λ_=>rfl))
section
variable(p0:Int)(p1:J aw)(p2:J aB)(p3:J aD)(p4:J az)(p5:J aW)
@[go_sem] def l6(β:Bool)(n0:Nat)(b:Int)(a:J aE):St:=⟨[(1,.loc (aj.l 1 0) [] (0) 0),(3,.aG (.l 3 0) [] 0 n0),(4,.d (.int .i64 p0)),(5,.d (.int .i64 b))],[((1,0),.own [.d (.agg [.sl β (List.map dz p1),.sl β (List.map dH p2),.sl β (List.map dM p3),.sl β (List.map (dI β) p4),.sl β (List.map (e9 β) p5)])]),((3,0),.own (tl gU a))],[]⟩
@[go_sem] def yl:=mkL (p:=λβ (d:Int->(J aE)->((Int)×(J aE)->U ρ)->XT ρ->U ρ)=>∀(R:St->U ρ) g κ,(∀c b a,c=List.length a->R (l6 p0 p1 p2 p3 p4 p5 β c b a)=g (b,a))->∀b a,go P hints uA b43 acy.1 (l6 p0 p1 p2 p3 p4 p5 β (List.length a) b a) (kLp R κ)=d b a g κ) _ _
def ym(β:Bool)(κ:XT ρ)(n0:Nat)(c:Int)(b:J aE)(a:n0=List.length b):=jI (S:=λn0=>l6 p0 p1 p2 p3 p4 p5 β n0 c b) a (dA (κ:=κ) (Φ:=λv k=>(yl p0 p1 p2 p3 p4 p5 (ρ:=ρ)).f β v.1 v.2 k κ) acy.2 (S:=λv=>l6 p0 p1 p2 p3 p4 p5 β (List.length v.2) v.1 v.2) (by intro R g d v;exact(yl p0 p1 p2 p3 p4 p5 (ρ:=ρ)).ok β R g κ (λn0 c b a=>by subst a;exact d (c,b)) v.1 v.2) (c,b))
end
@[go_sem] def Yx(a:z16=List.length z17):=wl (ym z0 z1 z2 z3 z4 z5 false η z16 z7 z17 a)
@[go_sem] def Yy(a:z16=List.length z17):=wl (ym z0 z1 z2 z3 z4 z5 true η z16 z7 z17 a)
section
variable(p0:J aw)(p1:J aB)(p2:J aD)(p3:J az)(p4:J aW)
@[go_sem] def l7(β:Bool)(n0:Nat)(b:Int)(a:J (aE)):St:=⟨[(1,.loc (aj.l 1 0) [] (0) 0),(3,.aG (.l 3 0) [] 0 n0),(4,.d (.int .i64 b))],[((1,0),.own [.d (.agg [.sl β (List.map dz p0),.sl β (List.map dH p1),.sl β (List.map dM p2),.sl β (List.map (dI β) p3),.sl β (List.map (e9 β) p4)])]),((3,0),.own (tl gU a))],[]⟩
@[go_sem] def yn:=mkL (p:=λβ (d:Int->(J (aE))->((Int)×(J (aE))->U ρ)->XT ρ->U ρ)=>∀(R:St->U ρ) g κ,(∀c b a,c=List.length a->R (l7 p0 p1 p2 p3 p4 β c b a)=g (b,a))->∀b a,go P hints uA b43 acz.1 (l7 p0 p1 p2 p3 p4 β (List.length a) b a) (kLp R κ)=d b a g κ) _ _
def yp(β:Bool)(κ:XT ρ)(n0:Nat)(c:Int)(b:J (aE))(a:n0=List.length b):=jI (S:=λn0=>l7 p0 p1 p2 p3 p4 β n0 c b) a (dA (κ:=κ) (Φ:=λv k=>(yn p0 p1 p2 p3 p4 (ρ:=ρ)).f β v.1 v.2 k κ) acz.2 (S:=λv=>l7 p0 p1 p2 p3 p4 β (List.length v.2) v.1 v.2) (by intro R g d v;exact(yn p0 p1 p2 p3 p4 (ρ:=ρ)).ok β R g κ (λn0 c b a=>by subst a;exact d (c,b)) v.1 v.2) (c,b))
end
@[go_sem] def Ul:=wl (yp z1 z2 z3 z4 z5 false η 0 z0 [] rfl)
@[go_sem] def Um:=wl (yp z1 z2 z3 z4 z5 true η 0 z0 [] rfl)
def vw(a0:ae):=mkF (p:=λβ (κ:KT ρ) (g:(J aE)->U ρ)=>∀a,κ ([.d (.sl false (List.map gU a))],[])=g a) (ds:=λβ=>[(gv β) a0]) auH (λ_=>rfl) _
def vx(a0:ae)(g0):=(vw (ρ:=ρ) a0).1 g0
@[go_sem] def adK:=wk (vx (ρ:=ρ) (ae.mk z1 z2 z3 z4 z5)) ((vw (ae.mk z1 z2 z3 z4 z5)).2 β κ _ (λ_=>rfl))
section
variable(p0:Int)(p1:Int)(p2:Int)(p3:J aw)(p4:J aB)(p5:J aD)(p6:J az)(p7:J aW)
@[go_sem] def l8(β:Bool)(n0:Nat)(b:Int)(a:J aA):St:=⟨[(1,.loc (aj.l 1 0) [] (0) 0),(3,.aG (.l 3 0) [] 0 n0),(4,.d (.int .i64 p0)),(5,.d (.int .i64 p1)),(6,.d (.int .i64 p2)),(7,.d (.int .i64 b))],[((1,0),.own [.d (.agg [.sl β (List.map dz p3),.sl β (List.map dH p4),.sl β (List.map dM p5),.sl β (List.map (dI β) p6),.sl β (List.map (e9 β) p7)])]),((3,0),.own (tl gm a))],[]⟩
@[go_sem] def yq:=mkL (p:=λβ (d:Int->(J aA)->((Int)×(J aA)->U ρ)->XT ρ->U ρ)=>∀(R:St->U ρ) g κ,(∀c b a,c=List.length a->R (l8 p0 p1 p2 p3 p4 p5 p6 p7 β c b a)=g (b,a))->∀b a,go P hints jK b91 ac8.1 (l8 p0 p1 p2 p3 p4 p5 p6 p7 β (List.length a) b a) (kLp R κ)=d b a g κ) _ _
def yr(β:Bool)(κ:XT ρ)(n0:Nat)(c:Int)(b:J aA)(a:n0=List.length b):=jI (S:=λn0=>l8 p0 p1 p2 p3 p4 p5 p6 p7 β n0 c b) a (dA (κ:=κ) (Φ:=λv k=>(yq p0 p1 p2 p3 p4 p5 p6 p7 (ρ:=ρ)).f β v.1 v.2 k κ) ac8.2 (S:=λv=>l8 p0 p1 p2 p3 p4 p5 p6 p7 β (List.length v.2) v.1 v.2) (by intro R g d v;exact(yq p0 p1 p2 p3 p4 p5 p6 p7 (ρ:=ρ)).ok β R g κ (λn0 c b a=>by subst a;exact d (c,b)) v.1 v.2) (c,b))
end
@[go_sem] def Yz(a:z16=List.length z19):=wl (yr z0 z7 z8 z1 z2 z3 z4 z5 false η z16 z11 z19 a)
@[go_sem] def YA(a:z16=List.length z19):=wl (yr z0 z7 z8 z1 z2 z3 z4 z5 true η z16 z11 z19 a)
section
variable(p0:J aw)(p1:J aB)(p2:J aD)(p3:J az)(p4:J aW)
@[go_sem] def l9(β:Bool)(n0:Nat)(b:Int)(a:J (aA)):St:=⟨[(1,.loc (aj.l 1 0) [] (0) 0),(3,.aG (.l 3 0) [] 0 n0),(4,.d (.int .i64 b))],[((1,0),.own [.d (.agg [.sl β (List.map dz p0),.sl β (List.map dH p1),.sl β (List.map dM p2),.sl β (List.map (dI β) p3),.sl β (List.map (e9 β) p4)])]),((3,0),.own (tl gm a))],[]⟩
@[go_sem] def yt:=mkL (p:=λβ (d:Int->(J (aA))->((Int)×(J (aA))->U ρ)->XT ρ->U ρ)=>∀(R:St->U ρ) g κ,(∀c b a,c=List.length a->R (l9 p0 p1 p2 p3 p4 β c b a)=g (b,a))->∀b a,go P hints jK b91 ac9.1 (l9 p0 p1 p2 p3 p4 β (List.length a) b a) (kLp R κ)=d b a g κ) _ _
def yu(β:Bool)(κ:XT ρ)(n0:Nat)(c:Int)(b:J (aA))(a:n0=List.length b):=jI (S:=λn0=>l9 p0 p1 p2 p3 p4 β n0 c b) a (dA (κ:=κ) (Φ:=λv k=>(yt p0 p1 p2 p3 p4 (ρ:=ρ)).f β v.1 v.2 k κ) ac9.2 (S:=λv=>l9 p0 p1 p2 p3 p4 β (List.length v.2) v.1 v.2) (by intro R g d v;exact(yt p0 p1 p2 p3 p4 (ρ:=ρ)).ok β R g κ (λn0 c b a=>by subst a;exact d (c,b)) v.1 v.2) (c,b))
end
@[go_sem] def Uo:=wl (yu z1 z2 z3 z4 z5 false η 0 z0 [] rfl)
@[go_sem] def Up:=wl (yu z1 z2 z3 z4 z5 true η 0 z0 [] rfl)
section
variable(p0:Int)(p1:Int)(p2:Int)(p3:J aw)(p4:J aB)(p5:J aD)(p6:J az)(p7:J aW)(p8:J UInt8)(p9:Int)(p10:Int)(p11:Int)(p12:Int)(p13:Bool)
@[go_sem] def ke(β:Bool)(n0:Nat)(b:Int)(a:J aA):St:=⟨[(1,.loc (aj.l 1 0) [] (0) 0),(3,.aG (.l 3 0) [] 0 n0),(8,.d (.int .i64 p0)),(9,.loc (aj.l 9 0) [] (0) 0),(10,.d (.int .i64 p1)),(11,.d (.int .i64 p2)),(12,.d (.int .i64 b))],[((1,0),.own [.d (.agg [.sl β (List.map dz p3),.sl β (List.map dH p4),.sl β (List.map dM p5),.sl β (List.map (dI β) p6),.sl β (List.map (e9 β) p7)])]),((3,0),.own (tl gm a)),((9,0),.own [.d (.agg [.str p8,.int .i64 p9,.int .i64 p10,.int .i64 p11,.int .i64 p12,.bool p13])])],[]⟩
@[go_sem] def tK:=mkL (p:=λβ (d:Int->(J aA)->((Int)×(J aA)->U ρ)->XT ρ->U ρ)=>∀(R:St->U ρ) g κ,(∀c b a,c=List.length a->R (ke p0 p1 p2 p3 p4 p5 p6 p7 p8 p9 p10 p11 p12 p13 β c b a)=g (b,a))->∀b a,go P hints jK b91 ada.1 (ke p0 p1 p2 p3 p4 p5 p6 p7 p8 p9 p10 p11 p12 p13 β (List.length a) b a) (kLp R κ)=d b a g κ) _ _
def tL(β:Bool)(κ:XT ρ)(n0:Nat)(c:Int)(b:J aA)(a:n0=List.length b):=jI (S:=λn0=>ke p0 p1 p2 p3 p4 p5 p6 p7 p8 p9 p10 p11 p12 p13 β n0 c b) a (dA (κ:=κ) (Φ:=λv k=>(tK p0 p1 p2 p3 p4 p5 p6 p7 p8 p9 p10 p11 p12 p13 (ρ:=ρ)).f β v.1 v.2 k κ) ada.2 (S:=λv=>ke p0 p1 p2 p3 p4 p5 p6 p7 p8 p9 p10 p11 p12 p13 β (List.length v.2) v.1 v.2) (by intro R g d v;exact(tK p0 p1 p2 p3 p4 p5 p6 p7 p8 p9 p10 p11 p12 p13 (ρ:=ρ)).ok β R g κ (λn0 c b a=>by subst a;exact d (c,b)) v.1 v.2) (c,b))
end
@[go_sem] def Uq(a:z16=List.length z19):=wl (tL z0 z7 z8 z1 z2 z3 z4 z5 z6 z11 z15 z21 z22 z14 false η z16 z23 z19 a)
@[go_sem] def Ur(a:z16=List.length z19):=wl (tL z0 z7 z8 z1 z2 z3 z4 z5 z6 z11 z15 z21 z22 z14 true η z16 z23 z19 a)
section
variable(p0:J aw)(p1:J aB)(p2:J aD)(p3:J az)(p4:J aW)
@[go_sem] def ma(β:Bool)(n0:Nat)(b:Int)(a:J aA):St:=⟨[(1,.loc (aj.l 1 0) [] (0) 0),(3,.aG (.l 3 0) [] 0 n0),(8,.d (.int .i64 b))],[((1,0),.own [.d (.agg [.sl β (List.map dz p0),.sl β (List.map dH p1),.sl β (List.map dM p2),.sl β (List.map (dI β) p3),.sl β (List.map (e9 β) p4)])]),((3,0),.own (tl gm a))],[]⟩
@[go_sem] def yw:=mkL (p:=λβ (d:Int->(J aA)->((Int)×(J aA)->U ρ)->XT ρ->U ρ)=>∀(R:St->U ρ) g κ,(∀c b a,c=List.length a->R (ma p0 p1 p2 p3 p4 β c b a)=g (b,a))->∀b a,go P hints jK b91 adb.1 (ma p0 p1 p2 p3 p4 β (List.length a) b a) (kLp R κ)=d b a g κ) _ _
def yx(β:Bool)(κ:XT ρ)(n0:Nat)(c:Int)(b:J aA)(a:n0=List.length b):=jI (S:=λn0=>ma p0 p1 p2 p3 p4 β n0 c b) a (dA (κ:=κ) (Φ:=λv k=>(yw p0 p1 p2 p3 p4 (ρ:=ρ)).f β v.1 v.2 k κ) adb.2 (S:=λv=>ma p0 p1 p2 p3 p4 β (List.length v.2) v.1 v.2) (by intro R g d v;exact(yw p0 p1 p2 p3 p4 (ρ:=ρ)).ok β R g κ (λn0 c b a=>by subst a;exact d (c,b)) v.1 v.2) (c,b))
end
@[go_sem] def YC(a:z16=List.length z19):=wl (yx z1 z2 z3 z4 z5 false η z16 z0 z19 a)
@[go_sem] def YD(a:z16=List.length z19):=wl (yx z1 z2 z3 z4 z5 true η z16 z0 z19 a)
section
variable(p0:J aE)(p1:Int)(p2:J aw)(p3:J aB)(p4:J aD)(p5:J az)(p6:J aW)(p7:J UInt8)(p8:Int)(p9:Int)(p10:J aB)(p11:J aK)
@[go_sem] def mb(β:Bool)(n0:Nat)(b:Int)(a:J aA):St:=⟨[(1,.loc (aj.l 1 0) [] (0) 0),(3,.aG (.l 3 0) [] 0 n0),(13,.d (.sl false (List.map gU p0))),(14,.d (.int .i64 p1)),(15,.loc (aj.l 15 0) [] (0) 0),(16,.d (.int .i64 b))],[((1,0),.own [.d (.agg [.sl β (List.map dz p2),.sl β (List.map dH p3),.sl β (List.map dM p4),.sl β (List.map (dI β) p5),.sl β (List.map (e9 β) p6)])]),((3,0),.own (tl gm a)),((15,0),.own [.d (.agg [.str p7,.int .i64 p8,.int .i64 p9,.sl β (List.map dH p10),.sl β (List.map (fQ β) p11)])])],[]⟩
@[go_sem] def yy:=mkL (p:=λβ (d:Int->(J aA)->((Int)×(J aA)->U ρ)->XT ρ->U ρ)=>∀(R:St->U ρ) g κ,(∀c b a,c=List.length a->R (mb p0 p1 p2 p3 p4 p5 p6 p7 p8 p9 p10 p11 β c b a)=g (b,a))->∀b a,go P hints jK b91 adc.1 (mb p0 p1 p2 p3 p4 p5 p6 p7 p8 p9 p10 p11 β (List.length a) b a) (kLp R κ)=d b a g κ) _ _
def yz(β:Bool)(κ:XT ρ)(n0:Nat)(c:Int)(b:J aA)(a:n0=List.length b):=jI (S:=λn0=>mb p0 p1 p2 p3 p4 p5 p6 p7 p8 p9 p10 p11 β n0 c b) a (dA (κ:=κ) (Φ:=λv k=>(yy p0 p1 p2 p3 p4 p5 p6 p7 p8 p9 p10 p11 (ρ:=ρ)).f β v.1 v.2 k κ) adc.2 (S:=λv=>mb p0 p1 p2 p3 p4 p5 p6 p7 p8 p9 p10 p11 β (List.length v.2) v.1 v.2) (by intro R g d v;exact(yy p0 p1 p2 p3 p4 p5 p6 p7 p8 p9 p10 p11 (ρ:=ρ)).ok β R g κ (λn0 c b a=>by subst a;exact d (c,b)) v.1 v.2) (c,b))
end
@[go_sem] def YE(a:z16=List.length z19):=wl (yz z17 z0 z1 z2 z3 z4 z5 z6 z7 z8 z9 z10 false η z16 z11 z19 a)
@[go_sem] def YF(a:z16=List.length z19):=wl (yz z17 z0 z1 z2 z3 z4 z5 z6 z7 z8 z9 z10 true η z16 z11 z19 a)
section
variable(p0:J aE)(p1:J aw)(p2:J aB)(p3:J aD)(p4:J az)(p5:J aW)
@[go_sem] def mc(β:Bool)(n0:Nat)(b:Int)(a:J aA):St:=⟨[(1,.loc (aj.l 1 0) [] (0) 0),(3,.aG (.l 3 0) [] 0 n0),(13,.d (.sl false (List.map gU p0))),(14,.d (.int .i64 b))],[((1,0),.own [.d (.agg [.sl β (List.map dz p1),.sl β (List.map dH p2),.sl β (List.map dM p3),.sl β (List.map (dI β) p4),.sl β (List.map (e9 β) p5)])]),((3,0),.own (tl gm a))],[]⟩
@[go_sem] def yC:=mkL (p:=λβ (d:Int->(J aA)->((Int)×(J aA)->U ρ)->XT ρ->U ρ)=>∀(R:St->U ρ) g κ,(∀c b a,c=List.length a->R (mc p0 p1 p2 p3 p4 p5 β c b a)=g (b,a))->∀b a,go P hints jK b91 ade.1 (mc p0 p1 p2 p3 p4 p5 β (List.length a) b a) (kLp R κ)=d b a g κ) _ _
def yH(β:Bool)(κ:XT ρ)(n0:Nat)(c:Int)(b:J aA)(a:n0=List.length b):=jI (S:=λn0=>mc p0 p1 p2 p3 p4 p5 β n0 c b) a (dA (κ:=κ) (Φ:=λv k=>(yC p0 p1 p2 p3 p4 p5 (ρ:=ρ)).f β v.1 v.2 k κ) ade.2 (S:=λv=>mc p0 p1 p2 p3 p4 p5 β (List.length v.2) v.1 v.2) (by intro R g d v;exact(yC p0 p1 p2 p3 p4 p5 (ρ:=ρ)).ok β R g κ (λn0 c b a=>by subst a;exact d (c,b)) v.1 v.2) (c,b))
end
@[go_sem] def YG(a:z16=List.length z19):=wl (yH z17 z1 z2 z3 z4 z5 false η z16 z0 z19 a)
@[go_sem] def YH(a:z16=List.length z19):=wl (yH z17 z1 z2 z3 z4 z5 true η z16 z0 z19 a)
def vy(a0:ae):=mkF (p:=λβ (κ:KT ρ) (g:(J aA)->U ρ)=>∀a,κ ([.d (.sl false (List.map gm a))],[])=g a) (ds:=λβ=>[(gv β) a0]) avi (λ_=>rfl) _
def vz(a0:ae)(g0):=(vy (ρ:=ρ) a0).1 g0
@[go_sem] def adL:=wk (vz (ρ:=ρ) (ae.mk z1 z2 z3 z4 z5)) ((vy (ae.mk z1 z2 z3 z4 z5)).2 β κ _ (λ_=>rfl))
section
variable(p0:J aA)
@[go_sem] def vA(β:Bool)(d:Int)(a:J (Int))(b:J (Int))(c:J (Int))(e:J (Int))(f:J (Int)):St:=⟨[(2,.loc (aj.l 2 0) [] (0) 0),(3,.loc (aj.l 3 0) [] (0) 0),(4,.d (.sl false (List.map gm p0))),(5,.d (.int .i64 d))],[((2,0),.own [.agg [.own [],.own [],.own [],.d (.int .i64 (0)),.own [],.own []]]),((3,0),.own [.agg [.own (tl eI a),.own (tl eI b),.own (tl eI c),.d (.int .i64 (0)),.own (tl eI e),.own (tl eI f)]])],[]⟩
@[go_sem] def DP:=mkL (p:=λβ (h:Int->(J (Int))->(J (Int))->(J (Int))->(J (Int))->(J (Int))->((Int)×(J (Int))×(J (Int))×(J (Int))×(J (Int))×(J (Int))->U ρ)->XT ρ->U ρ)=>∀(R:St->U ρ) g κ,(∀b e f a d c,R (vA p0 β b e f a d c)=g (b,e,f,a,d,c))->∀b e f a d c,go P hints Cr b61 acJ.1 (vA p0 β b e f a d c) (kLp R κ)=h b e f a d c g κ) _ _
def NQ(β:Bool)(κ:XT ρ)(b:Int)(e:J (Int))(f:J (Int))(a:J (Int))(d:J (Int))(c:J (Int)):=dA (κ:=κ) (Φ:=λv k=>(DP p0 (ρ:=ρ)).f β v.1 v.2.1 v.2.2.1 v.2.2.2.1 v.2.2.2.2.1 v.2.2.2.2.2 k κ) acJ.2 (S:=λv=>vA p0 β v.1 v.2.1 v.2.2.1 v.2.2.2.1 v.2.2.2.2.1 v.2.2.2.2.2) (by intro R g h v;exact(DP p0 (ρ:=ρ)).ok β R g κ (λb e f a d c=>h (b,e,f,a,d,c)) v.1 v.2.1 v.2.2.1 v.2.2.2.1 v.2.2.2.2.1 v.2.2.2.2.2) (b,e,f,a,d,c)
end
@[go_sem] def YI:=wl (NQ z19 true η z0 [] [] [] [] [])
def CK(a0:ae):=mkF (p:=λβ (κ:KT ρ) (g:(J Int)->(J Int)->(J Int)->Int->(J Int)->(J Int)->U ρ)=>∀b f c a e d,κ ([.d (.agg [.sl false (List.map eI b),.sl false (List.map eI f),.sl false (List.map eI c),.int .i64 a,.sl false (List.map eI e),.sl false (List.map eI d)])],[])=g b f c a e d) (ds:=λβ=>[(gv β) a0]) auV (λ_=>rfl) _
def wB(a0:ae)(g0):=(CK (ρ:=ρ) a0).1 g0
@[go_sem] def aiR:=wk (wB (ρ:=ρ) (ae.mk z1 z2 z3 z4 z5)) ((CK (ae.mk z1 z2 z3 z4 z5)).2 β κ _ (λ_ _ _ _ _ _=>rfl))
section
variable(p0:J aE)(p1:Int)(p2:J aw)(p3:J aB)(p4:J aD)(p5:J az)(p6:J aW)
@[go_sem] def nA(β:Bool)(n0:Nat)(b:Int)(a:J bc):St:=⟨[(1,.loc (aj.l 1 0) [] (0) 0),(3,.d (.sl false (List.map gU p0))),(4,.aG (.l 4 0) [] 0 n0),(5,.d (.int .i64 p1)),(6,.d (.int .i64 b))],[((1,0),.own [.d (.agg [.sl β (List.map dz p2),.sl β (List.map dH p3),.sl β (List.map dM p4),.sl β (List.map (dI β) p5),.sl β (List.map (e9 β) p6)])]),((4,0),.own (tl uF a))],[]⟩
@[go_sem] def Bm:=mkL (p:=λβ (d:Int->(J bc)->((Int)×(J bc)->U ρ)->XT ρ->U ρ)=>∀(R:St->U ρ) g κ,(∀c b a,c=List.length a->R (nA p0 p1 p2 p3 p4 p5 p6 β c b a)=g (b,a))->∀b a,go P hints uy b24 acr.1 (nA p0 p1 p2 p3 p4 p5 p6 β (List.length a) b a) (kLp R κ)=d b a g κ) _ _
def Bn(β:Bool)(κ:XT ρ)(n0:Nat)(c:Int)(b:J bc)(a:n0=List.length b):=jI (S:=λn0=>nA p0 p1 p2 p3 p4 p5 p6 β n0 c b) a (dA (κ:=κ) (Φ:=λv k=>(Bm p0 p1 p2 p3 p4 p5 p6 (ρ:=ρ)).f β v.1 v.2 k κ) acr.2 (S:=λv=>nA p0 p1 p2 p3 p4 p5 p6 β (List.length v.2) v.1 v.2) (by intro R g d v;exact(Bm p0 p1 p2 p3 p4 p5 p6 (ρ:=ρ)).ok β R g κ (λn0 c b a=>by subst a;exact d (c,b)) v.1 v.2) (c,b))
end
@[go_sem] def o?(a:z16=List.length z29):=wl (Bn z17 z0 z1 z2 z3 z4 z5 false η z16 z7 z29 a)
@[go_sem] def o!(a:z16=List.length z29):=wl (Bn z17 z0 z1 z2 z3 z4 z5 true η z16 z7 z29 a)
section
variable(p0:J aE)(p1:J aw)(p2:J aB)(p3:J aD)(p4:J az)(p5:J aW)
@[go_sem] def nB(β:Bool)(n0:Nat)(b:Int)(a:J (bc)):St:=⟨[(1,.loc (aj.l 1 0) [] (0) 0),(3,.d (.sl false (List.map gU p0))),(4,.aG (.l 4 0) [] 0 n0),(5,.d (.int .i64 b))],[((1,0),.own [.d (.agg [.sl β (List.map dz p1),.sl β (List.map dH p2),.sl β (List.map dM p3),.sl β (List.map (dI β) p4),.sl β (List.map (e9 β) p5)])]),((4,0),.own (tl uF a))],[]⟩
@[go_sem] def Bo:=mkL (p:=λβ (d:Int->(J (bc))->((Int)×(J (bc))->U ρ)->XT ρ->U ρ)=>∀(R:St->U ρ) g κ,(∀c b a,c=List.length a->R (nB p0 p1 p2 p3 p4 p5 β c b a)=g (b,a))->∀b a,go P hints uy b24 acs.1 (nB p0 p1 p2 p3 p4 p5 β (List.length a) b a) (kLp R κ)=d b a g κ) _ _
def Bp(β:Bool)(κ:XT ρ)(n0:Nat)(c:Int)(b:J (bc))(a:n0=List.length b):=jI (S:=λn0=>nB p0 p1 p2 p3 p4 p5 β n0 c b) a (dA (κ:=κ) (Φ:=λv k=>(Bo p0 p1 p2 p3 p4 p5 (ρ:=ρ)).f β v.1 v.2 k κ) acs.2 (S:=λv=>nB p0 p1 p2 p3 p4 p5 β (List.length v.2) v.1 v.2) (by intro R g d v;exact(Bo p0 p1 p2 p3 p4 p5 (ρ:=ρ)).ok β R g κ (λn0 c b a=>by subst a;exact d (c,b)) v.1 v.2) (c,b))
end
@[go_sem] def Vo:=wl (Bp z17 z1 z2 z3 z4 z5 false η 0 z0 [] rfl)
@[go_sem] def Vp:=wl (Bp z17 z1 z2 z3 z4 z5 true η 0 z0 [] rfl)
def zS(a0:ae):=mkF (p:=λβ (κ:KT ρ) (g:(J bc)->U ρ)=>∀a,κ ([.d (.sl false (List.map uF a))],[])=g a) (ds:=λβ=>[(gv β) a0]) auz (λ_=>rfl) _
def zT(a0:ae)(g0):=(zS (ρ:=ρ) a0).1 g0
@[go_sem] def afM:=wk (zT (ρ:=ρ) (ae.mk z1 z2 z3 z4 z5)) ((zS (ae.mk z1 z2 z3 z4 z5)).2 β κ _ (λ_=>rfl))
section
variable(p0:J Int)(p1:Int)(p2:Int)(p3:J UInt8)(p4:Int)(p5:Int)(p6:Int)(p7:Int)(p8:Bool)
@[go_sem] def mT(β:Bool)(a:Int):St:=⟨[(1,.d (.sl β (List.map eI p0))),(7,.loc (aj.l 7 0) [] (0) 0),(8,.d (.int .i64 p1)),(9,.d (.int .i64 p2)),(10,.d (.int .i64 a))],[((7,0),.own [.d (.agg [.str p3,.int .i64 p4,.int .i64 p5,.int .i64 p6,.int .i64 p7,.bool p8])])],[]⟩
@[go_sem] def tM:=mkL (p:=λβ (b:Int->(Int->U ρ)->XT ρ->U ρ)=>∀(R:St->U ρ) g κ,(∀a,R (mT p0 p1 p2 p3 p4 p5 p6 p7 p8 β a)=g a)->∀a,go P hints Cs b67 acK.1 (mT p0 p1 p2 p3 p4 p5 p6 p7 p8 β a) (kLp R κ)=b a g κ) _ _
def tN(β:Bool)(κ:XT ρ)(a:Int):=dA (κ:=κ) (Φ:=λv k=>(tM p0 p1 p2 p3 p4 p5 p6 p7 p8 (ρ:=ρ)).f β v k κ) acK.2 (S:=λv=>mT p0 p1 p2 p3 p4 p5 p6 p7 p8 β v) (by intro R g b v;exact(tM p0 p1 p2 p3 p4 p5 p6 p7 p8 (ρ:=ρ)).ok β R g κ (λa=>b a) v) a
end
@[go_sem] def Us:=wl (tN z31 z0 z7 z6 z8 z11 z15 z21 z14 false η z22)
@[go_sem] def Ut:=wl (tN z31 z0 z7 z6 z8 z11 z15 z21 z14 true η z22)
def qk(a0:ae)(b:J Int)(c:Int):=mkF (p:=λβ (κ:KT ρ) (g:Bool->U ρ)=>∀a,κ ([.d (.bool a)],[])=g a) (ds:=λβ=>[(gv β) a0,(fH β) b,eI c]) auX (λ_=>rfl) _
def ql(a0:ae)(a:J Int)(b:Int)(g0):=(qk (ρ:=ρ) a0 a b).1 g0
@[go_sem] def p_:=wk (ql (ρ:=ρ) (ae.mk z1 z2 z3 z4 z5) z31 z0) ((qk (ae.mk z1 z2 z3 z4 z5) z31 z0).2 β κ _ (λ_=>rfl))
section
variable(p0:J Int)(p1:J Int)(p2:J Int)(p3:J Int)(p4:Int)(p5:J Int)(p6:J Int)
@[go_sem] def sS(β:Bool)(a:Int):St:=⟨[(1,.d (.sl β (List.map eI p0))),(2,.loc (aj.l 2 0) [] (0) 0),(5,.d (.int .i64 a))],[((2,0),.own [.d (.agg [.sl β (List.map eI p1),.sl β (List.map eI p2),.sl β (List.map eI p3),.int .i64 p4,.sl β (List.map eI p5),.sl β (List.map eI p6)])])],[]⟩
@[go_sem] def Bq:=mkL (p:=λβ (b:Int->(Int->U ρ)->XT ρ->U ρ)=>∀(R:St->U ρ) g κ,(∀a,R (sS p0 p1 p2 p3 p4 p5 p6 β a)=g a)->∀a,go P hints Ct b68 acL.1 (sS p0 p1 p2 p3 p4 p5 p6 β a) (kLp R κ)=b a g κ) _ _
def Br(β:Bool)(κ:XT ρ)(a:Int):=dA (κ:=κ) (Φ:=λv k=>(Bq p0 p1 p2 p3 p4 p5 p6 (ρ:=ρ)).f β v k κ) acL.2 (S:=λv=>sS p0 p1 p2 p3 p4 p5 p6 β v) (by intro R g b v;exact(Bq p0 p1 p2 p3 p4 p5 p6 (ρ:=ρ)).ok β R g κ (λa=>b a) v) a
end
@[go_sem] def p?:=wl (Br z31 z32 z33 z34 z0 z35 z36 false η z7)
@[go_sem] def p!:=wl (Br z31 z32 z33 z34 z0 z35 z36 true η z7)
def zU(a0:bO)(b:J Int):=mkF (p:=λβ (κ:KT ρ) (g:Bool->U ρ)=>∀a,κ ([.d (.bool a)],[])=g a) (ds:=λβ=>[(wv β) a0,(fH β) b]) auY (λ_=>rfl) _
def zV(a0:bO)(a:J Int)(g0):=(zU (ρ:=ρ) a0 a).1 g0
@[go_sem] def afN:=wk (zV (ρ:=ρ) (bO.mk z31 z32 z33 z0 z34 z35) z36) ((zU (bO.mk z31 z32 z33 z0 z34 z35) z36).2 β κ _ (λ_=>rfl))
section
variable(p0:J Int)(p1:J aw)(p2:J aB)(p3:J aD)(p4:J az)(p5:J aW)(p6:J Int)(p7:J Int)(p8:J Int)(p9:Int)(p10:J Int)(p11:J Int)
@[go_sem] def sU(β:Bool)(a:Int):St:=⟨[(2,.d (.sl β (List.map eI p0))),(3,.loc (aj.l 3 0) [] (0) 0),(4,.loc (aj.l 4 0) [] (0) 0),(7,.d (.int .i64 a))],[((3,0),.own [.d (.agg [.sl β (List.map dz p1),.sl β (List.map dH p2),.sl β (List.map dM p3),.sl β (List.map (dI β) p4),.sl β (List.map (e9 β) p5)])]),((4,0),.own [.d (.agg [.sl β (List.map eI p6),.sl β (List.map eI p7),.sl β (List.map eI p8),.int .i64 p9,.sl β (List.map eI p10),.sl β (List.map eI p11)])])],[]⟩
@[go_sem] def Bs:=mkL (p:=λβ (b:Int->(Int->U ρ)->XT ρ->U ρ)=>∀(R:St->U ρ) g κ,(∀a,R (sU p0 p1 p2 p3 p4 p5 p6 p7 p8 p9 p10 p11 β a)=g a)->∀a,go P hints Co b45 acA.1 (sU p0 p1 p2 p3 p4 p5 p6 p7 p8 p9 p10 p11 β a) (kLp R κ)=b a g κ) _ _
def Bt(β:Bool)(κ:XT ρ)(a:Int):=dA (κ:=κ) (Φ:=λv k=>(Bs p0 p1 p2 p3 p4 p5 p6 p7 p8 p9 p10 p11 (ρ:=ρ)).f β v k κ) acA.2 (S:=λv=>sU p0 p1 p2 p3 p4 p5 p6 p7 p8 p9 p10 p11 β v) (by intro R g b v;exact(Bs p0 p1 p2 p3 p4 p5 p6 p7 p8 p9 p10 p11 (ρ:=ρ)).ok β R g κ (λa=>b a) v) a
end
@[go_sem] def q_:=wl (Bt z31 z1 z2 z3 z4 z5 z32 z33 z34 z0 z35 z36 false η z7)
@[go_sem] def q?:=wl (Bt z31 z1 z2 z3 z4 z5 z32 z33 z34 z0 z35 z36 true η z7)
def zW(a0:ae)(b:bO)(c:J Int):=mkF (p:=λβ (κ:KT ρ) (g:Bool->U ρ)=>∀a,κ ([.d (.bool a)],[])=g a) (ds:=λβ=>[(gv β) a0,(wv β) b,(fH β) c]) auJ (λ_=>rfl) _
def zX(a0:ae)(a:bO)(b:J Int)(g0):=(zW (ρ:=ρ) a0 a b).1 g0
@[go_sem] def afO:=wk (zX (ρ:=ρ) (ae.mk z1 z2 z3 z4 z5) (bO.mk z31 z32 z33 z0 z34 z35) z36) ((zW (ae.mk z1 z2 z3 z4 z5) (bO.mk z31 z32 z33 z0 z34 z35) z36).2 β κ _ (λ_=>rfl))
def zY(a0:ae):=mkF (p:=λβ (κ:KT ρ) (g:Bool->U ρ)=>∀a,κ ([.d (.bool a)],[])=g a) (ds:=λβ=>[(gv β) a0]) auZ (λ_=>rfl) _
def zZ(a0:ae)(g0):=(zY (ρ:=ρ) a0).1 g0
@[go_sem] def afP:=wk (zZ (ρ:=ρ) (ae.mk z1 z2 z3 z4 z5)) ((zY (ae.mk z1 z2 z3 z4 z5)).2 β κ _ (λ_=>rfl))
def HC(a0:ae):=mkF (p:=λβ (κ:KT ρ) (g:(J Int)->(J Int)->(J Int)->Int->(J Int)->(J Int)->U ρ)=>(∀(b:J Int) (f:J Int) (c:J Int) (a:Int) (e:J Int) (d:J Int),κ ([.d (.agg [.sl false (List.map eI b),.sl false (List.map eI f),.sl false (List.map eI c),.int .i64 a,.sl false (List.map eI e),.sl false (List.map eI d)])],[])=g b f c a e d)/\(∀(a:Int),κ ([.d (.agg [.sl false (List.map eI ([]:J Int)),.sl false (List.map eI ([]:J Int)),.sl false (List.map eI ([]:J Int)),.int .i64 a,.sl false (List.map eI ([]:J Int)),.sl false (List.map eI ([]:J Int))])],[])=g ([]:J Int) ([]:J Int) ([]:J Int) a ([]:J Int) ([]:J Int))) (ds:=λβ=>[(gv β) a0]) auK (λ_=>rfl) _
def NR(a0:ae)(g0):=(HC (ρ:=ρ) a0).1 g0
@[go_sem] def aqB:=wk (NR (ρ:=ρ) (ae.mk z1 z2 z3 z4 z5)) ((HC (ae.mk z1 z2 z3 z4 z5)).2 β κ _ ⟨(λ_ _ _ _ _ _=>rfl),(λ_=>rfl)⟩)
def po(a0:ae)(b:J Int):=mkF (p:=λβ (κ:KT ρ) (g:Bool->U ρ)=>∀a,κ ([.d (.bool a)],[])=g a) (ds:=λβ=>[(gv β) a0,(fH β) b]) auy (λ_=>rfl) _
def mz(a0:ae)(a:J Int)(g0):=(po (ρ:=ρ) a0 a).1 g0
@[go_sem] def adM:=wk (mz (ρ:=ρ) (ae.mk z1 z2 z3 z4 z5) z31) ((po (ae.mk z1 z2 z3 z4 z5) z31).2 β κ _ (λ_=>rfl))
end
abbrev w64(n:Int):Int:=IntKind.i64.wrap n
def oI(n:Int)(s:au):Bool:=decide (0<=n)&&decide (n<=(s.aa.length:Int))
def kOf(n:Int):Int:=if n=0 then 0 else w64 (1+n)
def iU(l:J aB)(n:Int)(s:au):U aB:=
 if 0<=n then(l[n.toNat]?).bind λv=>if(oI v.aC s&&oI v.aH s)=true then some v else none else none
def P7(n:Int):Int×Int:=if -1048576<=n/\n<=1048576 then(0,0)else(0,10)
def vB(x:aF)(s:au):Int×Int:=
 if x.Op=5 then(if 1<=s.Self/\s.Self<=(s.aa.length:Int)then(w64 (1+s.Self),0)else(0,8))
 else if x.Op=6 then(if 0<=x.N then match s.ah[x.N.toNat]? with |some c=>if oI c.aC s=true then(0,0)else(0,8) |none=>(0,8)else(0,8))
 else if x.Op=7 then(if 0<=x.N/\w64 (Int.tdiv x.N 16)<(s.ak.length:Int)then match s.ak[(w64 (Int.tdiv x.N 16)).toNat]? with |some p=>if Int.tmod x.N 16<p.bE then(0,0)else(0,8) |none=>(0,8)else(0,8))
 else if x.Op=8 then(if 0<=x.N/\x.N<(s.aa.length:Int)then(w64 (2+x.N),0)else(0,8))
 else(0,8)
def NS:U aB->Int×Int
 |some v=>if v.aH=0 then(kOf v.aC,0)else(0,9)
 |none=>(0,8)
def Jw(x:aF)(s:au):Int×Int:=
 if x.Op=1 then P7 x.N
 else if x.Op=2 then NS (iU s.aq x.N s)
 else if x.Op=4 then NS (iU s.bB x.N s)
 else vB x s
def Ro(x:aF)(k:Int)(s:au):Int×Int:=
 match iU s.aq x.N s with |some v=>if v.aH=0 then(0,9)else if k=w64 (1+v.aH)then(kOf v.aC,0)else(0,9) |none=>(0,8)
section
variable{ρ:Type}{s:au}
theorem YJ{n:Int}{g:Int->Bool->U ρ}:pO n s g=if oI n s=true then g (kOf n) true else g 0 false:=by
 simp only[pO,pM,mkF,oI,kOf]
 by_cases a:n=0
 .subst a;simp
 .by_cases b:n<0
  .simp[a,b,show¬(0<=n)by omega]
  .by_cases c:(s.aa.length:Int)<n
   .simp[a,b,c,show¬(n<=(s.aa.length:Int))by omega]
   .simp[a,b,c,show 0<=n by omega,show n<=(s.aa.length:Int)by omega]
theorem adN(a:s.aa.length<=1000){n:Int}(h:oI n s=true):kOf n=0↔n=0:=by
 grind [oI,kOf,kO]
theorem Rp{l:J aB}{n:Int}{g:Int->Int->Bool->U ρ}{e:U ρ}(d:∀a b,g a b false=e):kb l n s g=match iU l n s with |some v=>g (kOf v.aC) (kOf v.aH) true |none=>e:=by
 simp only[kb,mN,mkF,iU,YJ]
 by_cases c:n<0
 .simp[c,show¬(0<=n)by omega,d]
 .by_cases h:(l.length:Int)<=n
  .have:l[n.toNat]? =none:=lL (by omega)
   simp[c,h,this,d,show 0<=n by omega]
  .have f:n.toNat<l.length:=by omega
   simp only[c,h,if_false,show 0<=n by omega,if_true,xG f,xS]
   cases i:oI l[n.toNat].aC s <;>cases j:oI l[n.toNat].aH s <;>simp[d]
theorem YK{n:Int}(h0:0<=n)(hn:n<=9223372036854775807):0<=w64 (Int.tdiv n 16):=by
 grind [kO]
theorem Uu{x:aF}(a:x.N<=9223372036854775807){g:Int->Int->U ρ}:rW x s g=g (vB x s).1 (vB x s).2:=by
 simp only[rW,rV,mkF,vB,YJ]
 by_cases h5:x.Op=5
 .grind
 grind [YK]
theorem wC{l:J Int}(hl:l.length<=1000){g:Bool->U ρ}:jy l g=g (l.all λn=>decide (-1048576<=n)&&decide (n<=1048576)):=by
 simp only[jy,nw,mkF]
 refine(iterC_all l.length (λi:Nat=>(i:Int)) (λi=>match l[i]? with |some n=>decide (-1048576<=n)&&decide (n<=1048576) |none=>true) (g false) (g true) (λi k a=> ?_) (λk=> ?_)).trans ?_
 .grind [eM]
 .grind
 grind [List.mem_iff_getElem]
theorem pp{n:Int}{a b:U ρ}:(Cz n 0 λ_ y=>if y=false then a else b)=if P7 n=(0,0)then b else a:=by
 simp only[Cz,Cy,mkF,DJ,uH,wC (show([n,0]:J Int).length<=1000 by simp),wC (show([w64 (n+0)]:J Int).length<=1000 by simp),P7]
 by_cases h:-1048576<=n/\n<=1048576
 .have c:IntKind.i64.wrap (n+0)=n:=by rw[kO (by omega) (by omega)];omega
  simp only[c];simp[h]
 .simp only[h,if_false]
  have:(decide (-1048576<=n)&&decide (n<=1048576))=false:=by
   by_cases a:-1048576<=n
   .by_cases b:n<=1048576
    .exact absurd ⟨a,b⟩ h
    .simp[a,b]
   .simp[a]
  simp[this]
theorem P8{n:Int}{g:Bool->U ρ}:rY n s g=g (oI n s):=by
 simp only[rY,rX,mkF,oI]
 by_cases h:0<=n <;>simp[h]
theorem Bu{n:Int}{g:Int->U ρ}:sd n g=g (kOf n):=by
 grind [sd,rZ,mkF,kOf]
theorem FV{l:J aB}{n:Int}{g:J UInt8->Int->Int->Int->Int->Int->Bool->U ρ}{e:U ρ}(j:∀a b c d f i,g a b c d f i false=e):kW l n s g=match iU l n s with |some v=>g v.Name v.aC v.aH v.Lo v.Hi v.Init true |none=>e:=by
 simp only[kW,nW,mkF,iU,P8]
 by_cases h:n<0
 .simp[h,show¬(0<=n)by omega,j]
 .by_cases m:(l.length:Int)<=n
  .have:l[n.toNat]? =none:=lL (by omega)
   simp[h,m,this,j,show 0<=n by omega]
  .have k:n.toNat<l.length:=by omega
   simp only[h,m,if_false,show 0<=n by omega,if_true,xG k,xS]
   cases o:oI l[n.toNat].aC s <;>cases p:oI l[n.toNat].aH s <;>simp[j]
theorem YL{x:aF}(q:x.N<=9223372036854775807)(i:x.Op=1\/x.Op=2\/x.Op=4\/x.Op=5\/x.Op=6\/x.Op=7\/x.Op=8){g:Int->Int->U ρ}:zw x s g=g (Jw x s).1 (Jw x s).2:=by
 simp only[zw,zu,mkF,Jw,Bu]
 have p:∀l:J aB,(kW l x.N s λm f d k o n c=>if c=false then g 0 8 else if d=0 then g (kOf f) 0 else g 0 9)=g (NS (iU l x.N s)).1 (NS (iU l x.N s)).2:=λl=>by
  rw[FV (e:=g 0 8) (λ_ _ _ _ _ _=>by simp)]
  grind [NS]
 obtain h |h |h |h |h |h |h:=i
 .grind [P7]
 .grind
 .grind
 .grind [vB]
 .simp only[h,vB,if_true,show¬((6:Int)=1)by decide,show¬((6:Int)=2)by decide,show¬((6:Int)=4)by decide,show¬((6:Int)=5)by decide,if_false,lU,lT,mkF,P8]
  by_cases a:x.N<0
  .simp[a,show¬(0<=x.N)by omega]
  .by_cases b:(s.ah.length:Int)<=x.N
   .have:s.ah[x.N.toNat]? =none:=lL (by omega)
    simp[a,b,this]
   .have j:x.N.toNat<s.ah.length:=by omega
    simp only[a,b,if_false,show 0<=x.N by omega,if_true,xG j,xS]
    cases oI s.ah[x.N.toNat].aC s <;>simp
 .grind [vB,YK]
 grind [vB]
end
def eW(op:Int):Int:=if op=3 then 1 else if 1<=op/\op<=8 then 0 else if opH op=true then opP op else -1
def ok29(a:Int)(l:J Int)(i:Nat):Bool:=(l.drop i).all λy=>(decide (a=-1) || decide (y=a))&&decide (l[0]? =some y)
def wQ(op:Int)(l:J Int):Int×Int:=if ok29 (opT op) l 0=true then(opM op,0)else(0,9)
def jf(x:aF)(s:au)(st:J Int):Int×Int:=
 if x.Op=3 then(match st.getLast? with |some k=>Ro x k s |none=>(0,8))
 else if eW x.Op=0 then Jw x s
 else wQ x.Op (st.drop (st.length - (eW x.Op).toNat))
def gN(x:aF)(s:au)(st:J Int):Int×J Int:=
 if eW x.Op<0 then(3,st)else if(st.length:Int)<eW x.Op then(4,st)
 else if(jf x s st).2≠0 then((jf x s st).2,st)
 else(if 12<st.length - (eW x.Op).toNat+1 then 12 else 0,st.take (st.length - (eW x.Op).toNat)++[(jf x s st).1])
def lp(s:au):List aF->List Int->Int×List Int
 | [],a=>(0,a)
 |x::r,a=>if(gN x s a).1=0 then lp s r (gN x s a).2 else gN x s a
def kZ(e:J aF)(s:au):Int×Int:=
 if 24<e.length then(0,5)else if e=[]then(0,4)
 else if(lp s e []).1≠0 then(0,(lp s e []).1)else if 1<(lp s e []).2.length then(0,5)else((lp s e []).2.headD 0,0)
theorem ld{x:Int}:opH x=true↔9<=x/\x<=19:=by
 simp only[opH,iq,yD];omega
theorem vC{x:Int}(h:9<=x/\x<=19):opP x=if x<=10 then 1 else 2:=by
 unfold opP;split
 .simp_all
 split
 .simp_all
 by_cases h10:x<=10
 .omega
 grind
theorem mA(op:Int):(eW op=-1/\(op<1\/19<op))\/(eW op=0/\1<=op/\op<=8/\op≠3)\/(eW op=1/\(op=3\/op=9\/op=10))\/(eW op=2/\11<=op/\op<=19):=by
 grind [eW,ld,vC]
section
variable{ρ:Type}{s:au}
theorem Uv{op:Int}{g:Int->U ρ}:uL op g=g (eW op):=by
 simp only[uL,uK,mkF]
 obtain⟨h,q⟩ |⟨h,q⟩ |⟨h,q⟩ |⟨h,q⟩:=mA op
 .rw[h]
  simp only[show¬op=1 by omega,show¬op=2 by omega,show¬op=4 by omega,show¬op=5 by omega,show¬op=6 by omega,show¬op=7 by omega,show¬op=8 by omega,show¬op=3 by omega,show¬op=9 by omega,show¬op=10 by omega,show¬op=11 by omega,show¬op=12 by omega,show¬op=13 by omega,show¬op=14 by omega,show¬op=15 by omega,show¬op=16 by omega,show¬op=17 by omega,show¬op=18 by omega,show¬op=19 by omega,if_false]
 .grind
 .grind
 .rw[h]
  obtain⟨a,b⟩:=q
  have:op=11\/op=12\/op=13\/op=14\/op=15\/op=16\/op=17\/op=18\/op=19:=by omega
  rcases this with q |q |q |q |q |q |q |q |q <;>subst q <;>simp
theorem Jx{x:aF}{k:Int}:Ro x k s=match iU s.aq x.N s with |some v=>if v.aH=0 then(0,9)else if k=w64 (1+v.aH)then(kOf v.aC,0)else(0,9) |none=>(0,8):=rfl
theorem Uw{x:aF}(h:x.Op=3){k:Int}{g:Int->Int->U ρ}:nI x k s g=g (Ro x k s).1 (Ro x k s).2:=by
 simp only[nI,ww,mkF,Bu,h,if_true];rw[FV (e:=g 0 8) (λ_ _ _ _ _ _=>by simp),Jx]
 grind
theorem afQ{a k:Int}:ok29 a [k] 0=(decide (a=-1) || decide (k=a)):=by simp[ok29]
theorem afR{c a b:Int}:ok29 c [a,b] 0=((decide (c=-1) || decide (a=c))&&decide (a=b)):=by
 grind [ok29]
theorem V!{x:aF}(h:x.Op=9\/x.Op=10){k:Int}{g:Int->Int->U ρ}:nI x k s g=g (wQ x.Op [k]).1 (wQ x.Op [k]).2:=by
 simp only[nI,ww,mkF,wQ,afQ]
 obtain h |h:=h
 .grind [opT,opM]
 grind [opT,opM]
theorem W_{op:Int}(h:11<=op/\op<=19){a b:Int}{g:Int->Int->U ρ}:wz op a b g=g (wQ op [a,b]).1 (wQ op [a,b]).2:=by
 simp only[wz,CA,mkF,wQ,afR]
 have:op=11\/op=12\/op=13\/op=14\/op=15\/op=16\/op=17\/op=18\/op=19:=by omega
 by_cases c:a=b
 .subst c
  rcases this with q |q |q |q |q |q |q |q |q <;>subst q
  .grind [opT,opM]
  .grind [opT,opM]
  .grind [opT,opM]
  .simp[opT,opM]
  .simp[opT,opM]
  .grind [opT,opM]
  .grind [opT,opM]
  .grind [opT,opM]
  grind [opT,opM]
 grind
end
theorem plainT_tl(l:J Int):fS (tl eI l)=true:=by
 induction l with
 |nil=>rfl
 |cons a l b=>grind [tl,fS]
def NT{ρ:Type}(g:Int->Int->U ρ)(p:Int×J Int):U ρ:=
 if p.1≠0 then g 0 p.1 else if 1<p.2.length then g 0 5 else(p.2[0]?).bind λa=>g a 0
section
variable{ρ:Type}{s:au}
theorem HD{n m:Nat}(h:m<=n)(hn:n<4611686018427387904):IntKind.i64.wrap ((n:Int) - (m:Int))=((n - m:Nat):Int):=by grind [kO]
theorem YM{e:J aF}(M:∀x∈e,x.N<=9223372036854775807){g:Int->Int->U ρ}:nX e s g=if 24<e.length then g 0 5 else if e=[]then g 0 4 else NT g (lp s e []):=by
 simp only[nX,se,mkF]
 by_cases h24:24<e.length
 .grind
 rw[if_neg (by omega),if_neg h24]
 by_cases K:e=[]
 .grind
 rw[if_neg K,if_neg K];refine qy (λv:Int×J Int=>∃i:Nat,v.1=i/\i<=e.length/\v.2.length<=12) (λv=>NT g (lp s (e.drop v.1.toNat) v.2)) (λv=>e.length - v.1.toNat) ?_ (v:=((0:Int),([]:J Int))) ⟨0,rfl,eD _,by simp⟩ |>.trans (by simp)
 rintro⟨i,a⟩ k ⟨n,I,S,G⟩ hk
 simp only at I G S |-
 subst I
 by_cases d:n<e.length
 .rw[if_pos (by omega),if_pos (by omega),xV,xG d,xS,xW d,lp]
  have p:∀b:J Int,b.length<=12->k (w64 ((n:Int)+1),b)=NT g (lp s (e.drop (n+1)) b):=λb P=>by
   have B:w64 ((n:Int)+1)=((n+1:Nat):Int):=eM (by omega)
   rw[B];exact hk (((n+1:Nat):Int),b) ⟨n+1,rfl,by omega,P⟩ (by grind)
  have L:=M e[n] (eO d)
  revert p
  generalize e[n]=x at L |-
  intro p;simp only[Uv];have T:∀(y:Int) (b:J Int),y≠0->NT g (if(y,b).1=0 then lp s (e.drop (n+1)) (y,b).2 else(y,b))=g 0 y:=λy b N=>by simp[N,NT]
  have j:∀(m:Nat) (r:Int×Int),eW x.Op=(m:Int)->m<=a.length->m<=2->jf x s a=r->
    (if r.2=0 then if((a.length - m:Nat):Int)<=(a.length:Int)then if fS (tl eI (List.take (a.length - m) a))=true then if min (a.length - m) a.length * 8<=140737488355328/\min (a.length - m) a.length<=9223372036854775807 then if(min (a.length - m) a.length+1) * 8<=140737488355328/\min (a.length - m) a.length<=9223372036854775806 then
     if(12:Int)<((min (a.length - m) a.length:Nat):Int)+1 then g 0 12 else k (w64 ((n:Int)+1),List.take (min (a.length - m) a.length) (List.take (a.length - m) a)++[r.1])else none else none else none else none else g 0 r.2)=
     NT g (if(gN x s a).1=0 then lp s (e.drop (n+1)) (gN x s a).2 else gN x s a):=by
   intro m r W Z Y C
   have B:gN x s a=if r.2≠0 then(r.2,a)else(if 12<a.length - m+1 then 12 else 0,a.take (a.length - m)++[r.1]):=by
    unfold gN;rw[W,if_neg (by omega),if_neg (by omega),C,xV]
   rw[B]
   by_cases u:r.2=0
   .have z:fS (tl eI (List.take (a.length - m) a))=true:=plainT_tl _
    have t:min (a.length - m) a.length=a.length - m:=by omega
    simp only[u,if_true,z,t,List.take_take,Nat.min_self];rw[if_pos (by omega),if_pos ⟨by omega,by omega⟩,if_pos ⟨by omega,by omega⟩]
    by_cases X:12<a.length - m+1
    .rw[if_pos (by omega)]
     simp_all
    grind
   .grind
  obtain⟨h,q⟩ |⟨h,q⟩ |⟨h,q⟩ |⟨h,q⟩:=mA x.Op
  .rw[h,if_pos (by omega),show gN x s a=(3,a)by unfold gN;rw[h,if_pos (by omega)]]
   grind
  .have R:eW x.Op=((0:Nat):Int):=h
   have A:x.Op=1\/x.Op=2\/x.Op=4\/x.Op=5\/x.Op=6\/x.Op=7\/x.Op=8:=by omega
   have C:jf x s a=Jw x s:=by unfold jf;rw[if_neg q.2.2,if_pos h]
   have:=j 0 _ R (eD _) (by omega) C
   rw[<-this];have D:IntKind.i64.wrap ((a.length:Int) - 0)=((a.length - 0:Nat):Int):=HD (m:=0) (by omega) (by omega)
   simp only[h,D,show(0:Int)<=((a.length - 0:Nat):Int)by omega,show¬((0:Int)<0)by omega,show¬((a.length:Int)<0)by omega,show¬((0:Int)=1)by omega,show¬((0:Int)=2)by omega,if_false,if_true,YL L A,xV,xG d,xS]
   rfl
  .have V:eW x.Op=((1:Nat):Int):=h
   by_cases O:a.length<1
   .rw[h,if_neg (by omega),if_pos (by omega),show gN x s a=(4,a)by unfold gN;rw[h,if_neg (by omega),if_pos (by omega)]]
    grind
   have c:a.length - 1<a.length:=by omega
   have w:a.getLast? =some a[a.length - 1]:=by rw[List.getLast?_eq_getElem?,xG c]
   have o:∀f:Int->Int->U ρ,nI x a[a.length - 1] s f=f (jf x s a).1 (jf x s a).2:=λf=>by
    unfold jf
    by_cases h3:x.Op=3
    .grind [Uw]
    .rw[if_neg h3,if_neg (by omega),V! (by omega),h,show a.drop (a.length - (1:Int).toNat)=[a[a.length - 1]]by
      rw[show(1:Int).toNat=1 from rfl,xW c,List.drop_eq_nil_of_le (by omega)]]
   have:=j 1 _ V (by omega) (by omega) rfl
   rw[<-this];have F:IntKind.i64.wrap ((a.length:Int) - 1)=((a.length - 1:Nat):Int):=HD (m:=1) (by omega) (by omega)
   simp only[h,show(0:Int)<=(n:Int)by omega,show¬((1:Int)<0)by omega,show¬((a.length:Int)<1)by omega,show¬((1:Int)=0)by omega,show¬((1:Int)=2)by omega,if_false,if_true,F,show(0:Int)<=((a.length - 1:Nat):Int)by omega,show((a.length - 1:Nat):Int)<(a.length:Int)by omega,and_self,xV,xG c,xS,o]
  .have Q:eW x.Op=((2:Nat):Int):=h
   by_cases O:a.length<2
   .rw[h,if_neg (by omega),if_pos (by omega),show gN x s a=(4,a)by grind [gN]]
    grind
   have c:a.length - 1<a.length:=by omega
   have H:a.length - 2<a.length:=by omega
   have l:∀f:Int->Int->U ρ,wz x.Op a[a.length - 2] a[a.length - 1] f=f (jf x s a).1 (jf x s a).2:=λf=>by
    unfold jf
    rw[if_neg (by omega),if_neg (by omega),W_ q,h,show a.drop (a.length - (2:Int).toNat)=[a[a.length - 2],a[a.length - 1]]by
     grind [xW]]
   have:=j 2 _ Q (by omega) (by omega) rfl
   rw[<-this];have F:IntKind.i64.wrap ((a.length:Int) - 1)=((a.length - 1:Nat):Int):=HD (m:=1) (by omega) (by omega)
   have E:IntKind.i64.wrap ((a.length:Int) - 2)=((a.length - 2:Nat):Int):=HD (m:=2) (by omega) (by omega)
   simp only[h,show(0:Int)<=(n:Int)by omega,show¬((2:Int)<0)by omega,show¬((a.length:Int)<2)by omega,show¬((2:Int)=0)by omega,show¬((2:Int)=1)by omega,if_false,if_true,F,E,show(0:Int)<=((a.length - 1:Nat):Int)by omega,show((a.length - 1:Nat):Int)<(a.length:Int)by omega,show(0:Int)<=((a.length - 2:Nat):Int)by omega,show((a.length - 2:Nat):Int)<(a.length:Int)by omega,and_self,xV,xG c,xG H,xS,l]
 grind [xV,lp,NT]
end
set_option maxHeartbeats 4000000
noncomputable section
@[go_sem] abbrev D3(β:Bool)(s:au):D:=.agg [.sl β (List.map dz s.aa),.sl β (List.map dH s.aq),.sl β (List.map dM s.ah),.sl β (List.map (dI β) s.ak),.sl β (List.map dH s.bB),.int .i64 s.Self]
@[go_sem] abbrev HKd(a:D)(st:J Int):J Ob:=[.box (.d a),.box (.agg [.own (tl eI st),.d (.map 3)]),.box (.d (.ptr 1)),.map opsL,.box (.d (.fn (.func 211) [] [])),.box (.d (.fn (.func 212) [] [])),.box (.d (.fn (.func 213) [] [])),.box (.d (.fn (.func 214) [] [])),.box (.d (.fn (.func 215) [] [])),.box (.d (.fn (.func 216) [] []))]
def FK1(f e:Int)(p2:J aw)(p3:J aB)(p4:J aD)(p5:J az)(p6:J aB)(p7:Int)(st:J Int){ρ:Type}:
  {Φ:(Int->Int->U ρ)->U ρ // ∀(β:Bool) (κ:J T×J Ob->U ρ) (g:Int->Int->U ρ),(∀b a,κ ([.d (.int .i64 b),.d (.int .i64 a)],(HKd (.agg [.sl β (List.map dz p2),.sl β (List.map dH p3),.sl β (List.map dM p4),.sl β (List.map (dI β) p5),.sl β (List.map dH p6),.int .i64 p7]) st))=g b a)->
   cbK (call 181 [.agg [.int .i64 f,.int .i64 e],.ptr 2,.ptr 0] ((HKd (.agg [.sl β (List.map dz p2),.sl β (List.map dH p3),.sl β (List.map dM p4),.sl β (List.map (dI β) p5),.sl β (List.map dH p6),.int .i64 p7]) st))) κ=Φ g}:=by
 refine⟨?Φ,?h⟩
 case h=>
  intro β κ g c
  refine(anu _ _ _ rfl).trans ?_
  try simp only[go_sem]at c
  refine NN λr d=> ?_
  cases β
  all_goals (simp -implicitDefEqProofs (maxSteps:=1000000) [go_sem,c,anx,A6,-List.map_append,-List.map_take,-List.map_drop,-List.map_set];exact d)
def fK1(b a:Int)(p2:J aw)(p3:J aB)(p4:J aD)(p5:J az)(p6:J aB)(p7:Int)(st:J Int){ρ:Type}(g:Int->Int->U ρ):U ρ:=(FK1 b a p2 p3 p4 p5 p6 p7 st).1 g
@[go_sem] theorem WK1(b a:Int)(p2:J aw)(p3:J aB)(p4:J aD)(p5:J az)(p6:J aB)(p7:Int)(st:J Int){ρ:Type}(β:Bool)(κ:J T×J Ob->U ρ):
   cbK (call 181 [.agg [.int .i64 b,.int .i64 a],.ptr 2,.ptr 0] ((HKd (.agg [.sl β (List.map dz p2),.sl β (List.map dH p3),.sl β (List.map dM p4),.sl β (List.map (dI β) p5),.sl β (List.map dH p6),.int .i64 p7]) st))) κ=fK1 b a p2 p3 p4 p5 p6 p7 st λd c=>κ ([.d (.int .i64 d),.d (.int .i64 c)],(HKd (.agg [.sl β (List.map dz p2),.sl β (List.map dH p3),.sl β (List.map dM p4),.sl β (List.map (dI β) p5),.sl β (List.map dH p6),.int .i64 p7]) st)):=
 (FK1 b a p2 p3 p4 p5 p6 p7 st).2 β κ _ λ_ _=>rfl
theorem YN{a:Int}{l:J Int}{i:Nat}(h:l.length<=i):ok29 a l i=true:=by simp[ok29,List.drop_eq_nil_of_le h]
theorem W?{a:Int}{l:J Int}{i:Nat}(h:i<l.length):ok29 a l i=((decide (a=-1) || decide (l[i]=a))&&decide (l[0]? =some l[i])&&ok29 a l (i+1)):=by
 grind [ok29,xW]
theorem YO{ρ:Type}(d a nm:Int)(l:J Int)(fn:Nat)(b:J D)(c:Bool)(H:J Ob)(κ:Ex×St->U ρ)(i:Int):
  dG P hints nq P2 0 ((⟨[(1,SV.d (D.sl c (List.map eI l))),(2,SV.loc (aj.l 2 0) [] 0 0),(8,SV.d (D.sl c (List.map eI l))),(9,SV.d (D.int .i64 (List.length l))),(10,SV.d (D.int .i64 i))],[((2,0),T.own [T.d (D.agg [D.int .i64 d,D.int .i64 a,D.int .i64 nm,D.fn (Fn.func fn) [] b])])],H⟩:St)) κ=if i<(l.length:Int)then(if 0<=i then(l[i.toNat]?).bind λy=>if a=-1 then(l[0]?).bind λe=>if y=e then dG P hints nq P2 0 ((⟨[(1,SV.d (D.sl c (List.map eI l))),(2,SV.loc (aj.l 2 0) [] 0 0),(8,SV.d (D.sl c (List.map eI l))),(9,SV.d (D.int .i64 (List.length l))),(10,SV.d (D.int .i64 (IntKind.i64.wrap (i+1))))],[((2,0),T.own [T.d (D.agg [D.int .i64 d,D.int .i64 a,D.int .i64 nm,D.fn (Fn.func fn) [] b])])],H⟩:St)) κ else κ (.ret,⟨[(4,.d (.int .i64 0)),(5,.d (.int .i64 9))],[],H⟩)else if y=a then(l[0]?).bind λe=>if y=e then dG P hints nq P2 0 ((⟨[(1,SV.d (D.sl c (List.map eI l))),(2,SV.loc (aj.l 2 0) [] 0 0),(8,SV.d (D.sl c (List.map eI l))),(9,SV.d (D.int .i64 (List.length l))),(10,SV.d (D.int .i64 (IntKind.i64.wrap (i+1))))],[((2,0),T.own [T.d (D.agg [D.int .i64 d,D.int .i64 a,D.int .i64 nm,D.fn (Fn.func fn) [] b])])],H⟩:St)) κ else κ (.ret,⟨[(4,.d (.int .i64 0)),(5,.d (.int .i64 9))],[],H⟩)else κ (.ret,⟨[(4,.d (.int .i64 0)),(5,.d (.int .i64 9))],[],H⟩)else none)
   else κ (.exit 0,⟨[(1,SV.d (D.sl c (List.map eI l))),(2,SV.loc (aj.l 2 0) [] 0 0),(8,SV.d (D.sl c (List.map eI l))),(9,SV.d (D.int .i64 (List.length l))),(10,SV.d (D.int .i64 i)),(11,SV.d (D.bool false))],[((2,0),T.own [T.d (D.agg [D.int .i64 d,D.int .i64 a,D.int .i64 nm,D.fn (Fn.func fn) [] b])])],H⟩):=by
 refine(ap aeZ.2).trans ?_
 simp -implicitDefEqProofs (maxSteps:=1000000) [go_sem,-List.map_append,-List.map_take,-List.map_drop,-List.map_set]
theorem avn{ρ:Type}(g b nm:Int)(l:J Int)(hl:l.length<=1000)(fn:Nat)(e:J D)(c:Bool)(H:J Ob)(κ:Ex×St->U ρ):∀(n i:Nat),l.length - i=n->i<=l.length->
  dG P hints nq P2 0 ((⟨[(1,SV.d (D.sl c (List.map eI l))),(2,SV.loc (aj.l 2 0) [] 0 0),(8,SV.d (D.sl c (List.map eI l))),(9,SV.d (D.int .i64 (List.length l))),(10,SV.d (D.int .i64 i))],[((2,0),T.own [T.d (D.agg [D.int .i64 g,D.int .i64 b,D.int .i64 nm,D.fn (Fn.func fn) [] e])])],H⟩:St)) κ=if ok29 b l i=true then κ (.exit 0,⟨[(1,SV.d (D.sl c (List.map eI l))),(2,SV.loc (aj.l 2 0) [] 0 0),(8,SV.d (D.sl c (List.map eI l))),(9,SV.d (D.int .i64 (List.length l))),(10,SV.d (D.int .i64 (List.length l))),(11,SV.d (D.bool false))],[((2,0),T.own [T.d (D.agg [D.int .i64 g,D.int .i64 b,D.int .i64 nm,D.fn (Fn.func fn) [] e])])],H⟩)else κ (.ret,⟨[(4,.d (.int .i64 0)),(5,.d (.int .i64 9))],[],H⟩):=by
 intro n
 induction n with
 |zero=>
  grind [YO,YN]
 |succ n j=>
  intro i k m;have a:i<l.length:=by omega
  have h:IntKind.i64.wrap ((i:Int)+1)=((i+1:Nat):Int):=by exact eM (by omega)
  rw[YO,if_pos (by omega),if_pos (by omega),xV,xG a,xS,h,j (i+1) (by omega) (by omega),W? a,xG (Nat.lt_of_le_of_lt (eD _) a),xS]
  simp only[xJ]
  by_cases f:b=-1
  .simp only[f,decide_true,Bool.true_or,m9,if_true]
   by_cases d:l[0]=l[i]
   .simp[d]
   grind
  .simp only[f,decide_false,Bool.false_or,if_false]
   by_cases d:l[i]=b
   .rw[if_pos d]
    by_cases h3:l[i]=l[0]
    .simp_all
    grind
   grind
def x29{ρ:Type}(b d nm:Int)(l:J Int)(fn:Nat)(a:J D)(c:Bool)(H:J Ob)(κ:J T×J Ob->U ρ):U ρ:=cbK (call 183 [.agg [.int .i64 b,.int .i64 d,.int .i64 nm,.fn (.func fn) [] a],.sl c (List.map eI l)] H) κ
theorem W29{ρ:Type}(d a nm:Int)(l:J Int)(fn:Nat)(b:J D)(c:Bool)(H:J Ob)(κ:J T×J Ob->U ρ):cbK (call 183 [.agg [.int .i64 d,.int .i64 a,.int .i64 nm,.fn (.func fn) [] b],.sl c (List.map eI l)] H) κ=
  if l.length<=1000 then(if ok29 a l 0=true then κ ([.d (.int .i64 nm),.d (.int .i64 0)],H)else κ ([.d (.int .i64 0),.d (.int .i64 9)],H))else x29 d a nm l fn b c H κ:=by
 by_cases e:l.length<=1000
 .rw[if_pos e]
  refine(anA _ _ _ rfl).trans ?_
  have h:=λκ=>avn (ρ:=ρ) d a nm l e fn b c H κ _ 0 rfl (eD _)
  simp only[ez]at h
  simp -implicitDefEqProofs (maxSteps:=1000000) [go_sem,h,-List.map_append,-List.map_take,-List.map_drop,-List.map_set]
 .rw[if_neg e];rfl
attribute [go_sem] W29
attribute [irreducible] x29
theorem jg:(opsL.all λe=>e.1.cW&&e.2.cW)=true:=rfl
theorem YP(b a:Int)(s:au)(u:s.aa.length<=1000)(t:a<=9223372036854775807)(st:J Int)(q:st.length<=12)(hx:b=3->st≠[]){ρ:Type}(g:Int->Int->U ρ)(ht:eW b=0\/b=3):
  fK1 b a s.aa s.aq s.ah s.ak s.bB s.Self st g=g (jf ⟨b,a⟩ s st).1 (jf ⟨b,a⟩ s st).2:=by
 have j:au.mk s.aa s.aq s.ah s.ak s.bB s.Self=s:=rfl;simp only[fK1,FK1,j,pp,jf]
 obtain ht |ht:=ht
 .have h3:¬b=3:=λe=>by grind [eW]
  simp only[h3,if_false,ht,if_true,Jw]
  have r:∀l:J aB,(kb l a s λd f c=>if c=false then g 0 8 else if f=0 then g d 0 else g 0 9)=g (NS (iU l a s)).1 (NS (iU l a s)).2:=λl=>by
   rw[Rp (e:=g 0 8) (λ_ _=>by simp)]
   cases p:iU l a s with
   |none=>rfl
   |some v=>
    grind [iU,adN,NS]
  grind [P7,Uu]
 .subst ht
  have i:=hx rfl;obtain⟨k,hk⟩:∃k,st.getLast? =some k:=by cases h:st.getLast? with |none=>grind [List.getLast?_eq_none_iff] |some k=>exact⟨k,rfl⟩
  have n:0<st.length:=List.length_pos_iff.2 i;have w:IntKind.i64.wrap ((st.length:Int) - 1)=((st.length - 1:Nat):Int):=HD (m:=1) (by omega) (by omega)
  have o:st[st.length - 1]? =some k:=by rw[<-List.getLast?_eq_getElem?];exact hk
  simp only[show¬((3:Int)=1)by decide,show¬((3:Int)=4)by decide,show¬((3:Int)=2)by decide,if_false,if_true,hk,Jx]
  rw[Rp (e:=g 0 8) (λ_ _=>by simp)]
  cases p:iU s.aq a s with
  |none=>rfl
  |some v=>
   grind [iU,adN,xV,kOf]
def Aa{ρ:Type}(β:Bool)(s:au)(κ:J T×J Ob->U ρ)(p:Int×J Int):U ρ:=κ ([.d (.int .i64 p.1)],(HKd (D3 β s) p.2))
set_option maxHeartbeats 8000000 in
theorem aqC(β:Bool)(a t:Int)(s:au)(st:J Int)(r:st.length<=12)(m:Nat)(v:1<=m)(u:m<=2)(hP:opP a=(m:Int))(hx:9<=a/\a<=19)(hl:m<=st.length){ρ:Type}(κ:J T×J Ob->U ρ):
   cbK (call 187 [.ptr 1,.agg [.int .i64 a,.int .i64 t],.fn (.func 181) [] [.ptr 2,.ptr 0],.fn (.func 183) [] []] ((HKd (D3 β s) st))) κ=
    Aa β s κ (if(wQ a (st.drop (st.length - m))).2≠0 then((wQ a (st.drop (st.length - m))).2,st)else(if 12<st.length - m+1 then 12 else 0,st.take (st.length - m)++[(wQ a (st.drop (st.length - m))).1])):=by
 refine(xh _ _ _ rfl).trans ?_
 have g:opH a=true:=ld.2 hx;have n:¬a=3:=by omega
 have q:¬a<=8:=by omega
 have h:¬(m:Int)<0:=by omega
 have p:¬(st.length:Int)<(m:Int):=by omega
 have i:IntKind.i64.wrap ((st.length:Int) - (m:Int))=((st.length - m:Nat):Int):=HD hl (by omega)
 have j:(0:Int)<=((st.length - m:Nat):Int):=by omega
 have l:((st.length - m:Nat):Int)<=(st.length:Int):=by omega
 have q3:st.length<=1000+(st.length - m):=by omega
 have k:(st.length - m+1) * 8<=140737488355328:=by omega
 have o:st.length<=9223372036854775806+m:=by omega
 have f:st.length - (st.length - m)=m:=by omega
 have q4:m<=1000:=by omega
 have c:List.take m (List.drop (st.length - m) st)=List.drop (st.length - m) st:=gr (by simp;omega)
 have d:¬12<st.length - m+1:=by omega
 have b:¬(12:Int)<((st.length - m:Nat):Int)+1:=by omega
 by_cases hk:ok29 (opT a) (st.drop (st.length - m)) 0=true
 .have e:wQ a (st.drop (st.length - m))=(opM a,0):=by rw[wQ,if_pos hk]
  rw[e]
  cases β <;>simp -implicitDefEqProofs (maxSteps:=1000000) [go_sem,jb,g,hP,n,q,h,p,i,j,l,q3,k,o,f,c,q4,hk,d,b,jg,Aa,-List.map_append,-List.map_take,-List.map_drop,-List.map_set]
 .have e:wQ a (st.drop (st.length - m))=(0,9):=by rw[wQ,if_neg hk]
  rw[e]
  cases β <;>simp -implicitDefEqProofs (maxSteps:=1000000) [go_sem,jb,g,hP,n,q,h,p,i,j,l,q3,k,o,f,c,q4,hk,d,b,jg,Aa,-List.map_append,-List.map_take,-List.map_drop,-List.map_set]
set_option maxHeartbeats 8000000 in
theorem avo(β:Bool)(b f:Int)(s:au)(F:s.aa.length<=1000)(E:f<=9223372036854775807)(st:J Int)(o:st.length<=12){ρ:Type}(κ:J T×J Ob->U ρ):
   cbK (call 187 [.ptr 1,.agg [.int .i64 b,.int .i64 f],.fn (.func 181) [] [.ptr 2,.ptr 0],.fn (.func 183) [] []] ((HKd (D3 β s) st))) κ=Aa β s κ (gN ⟨b,f⟩ s st):=by
 refine(xh _ _ _ rfl).trans ?_
 have A:∀n:Nat,n<=st.length->n<=2->IntKind.i64.wrap ((st.length:Int) - (n:Int))=((st.length - n:Nat):Int):=λn v K=>HD v (by omega)
 have stp:∀n:Nat,eW b=(n:Int)->n<=st.length->gN ⟨b,f⟩ s st=if(jf ⟨b,f⟩ s st).2≠0 then((jf ⟨b,f⟩ s st).2,st)else(if 12<st.length - n+1 then 12 else 0,st.take (st.length - n)++[(jf ⟨b,f⟩ s st).1]):=λn N v=>by
  simp_all [gN,if_neg]
 obtain⟨h,q⟩ |⟨h,q⟩ |⟨h,q⟩ |⟨h,q⟩:=mA b
 ·-- none
  have l:¬opH b=true:=λM=>by grind [ld]
  have m:¬b=3:=by omega
  have C:¬(1<=b/\b<=8):=by omega
  have d:gN ⟨b,f⟩ s st=(3,st):=by unfold gN;rw[h,if_pos (by omega)]
  rw[d]
  by_cases t:1<=b
  .have r:¬b<=8:=λq=>C ⟨t,q⟩
   cases β <;>simp -implicitDefEqProofs (maxSteps:=1000000) [go_sem,jb,l,m,t,r,Aa,-List.map_append,-List.map_take,-List.map_drop,-List.map_set]
  .cases β <;>simp -implicitDefEqProofs (maxSteps:=1000000) [go_sem,jb,l,m,t,Aa,-List.map_append,-List.map_take,-List.map_drop,-List.map_set]
 ·-- a leaf
  have l:¬opH b=true:=λM=>by grind [ld]
  have k:opH b=false:=by simpa using l
  have m:¬b=3:=by omega
  have t:1<=b:=q.1;have r:b<=8:=q.2.1;have B:=A 0 (eD _) (by omega)
  have u:IntKind.i64.wrap ((st.length:Int))=(st.length:Int):=by simpa using B
  have c:=λg=>YP b f s F E st o (λe=>absurd e m) (ρ:=ρ) g (.inl h)
  have y:¬(st.length:Int)<0:=by omega
  have w:(st.length+1) * 8<=140737488355328:=by omega
  have z:st.length<=9223372036854775806:=by omega
  rw[stp 0 h (eD _)]
  by_cases x:(jf ⟨b,f⟩ s st).2=0
  .by_cases p:12<st.length+1
   .have i:(12:Int)<(st.length:Int)+1:=by omega
    cases β <;>simp -implicitDefEqProofs (maxSteps:=1000000) [go_sem,jb,l,k,m,t,r,u,c,jg,y,w,z,x,p,i,Aa,-List.map_append,-List.map_take,-List.map_drop,-List.map_set]
   .have i:¬(12:Int)<(st.length:Int)+1:=by omega
    cases β <;>simp -implicitDefEqProofs (maxSteps:=1000000) [go_sem,jb,l,k,m,t,r,u,c,jg,y,w,z,x,p,i,Aa,-List.map_append,-List.map_take,-List.map_drop,-List.map_set]
  .cases β <;>simp -implicitDefEqProofs (maxSteps:=1000000) [go_sem,jb,l,k,m,t,r,u,c,jg,y,w,z,x,Aa,-List.map_append,-List.map_take,-List.map_drop,-List.map_set]
 .by_cases D:st.length<1
  .have d:gN ⟨b,f⟩ s st=(4,st):=by unfold gN;rw[h,if_neg (by omega),if_pos (by omega)]
   have j:(st.length:Int)<1:=by omega
   rw[d]
   obtain q |q:=q
   .cases β <;>simp -implicitDefEqProofs (maxSteps:=1000000) [go_sem,jb,q,j,Aa,-List.map_append,-List.map_take,-List.map_drop,-List.map_set]
   .have l:opH b=true:=ld.2 (by omega)
    have m:¬b=3:=by omega
    have r:¬b<=8:=by omega
    have hP:opP b=1:=by rw[vC (by omega),if_pos (by omega)]
    cases β <;>simp -implicitDefEqProofs (maxSteps:=1000000) [go_sem,jb,l,hP,m,r,j,Aa,-List.map_append,-List.map_take,-List.map_drop,-List.map_set]
  have y:¬(st.length:Int)<1:=by omega
  have B:IntKind.i64.wrap ((st.length:Int) - 1)=((st.length - 1:Nat):Int):=A 1 (by omega) (by omega)
  have H:(0:Int)<=((st.length - 1:Nat):Int):=by omega
  have I:((st.length - 1:Nat):Int)<=(st.length:Int):=by omega
  have q3:st.length<=1000+(st.length - 1):=by omega
  have w:(st.length - 1+1) * 8<=140737488355328:=by omega
  have z:st.length<=9223372036854775806+1:=by omega
  have b3:st.length<=9223372036854775807:=by omega
  have G:st.length - (st.length - 1)=1:=by omega
  have L:eW b=((1:Nat):Int):=h;rw[stp 1 L (by omega)]
  obtain q |q:=q
  .subst q
   have k:opH 3=false:=rfl;have c:=λg=>YP 3 f s F E st o (λ_ e=>by grind) (ρ:=ρ) g (.inr rfl)
   by_cases x:(jf ⟨3,f⟩ s st).2=0
   .by_cases p:12<st.length - 1+1
    .omega
    .have i:¬(12:Int)<((st.length - 1:Nat):Int)+1:=by omega
     cases β <;>simp -implicitDefEqProofs (maxSteps:=1000000) [go_sem,jb,k,B,H,I,q3,c,jg,y,w,z,b3,G,x,p,i,Aa,-List.map_append,-List.map_take,-List.map_drop,-List.map_set]
   .cases β <;>simp -implicitDefEqProofs (maxSteps:=1000000) [go_sem,jb,k,B,H,I,q3,c,jg,y,w,z,b3,G,x,Aa,-List.map_append,-List.map_take,-List.map_drop,-List.map_set]
  .have v:jf ⟨b,f⟩ s st=wQ b (st.drop (st.length - 1)):=by
    unfold jf;rw[if_neg (by grind),if_neg (by grind),show(eW b).toNat=1 by rw[h];rfl]
   rw[v,<-aqC β b f s st o 1 (by omega) (by omega) (by grind [vC]) (by omega) (by omega)]
   grind [xh]
 .by_cases D:st.length<2
  .have d:gN ⟨b,f⟩ s st=(4,st):=by unfold gN;rw[h,if_neg (by omega),if_pos (by omega)]
   have j:(st.length:Int)<2:=by omega
   rw[d];have l:opH b=true:=ld.2 (by omega)
   have m:¬b=3:=by omega
   have r:¬b<=8:=by omega
   have hP:opP b=2:=by rw[vC (by omega),if_neg (by omega)]
   cases β <;>simp -implicitDefEqProofs (maxSteps:=1000000) [go_sem,jb,l,hP,m,r,j,Aa,-List.map_append,-List.map_take,-List.map_drop,-List.map_set]
  have K:eW b=((2:Nat):Int):=h;rw[stp 2 K (by omega)]
  have v:jf ⟨b,f⟩ s st=wQ b (st.drop (st.length - 2)):=by
   unfold jf;rw[if_neg (by grind),if_neg (by grind),show(eW b).toNat=2 by rw[h];rfl]
  rw[v,<-aqC β b f s st o 2 (by omega) (by omega) (by grind [vC]) (by omega) (by omega)]
  grind [xh]
end
noncomputable section
theorem afS(β:Bool)(e:J aF)(s:au)(f:s.aa.length<=1000)(st:J Int)(b:st.length<=12)(i:Nat)(hi:i<e.length)(j:e[i].N<=9223372036854775807)(c:e.length<=24){ρ:Type}(κ:Ex×St->U ρ):dG P hints jx Hu 0 ((⟨[(0,.d (.ptr (1))),(2,.d (.fn (Fn.func 181) [] [.ptr (2),.ptr (0)])),(3,.d (.fn (Fn.func 183) [] [])),(25,.d (.sl β (List.map eH e))),(26,.d (.int .i64 (List.length e))),(27,.d (.int .i64 (i:Int)))],[],(HKd (D3 β s) st)⟩:St)) κ=
  if(gN e[i] s st).1=0 then dG P hints jx Hu 0 ((⟨[(0,.d (.ptr (1))),(2,.d (.fn (Fn.func 181) [] [.ptr (2),.ptr (0)])),(3,.d (.fn (Fn.func 183) [] [])),(25,.d (.sl β (List.map eH e))),(26,.d (.int .i64 (List.length e))),(27,.d (.int .i64 ((i+1:Nat):Int)))],[],(HKd (D3 β s) ((gN e[i] s st).2))⟩:St)) κ else κ (.ret,⟨[(8,SV.d (D.int .i64 0)),(9,SV.d (D.int .i64 (gN e[i] s st).1))],[],(HKd (D3 β s) ((gN e[i] s st).2))⟩):=by
 refine(ap Lt.2).trans ?_
 have d:IntKind.i64.wrap ((i:Int)+1)=((i+1:Nat):Int):=eM (by omega)
 have g:(i:Int)<(e.length:Int):=by omega
 have h:e[i]? =some e[i]:=xG hi;have a:=λκ=>avo (ρ:=ρ) β e[i].Op e[i].N s f j st b κ
 cases β <;>simp -implicitDefEqProofs (maxSteps:=1000000) [go_sem,g,h,d,a,Aa,-List.map_append,-List.map_take,-List.map_drop,-List.map_set]
theorem afT(β:Bool)(e:J aF)(s:au)(st:J Int){ρ:Type}(κ:Ex×St->U ρ):dG P hints jx Hu 0 ((⟨[(0,.d (.ptr (1))),(2,.d (.fn (Fn.func 181) [] [.ptr (2),.ptr (0)])),(3,.d (.fn (Fn.func 183) [] [])),(25,.d (.sl β (List.map eH e))),(26,.d (.int .i64 (List.length e))),(27,.d (.int .i64 (e.length:Int)))],[],(HKd (D3 β s) st)⟩:St)) κ=κ (.exit 1,(⟨[(0,.d (.ptr (1))),(2,.d (.fn (Fn.func 181) [] [.ptr (2),.ptr (0)])),(3,.d (.fn (Fn.func 183) [] [])),(25,.d (.sl β (List.map eH e))),(26,.d (.int .i64 (List.length e))),(27,.d (.int .i64 (List.length e))),(28,SV.d (D.bool false))],[],(HKd (D3 β s) st)⟩:St)):=by
 refine(ap Lt.2).trans ?_
 cases β <;>simp -implicitDefEqProofs (maxSteps:=1000000) [go_sem,-List.map_append,-List.map_take,-List.map_drop,-List.map_set]
theorem NU{x:aF}{s:au}{st:J Int}(h:st.length<=12)(h0:(gN x s st).1=0):(gN x s st).2.length<=12:=by
 grind [gN]
theorem afU(β:Bool)(e:J aF)(s:au)(d:s.aa.length<=1000)(f:∀x∈e,x.N<=9223372036854775807)(b:e.length<=24){ρ:Type}(κ:Ex×St->U ρ):∀(n i:Nat) (st:J Int),e.length - i=n->i<=e.length->st.length<=12->dG P hints jx Hu 0 ((⟨[(0,.d (.ptr (1))),(2,.d (.fn (Fn.func 181) [] [.ptr (2),.ptr (0)])),(3,.d (.fn (Fn.func 183) [] [])),(25,.d (.sl β (List.map eH e))),(26,.d (.int .i64 (List.length e))),(27,.d (.int .i64 (i:Int)))],[],(HKd (D3 β s) st)⟩:St)) κ=
  if(lp s (e.drop i) st).1=0 then κ (.exit 1,(⟨[(0,.d (.ptr (1))),(2,.d (.fn (Fn.func 181) [] [.ptr (2),.ptr (0)])),(3,.d (.fn (Fn.func 183) [] [])),(25,.d (.sl β (List.map eH e))),(26,.d (.int .i64 (List.length e))),(27,.d (.int .i64 (List.length e))),(28,SV.d (D.bool false))],[],(HKd (D3 β s) ((lp s (e.drop i) st).2))⟩:St))else κ (.ret,⟨[(8,SV.d (D.int .i64 0)),(9,SV.d (D.int .i64 (lp s (e.drop i) st).1))],[],(HKd (D3 β s) ((lp s (e.drop i) st).2))⟩):=by
 intro n
 induction n with
 |zero=>
  grind [afT,v8,lp]
 |succ n j=>
  intro i st h g c;have a:i<e.length:=by omega
  rw[afS β e s d st c i a (f _ (eO a)) b,xW a,lp]
  grind [NU]
theorem LK{s:au}:∀{e:J aF} {st:J Int},st.length<=12->(lp s e st).1=0->(lp s e st).2.length<=12/\(e≠[]->0<(lp s e st).2.length)
 | [],st,h,_=>⟨h,λq=>absurd rfl q⟩
 |x::r,st,h,a=>by
  unfold lp at a |-
  by_cases b:(gN x s st).1=0
  .rw[if_pos b]at a |-
   have c:=NU h b
   have:=LK c a
   refine⟨this.1,λ_=> ?_⟩
   cases r with
   |cons y r=>grind
   |nil=>
    grind [lp,gN]
  grind
set_option maxHeartbeats 8000000 in
theorem Rq(β:Bool)(e:J aF)(s:au)(k:s.aa.length<=1000)(m:∀x∈e,x.N<=9223372036854775807){ρ:Type}(κ:J T×J Ob->U ρ):
  cbK (call 146 [.sl β (List.map eH e),.agg [.sl β (List.map dz s.aa),.sl β (List.map dH s.aq),.sl β (List.map dM s.ah),.sl β (List.map (dI β) s.ak),.sl β (List.map dH s.bB),.int .i64 s.Self]] []) κ=κ ([.d (.int .i64 (kZ e s).1),.d (.int .i64 (kZ e s).2)],[]):=by
 refine(al1 _ _ _ rfl).trans ?_
 unfold kZ
 by_cases h24:24<e.length
 .have b:(24:Int)<(e.length:Int):=by omega
  rw[if_pos h24]
  cases β <;>simp -implicitDefEqProofs (maxSteps:=1000000) [go_sem,xf,xg,xi,b,-List.map_append,-List.map_take,-List.map_drop,-List.map_set]
 rw[if_neg h24];have b:¬(24:Int)<(e.length:Int):=by omega
 by_cases d:e=[]
 .rw[if_pos d]
  subst d
  cases β <;>simp -implicitDefEqProofs (maxSteps:=1000000) [go_sem,xf,xg,xi,-List.map_append,-List.map_take,-List.map_drop,-List.map_set]
 rw[if_neg d];have g:=λκ=>afU (ρ:=ρ) β e s k m (by omega) κ _ 0 [] rfl (eD _) (by simp)
 simp only[HKd,D3,ez,i6,iY]at g
 by_cases f:(lp s e []).1=0
 .have h:=LK (s:=s) (e:=e) (st:=[]) (by simp) f
  have j:=h.2 d
  by_cases i:1<(lp s e []).2.length
  .have c:(1:Int)<((lp s e []).2.length:Int):=by omega
   cases β <;>simp -implicitDefEqProofs (maxSteps:=1000000) [go_sem,xf,xg,xi,b,d,g,f,i,c,-List.map_append,-List.map_take,-List.map_drop,-List.map_set]
  .have c:¬(1:Int)<((lp s e []).2.length:Int):=by omega
   obtain⟨a,l⟩:∃a,(lp s e []).2=[a]:=List.length_eq_one_iff.1 (by omega)
   cases β <;>simp -implicitDefEqProofs (maxSteps:=1000000) [go_sem,xf,xg,xi,b,d,g,f,i,c,l,-List.map_append,-List.map_take,-List.map_drop,-List.map_set]
 .cases β <;>simp -implicitDefEqProofs (maxSteps:=1000000) [go_sem,xf,xg,xi,b,d,g,f,-List.map_append,-List.map_take,-List.map_drop,-List.map_set]
end
end Go.Etx
namespace Go.Am
open Go
def P9(r:SV×Wk):U (U D×SV×Wk):=
 match r.1 with
 | .aS [.d d,.agg []]=>if d.flat=true then some (some d,.dead,r.2)else none
 |v=>some (none,v,r.2)
section
variable{P:Pz}{call:dF}{h:Hint}{dst:Nat}{ty:TypeId}{ρ:Oz->SV}{k:Wk}
def LL(P:Pz)(call:dF)(h:Hint)(dst:Nat)(f:SV)(xs:J SV)(k:Wk):U (U D×SV×Wk):=
 match f with
 | .d (.fn (.func g) first cap)=>if YB<=g then none else(gS (h.nvAt dst) xs k {}).bind λp=>(gy call h dst g (canon p.2.2.sn (first++p.1++cap)) p.2.2 p.2.1).bind P9
 |_=>none
theorem eC{f:Oz}{args:Array Oz}{cu:Array TypeId}(b:h.mv.contains dst=false):gZ P call h dst ty (.call {callee:=.value f,args:=args,argTypes:=cu}) ρ k=LL P call h dst (ρ f) (args.toList.map ρ) k:=by
 unfold LL;simp only[gZ]
 cases ρ f with
 |d x=>
  cases x with
  |fn g a c=>
   cases g with
   |func g=>
    simp only[b,xH,if_false];split
    .rfl
    .congr 1
   |_=>rfl
  |_=>rfl
 |_=>rfl
@[go_sem] theorem aiS{g:FuncId}{first cap:J D}{xs:J SV}(a:g<1099511627776):LL P call h dst (.d (.fn (.func g) first cap)) xs k=(gS (h.nvAt dst) xs k {}).bind λp=>(gy call h dst g (canon p.2.2.sn (first++p.1++cap)) p.2.2 p.2.1).bind P9:=by
 simp only[LL,if_neg (show¬YB<=g from Nat.not_le.2 a)]
def Qa(P:Pz)(call:dF)(h:Hint)(dst:Nat)(q:U (FuncId×D))(xs:J SV)(k:Wk):U (U D×SV×Wk):=
 q.bind λu=>if YB<=u.1 then none else(gS (h.nvAt dst) xs k {}).bind λp=>(gy call h dst u.1 (canon p.2.2.sn (u.2::p.1)) p.2.2 p.2.1).bind P9
@[go_sem] theorem afV{x:Oz}{nm:String}{args:Array Oz}{cu:Array TypeId}:gZ P call h dst ty (.call {callee:=.invoke x nm,args:=args,argTypes:=cu}) ρ k=Qa P call h dst (Mj P nm (ρ x)) (args.toList.map ρ) k:=rfl
@[go_sem] theorem axz{nm:String}{t:TypeId}{y:D}:Mj P nm (.d (.iface t y))=(wS P t nm).map λg=>(g,y):=rfl
@[go_sem] theorem adO{g:FuncId}{y:D}{xs:J SV}(a:g<1099511627776):Qa P call h dst (some (g,y)) xs k=(gS (h.nvAt dst) xs k {}).bind λp=>(gy call h dst g (canon p.2.2.sn (y::p.1)) p.2.2 p.2.1).bind P9:=by
 simp only[Qa,xS,if_neg (show¬YB<=g from Nat.not_le.2 a)]
@[go_sem] theorem avp{x:D}{k:Wk}:P9 (.d x,k)=some (none,.d x,k):=rfl
@[go_sem] theorem avq{k:Wk}:P9 (.aS [],k)=some (none,.aS [],k):=rfl
@[go_sem] theorem avr{d:D}{k:Wk}:P9 (.aS [.d d,.agg []],k)=if d.flat=true then some (some d,.dead,k)else none:=rfl
def afW(k:Wk):SV->U (U D×SV×Wk)
 | .d (.iface t y)=>if y.flat=true then some (some (.iface t y),.dead,k)else none
 |_=>none
@[go_sem] theorem aiT{x:Oz}:gZ P call h dst ty (.panic x) ρ k=afW k (ρ x):=by
 unfold afW;simp only[gZ]
 cases ρ x with
 |d y=>cases y <;>rfl
 |_=>rfl
@[go_sem] theorem avs{t:TypeId}{y:D}:afW k (.d (.iface t y))=if y.flat=true then some (some (.iface t y),.dead,k)else none:=rfl
@[go_sem] theorem aiU{t:TypeId}{x:Oz}:gZ P call h dst ty (.makeInterface t x) ρ k=(dD P call h dst ty (.makeInterface t x) ρ k).bind λp=>some (none,p.1,p.2):=uw rfl
attribute [go_sem] D.flat D.flats
@[go_sem] theorem aqD{t:TypeId}{x:Oz}:dD P call h dst ty (.makeInterface t x) ρ k=(mH P t (ρ x)).bind λv=>some (v,k):=by
 simp only[dD,opE,xF];rfl
@[go_sem] theorem aiV{x:Oz}{s u:TypeId}{a:Bool}:dD P call h dst ty (.typeAssert x s u a) ρ k=(rh P u a (ρ x)).bind λv=>some (v,k):=by
 simp only[dD,opE,xF];rfl
theorem qH{t:TypeId}{x:D}(h:(P.underlying t).map (λd=>match d with | .interface _=>false |_=>true)=some true):mH P t (.d x)=some (.d (.iface t x)):=by
 unfold mH
 cases a:P.underlying t with
 |none=>rw[a]at h;cases h
 |some d=>
  rw[a]at h
  cases d <;>first |rfl |(simp at h)
theorem Ux{t:TypeId}{x:D}(h:(P.underlying t).map (λd=>match d with | .interface _=>false |_=>true)=some true):rh P t true (.d (.iface t x))=some (.aS [.d x,.d (.bool true)]):=by
 unfold rh
 cases a:P.underlying t with
 |none=>rw[a]at h;cases h
 |some d=>
  rw[a]at h
  cases d <;>first |(simp;done) |(simp at h;done)
end
section
variable(P:Pz)(hints:FuncId->Hint)
noncomputable def lf(r:D)(g:FuncId)(ds:J D)(H:J Ob):U (J T×J Ob):=
 (P.funcs[g]?).bind λa=>a.body.bind λc=>
  match c with
  | .seq (.region id b false) d=>
   match b.toList with
   |o::l=>match o.op,o.dst,o.guard with
    | .call {callee:=.builtin .recover, .. },some t,none=>
     if ds.length=a.params.size+a.nfree/\ef a.ntmps c=true/\(a.name== "runtime.NumGoroutine")=false then
      (fh P rl (hints g) b.toList l {env:=(t,.d r)::(enter ds H).env,ct:=[],H}).bind λs=>(eL P hints {hints g with nest:=true} d (prune ((hints g).live id) s)).bind λ(e,s)=>match e with
       | .normal=>jD P (hints g).own a H.length (.normal,s)
       | .ret=>jD P (hints g).own a H.length (.ret,s)
       |_=>none
     else none
    |_,_,_=>none
   |_=>none
  |_=>none
noncomputable def Uy(f:FuncId)(c:Code)(l:Nat)(s:St):U (Ex×St):=
 match c with
 | .seq (.region j h false) (.seq (.region i d false) a)=>
  (fh P (eG P hints) (hints f) h.toList h.toList s).bind λs=>match d.toList.getLast? with
   |some o=>match o.op,o.dst,o.guard with
    | .defer {callee:=.value x,args, .. },none,none=>
     (fh P (eG P hints) (hints f) d.toList d.toList.dropLast (prune ((hints f).live j) s)).bind λs=>match s.val x with
      | .d (.fn (.func g) [] b)=>
       if args.size=0/\b.all D.pin=true then
        (eL P hints (hints f) a (prune ((hints f).live i) s)).bind λ(e,s)=>(Sp e).bind λr=>
         ((fg (lf P hints r) {hints f with aV:=[]} l g (canon false b) {} s.wk).bind jP).map λ(_,k)=>(.ret,s.fin none .dead k)
       else none
      |_=>none
    |_,_,_=>none
   |_=>none
 |_=>none
variable{P hints}
theorem Ab{r:D}{g:FuncId}{ds:J D}{H:J Ob}{x:J T×J Ob}:lf P hints r g ds H=some x↔∃n,mJ P (eN P hints n) hints n r g ds H=some x:=by
 constructor
 .intro e
  simp only[lf,xB]at e
  obtain⟨q,h,p,l,e⟩:=e
  split at e
  .split at e
   .rename_i a
    split at e
    .rename_i d b c
     split at e
     .rename_i i
      simp only[xB]at e
      obtain⟨o,f,y,m,k⟩:=e;obtain⟨n,j⟩:=dR.1 m
      refine⟨n,?_⟩
      simp only[mJ,h,l,xS,a,d,b,c,if_pos i];rw[a]at f
      rw[f,xS,j];exact k
     .cases e
    .cases e
   .cases e
  .cases e
 .rintro⟨n,e⟩
  simp only[mJ,xB]at e
  obtain⟨q,h,p,l,e⟩:=e
  split at e
  .split at e
   .rename_i a
    split at e
    .rename_i d b c
     split at e
     .rename_i i
      simp only[xB]at e
      obtain⟨o,f,y,m,k⟩:=e;have j:=dR.2 ⟨n,m⟩;simp only[lf,h,l,xS,a,d,b,c,if_pos i];rw[a]at f
      rw[f,xS,j];exact k
     .cases e
    .cases e
   .cases e
  .cases e
theorem NV{f:FuncId}{c:Code}{t:Nat}{s:St}{x:Ex×St}:Uy P hints f c t s=some x↔∃n,JR P (eN P hints n) hints n f c t s=some x:=by
 constructor
 .intro e
  unfold Uy at e
  split at e
  .simp only[xB]at e
   obtain⟨M,B,e⟩:=e;obtain⟨l,N⟩:=o4 _ B
   split at e
   .rename_i G
    split at e
    .rename_i i b h
     simp only[xB]at e
     obtain⟨S,I,e⟩:=e;obtain⟨k,L⟩:=o4 _ I
     split at e
     .rename_i g r D
      split at e
      .rename_i w
       simp only[xB,xM]at e
       obtain⟨y,C,q,v,z,⟨z0,d,F⟩,A⟩:=e;obtain⟨j,Q⟩:=dR.1 C
       have:∃a,fg (mJ P (eN P hints a) hints a q) {hints f with aV:=[]} t g (canon false r) {} y.2.wk=some z0:=by
        unfold fg at d
        split at d
        .rename_i hk
         simp only[xB]at d
         obtain⟨u,o,E⟩:=d;obtain⟨a,m⟩:=Ab.1 o
         exact⟨a,by unfold fg;rw[if_pos hk,m];exact E⟩
        rename_i p
        split at d
        .cases d
        .rename_i hk
         simp only[xB]at d
         obtain⟨u,o,E⟩:=d;obtain⟨a,m⟩:=Ab.1 o
         exact⟨a,by unfold fg;rw[if_neg p,if_neg hk,m];exact E⟩
       obtain⟨a,m⟩:=this
       refine⟨max (max l k) (max j a),?_⟩
       have O:l<=max (max l k) (max j a):=by omega
       have R:k<=max (max l k) (max j a):=by omega
       have J:j<=max (max l k) (max j a):=by omega
       have K:a<=max (max l k) (max j a):=by omega
       unfold JR;simp only[gM (eo O) _ N,xS,G,i,b,h,gM (eo R) _ L,D,if_pos w,dY (eo J) J _ _ _ Q,v,oZ (Dy (eo K) K) m,F,xQ,A]
      .cases e
     .cases e
    .cases e
   .cases e
  .cases e
 .rintro⟨n,e⟩
  unfold JR at e
  split at e
  .simp only[xB]at e
   obtain⟨M,B,e⟩:=e
   split at e
   .rename_i G
    split at e
    .rename_i i b h
     simp only[xB]at e
     obtain⟨S,I,e⟩:=e
     split at e
     .rename_i D
      split at e
      .rename_i w
       simp only[xB,xM]at e
       obtain⟨y,C,q,v,z,⟨z0,d,F⟩,A⟩:=e;unfold Uy;simp only[gM (rK n) _ B,xS,G,i,b,h,gM (rK n) _ I,D,if_pos w,dR.2 ⟨n,C⟩,v,oZ (λg T H x e=>Ab.2 ⟨n,e⟩) d,F,xQ,A]
      .cases e
     .cases e
    .cases e
   .cases e
  .cases e
theorem Uz{f:FuncId}{ds:J D}{H:J Ob}{fn:Func}{c:Code}(g:¬YB<=f)(hr:(hints f).rcv=true)(b:(hints f).ext=none)(hf:P.funcs[f]? =some fn)(hb:fn.body=some c)(hl:ds.length=fn.params.size+fn.nfree)(hk:ef fn.ntmps c=true)(hn:(fn.name== "runtime.NumGoroutine")=false):
  eG P hints f ds H=(Uy P hints f c fn.ntmps (enter ds H)).bind (jD P (hints f).own fn H.length):=by
 refine gz λr=> ?_
 rw[gP];constructor
 .rintro⟨n,e⟩
  cases n with
  |zero=>cases e
  |succ n=>
   rw[eN,if_neg g]at e
   simp only[b,hf,hb,xS]at e
   rw[if_pos ⟨hl,hk,hn⟩,if_pos hr]at e
   simp only[xB]at e
   obtain⟨x,a,d⟩:=e;rw[NV.2 ⟨n,a⟩,xS];exact d
 .intro e
  simp only[xB]at e
  obtain⟨x,a,d⟩:=e;obtain⟨n,a⟩:=NV.1 a
  refine⟨n+1,?_⟩
  rw[eN,if_neg g];simp only[b,hf,hb,xS];rw[if_pos ⟨hl,hk,hn⟩,if_pos hr,a];exact d
end
end Go.Am
namespace Go.Etx
open Go Go.Am Go.Proofs
set_option maxHeartbeats 4000000
set_option maxRecDepth 20000
@[go_sem] theorem axA{x:D}:mH P 181 (.d x)=some (.d (.iface 181 x)):=qH (by kernel_rfl)
@[go_sem] theorem axB{x:D}:rh P 181 true (.d (.iface 181 x))=some (.aS [.d x,.d (.bool true)]):=Ux (by kernel_rfl)
def mU(e a b c:Int):D:=.iface 181 (.agg [.int .i64 e,.int .i64 a,.int .i64 b,.int .i64 c])
def Iy(d:D):J T:=[.d d,.agg []]
theorem W!{ρ:Type}(e a b c:Int)(κ:KT ρ):cbK (call 138 [.int .i64 e,.int .i64 a,.int .i64 b,.int .i64 c] []) κ=if e=0 then κ ([],[])else κ (Iy (mU e a b c),[]):=by
 refine(alH _ _ _ rfl).trans ?_
 simp -implicitDefEqProofs [go_sem,Iy,mU]
attribute [go_sem] W!
@[go_sem] theorem aiW{e a b c:Int}:(mU e a b c).flat=true:=rfl
@[go_sem] theorem aqE{dst:Nat}{d:D}{k:Wk}:pF dst (Iy d) k=some (.aS [.d d,.agg []],k):=by
 simp -implicitDefEqProofs [go_sem,Iy]
@[go_sem] theorem aqF(n:Nat):hint140.mv.contains n=false:=rfl
theorem YQ{ρ:Type}(f:D)(l:J (J UInt8×Bool))(R:J Ob)(nm:J UInt8)(a b:Int)(c:gb R=true)(κ:KT ρ):cbK (call 140 [.map 1,.str nm,.int .i64 a,.int .i64 b] (.box (.d f):: .map (jw eS eB l)::R)) κ=
  if kC false l nm=true then κ (Iy (mU 7 a b 0),.box (.d f):: .map (jw eS eB l)::R)else κ ([],.box (.d f):: .map (jw eS eB (kS l nm true))::R):=by
 refine(alN _ _ _ rfl).trans ?_
 simp -implicitDefEqProofs [go_sem,eC (aqF _)]
 rfl
@[go_sem] theorem aqG{ks:J (J UInt8)}{s:J UInt8}:rQ P 183 (.sset ks) (.str s) false=some (.d (.bool (ks.contains s))):=by
 grind [ew,eqK,t9,rQ,acp,Mh,ze4]
theorem Qb(l:J (J UInt8×Bool)):Ax (jw eS eB l)=some (l.map (·.1)):=by
 induction l with
 |nil=>rfl
 |cons a l b=>
  grind [Ax,jw]
attribute [go_sem] Qb
@[go_sem] theorem avt{a all:Nat}{W:J Nat}{env:J (Nat×SV)}{ct:J ((Nat×Nat)×T)}{H:J Ob}{q o:Nat}{es:J (D×T)}{ks:J (J UInt8)}(h1:St.get ⟨env,ct,H⟩ a=.d (.map q))(h2:St.get ⟨env,ct,H⟩ all=.d (.map o))(h3:H[q]? =some (.map es))(h4:H[o]? =some (.sset ks)):
  Mm P ⟨a,all,183,183,W⟩ ⟨env,ct,H⟩=(Ax es).bind λl=>some (.normal,⟨env.filter λe=> !W.contains e.1,ct,H.set o (.sset (l++ks))⟩):=by
 simp only[Mm,h1,h2,h3,h4,acp,Ar,xS,t9.2.2.2.2.1,and_self,if_true,xF];rfl
def tkn(ns:J (J UInt8)):J (J UInt8×Bool):=ns.foldl (λl x=>kS l x true) []
theorem YR(l:J (J UInt8×Bool))(x y:J UInt8):kC false (kS l x true) y=if y=x then true else kC false l y:=by
 unfold kC
 induction l with
 |nil=>grind [kS,Km]
 |cons a l b=>
  grind [kS,Km]
theorem vD(ns:J (J UInt8))(y:J UInt8):kC false (tkn ns) y=decide (y∈ns):=by
 unfold tkn
 have b:∀(ns:J (J UInt8)) (l:J (J UInt8×Bool)),kC false (ns.foldl (λl x=>kS l x true) l) y=(kC false l y || decide (y∈ns)):=by
  intro ns
  induction ns with
  |nil=>simp
  |cons a ns c=>
   grind [YR]
 grind [kC,Km]
theorem YS(l:J (J UInt8×Bool))(x:J UInt8)(v:Bool)(y:J UInt8):y∈(kS l x v).map (·.1)↔y=x\/y∈l.map (·.1):=by
 induction l with
 |nil=>simp[kS]
 |cons a l b=>
  grind [kS]
theorem YT(ns:J (J UInt8))(y:J UInt8):y∈(tkn ns).map (·.1)↔y∈ns:=by
 unfold tkn
 have b:∀(ns:J (J UInt8)) (l:J (J UInt8×Bool)),y∈(ns.foldl (λl x=>kS l x true) l).map (·.1)↔y∈l.map (·.1)\/y∈ns:=by
  intro ns
  induction ns with
  |nil=>simp
  |cons a ns c=>
   grind [YS]
 grind
theorem vE(ns:J (J UInt8))(x:J UInt8):kS (tkn ns) x true=tkn (ns++[x]):=by simp[tkn]
theorem X_:tkn []=[]:=rfl
section
attribute [-simp] List.map_append List.map_take List.map_drop List.map_set
theorem Qc{ρ:Type}{l:J aF}(h:l.length<=1048576)(g:J aF->U ρ):fL l g=g l:=by
 grind [fL,fK]
theorem Qd{ρ:Type}{l:J aB}(h:l.length<=1048576)(g:J aB->U ρ):gq l g=g l:=by
 grind [gq,gp]
theorem afX{ρ:Type}{l:J aD}(h:l.length<=1048576)(g:J aD->U ρ):fJ l g=g l:=by
 grind [fJ,fI]
theorem afY{ρ:Type}{l:J aw}(h:l.length<=1048576)(g:J aw->U ρ):ft l g=g l:=by
 grind [ft,fq]
def SI(β:Bool)(O:J T)(C:T)(cs:J aK)(j:Int)(a:J aP)(i:Int)(b:J aP):St:=
 ⟨[(3,.aG (.l 3 0) [] 0 O.length),(5,.loc (aj.l 5 0) [] 0 0),(6,.aG (.l 6 0) [] 0 b.length),(9,.d (.sl β (List.map (fQ β) cs))),(10,.d (.int .i64 cs.length)),(11,.d (.int .i64 j)),(20,.d (.sl β (List.map (jL β) a))),(21,.d (.int .i64 a.length)),(22,.d (.int .i64 i))],[((3,0),.own O),((5,0),.own [C]),((6,0),.own (tl (jL false) b))],[]⟩
def XI(β:Bool)(O:J T)(C:T)(cs:J aK)(j:Int)(a:J aP)(b:J aP):St:=
 ⟨[(3,.aG (.l 3 0) [] 0 O.length),(5,.loc (aj.l 5 0) [] 0 0),(6,.aG (.l 6 0) [] 0 b.length),(9,.d (.sl β (List.map (fQ β) cs))),(10,.d (.int .i64 cs.length)),(11,.d (.int .i64 j)),(20,.d (.sl β (List.map (jL β) a))),(21,.d (.int .i64 a.length)),(22,.d (.int .i64 a.length)),(23,.d (.bool false))],[((3,0),.own O),((5,0),.own [C]),((6,0),.own (tl (jL false) b))],[]⟩
theorem YU{l:J aP}{a:aP}:tl (jL false) l++[T.d (D.agg [D.int .i64 a.Kind,D.int .i64 a.To,D.int .i64 a.Local,D.sl false (List.map eH a.Index),D.sl false (List.map eH a.Value)])]=tl (jL false) (l++[a]):=nh
theorem NW{l:J aK}{c:aK}:tl (fQ false) l++[T.d (D.agg [D.str c.Name,D.int .i64 c.dk,D.int .i64 c.To,D.sl false (List.map eH c.Guard),D.sl false (List.map (jL false) c.aM),D.bool c.Fair])]=tl (fQ false) (l++[c]):=nh
theorem Jy{l:J az}{c:az}:tl (dI false) l++[T.d (D.agg [D.str c.Name,D.int .i64 c.aH,D.int .i64 c.bE,D.sl false (List.map dH c.aq),D.sl false (List.map (fQ false) c.aO)])]=tl (dI false) (l++[c]):=nh
theorem X?{ρ:Type}(β:Bool)(O:J T)(C:T)(cs:J aK)(j:Int)(a:J aP)(hl:a.length<=1000000)(i:Nat)(hi:i<a.length)(h1:a[i].Index.length<=1048576)(h2:a[i].Value.length<=1048576)(b:J aP)(hd:b.length<=1000000)(R:St->U ρ)(κ:Ex×St->U ρ):
  go P hints j9 Iw Lz.1 (SI β O C cs j a i b) (kLp R κ)=R (SI β O C cs j a (i+1:Nat) (b++[a[i]])):=by
 have e:a[i]? =some a[i]:=xG hi;have k:(i:Int)<(a.length:Int):=by omega
 have l:=λg=>Qc (ρ:=ρ) h1 g
 have h:=λg=>Qc (ρ:=ρ) h2 g
 have c:IntKind.i64.wrap ((i:Int)+1)=((i+1:Nat):Int):=eM (by omega)
 have d:(b.length+1) * 72<=140737488355328:=by omega
 have f:b.length<=9223372036854775806:=by omega
 unfold SI
 cases β <;>simp -implicitDefEqProofs [go_sem,e,k,l,h,c,d,f,YU]
theorem X!{ρ:Type}(β:Bool)(O:J T)(C:T)(cs:J aK)(j:Int)(a:J aP)(b:J aP)(R:St->U ρ)(κ:Ex×St->U ρ):
  go P hints j9 Iw Lz.1 (SI β O C cs j a (a.length:Nat) b) (kLp R κ)=κ (.exit 2,XI β O C cs j a b):=by
 unfold SI XI
 cases β <;>simp -implicitDefEqProofs [go_sem]
theorem Y_{ρ:Type}(β:Bool)(O:J T)(C:T)(cs:J aK)(j:Int)(b:J aP)(hl:b.length<=1000000)(h:∀a∈b,a.Index.length<=1048576/\a.Value.length<=1048576)(κ:Ex×St->U ρ):∀(n i:Nat),b.length - i=n->i<=b.length->
  dG P hints j9 Iw 0 (SI β O C cs j b i (b.take i)) κ=κ (.exit 2,XI β O C cs j b b):=by
 intro n
 induction n with
 |zero=>
  intro i e d
  have:i=b.length:=by omega
  subst this;rw[ap Lz.2,X!,hJ]
 |succ n f=>
  intro i e d;have c:i<b.length:=by omega
  rw[ap Lz.2,X? β O C cs j b hl i c (h _ (eO c)).1 (h _ (eO c)).2 _ (by simp;omega),<-er c]
  grind
def SO(β:Bool)(O:J aK)(cs:J aK)(j:Int):St:=
 ⟨[(3,.aG (.l 3 0) [] 0 O.length),(9,.d (.sl β (List.map (fQ β) cs))),(10,.d (.int .i64 cs.length)),(11,.d (.int .i64 j))],[((3,0),.own (tl (fQ false) O))],[]⟩
def XO(β:Bool)(O:J aK)(cs:J aK):St:=
 ⟨[(3,.aG (.l 3 0) [] 0 O.length),(9,.d (.sl β (List.map (fQ β) cs))),(10,.d (.int .i64 cs.length)),(11,.d (.int .i64 cs.length)),(12,.d (.bool false))],[((3,0),.own (tl (fQ false) O))],[]⟩
structure CmdOk(c:aK):Prop where
 g:c.Guard.length<=1000
 n:c.aM.length<=1000
 a:∀a∈c.aM,a.Index.length<=1048576/\a.Value.length<=1048576
theorem YV{ρ:Type}(β:Bool)(cs:J aK)(hl:cs.length<=1000000)(i:Nat)(hi:i<cs.length)(hc:CmdOk cs[i])(O:J aK)(hd:O.length<=1000000)(R:St->U ρ)(κ:Ex×St->U ρ):
  go P hints j9 Iw LC.1 (SO β O cs i) (kLp R κ)=R (SO β (O++[cs[i]]) cs (i+1:Nat)):=by
 have f:cs[i]? =some cs[i]:=xG hi;have m:(i:Int)<(cs.length:Int):=by omega
 have h:=λg=>Qc (ρ:=ρ) (l:=cs[i].Guard) (by have:=hc.g;omega) g
 have j:IntKind.i64.wrap ((i:Int)+1)=((i+1:Nat):Int):=eM (by omega)
 have d:=λ(b:Bool) (O:J T) (C:T) κ=>Y_ (ρ:=ρ) b O C cs i cs[i].aM (by have:=hc.n;omega) (λa n=>by have:=hc.a a n;omega) κ _ 0 rfl (eD _)
 simp only[SI,XI,jr,yN,ez,iY]at d
 have e:(O.length+1) * 88<=140737488355328:=by omega
 have k:O.length<=9223372036854775806:=by omega
 unfold SO;cases β
 .have c:=d false (tl (fQ false) O)
  simp only[W5]at c
  simp -implicitDefEqProofs [go_sem,f,m,h,j,c,e,k,NW]
 .have c:=d true (tl (fQ false) O)
  simp only[W5]at c
  simp -implicitDefEqProofs [go_sem,f,m,h,j,c,e,k,NW]
theorem YW{ρ:Type}(β:Bool)(cs:J aK)(O:J aK)(R:St->U ρ)(κ:Ex×St->U ρ):
  go P hints j9 Iw LC.1 (SO β O cs (cs.length:Nat)) (kLp R κ)=κ (.exit 0,XO β O cs):=by
 unfold SO XO
 cases β <;>simp -implicitDefEqProofs [go_sem]
theorem YX{ρ:Type}(β:Bool)(cs:J aK)(hl:cs.length<=1000000)(h:∀c∈cs,CmdOk c)(κ:Ex×St->U ρ):∀(n i:Nat),cs.length - i=n->i<=cs.length->
  dG P hints j9 Iw 1 (SO β (cs.take i) cs i) κ=κ (.exit 0,XO β cs cs):=by
 intro n
 induction n with
 |zero=>
  intro i b d
  have:i=cs.length:=by omega
  subst this;rw[ap LC.2,YW,hJ]
 |succ n e=>
  intro i b d;have a:i<cs.length:=by omega
  rw[ap LC.2,YV β cs hl i a (h _ (eO a)) _ (by simp;omega),<-er a]
  grind
theorem Qe{ρ:Type}(β:Bool)(cs:J aK)(hl:cs.length<=1000000)(h:∀c∈cs,CmdOk c)(κ:KT ρ):cbK (call 201 [.sl β (List.map (fQ β) cs)] []) κ=κ ([.d (.sl false (List.map (fQ false) cs))],[]):=by
 refine(aoi _ _ _ rfl).trans ?_
 have a:=λκ=>YX (ρ:=ρ) β cs hl h κ _ 0 rfl (eD _)
 simp only[SO,XO,jr,yN,ez,iY]at a
 cases β <;>simp -implicitDefEqProofs [go_sem,a]
structure ProcOk(p:az):Prop where
 v:p.aq.length<=1000
 n:p.aO.length<=1000
 c:∀c∈p.aO,CmdOk c
def SP(β:Bool)(s:au)(i:Int)(a:J az):St:=
 ⟨[(1,.loc (.l 1 0) [] 0 0),(2,.loc (.l 2 0) [] 0 0),(3,.aG (.l 3 0) [] 0 a.length),(23,.d (.sl β (List.map (dI β) s.ak))),(24,.d (.int .i64 s.ak.length)),(25,.d (.int .i64 i))],
  [((1,0),.own [.agg [.own (tl dz s.aa),.own (tl dH s.aq),.own (tl dM s.ah),.d (.sl β (List.map (dI β) s.ak)),.own (tl dH s.bB),.d (.int .i64 s.Self)]]),((2,0),.own [.agg [.own [],.own [],.own [],.own [],.own [],.d (.int .i64 0)]]),((3,0),.own (tl (dI false) a))],[]⟩
theorem Y?{ρ:Type}(β:Bool)(s:au)(hl:s.ak.length<=1000000)(i:Nat)(hi:i<s.ak.length)(hc:ProcOk s.ak[i])(c:J az)(hd:c.length<=1000000)(R:St->U ρ)(κ:Ex×St->U ρ):
  go P hints pc T5 Lw.1 (SP β s i c) (kLp R κ)=R (SP β s (i+1:Nat) (c++[s.ak[i]])):=by
 have f:s.ak[i]? =some s.ak[i]:=xG hi;have j:(i:Int)<(s.ak.length:Int):=by omega
 have k:=λg=>Qd (ρ:=ρ) (l:=s.ak[i].aq) (by have:=hc.v;omega) g
 have d:IntKind.i64.wrap ((i:Int)+1)=((i+1:Nat):Int):=eM (by omega)
 have a:=λ(b:Bool) κ=>Qe (ρ:=ρ) b s.ak[i].aO (by have:=hc.n;omega) hc.c κ
 have e:(c.length+1) * 80<=140737488355328:=by omega
 have h:c.length<=9223372036854775806:=by omega
 unfold SP;cases β
 .simp -implicitDefEqProofs [go_sem,f,j,k,d,a,e,h,Jy]
 .simp -implicitDefEqProofs [go_sem,f,j,k,d,a,e,h,Jy]
def XP(β:Bool)(s:au)(a:J az):St:=
 ⟨[(1,.loc (.l 1 0) [] 0 0),(2,.loc (.l 2 0) [] 0 0),(3,.aG (.l 3 0) [] 0 a.length),(23,.d (.sl β (List.map (dI β) s.ak))),(24,.d (.int .i64 s.ak.length)),(25,.d (.int .i64 s.ak.length)),(26,.d (.bool false))],
  [((1,0),.own [.agg [.own (tl dz s.aa),.own (tl dH s.aq),.own (tl dM s.ah),.d (.sl β (List.map (dI β) s.ak)),.own (tl dH s.bB),.d (.int .i64 s.Self)]]),((2,0),.own [.agg [.own [],.own [],.own [],.own [],.own [],.d (.int .i64 0)]]),((3,0),.own (tl (dI false) a))],[]⟩
theorem Y!{ρ:Type}(β:Bool)(s:au)(a:J az)(R:St->U ρ)(κ:Ex×St->U ρ):
  go P hints pc T5 Lw.1 (SP β s (s.ak.length:Nat) a) (kLp R κ)=κ (.exit 0,XP β s a):=by
 unfold SP XP
 cases β <;>simp -implicitDefEqProofs [go_sem]
theorem Z_{ρ:Type}(β:Bool)(s:au)(hl:s.ak.length<=1000000)(h:∀p∈s.ak,ProcOk p)(κ:Ex×St->U ρ):∀(n i:Nat),s.ak.length - i=n->i<=s.ak.length->
  dG P hints pc T5 0 (SP β s i (s.ak.take i)) κ=κ (.exit 0,XP β s s.ak):=by
 intro n
 induction n with
 |zero=>
  intro i b c
  have:i=s.ak.length:=by omega
  subst this;rw[ap Lw.2,Y!,hJ]
 |succ n d=>
  intro i b c;have a:i<s.ak.length:=by omega
  rw[ap Lw.2,Y? β s hl i a (h _ (eO a)) _ (by simp;omega),<-er a]
  grind
structure ScOk(s:au):Prop where
 sc:s.aa.length<=1000
 v:s.aq.length<=1000
 c:s.ah.length<=1000
 l:s.bB.length<=1000
 n:s.ak.length<=1000
 p:∀p∈s.ak,ProcOk p
abbrev scD(β:Bool)(s:au):D:=.agg [.sl β (List.map dz s.aa),.sl β (List.map dH s.aq),.sl β (List.map dM s.ah),.sl β (List.map (dI β) s.ak),.sl β (List.map dH s.bB),.int .i64 s.Self]
theorem NX{ρ:Type}(β:Bool)(s:au)(h:ScOk s)(κ:KT ρ):cbK (call 177 [scD β s] []) κ=κ ([.d (scD false s)],[]):=by
 refine(anj _ _ _ rfl).trans ?_
 have a:=λκ=>Z_ (ρ:=ρ) β s (by have:=h.n;omega) h.p κ _ 0 rfl (eD _)
 simp only[SP,XP,jr,yN,ez,iY]at a
 have e:=λg=>afY (ρ:=ρ) (l:=s.aa) (by have:=h.sc;omega) g
 have d:=λg=>Qd (ρ:=ρ) (l:=s.aq) (by have:=h.v;omega) g
 have c:=λg=>afX (ρ:=ρ) (l:=s.ah) (by have:=h.c;omega) g
 have b:=λg=>Qd (ρ:=ρ) (l:=s.bB) (by have:=h.l;omega) g
 cases β
 .simp -implicitDefEqProofs [go_sem,a,e,d,c,b]
 .simp -implicitDefEqProofs [go_sem,a,e,d,c,b]
structure cC(m:ae):Prop where
 sc:m.aa.length<=1000
 v:m.aq.length<=1000
 c:m.ah.length<=1000
 n:m.ak.length<=1000
 q:m.aL.length<=1000
 p:∀p∈m.ak,ProcOk p
def eQ(m:ae)(i:Nat):au:=match m.ak[i]? with |some p=>⟨m.aa,m.aq,m.ah,m.ak,p.aq,p.aH⟩ |none=>⟨m.aa,m.aq,m.ah,m.ak,[],0⟩
theorem YY{m:ae}(h:cC m)(i:Nat):ScOk (eQ m i):=by
 unfold eQ
 cases a:m.ak[i]? with
 |none=>exact⟨h.sc,h.v,h.c,by simp,h.n,h.p⟩
 |some p=>exact⟨h.sc,h.v,h.c,(h.p p (yS a)).v,h.n,h.p⟩
abbrev moD(m:ae):D:=.agg [.sl false (List.map dz m.aa),.sl false (List.map dH m.aq),.sl false (List.map dM m.ah),.sl false (List.map (dI false) m.ak),.sl false (List.map (e9 false) m.aL)]
theorem adP:hint143.nvAt 30=1099511627776:=rfl
theorem adQ:hint143.nvAt 32=6:=rfl
theorem Z?{ρ:Type}(m:ae)(h:cC m)(i:Nat)(hi:i<m.ak.length)(κ:KT ρ):cbK (call 143 [moD m,.int .i64 i] []) κ=κ ([.d (scD false (eQ m i))],[]):=by
 refine(adg _ _ _ rfl).trans ?_
 have a:m.ak[i]? =some m.ak[i]:=xG hi;have d:(i:Int)<(m.ak.length:Int):=by omega
 have c:=λb κ=>NX (ρ:=ρ) b (eQ m i) (YY h i) κ
 simp only[eQ,a]at c
 simp only[eQ,a]
 simp -implicitDefEqProofs [go_sem,c,a,d,nz,kX,mkF,adP,adQ]
theorem YZ{ρ:Type}(m:ae)(h:cC m)(κ:KT ρ):cbK (call 143 [moD m,.int .i64 (-1)] []) κ=κ ([.d (scD false ⟨m.aa,m.aq,m.ah,m.ak,[],0⟩)],[]):=by
 refine(adg _ _ _ rfl).trans ?_
 have a:=λb κ=>NX (ρ:=ρ) b ⟨m.aa,m.aq,m.ah,m.ak,[],0⟩ ⟨h.sc,h.v,h.c,by simp,h.n,h.p⟩ κ
 simp only[scD,ir]at a
 simp -implicitDefEqProofs [go_sem,a,adP,adQ]
 rfl
end
def D4(n:Int):Bool:=decide (97<=n/\n<=122) || decide (65<=n/\n<=90)
def digB(n:Int):Bool:=decide (48<=n/\n<=57)
def iV(n:Int):Bool:=D4 n || digB n || decide (n=95)
def bI(b:UInt8):Int:=(b.toNat:Int)
def mV(nm:J UInt8):Bool:= !nm.isEmpty&&decide (nm.length<=16)&&D4 (bI (nm.headD 0))&&nm.all (λb=>iV (bI b))&& !ownL.contains nm
theorem aqH{s:J UInt8}{p:Nat}(h:p<s.length):((⟨s.toArray⟩:ByteArray).get! (p+0))=s[p]:=by
 show(s.toArray)[p]! =_
 simp[h]
theorem Z!{s:J UInt8}{p:Nat}(h:p<s.length)(hb:s[p].toNat<128):Hv s p=(s[p].toNat,1):=by
 grind [Hv,Utf8.decode,aqH]
theorem aaa{s:J UInt8}{p:Nat}(h:p<s.length)(hb:128<=s[p].toNat):128<=(Hv s p).1:=by
 grind [Hv,Utf8.decode,aqH,Utf8.runeError]
theorem Jz{s:J UInt8}{p:Nat}(h:p<s.length):iV ((Hv s p).1:Int)=iV (bI s[p])/\(iV (bI s[p])=true->(Hv s p).2=1):=by
 grind [Z!,aaa,iV,D4,digB,bI]
section
variable{ρ:Type}
theorem aab{n:Int}{g:Bool->U ρ}:sg n g=g (D4 n):=by
 grind [sg,sf,mkF,D4]
theorem aac{n:Int}{g:Bool->U ρ}:sk n g=g (D4 n):=by
 grind [sk,sj,mkF,D4]
theorem aad{n:Int}{g:Bool->U ρ}:uN n g=g (digB n):=by
 grind [uN,uM,mkF,digB]
theorem UA:List.take 4 ownL=ownL:=rfl
theorem Y0{nm:J UInt8}{g:Bool->U ρ}:(im (λ(v:Int) k=>if v<4 then if 0<=v/\v<4 then((List.take 4 ownL)[v.toNat]?).bind λy=>if y=nm then g false else k (IntKind.i64.wrap (v+1))else none else g true) 0)=g (!ownL.contains nm):=by
 refine(iterC_all 4 (λi:Nat=>(i:Int)) (λi=>match ownL[i]? with |some y=>decide (y≠nm) |none=>true) (g false) (g true) (λi k b=> ?_) (λk=> ?_)).trans ?_
 .have c:i<ownL.length:=b
  rw[if_pos (by omega),if_pos (by omega),xV,UA,xG c,xS,eM (by omega)]
  grind
 .grind
 .by_cases h:ownL.contains nm=true
  .rw[h,if_neg]
   .rfl
   .intro a
    simp only[List.contains_iff_mem]at h
    obtain⟨i,b,rfl⟩:=List.mem_iff_getElem.1 h
    have:=a i b
    grind
  grind
theorem Bv{nm:J UInt8}{p:Nat}(h:p<nm.length):(nm.drop p).all (λb=>iV (bI b))=(iV (bI nm[p])&&(nm.drop (p+1)).all λb=>iV (bI b)):=by
 grind [xW]
theorem afZ(b:UInt8):IntKind.i32.wrap ((b.toNat:Nat):Int)=(b.toNat:Int):=by
 have h:=b.toNat_lt
 revert h
 generalize b.toNat=n;intro h
 have:∀n:Fin 256,IntKind.i32.wrap ((n.val:Nat):Int)=((n.val:Nat):Int):=by decide
 exact this ⟨n,h⟩
theorem Y1{n:Int}{x y:U ρ}:(if D4 n=true then x else if 48<=n then if n<=57 then x else if n=95 then x else y else if n=95 then x else y)=if iV n=true then x else y:=by
 grind [iV,digB]
theorem lg{nm:J UInt8}{g:Bool->U ρ}:zy nm g=g (mV nm):=by
 simp only[zy,zx,mkF,aab,Y0,mV]
 by_cases d:nm=[]
 .subst d;rfl
 rw[if_neg d]
 by_cases i:16<nm.length
 .grind
 rw[if_neg (by omega)]
 have a:0<nm.length:=List.length_pos_iff.2 d;have c:nm[0]? =some nm[0]:=xG a;simp only[Y1,c,xS,afZ]
 have h:∀p:Nat,p<=nm.length->(im (λ(v:Int×Bool×Nat) k=>if v.2.2<nm.length then(if iV ((Hv nm v.2.2).1:Int)=true then k ((v.2.2:Int),false,v.2.2+(Hv nm v.2.2).2)else if v.2.2<nm.length then g false else g (!ownL.contains nm))else g (!ownL.contains nm)) ((0:Int),false,p))=if((nm.drop p).all λb=>iV (bI b))=true then g (!ownL.contains nm)else g false:=λp j=>by
  refine qy (λv:Int×Bool×Nat=>v.2.2<=nm.length) (λv=>if((nm.drop v.2.2).all λb=>iV (bI b))=true then g (!ownL.contains nm)else g false) (λv=>nm.length - v.2.2) ?_ (v:=((0:Int),false,p)) j
  grind [Jz,Bv]
 have f:nm.all (λb=>iV (bI b))=(iV (bI nm[0])&&(nm.drop 1).all λb=>iV (bI b)):=Bv (p:=0) a
 have e:nm.headD 0=nm[0]:=by cases nm with |nil=>exact absurd rfl d |cons b r=>rfl
 grind [bI,Jz]
theorem UB{nm:J UInt8}(h0:nm≠[])(B:nm.length<=16){g:Bool->U ρ}:(sr nm 0 λA z=>if z=1 then g (decide (A=(nm.length:Int)))else g false)=g (D4 (bI (nm.headD 0))&&nm.all λb=>iV (bI b)):=by
 simp only[sr,sq,mkF,aac,aad,DK,uO];have c:0<nm.length:=List.length_pos_iff.2 h0;have j:nm[(0:Int).toNat]? =some nm[0]:=xG c;have d:nm.headD 0=nm[0]:=by cases nm with |nil=>exact absurd rfl h0 |cons b r=>rfl
 have h:nm.all (λb=>iV (bI b))=(iV (bI nm[0])&&(nm.drop 1).all λb=>iV (bI b)):=Bv (p:=0) c
 have l:IntKind.i64.wrap ((0:Int)+1)=((1:Nat):Int):=eM (k:=0) (by omega)
 have u:(0:Int)<=0:=Int.le_refl _;have s:(0:Int)<(nm.length:Int):=by omega
 rw[d,h];simp only[u,s,if_true,j,xS,show¬((2:Int)=1)by decide,show¬((3:Int)=1)by decide,show¬((0:Int)=1)by decide,if_false]
 show(if D4 (bI nm[0])=true then _ else _)=_
 cases x:D4 (bI nm[0])with
 |true=>
  rw[if_pos rfl,show D4 ((nm[0].toNat:Nat):Int)=true from x,if_pos rfl,l]
  have F:iV (bI nm[0])=true:=by simp[iV,x]
  rw[F,m9,m9]
  refine(qy (λv:Int=>∃i:Nat,v=i/\i<=nm.length) (λv=>g ((nm.drop v.toNat).all λb=>iV (bI b))) (λv=>nm.length - v.toNat) ?_ (v:=((1:Nat):Int)) ⟨1,rfl,c⟩).trans rfl
  rintro v k ⟨i,rfl,w⟩ hk;have t:IntKind.i64.wrap ((i:Int) - 0)=(i:Int):=by rw[Int.sub_zero,kO (by omega) (by omega)]
  rw[xV,t]
  by_cases a:i<nm.length
  .have f:(i:Int)<(nm.length:Int):=by omega
   have m:(0:Int)<=(i:Int):=by omega
   have q:¬((i:Int)=(nm.length:Int)):=by omega
   simp only[f,m,if_true,xG a,xS,eM (show i<4611686018427387904 by omega),q,decide_false]
   have n:k ((i+1:Nat):Int)=g ((nm.drop (i+1)).all λb=>iV (bI b)):=by
    rw[hk _ ⟨i+1,rfl,a⟩ (by grind),xV]
   grind [Bv,bI,iV]
  grind
 |false=>
  rw[if_neg (by simp),Bool.false_and]
  show(if digB (bI nm[0])=true then _ else _)=_
  cases E:digB (bI nm[0])with
  |true=>
   rw[if_pos rfl,show digB ((nm[0].toNat:Nat):Int)=true from E,if_pos rfl,l]
   refine qy (λv:Int=>∃i:Nat,v=i/\i<=nm.length) (λv=>g false) (λv=>nm.length - v.toNat) ?_ (v:=((1:Nat):Int)) ⟨1,rfl,c⟩
   rintro v k ⟨i,rfl,w⟩ hk
   by_cases a:i<nm.length
   .have f:(i:Int)<(nm.length:Int):=by omega
    have m:(0:Int)<=(i:Int):=by omega
    simp only[f,m,if_true,xV,xG a,xS,eM (show i<4611686018427387904 by omega)]
    split
    .exact hk _ ⟨i+1,rfl,a⟩ (by grind)
    .rfl
   grind
  |false=>
   rw[if_neg (by simp)]
   have o:∀y∈sgL,y.length<=2:=by decide
   refine qy (λv:Int=>∃i:Nat,v=i/\i<=25) (λv=>g false) (λv=>25 - v.toNat) ?_ (v:=(0:Int)) ⟨0,rfl,by omega⟩
   rintro v k ⟨i,rfl,w⟩ hk
   by_cases a:i<25
   .have e:i<sgL.length:=a
    have f:(i:Int)<25:=by omega
    have m:(0:Int)<=(i:Int):=by omega
    have G:=o sgL[i] (eO e);have C:IntKind.i64.wrap ((nm.length:Int) - 0)=(nm.length:Int):=by rw[Int.sub_zero,kO (by omega) (by omega)]
    have D:IntKind.i64.wrap (0+(sgL[i].length:Int))=(sgL[i].length:Int):=by rw[Int.zero_add,kO (by omega) (by omega)]
    have q:(0:Int)<=(sgL[i].length:Int):=by omega
    simp only[f,m,if_true,xV,xG e,xS,eM (show i<4611686018427387904 by omega),C,D,q]
    have n:=hk ((i+1:Nat):Int) ⟨i+1,rfl,a⟩ (by grind)
    grind
   grind
theorem nJ{nm:J UInt8}{g:Bool->U ρ}:zA nm g=g (mV nm):=by
 simp only[zA,zz,mkF,mV]
 by_cases a:nm=[]
 .subst a;rfl
 rw[if_neg a]
 by_cases f:16<nm.length
 .grind
 rw[if_neg (by omega)]
 by_cases d:nm=[115,101,108,102]
 .subst d;rfl
 by_cases e:nm=[110,111,110,101]
 .subst e;rfl
 by_cases c:nm=[108,101,110]
 .subst c;rfl
 by_cases b:nm=[97,116]
 .subst b;rfl
 rw[if_neg d,if_neg e,if_neg c,if_neg b,UB a (by omega)]
 grind [ownL]
end
def dN(n:Nat)(f:Nat->Int):U (Nat×Int):=(List.range n).findSome? λi=>if f i=0 then none else some (i,f i)
theorem UC{ρ:Type}{f:Nat->Int}{g:Nat->Int->U ρ}{b:U ρ}(N:Nat):((List.range N).findSome? λi=>if f i=0 then none else some (g i (f i))).getD b=(dN N f).elim b λp=>g p.1 p.2:=by
 unfold dN;generalize List.range N=l
 induction l with
 |nil=>rfl
 |cons a l c=>
  grind
theorem fo{N:Nat}{f:Nat->Int}{i:Nat}{e:Int}(h:dN N f=some (i,e)):i<N/\f i=e/\e≠0/\∀k,k<i->f k=0:=by
 unfold dN at h
 induction N with
 |zero=>simp at h
 |succ N b=>
  rw[List.range_succ,List.findSome?_append]at h
  cases a:(List.range N).findSome? λi=>if f i=0 then none else some (i,f i)with
  |some p=>
   grind
  |none=>
   grind
theorem gV{N:Nat}{f:Nat->Int}(h:dN N f=none):∀k,k<N->f k=0:=λk hk=>by
 have:=List.findSome?_eq_none_iff.1 h k (List.mem_range.2 hk)
 by_cases a:f k=0
 .exact a
 grind
theorem mB{N:Nat}{f:Nat->Int}{i:Nat}(hi:i<N)(h0:f i≠0)(h:∀k,k<i->f k=0):dN N f=some (i,f i):=by
 cases g:dN N f with
 |none=>grind [gV]
 |some p=>
  obtain⟨j,e⟩:=p;obtain⟨a,b,c,d⟩:=fo g
  obtain q |q |q:=Nat.lt_trichotomy i j
  .grind
  .subst q;rw[b]
  grind
theorem iW{N:Nat}{f:Nat->Int}(h:∀k,k<N->f k=0):dN N f=none:=by
 grind [dN]
abbrev Nm:=J UInt8
def qI(most:Nat)(b:J Nm)(a:Nat->Int)(i:Nat):Int:=
 if most<=i then 11 else match b[i]? with
 |some x=>if mV x=false then 6 else if x∈b.take i then 7 else a i
 |none=>0
def iI(s:J aw)(k:Int):Int:=
 if 1<=k then match s[(k - 1).toNat]? with |some x=>if 1<=x.cS/\x.cS<=4 then x.cS else 0 |none=>0 else 0
def lI(s:J aw)(k:Int):Bool:=decide (k=0) || decide (iI s k≠0)
def pq(lo hi:Int):Bool:=decide (-1048576<=lo/\lo<=hi/\hi<=1048576/\hi - lo<256)
def JA(x:aw):Int:=if 1<=x.cS/\x.cS<=4 then 0 else 10
def Bw(s:J aw)(v:aB):Int:=
 if(lI s v.aC&&lI s v.aH)=false then 8
 else if v.aC=0 then(if pq v.Lo v.Hi=true/\v.Lo<=v.Init/\v.Init<=v.Hi then 0 else 10)
 else(if 0<=v.Init/\v.Init<=iI s v.aC then 0 else 10)
def tO(s:J aw)(c:aD):Int:=
 if lI s c.aC=false then 8 else if 1<=c.bm/\c.bm<=4/\(c.aC=0->pq c.Lo c.Hi=true)then 0 else 10
def eX{a:Type}(l:J a)(f:a->Int)(i:Nat):Int:=match l[i]? with |some x=>f x |none=>0
def qJ(l:J aw):U (Nat×Int):=dN l.length (qI 2 (l.map (·.Name)) (eX l JA))
def tP(l:J aB)(s:J aw)(most:Nat):Nat->Int:=qI most (l.map (·.Name)) (eX l (Bw s))
def qK(l:J aB)(s:J aw)(most:Nat):U (Nat×Int):=dN l.length (tP l s most)
def mW(l:J aD)(s:J aw):Nat->Int:=qI 4 (l.map (·.Name)) (eX l (tO s))
def sW(l:J aD)(s:J aw):U (Nat×Int):=dN l.length (mW l s)
def atE{ρ:Type}(o:U (Nat×Int))(g:Int->Int->U ρ):U ρ:=o.elim (g 0 0) λp=>g p.1 p.2
def iZ(e:J aF)(k:Int)(s:au):Int:=if(kZ e s).2=0 then(if(kZ e s).1=k then 0 else 9)else(kZ e s).2
def vF(n:Int)(s:au):U aD:=if 0<=n then(s.ah[n.toNat]?).bind λc=>if oI c.aC s=true then some c else none else none
def D5(a:aP)(s:au):Int:=
 if a.Kind=1\/a.Kind=2\/a.Kind=3 then
  match iU (if a.Kind=3 then s.bB else s.aq) a.To s with
  |none=>8
  |some v=>
   if a.Kind=2 then(if v.aH=0 then 9 else if iZ a.Index (w64 (1+v.aH)) s=0 then iZ a.Value (kOf v.aC) s else iZ a.Index (w64 (1+v.aH)) s)
   else(if v.aH=0 then iZ a.Value (kOf v.aC) s else 9)
 else if a.Kind=4\/a.Kind=5 then
  match vF a.To s with
  |none=>8
  |some c=>
   if a.Kind=5 then(match iU s.bB a.Local s with |none=>8 |some v=>if v.aH=0/\kOf v.aC=kOf c.aC then 0 else 9)
   else iZ a.Value (kOf c.aC) s
 else 3
def talksP(a:aP):Bool:=decide (a.Kind=4) || decide (a.Kind=5)
def DQ(c:aK)(p:az):Int:=
 if mV c.Name=false then 6 else if 0<=c.dk/\c.dk<p.bE/\0<=c.To/\c.To<p.bE then(if 6<c.aM.length then 11 else 0)else 10
def lw(l:J aP)(s:au)(i:Nat):Int:=match l[i]? with |some a=>if talksP a=true/\(l.take i).any talksP=true then 7 else D5 a s |none=>0
def Ac(c:aK)(p:az)(s:au):Int×Int:=
 if DQ c p≠0 then(0,DQ c p)
 else if 0<c.Guard.length/\iZ c.Guard 1 s≠0 then(1,iZ c.Guard 1 s)
 else(dN c.aM.length (lw c.aM s)).elim (0,0) λq=>(2+q.1,q.2)
def vG(p:az)(s:au):Int:=
 if mV p.Name=false then 6 else if p.aH<0\/(s.aa.length:Int)<p.aH then 8 else if p.bE<1\/12<p.bE then 10 else if 12<p.aO.length then 11 else 0
def iE(s:au)(v:aB):Int:=if v.aH≠0 then 9 else if v.Name∈s.aq.map (·.Name)then 7 else 0
def pu(p:az)(s:au):U (Nat×Int):=(qK p.aq s.aa 4).or (dN p.aq.length (eX p.aq (iE s)))
def innerP(p:az)(s:au):au:={s with bB:=p.aq,Self:=p.aH}
def iJ(p:az)(s:au)(i:Nat):Int×Int:=match p.aO[i]? with |some c=>if(Ac c p s).2≠0 then Ac c p s else if c.Name∈(p.aO.take i).map (·.Name)then(0,7)else(0,0) |none=>(0,0)
def jh(p:az)(s:au):Int×Int×Int:=
 if vG p s≠0 then(0,0,vG p s)
 else match pu p s with
 |some q=>(1,q.1,q.2)
 |none=>(dN p.aO.length λi=>(iJ p (innerP p s) i).2).elim (0,0,0) λq=>(2+q.1,(iJ p (innerP p s) q.1).1,q.2)
abbrev Flt:=Int×Int×Int×Int
def eT(m:ae)(p:az):Int:=if p.aH=0 then 1 else iI m.aa p.aH
def dO(m:ae)(v:aB):Int:=if v.aH=0 then 1 else iI m.aa v.aH
def sX(c:aD):Int:=1+min (max c.bm 0) 4
def gQ{a:Type}(f:a->Int)(l:J a):Int:=l.foldl (λn x=>n+f x) 0
def vH(m:ae):Int:=gQ (eT m) m.ak
def vI(m:ae):Int:=gQ (dO m) m.aq+gQ sX m.ah+gQ (λp=>eT m p * (1+(p.aq.length:Int))) m.ak
def sN(m:ae):J Nm:=m.aa.map (·.Name)
def vN(m:ae):J Nm:=m.aq.map (·.Name)
def cN(m:ae):J Nm:=m.ah.map (·.Name)
def pN(m:ae):J Nm:=m.ak.map (·.Name)
def qN(m:ae):J Nm:=m.aL.map (·.Name)
def orF(n:Nat)(f:Nat->Flt):U Flt:=(List.range n).findSome? λi=>if(f i).1=0 then none else some (f i)
def twF(e:Int)(x:Nm)(l:J Nm):Int:=if e≠0 then e else if x∈l then 7 else 0
def gvF(m:ae)(i:Nat):Flt:=(twF (tP m.aq m.aa 12 i) ((vN m).getD i []) (sN m++(vN m).take i),2,i,0)
def gcF(m:ae)(i:Nat):Flt:=(twF (mW m.ah m.aa i) ((cN m).getD i []) (sN m++vN m++(cN m).take i),3,i,0)
def vJ(m:ae):U Flt:=((qJ m.aa).map λq=>(q.2,1,(q.1:Int),0)).or ((orF m.aq.length (gvF m)).or (orF m.ah.length (gcF m)))
def aae(m:ae)(p:az):U (Nat×Int):=dN p.aq.length (eX p.aq λv=>if v.Name∈sN m++vN m++cN m++pN m then 7 else 0)
def gpF(m:ae)(i:Nat):Flt:=match m.ak[i]? with
 |none=>(0,0,0,0)
 |some p=>if 6<=i then(11,4,i,0)else
  let r:=jh p (eQ m i)
  if r.2.2≠0 then(r.2.2,4,i,IntKind.i64.wrap (IntKind.i64.wrap (16 * r.1)+r.2.1))
  else if p.Name∈sN m++vN m++cN m++(pN m).take i then(7,4,i,0)
  else(aae m p).elim (0,0,0,0) λq=>(7,4,i,16+q.1)
def Ad(m:ae):U Flt:=(orF m.ak.length (gpF m)).or (if 12<vH m\/64<vI m then some (11,4,m.ak.length,0)else none)
def ot(m:ae)(i:Nat):Int:=match m.aL[i]? with
 |none=>0
 |some p=>if 8<=i then 11 else if mV p.Name=false then 6 else if p.Name∈sN m++vN m++cN m++pN m++(qN m).take i then 7 else
  let k:=kZ p.Expr ⟨m.aa,m.aq,m.ah,m.ak,[],0⟩
  if k.2≠0 then k.2 else if k.1≠1 then 9 else 0
def sY(m:ae):U Flt:=orF m.aL.length λi=>(ot m i,5,i,0)
def ij(m:ae):U Flt:=(vJ m).or ((Ad m).or (sY m))
section
attribute [-simp] List.map_append List.map_take List.map_drop List.map_set
def okE(e:J aF):Prop:=∀x∈e,x.N<=9223372036854775807
theorem LM{ρ:Type}(e:J aF)(k:Int)(s:au)(a:s.aa.length<=1000)(b:okE e)(κ:KT ρ):
  cbK (call 195 [.sl false (List.map eH e),.int .i64 k,scD false s] []) κ=κ ([.d (.int .i64 (iZ e k s))],[]):=by
 refine(an2 _ _ _ rfl).trans ?_
 have hk:=λκ=>Rq (ρ:=ρ) false e s a b κ
 unfold iZ
 simp -implicitDefEqProofs [go_sem,hk]
 grind
section
variable{ρ:Type}
theorem aaf{a:Int}{s:au}(h:a<0\/(s.aa.length:Int)<a):oI a s=false:=by
 grind [oI]
theorem Y2{a:Int}{s:au}(h0:¬a<0)(h1:¬(s.aa.length:Int)<a):oI a s=true:=by
 grind [oI]
theorem NY{a b:Int}{s:au}{g:Int->Bool->U ρ}:uZ a b s g=if(oI a s&&oI b s)=true then g (kOf a) true else g 0 false:=by
 grind [uZ,uY,mkF,aaf,Y2,kOf]
theorem pw{l:J aB}{n:Int}{s:au}{g:J UInt8->Int->Int->Int->Int->Int->Int->Bool->U ρ}{e:U ρ}(i:∀a b c d f h k,g a b c d f h k false=e):oc l n s g=match iU l n s with |some v=>g v.Name v.aC v.aH v.Lo v.Hi v.Init (kOf v.aC) true |none=>e:=by
 grind [oc,oa,mkF,NY,iU]
theorem HE{n:Int}{s:au}{g:Int->Bool->U ρ}{e:U ρ}(a:∀k,g k false=e):pT n s g=match vF n s with |some c=>g (kOf c.aC) true |none=>e:=by
 grind [pT,pS,mkF,NY,vF,oI]
theorem NZ{a:aP}{k:Int}{s:au}{g:Int->U ρ}:oe a k s g=g (match iU s.bB a.Local s with |none=>8 |some v=>if v.aH=0/\kOf v.aC=k then 0 else 9):=by
 simp only[oe,od,mkF];rw[pw (e:=g 8) (λ_ _ _ _ _ _ _=>by simp)]
 grind
theorem wD{c:aK}{p:az}{g:Int->U ρ}:zC c p g=g (DQ c p):=by
 simp only[zC,zB,mkF,lg,DQ]
 cases mV c.Name
 .simp
 by_cases a:c.dk<0
 .grind
 by_cases b:p.bE<=c.dk
 .grind
 by_cases d:c.To<0
 .grind
 by_cases h3:p.bE<=c.To
 .grind
 grind
end
structure ActE(a:aP):Prop where
 i:okE a.Index
 v:okE a.Value
theorem aqI{ρ:Type}(x:Int)(a:aP)(s:au)(c:s.aa.length<=1000)(ha:ActE a)(k:Int)(κ:KT ρ):
  cbK (call 222 [.int .i64 k,.ptr 0,.ptr 1] [.box (.d (.agg [.int .i64 x,.int .i64 a.To,.int .i64 a.Local,.sl false (List.map eH a.Index),.sl false (List.map eH a.Value)])),.box (.d (scD false s))]) κ=
   κ ([.d (.int .i64 (iZ a.Value k s))],[.box (.d (.agg [.int .i64 x,.int .i64 a.To,.int .i64 a.Local,.sl false (List.map eH a.Index),.sl false (List.map eH a.Value)])),.box (.d (scD false s))]):=by
 refine(ape _ _ _ rfl).trans ?_
 have b:=λk κ=>LM (ρ:=ρ) a.Value k s c ha.v κ
 simp -implicitDefEqProofs [go_sem,b]
theorem aqJ{ρ:Type}(a:aP)(s:au)(f:s.aa.length<=1000)(ha:ActE a)(κ:KT ρ):
  cbK (call 196 [.agg [.int .i64 a.Kind,.int .i64 a.To,.int .i64 a.Local,.sl false (List.map eH a.Index),.sl false (List.map eH a.Value)],scD false s] []) κ=κ ([.d (.int .i64 (D5 a s))],[]):=by
 refine(an5 _ _ _ rfl).trans ?_
 have b:=λk κ=>LM (ρ:=ρ) a.Index k s f ha.i κ
 have c:=λx k κ=>aqI (ρ:=ρ) x a s f ha k κ
 unfold D5
 by_cases j:a.Kind=3
 .simp -implicitDefEqProofs [go_sem,b,c,j]
  rw[pw (e:=κ ([.d (.int .i64 8)],[])) (λ_ _ _ _ _ _ _=>by simp)]
  grind
 by_cases g:a.Kind=1
 .simp -implicitDefEqProofs [go_sem,b,c,g]
  rw[pw (e:=κ ([.d (.int .i64 8)],[])) (λ_ _ _ _ _ _ _=>by simp)]
  grind
 by_cases h:a.Kind=2
 .simp -implicitDefEqProofs [go_sem,b,c,h]
  rw[pw (e:=κ ([.d (.int .i64 8)],[])) (λ_ _ _ _ _ _ _=>by simp)]
  grind
 by_cases d:a.Kind=4
 .simp -implicitDefEqProofs [go_sem,b,c,d]
  rw[HE (e:=κ ([.d (.int .i64 8)],[])) (λ_=>by simp)]
  grind
 by_cases i:a.Kind=5
 .simp -implicitDefEqProofs [go_sem,b,c,i]
  rw[HE (e:=κ ([.d (.int .i64 8)],[])) (λ_=>by simp)]
  grind [NZ]
 simp -implicitDefEqProofs [go_sem,b,c,g,h,j,d,i]
abbrev cmD(c:aK):D:=.agg [.str c.Name,.int .i64 c.dk,.int .i64 c.To,.sl false (List.map eH c.Guard),.sl false (List.map (jL false) c.aM),.bool c.Fair]
abbrev prD(p:az):D:=.agg [.str p.Name,.int .i64 p.aH,.int .i64 p.bE,.sl false (List.map dH p.aq),.sl false (List.map (fQ false) p.aO)]
structure CmdE(c:aK):Prop where
 g:okE c.Guard
 a:∀a∈c.aM,ActE a
theorem N3{ρ:Type}{a:aP}{g:Bool->U ρ}:uX a g=g (talksP a):=by
 grind [uX,uW,mkF,talksP]
def SC(s:au)(a:J aP)(b:Bool)(i:Int):St:=
 ⟨[(5,.loc (.l 5 0) [] 0 0),(10,.d (.bool b)),(32,.d (.sl false (List.map (jL false) a))),(33,.d (.int .i64 a.length)),(34,.d (.int .i64 i))],[((5,0),.own [.d (scD false s)])],[]⟩
def XC(s:au)(a:J aP)(b:Bool):St:=
 ⟨[(5,.loc (.l 5 0) [] 0 0),(10,.d (.bool b)),(32,.d (.sl false (List.map (jL false) a))),(33,.d (.int .i64 a.length)),(34,.d (.int .i64 a.length)),(35,.d (.bool false))],[((5,0),.own [.d (scD false s)])],[]⟩
def RC(a e:Int):St:=⟨[(6,.d (.int .i64 a)),(7,.d (.int .i64 e))],[],[]⟩
theorem aag{ρ:Type}(s:au)(e:s.aa.length<=1000)(a:J aP)(hl:a.length<=1000)(i:Nat)(hi:i<a.length)(ha:ActE a[i])(R:St->U ρ)(κ:Ex×St->U ρ):
  go P hints pb T4 Lv.1 (SC s a ((a.take i).any talksP) i) (kLp R κ)=if lw a s i=0 then R (SC s a ((a.take (i+1)).any talksP) (i+1:Nat))else κ (.ret,RC (2+i) (lw a s i)):=by
 have c:a[i]? =some a[i]:=xG hi;have h:(i:Int)<(a.length:Int):=by omega
 have d:IntKind.i64.wrap ((i:Int)+1)=((i+1:Nat):Int):=eM (by omega)
 have f:IntKind.i64.wrap (2+(i:Int))=2+(i:Int):=dC (by omega) (by omega)
 have hk:=λκ=>aqJ (ρ:=ρ) a[i] s e ha κ
 have t1:(a.take (i+1)).any talksP=((a.take i).any talksP || talksP a[i]):=by rw[er hi,List.any_append];simp
 unfold SC RC lw;rw[c,t1]
 simp only
 generalize (a.take i).any talksP=b
 cases b <;>cases g:talksP a[i]
 all_goals
  simp -implicitDefEqProofs [go_sem,c,h,d,f,hk,N3,g]
theorem aah{ρ:Type}(s:au)(a:J aP)(b:Bool)(R:St->U ρ)(κ:Ex×St->U ρ):
  go P hints pb T4 Lv.1 (SC s a b (a.length:Nat)) (kLp R κ)=κ (.exit 0,XC s a b):=by
 unfold SC XC
 simp -implicitDefEqProofs [go_sem]
theorem aai{ρ:Type}(s:au)(f:s.aa.length<=1000)(b:J aP)(hl:b.length<=1000)(ha:∀a∈b,ActE a)(κ:Ex×St->U ρ):∀(n i:Nat),b.length - i=n->i<=b.length->(∀k,k<i->lw b s k=0)->
  dG P hints pb T4 0 (SC s b ((b.take i).any talksP) i) κ=(dN b.length (lw b s)).elim (κ (.exit 0,XC s b (b.any talksP))) λq=>κ (.ret,RC (2+q.1) q.2):=by
 intro n
 induction n with
 |zero=>
  intro i g j d
  have:i=b.length:=by omega
  subst this;rw[ap Lv.2,aah,hJ,iW d];rfl
 |succ n h=>
  intro i g j d;have c:i<b.length:=by omega
  rw[ap Lv.2,aag s f b hl i c (ha _ (eO c))]
  by_cases e:lw b s i=0
  .rw[if_pos e]
   exact h (i+1) (by omega) (by omega) λk hk=>by
    grind
  .rw[if_neg e,mB c e d];rfl
theorem aqK{ρ:Type}(c:aK)(p:az)(s:au)(g:s.aa.length<=1000)(hc:CmdE c)(hn:c.aM.length<=1000)(κ:KT ρ):
  cbK (call 174 [cmD c,prD p,scD false s] []) κ=κ ([.d (.int .i64 (Ac c p s).1),.d (.int .i64 (Ac c p s).2)],[]):=by
 refine(ana _ _ _ rfl).trans ?_
 have hk:=λκ=>LM (ρ:=ρ) c.Guard 1 s g hc.g κ
 have d:=λκ=>aai (ρ:=ρ) s g c.aM hn hc.a κ _ 0 rfl (eD _) (λk hk=>by omega)
 simp only[SC,XC,RC,jr,List.any_nil,ez]at d
 unfold Ac
 by_cases a:DQ c p=0
 .by_cases b:0<c.Guard.length
  .by_cases f:iZ c.Guard 1 s=0
   .cases e:dN c.aM.length (lw c.aM s)with
    |none=>simp -implicitDefEqProofs [go_sem,hk,d,wD,a,b,f,e]
    |some q=>simp -implicitDefEqProofs [go_sem,hk,d,wD,a,b,f,e]
   .simp -implicitDefEqProofs [go_sem,hk,wD,a,b,f]
  .cases e:dN c.aM.length (lw c.aM s)with
    |none=>simp -implicitDefEqProofs [go_sem,hk,d,wD,a,b,e]
    |some q=>simp -implicitDefEqProofs [go_sem,hk,d,wD,a,b,e]
 .simp -implicitDefEqProofs [go_sem,hk,wD,a]
theorem aaj{ρ:Type}(x v:aB)(H:J Ob)(n:Nat)(a:H[n]? =some (.box (.d (dH v))))(κ:KT ρ):
  cbK (call 193 [dH x,.ptr n] H) κ=κ ([.d (.bool (decide (x.Name=v.Name)))],H):=by
 refine(anW _ _ _ rfl).trans ?_
 simp -implicitDefEqProofs [go_sem,a]
theorem aak{ρ:Type}(x v:aK)(H:J Ob)(n:Nat)(a:H[n]? =some (.box (.d (fQ false v))))(κ:KT ρ):
  cbK (call 176 [fQ false x,.ptr n] H) κ=κ ([.d (.bool (decide (x.Name=v.Name)))],H):=by
 refine(anh _ _ _ rfl).trans ?_
 simp -implicitDefEqProofs [go_sem,a]
def hvS(l:J aB)(n:Nat)(H:J Ob)(i:Int):St:=⟨[(0,.d (.sl false (List.map dH l))),(1,.d (.fn (.func 193) [] [.ptr n])),(7,.d (.int .i64 l.length)),(8,.d (.int .i64 i))],[],H⟩
def hvX(l:J aB)(n:Nat)(H:J Ob):St:=⟨[(0,.d (.sl false (List.map dH l))),(1,.d (.fn (.func 193) [] [.ptr n])),(7,.d (.int .i64 l.length)),(8,.d (.int .i64 l.length)),(9,.d (.bool false))],[],H⟩
def hvF(l:J aB)(x:Nm)(i:Nat):Int:=eX l (λy=>if y.Name=x then 1 else 0) i
theorem aal{ρ:Type}(l:J aB)(hl:l.length<=1000)(v:aB)(H:J Ob)(n:Nat)(f:H[n]? =some (.box (.d (dH v))))(i:Nat)(hi:i<l.length)(R:St->U ρ)(κ:Ex×St->U ρ):
  go P hints pf T7 LG.1 (hvS l n H i) (kLp R κ)=if hvF l v.Name i=0 then R (hvS l n H (i+1:Nat))else κ (.ret,⟨[(4,.d (.int .i64 i))],[],H⟩):=by
 have c:l[i]? =some l[i]:=xG hi;have e:(i:Int)<(l.length:Int):=by omega
 have d:IntKind.i64.wrap ((i:Int)+1)=((i+1:Nat):Int):=eM (by omega)
 have a:=λκ=>aaj (ρ:=ρ) l[i] v H n f κ
 simp only[dH,eS,eI,eB,nT,Jt]at a
 unfold hvS hvF eX;rw[c]
 by_cases b:l[i].Name=v.Name
 .simp only[decide_eq_true b]at a
  rw[if_neg (by simp[b])]
  simp -implicitDefEqProofs [go_sem,c,e,d,a]
 .simp only[decide_eq_false b]at a
  rw[if_pos (by simp[b])]
  simp -implicitDefEqProofs [go_sem,c,e,d,a]
theorem aam{ρ:Type}(l:J aB)(n:Nat)(H:J Ob)(R:St->U ρ)(κ:Ex×St->U ρ):
  go P hints pf T7 LG.1 (hvS l n H (l.length:Nat)) (kLp R κ)=κ (.exit 0,hvX l n H):=by
 unfold hvS hvX
 simp -implicitDefEqProofs [go_sem]
theorem aan{ρ:Type}(l:J aB)(hl:l.length<=1000)(v:aB)(H:J Ob)(n:Nat)(d:H[n]? =some (.box (.d (dH v))))(κ:Ex×St->U ρ):∀(m i:Nat),l.length - i=m->i<=l.length->(∀k,k<i->hvF l v.Name k=0)->
  dG P hints pf T7 0 (hvS l n H i) κ=(dN l.length (hvF l v.Name)).elim (κ (.exit 0,hvX l n H)) λq=>κ (.ret,⟨[(4,.d (.int .i64 q.1))],[],H⟩):=by
 intro m
 induction m with
 |zero=>
  intro i e g b
  have:i=l.length:=by omega
  subst this;rw[ap LG.2,aam,iW b];rfl
 |succ m f=>
  intro i e g b;have a:i<l.length:=by omega
  rw[ap LG.2,aal l hl v H n d i a]
  by_cases c:hvF l v.Name i=0
  .rw[if_pos c]
   exact f (i+1) (by omega) (by omega) λk hk=>by
    grind
  .rw[if_neg c,mB a c b];rfl
theorem aqL(l:J aB)(x:Nm):dN l.length (hvF l x)=none↔x∉l.map (·.Name):=by
 grind [List.mem_iff_getElem,gV,hvF,eX,iW]
theorem avu{ρ:Type}(l:J aB)(hl:l.length<=1000)(v:aB)(H:J Ob)(n:Nat)(c:H[n]? =some (.box (.d (dH v))))(κ:KT ρ):
  cbK (call 220 [.sl false (List.map dH l),.fn (.func 193) [] [.ptr n]] H) κ=κ ([.d (.int .i64 ((dN l.length (hvF l v.Name)).elim (-1) λq=>(q.1:Int)))],H):=by
 refine(ao8 _ _ _ rfl).trans ?_
 have a:=λκ=>aan (ρ:=ρ) l hl v H n c κ _ 0 rfl (eD _) (λk hk=>by omega)
 simp only[hvS,hvX,ez]at a
 cases b:dN l.length (hvF l v.Name)with
 |none=>simp -implicitDefEqProofs [go_sem,a,b]
 |some q=>simp -implicitDefEqProofs [go_sem,a,b]
theorem af0{ρ:Type}(l:J aB)(hl:l.length<=1000)(v:aB)(H:J Ob)(n:Nat)(d:H[n]? =some (.box (.d (dH v))))(κ:KT ρ):
  cbK (call 192 [.sl false (List.map dH l),.fn (.func 193) [] [.ptr n]] H) κ=κ ([.d (.bool (decide (v.Name∈l.map (·.Name))))],H):=by
 refine(anT _ _ _ rfl).trans ?_
 have a:=λκ=>avu (ρ:=ρ) l hl v H n d κ
 have b:=aqL l v.Name
 cases c:dN l.length (hvF l v.Name)with
 |none=>
  have:v.Name∉l.map (·.Name):=b.1 c
  rw[decide_eq_false this];simp only[c]at a
  simp -implicitDefEqProofs [go_sem,a]
 |some q=>
  have:v.Name∈l.map (·.Name):=oL λh=>by grind
  rw[decide_eq_true this];simp only[c]at a
  simp -implicitDefEqProofs [go_sem,a]
def hcS(l:J aK)(n:Nat)(H:J Ob)(i:Int):St:=⟨[(0,.d (.sl false (List.map (fQ false) l))),(1,.d (.fn (.func 176) [] [.ptr n])),(7,.d (.int .i64 l.length)),(8,.d (.int .i64 i))],[],H⟩
def hcX(l:J aK)(n:Nat)(H:J Ob):St:=⟨[(0,.d (.sl false (List.map (fQ false) l))),(1,.d (.fn (.func 176) [] [.ptr n])),(7,.d (.int .i64 l.length)),(8,.d (.int .i64 l.length)),(9,.d (.bool false))],[],H⟩
def hcF(l:J aK)(x:Nm)(i:Nat):Int:=eX l (λy=>if y.Name=x then 1 else 0) i
theorem aao{ρ:Type}(l:J aK)(hl:l.length<=1000)(v:aK)(H:J Ob)(n:Nat)(f:H[n]? =some (.box (.d (fQ false v))))(i:Nat)(hi:i<l.length)(R:St->U ρ)(κ:Ex×St->U ρ):
  go P hints pd T6 Ly.1 (hcS l n H i) (kLp R κ)=if hcF l v.Name i=0 then R (hcS l n H (i+1:Nat))else κ (.ret,⟨[(4,.d (.int .i64 i))],[],H⟩):=by
 have c:l[i]? =some l[i]:=xG hi;have e:(i:Int)<(l.length:Int):=by omega
 have d:IntKind.i64.wrap ((i:Int)+1)=((i+1:Nat):Int):=eM (by omega)
 have a:=λκ=>aak (ρ:=ρ) l[i] v H n f κ
 simp only[fQ,eS,eI,eB,nT,Jt]at a
 unfold hcS hcF eX;rw[c]
 by_cases b:l[i].Name=v.Name
 .simp only[decide_eq_true b]at a
  rw[if_neg (by simp[b])]
  simp -implicitDefEqProofs [go_sem,c,e,d,a]
 .simp only[decide_eq_false b]at a
  rw[if_pos (by simp[b])]
  simp -implicitDefEqProofs [go_sem,c,e,d,a]
theorem aap{ρ:Type}(l:J aK)(n:Nat)(H:J Ob)(R:St->U ρ)(κ:Ex×St->U ρ):
  go P hints pd T6 Ly.1 (hcS l n H (l.length:Nat)) (kLp R κ)=κ (.exit 0,hcX l n H):=by
 unfold hcS hcX
 simp -implicitDefEqProofs [go_sem]
theorem aaq{ρ:Type}(l:J aK)(hl:l.length<=1000)(v:aK)(H:J Ob)(n:Nat)(d:H[n]? =some (.box (.d (fQ false v))))(κ:Ex×St->U ρ):∀(m i:Nat),l.length - i=m->i<=l.length->(∀k,k<i->hcF l v.Name k=0)->
  dG P hints pd T6 0 (hcS l n H i) κ=(dN l.length (hcF l v.Name)).elim (κ (.exit 0,hcX l n H)) λq=>κ (.ret,⟨[(4,.d (.int .i64 q.1))],[],H⟩):=by
 intro m
 induction m with
 |zero=>
  intro i e g b
  have:i=l.length:=by omega
  subst this;rw[ap Ly.2,aap,iW b];rfl
 |succ m f=>
  intro i e g b;have a:i<l.length:=by omega
  rw[ap Ly.2,aao l hl v H n d i a]
  by_cases c:hcF l v.Name i=0
  .rw[if_pos c]
   exact f (i+1) (by omega) (by omega) λk hk=>by
    grind
  .rw[if_neg c,mB a c b];rfl
theorem aqM(l:J aK)(x:Nm):dN l.length (hcF l x)=none↔x∉l.map (·.Name):=by
 grind [List.mem_iff_getElem,gV,hcF,eX,iW]
theorem avv{ρ:Type}(l:J aK)(hl:l.length<=1000)(v:aK)(H:J Ob)(n:Nat)(c:H[n]? =some (.box (.d (fQ false v))))(κ:KT ρ):
  cbK (call 197 [.sl false (List.map (fQ false) l),.fn (.func 176) [] [.ptr n]] H) κ=κ ([.d (.int .i64 ((dN l.length (hcF l v.Name)).elim (-1) λq=>(q.1:Int)))],H):=by
 refine(an7 _ _ _ rfl).trans ?_
 have a:=λκ=>aaq (ρ:=ρ) l hl v H n c κ _ 0 rfl (eD _) (λk hk=>by omega)
 simp only[hcS,hcX,ez]at a
 cases b:dN l.length (hcF l v.Name)with
 |none=>simp -implicitDefEqProofs [go_sem,a,b]
 |some q=>simp -implicitDefEqProofs [go_sem,a,b]
theorem af1{ρ:Type}(l:J aK)(hl:l.length<=1000)(v:aK)(H:J Ob)(n:Nat)(d:H[n]? =some (.box (.d (fQ false v))))(κ:KT ρ):
  cbK (call 175 [.sl false (List.map (fQ false) l),.fn (.func 176) [] [.ptr n]] H) κ=κ ([.d (.bool (decide (v.Name∈l.map (·.Name))))],H):=by
 refine(ane _ _ _ rfl).trans ?_
 have a:=λκ=>avv (ρ:=ρ) l hl v H n d κ
 have b:=aqM l v.Name
 cases c:dN l.length (hcF l v.Name)with
 |none=>
  have:v.Name∉l.map (·.Name):=b.1 c
  rw[decide_eq_false this];simp only[c]at a
  simp -implicitDefEqProofs [go_sem,a]
 |some q=>
  have:v.Name∈l.map (·.Name):=oL λh=>by grind
  rw[decide_eq_true this];simp only[c]at a
  simp -implicitDefEqProofs [go_sem,a]
end
section
variable{ρ:Type}
theorem mC{s:J aw}{k:Int}(h:k<1\/(s.length:Int)<k):iI s k=0:=by
 unfold iI
 by_cases a:1<=k
 .rw[if_pos a,lL (by omega)]
 grind
theorem Bx{s:J aw}{k:Int}(h1:1<=k)(h2:(k - 1).toNat<s.length):iI s k=if 1<=s[(k - 1).toNat].cS/\s[(k - 1).toNat].cS<=4 then s[(k - 1).toNat].cS else 0:=by
 unfold iI;rw[if_pos h1,xG h2]
theorem LN{k:Int}{s:J aw}(e:s.length<=1000){g:Int->Bool->U ρ}:uT k s g=if iI s k=0 then g 0 false else g (iI s k) true:=by
 simp only[uT,uS,mkF]
 by_cases b:k<1
 .grind [mC]
 by_cases c:(s.length:Int)<k
 .grind [mC]
 have d:IntKind.i64.wrap (k - 1)=k - 1:=dC (by omega) (by omega)
 have a:(k - 1).toNat<s.length:=by omega
 simp only[b,c,if_false,d,show 0<=k - 1 by omega,if_true,xG a,xS,Bx (show 1<=k by omega) a]
 grind
theorem By{v:aB}{s:J aw}(a:s.length<=1000){g:Int->U ρ}:jz v s g=g (if v.aH=0 then 1 else iI s v.aH):=by
 simp only[jz,su,mkF,LN a]
 by_cases h:v.aH=0
 .simp[h]
 grind
theorem wE{v:aB}{s:J aw}(a:s.length<=1000){g:Int->Int->U ρ}:jW v s g=if v.aC=0 then g v.Lo v.Hi else g 0 (iI s v.aC):=by
 simp only[jW,pP,mkF,LN a]
 by_cases h:v.aC=0
 .simp[h]
 grind
theorem N4{k:Int}{s:J aw}(a:s.length<=1000){g:Bool->U ρ}:sy k s g=g (lI s k):=by
 simp only[sy,sw,mkF,LN a,lI]
 by_cases h:k=0
 .simp[h]
 grind
theorem JB{a b:Int}{g:Bool->U ρ}:pR a b g=g (pq a b):=by
 grind [pR,pQ,mkF,pq,dC]
theorem aar{most:Nat}{a:J Nm}{b:Nat->Int}{i:Nat}(hi:i<a.length):qI most a b i=if most<=i then 11 else if mV a[i]=false then 6 else if a[i]∈a.take i then 7 else b i:=by
 grind [qI]
theorem LO{a:Type}{most:Nat}{l:J a}{nm:a->Nm}{f:a->Int}{i:Nat}(hi:i<l.length):qI most (l.map nm) (eX l f) i=if most<=i then 11 else if mV (nm l[i])=false then 6 else if nm l[i]∈(l.map nm).take i then 7 else f l[i]:=by
 grind [aar,eX]
theorem Rr{a:Type}{l:J a}{nm:a->Nm}{i:Nat}(hi:i<l.length):kS (tkn ((l.map nm).take i)) (nm l[i]) true=tkn ((l.map nm).take (i+1)):=by
 grind [vE,er]
theorem Ae{a:Type}(most:Nat)(l:J a)(hl:l.length<=1000000)(nm:a->Nm)(f:a->Int)(g:Int->Int->U ρ)(Φ:Int×J (Nm×Bool)->(Int×J (Nm×Bool)->U ρ)->U ρ)
  (b:∀(i:Nat) (hi:i<l.length) (t:J (Nm×Bool)) (k:Int×J (Nm×Bool)->U ρ),Φ ((i:Int),t) k=if most<=i then g i 11 else if mV (nm l[i])=false then g i 6 else if kC false t (nm l[i])=true then g i 7 else if f l[i]=0 then k (IntKind.i64.wrap ((i:Int)+1),kS t (nm l[i]) true)else g i (f l[i]))
  (hf:∀t k,Φ ((l.length:Int),t) k=g 0 0):im Φ (0,[])=atE (dN l.length (qI most (l.map nm) (eX l f))) g:=by
 refine(nU (τ:=Int×J (Nm×Bool)) l.length (λi:Nat=>((i:Int),tkn ((l.map nm).take i))) (λi=>if qI most (l.map nm) (eX l f) i=0 then none else some (g i (qI most (l.map nm) (eX l f) i))) (g 0 0) (λi k hi=> ?_) (λk=>hf _ k)).trans ?_
 .grind [LO,vD,Rr,eM]
 .rw[UC (g:=λi e=>g i e)]
  rfl
theorem Qf{l:J aw}(hl:l.length<=1000){g:Int->Int->U ρ}:n9 l g=atE (qJ l) g:=by
 simp only[n9,n8,mkF,lg];refine Ae 2 l (by omega) (·.Name) JA g _ (λi a t k=> ?_) (λt k=> ?_)
 .grind [xV,JA]
 .simp
theorem Rs{l:J aB}{s:J aw}{n:Nat}(hl:l.length<=1000)(c:s.length<=1000){g:Int->Int->U ρ}:uV l s n g=atE (qK l s n) g:=by
 simp only[uV,uU,mkF,lg,N4 c,wE c,JB];refine Ae n l (by omega) (·.Name) (Bw s) g _ (λi e t k=> ?_) (λt k=> ?_)
 .simp only[show(i:Int)<(l.length:Int)by omega,show(0:Int)<=(i:Int)by omega,if_true,xV,xG e,xS,show¬((n:Int)<0)by omega,if_false,Int.ofNat_le]
  by_cases d:n<=i
  .simp[d]
  simp only[d,if_false,Bw]
  by_cases a:lI s l[i].aC=false
  .simp[a]
  by_cases b:lI s l[i].aH=false
  .simp[a,b]
  grind
 .simp
theorem Y3{l:J aD}{s:J aw}(hl:l.length<=1000)(a:s.length<=1000){g:Int->Int->U ρ}:sB l s g=atE (sW l s) g:=by
 simp only[sB,sA,mkF,lg,N4 a,JB];refine Ae 4 l (by omega) (·.Name) (tO s) g _ (λi b t k=> ?_) (λt k=> ?_)
 .simp only[show(i:Int)<(l.length:Int)by omega,show(0:Int)<=(i:Int)by omega,if_true,xV,xG b,xS]
  by_cases c:4<=i
  .grind
  grind [tO]
 .simp
end
end Go.Etx
