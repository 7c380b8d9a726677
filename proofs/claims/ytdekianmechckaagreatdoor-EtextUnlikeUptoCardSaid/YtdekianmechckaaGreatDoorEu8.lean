/- A part of the proof: texts of mine, merged by a program (wip/dev/merge.py). -/
import Derived.Test.YtdekianmechckaaGreatDoorEu7
set_option linter.unusedSimpArgs false
set_option linter.unusedVariables false
namespace Go.Etx
open Go Go.Am Go.Proofs
set_option maxHeartbeats 400000
set_option maxRecDepth 20000
noncomputable section
@[go_sem] def K_num_Add_1(a0:Int)(a1:Int)(β:Bool):List T×List Ob:=([.d (.int IntKind.i64 (IntKind.wrap IntKind.i64 (a0+a1)))],[])
def F_num_Add_1(a0:Int)(a1:Int){ρ:Type}:{Φ:(Option ρ)→Option ρ // ∀(β:Bool) (κ:List T×List Ob→Option ρ) (g:Option ρ),(κ (K_num_Add_1 a0 a1 β)=g)→cbK (call 101 [eI a0,eI a1] []) κ=Φ g}:=mkF (p:=fun(β:Bool) (κ:List T×List Ob→Option ρ) (g:Option ρ)=>(κ (K_num_Add_1 a0 a1 β)=g)) (ds:=fun β=>[eI a0,eI a1]) ge101 (fun _=>rfl) _
def f_num_Add_1(a0:Int)(a1:Int){ρ:Type}(g0:Option ρ):Option ρ:=(F_num_Add_1 a0 a1).1 g0
theorem U_num_Add_1{ρ:Type}(a0:Int)(a1:Int)(κ:List T×List Ob→Option ρ):cbK (call 101 [.int .i64 a0,.int .i64 a1] []) κ=f_num_Add_1 a0 a1 (κ (K_num_Add_1 a0 a1 true)):=(F_num_Add_1 a0 a1).2 true κ _ rfl
@[go_sem] theorem W_num_Add_1{ρ:Type}(a0:Int)(a1:Int)(κ:List T×List Ob→Option ρ):type_of% (by have h:= @U_num_Add_1 ρ a0 a1 κ;simp only[K_num_Add_1]at h;exact h):=by have h:= @U_num_Add_1 ρ a0 a1 κ;simp only[K_num_Add_1]at h;exact h
section
variable(p0:List Int)(p1:Int)
@[go_sem] def S_num_within_0(p0:List Int)(p1:Int)(β:Bool)(v0:Int):St:=⟨[(5,.d (.sl β (List.map eI p0))),(6,.d (.int IntKind.i64 p1)),(7,.d (.int IntKind.i64 v0))],[],[]⟩
def X_num_within_0(p0:List Int)(p1:Int){ρ:Type}:LX (A:=Int→(Int→Option ρ)→(Ex×St→Option ρ)→Option ρ) fun β Φ=>∀(R:St→Option ρ) (g:Int→Option ρ) (κ:Ex×St→Option ρ),(∀(v0:Int),R (S_num_within_0 p0 p1 β v0)=g v0)→∀(v0:Int),go P hints hint108 b108 q108_0.1 (S_num_within_0 p0 p1 β v0) (kLp R κ)=Φ v0 g κ:=mkL _ _
theorem V_num_within_0(p0:List Int)(p1:Int){ρ:Type}(β:Bool)(κ:Ex×St→Option ρ)(v0:Int):goLp P hints hint108 b108 0 (S_num_within_0 p0 p1 β v0) κ=iterC (fun v k=>(X_num_within_0 p0 p1 (ρ:=ρ)).f β v k κ) v0:=by
 refine goLp_iter (Φ:=fun v k=>(X_num_within_0 p0 p1 (ρ:=ρ)).f β v k κ) q108_0.2 (S:=fun v=>S_num_within_0 p0 p1 β v) ?_ v0
 intro R g hR v
 have h:=(X_num_within_0 p0 p1 (ρ:=ρ)).ok β R g κ
 exact h (fun v0=>hR v0) v
end
@[go_sem] theorem W_num_within_0f{ρ:Type}(p0:List Int)(p1:Int)(κ:Ex×St→Option ρ)(v0:Int):type_of% (by have h:=V_num_within_0 p0 p1 false κ v0;simp only[S_num_within_0,X_num_within_0,mkL,LX.f]at h;exact h):=by have h:=V_num_within_0 p0 p1 false κ v0;simp only[S_num_within_0,X_num_within_0,mkL,LX.f]at h;exact h
@[go_sem] theorem W_num_within_0t{ρ:Type}(p0:List Int)(p1:Int)(κ:Ex×St→Option ρ)(v0:Int):type_of% (by have h:=V_num_within_0 p0 p1 true κ v0;simp only[S_num_within_0,X_num_within_0,mkL,LX.f]at h;exact h):=by have h:=V_num_within_0 p0 p1 true κ v0;simp only[S_num_within_0,X_num_within_0,mkL,LX.f]at h;exact h
@[go_sem] def K_num_within(a0:List Int)(β:Bool)(y0_0:Bool):List T×List Ob:=([.d (.bool y0_0)],[])
def F_num_within(a0:List Int){ρ:Type}:{Φ:(Bool→Option ρ)→Option ρ // ∀(β:Bool) (κ:List T×List Ob→Option ρ) (g:Bool→Option ρ),(∀(y0_0:Bool),κ (K_num_within a0 β y0_0)=g y0_0)→cbK (call 108 [(esi64 β) a0] []) κ=Φ g}:=mkF (p:=fun(β:Bool) (κ:List T×List Ob→Option ρ) (g:Bool→Option ρ)=>(∀(y0_0:Bool),κ (K_num_within a0 β y0_0)=g y0_0)) (ds:=fun β=>[(esi64 β) a0]) ge108 (fun _=>rfl) _
def f_num_within(a0:List Int){ρ:Type}(g0:Bool→Option ρ):Option ρ:=(F_num_within a0).1 g0
attribute [go_sem] ge102
theorem U_num_within_a0n2{ρ:Type}(β:Bool)(a0x0:Int)(a0x1:Int)(κ:List T×List Ob→Option ρ):cbK (call 108 [.sl β [.int .i64 a0x0,.int .i64 a0x1]] []) κ=f_num_within ([a0x0,a0x1]:List Int) (fun y0_0=>κ (K_num_within ([a0x0,a0x1]:List Int) β y0_0)):=(F_num_within ([a0x0,a0x1]:List Int)).2 β κ _ (fun _=>rfl)
@[go_sem] theorem W_num_within_a0n2{ρ:Type}(β:Bool)(a0x0:Int)(a0x1:Int)(κ:List T×List Ob→Option ρ):type_of% (by have h:= @U_num_within_a0n2 ρ β a0x0 a0x1 κ;simp only[K_num_within]at h;exact h):=by have h:= @U_num_within_a0n2 ρ β a0x0 a0x1 κ;simp only[K_num_within]at h;exact h
theorem U_num_within_a0n1{ρ:Type}(β:Bool)(a0x0:Int)(κ:List T×List Ob→Option ρ):cbK (call 108 [.sl β [.int .i64 a0x0]] []) κ=f_num_within ([a0x0]:List Int) (fun y0_0=>κ (K_num_within ([a0x0]:List Int) β y0_0)):=(F_num_within ([a0x0]:List Int)).2 β κ _ (fun _=>rfl)
@[go_sem] theorem W_num_within_a0n1{ρ:Type}(β:Bool)(a0x0:Int)(κ:List T×List Ob→Option ρ):type_of% (by have h:= @U_num_within_a0n1 ρ β a0x0 κ;simp only[K_num_within]at h;exact h):=by have h:= @U_num_within_a0n1 ρ β a0x0 κ;simp only[K_num_within]at h;exact h
@[go_sem] def K_num_Add(a0:Int)(a1:Int)(β:Bool)(y0_0:Int)(y0_1:Bool):List T×List Ob:=([.d (.int IntKind.i64 y0_0),.d (.bool y0_1)],[])
def F_num_Add(a0:Int)(a1:Int){ρ:Type}:{Φ:(Int→Bool→Option ρ)→Option ρ // ∀(β:Bool) (κ:List T×List Ob→Option ρ) (g:Int→Bool→Option ρ),(∀(y0_0:Int) (y0_1:Bool),κ (K_num_Add a0 a1 β y0_0 y0_1)=g y0_0 y0_1)→cbK (call 61 [eI a0,eI a1] []) κ=Φ g}:=mkF (p:=fun(β:Bool) (κ:List T×List Ob→Option ρ) (g:Int→Bool→Option ρ)=>(∀(y0_0:Int) (y0_1:Bool),κ (K_num_Add a0 a1 β y0_0 y0_1)=g y0_0 y0_1)) (ds:=fun β=>[eI a0,eI a1]) ge61 (fun _=>rfl) _
def f_num_Add(a0:Int)(a1:Int){ρ:Type}(g0:Int→Bool→Option ρ):Option ρ:=(F_num_Add a0 a1).1 g0
theorem U_num_Add{ρ:Type}(a0:Int)(a1:Int)(κ:List T×List Ob→Option ρ):cbK (call 61 [.int .i64 a0,.int .i64 a1] []) κ=f_num_Add a0 a1 (fun y0_0 y0_1=>κ (K_num_Add a0 a1 true y0_0 y0_1)):=(F_num_Add a0 a1).2 true κ _ (fun _ _=>rfl)
@[go_sem] theorem W_num_Add{ρ:Type}(a0:Int)(a1:Int)(κ:List T×List Ob→Option ρ):type_of% (by have h:= @U_num_Add ρ a0 a1 κ;simp only[K_num_Add]at h;exact h):=by have h:= @U_num_Add ρ a0 a1 κ;simp only[K_num_Add]at h;exact h
@[go_sem] def K_expr_scalar(a0:Int)(a1:GScope)(β:Bool)(y0_0:Int)(y0_1:Bool):List T×List Ob:=([.d (.int IntKind.i64 y0_0),.d (.bool y0_1)],[])
def F_expr_scalar(a0:Int)(a1:GScope){ρ:Type}:{Φ:(Int→Bool→Option ρ)→Option ρ // ∀(β:Bool) (κ:List T×List Ob→Option ρ) (g:Int→Bool→Option ρ),(∀(y0_0:Int) (y0_1:Bool),κ (K_expr_scalar a0 a1 β y0_0 y0_1)=g y0_0 y0_1)→cbK (call 103 [eI a0,(eScope β) a1] []) κ=Φ g}:=mkF (p:=fun(β:Bool) (κ:List T×List Ob→Option ρ) (g:Int→Bool→Option ρ)=>(∀(y0_0:Int) (y0_1:Bool),κ (K_expr_scalar a0 a1 β y0_0 y0_1)=g y0_0 y0_1)) (ds:=fun β=>[eI a0,(eScope β) a1]) ge103 (fun _=>rfl) _
def f_expr_scalar(a0:Int)(a1:GScope){ρ:Type}(g0:Int→Bool→Option ρ):Option ρ:=(F_expr_scalar a0 a1).1 g0
theorem U_expr_scalar{ρ:Type}(β:Bool)(a0:Int)(a1_0:List GScalar)(a1_1:List GVar)(a1_2:List GChan)(a1_3:List GProc)(a1_4:List GVar)(a1_5:Int)(κ:List T×List Ob→Option ρ):cbK (call 103 [.int .i64 a0,.agg [.sl β (List.map eScalar a1_0),.sl β (List.map eVar a1_1),.sl β (List.map eChan a1_2),.sl β (List.map (eProc β) a1_3),.sl β (List.map eVar a1_4),.int .i64 a1_5]] []) κ=f_expr_scalar a0 (GScope.mk a1_0 a1_1 a1_2 a1_3 a1_4 a1_5) (fun y0_0 y0_1=>κ (K_expr_scalar a0 (GScope.mk a1_0 a1_1 a1_2 a1_3 a1_4 a1_5) β y0_0 y0_1)):=(F_expr_scalar a0 (GScope.mk a1_0 a1_1 a1_2 a1_3 a1_4 a1_5)).2 β κ _ (fun _ _=>rfl)
@[go_sem] theorem W_expr_scalar{ρ:Type}(β:Bool)(a0:Int)(a1_0:List GScalar)(a1_1:List GVar)(a1_2:List GChan)(a1_3:List GProc)(a1_4:List GVar)(a1_5:Int)(κ:List T×List Ob→Option ρ):type_of% (by have h:= @U_expr_scalar ρ β a0 a1_0 a1_1 a1_2 a1_3 a1_4 a1_5 κ;simp only[K_expr_scalar]at h;exact h):=by have h:= @U_expr_scalar ρ β a0 a1_0 a1_1 a1_2 a1_3 a1_4 a1_5 κ;simp only[K_expr_scalar]at h;exact h
@[go_sem] def K_expr_variable(a0:List GVar)(a1:Int)(a2:GScope)(β:Bool)(y0_0:Int)(y0_1:Int)(y0_2:Bool):List T×List Ob:=([.d (.int IntKind.i64 y0_0),.d (.int IntKind.i64 y0_1),.d (.bool y0_2)],[])
def F_expr_variable(a0:List GVar)(a1:Int)(a2:GScope){ρ:Type}:{Φ:(Int→Int→Bool→Option ρ)→Option ρ // ∀(β:Bool) (κ:List T×List Ob→Option ρ) (g:Int→Int→Bool→Option ρ),(∀(y0_0:Int) (y0_1:Int) (y0_2:Bool),κ (K_expr_variable a0 a1 a2 β y0_0 y0_1 y0_2)=g y0_0 y0_1 y0_2)→cbK (call 63 [(esVar β) a0,eI a1,(eScope β) a2] []) κ=Φ g}:=mkF (p:=fun(β:Bool) (κ:List T×List Ob→Option ρ) (g:Int→Int→Bool→Option ρ)=>(∀(y0_0:Int) (y0_1:Int) (y0_2:Bool),κ (K_expr_variable a0 a1 a2 β y0_0 y0_1 y0_2)=g y0_0 y0_1 y0_2)) (ds:=fun β=>[(esVar β) a0,eI a1,(eScope β) a2]) ge63 (fun _=>rfl) _
def f_expr_variable(a0:List GVar)(a1:Int)(a2:GScope){ρ:Type}(g0:Int→Int→Bool→Option ρ):Option ρ:=(F_expr_variable a0 a1 a2).1 g0
theorem U_expr_variable{ρ:Type}(β:Bool)(a0:List GVar)(a1:Int)(a2_0:List GScalar)(a2_1:List GVar)(a2_2:List GChan)(a2_3:List GProc)(a2_4:List GVar)(a2_5:Int)(κ:List T×List Ob→Option ρ):cbK (call 63 [.sl β (List.map eVar a0),.int .i64 a1,.agg [.sl β (List.map eScalar a2_0),.sl β (List.map eVar a2_1),.sl β (List.map eChan a2_2),.sl β (List.map (eProc β) a2_3),.sl β (List.map eVar a2_4),.int .i64 a2_5]] []) κ=f_expr_variable a0 a1 (GScope.mk a2_0 a2_1 a2_2 a2_3 a2_4 a2_5) (fun y0_0 y0_1 y0_2=>κ (K_expr_variable a0 a1 (GScope.mk a2_0 a2_1 a2_2 a2_3 a2_4 a2_5) β y0_0 y0_1 y0_2)):=(F_expr_variable a0 a1 (GScope.mk a2_0 a2_1 a2_2 a2_3 a2_4 a2_5)).2 β κ _ (fun _ _ _=>rfl)
@[go_sem] theorem W_expr_variable{ρ:Type}(β:Bool)(a0:List GVar)(a1:Int)(a2_0:List GScalar)(a2_1:List GVar)(a2_2:List GChan)(a2_3:List GProc)(a2_4:List GVar)(a2_5:Int)(κ:List T×List Ob→Option ρ):type_of% (by have h:= @U_expr_variable ρ β a0 a1 a2_0 a2_1 a2_2 a2_3 a2_4 a2_5 κ;simp only[K_expr_variable]at h;exact h):=by have h:= @U_expr_variable ρ β a0 a1 a2_0 a2_1 a2_2 a2_3 a2_4 a2_5 κ;simp only[K_expr_variable]at h;exact h
@[go_sem] def K_expr_named(a0:GNode)(a1:GScope)(β:Bool)(y0_0:Int)(y0_1:Int):List T×List Ob:=([.d (.int IntKind.i64 y0_0),.d (.int IntKind.i64 y0_1)],[])
def F_expr_named(a0:GNode)(a1:GScope){ρ:Type}:{Φ:(Int→Int→Option ρ)→Option ρ // ∀(β:Bool) (κ:List T×List Ob→Option ρ) (g:Int→Int→Option ρ),(∀(y0_0:Int) (y0_1:Int),κ (K_expr_named a0 a1 β y0_0 y0_1)=g y0_0 y0_1)→cbK (call 62 [eNode a0,(eScope β) a1] []) κ=Φ g}:=mkF (p:=fun(β:Bool) (κ:List T×List Ob→Option ρ) (g:Int→Int→Option ρ)=>(∀(y0_0:Int) (y0_1:Int),κ (K_expr_named a0 a1 β y0_0 y0_1)=g y0_0 y0_1)) (ds:=fun β=>[eNode a0,(eScope β) a1]) ge62 (fun _=>rfl) _
def f_expr_named(a0:GNode)(a1:GScope){ρ:Type}(g0:Int→Int→Option ρ):Option ρ:=(F_expr_named a0 a1).1 g0
theorem U_expr_named{ρ:Type}(β:Bool)(a0_0:Int)(a0_1:Int)(a1_0:List GScalar)(a1_1:List GVar)(a1_2:List GChan)(a1_3:List GProc)(a1_4:List GVar)(a1_5:Int)(κ:List T×List Ob→Option ρ):cbK (call 62 [.agg [.int .i64 a0_0,.int .i64 a0_1],.agg [.sl β (List.map eScalar a1_0),.sl β (List.map eVar a1_1),.sl β (List.map eChan a1_2),.sl β (List.map (eProc β) a1_3),.sl β (List.map eVar a1_4),.int .i64 a1_5]] []) κ=f_expr_named (GNode.mk a0_0 a0_1) (GScope.mk a1_0 a1_1 a1_2 a1_3 a1_4 a1_5) (fun y0_0 y0_1=>κ (K_expr_named (GNode.mk a0_0 a0_1) (GScope.mk a1_0 a1_1 a1_2 a1_3 a1_4 a1_5) β y0_0 y0_1)):=(F_expr_named (GNode.mk a0_0 a0_1) (GScope.mk a1_0 a1_1 a1_2 a1_3 a1_4 a1_5)).2 β κ _ (fun _ _=>rfl)
@[go_sem] theorem W_expr_named{ρ:Type}(β:Bool)(a0_0:Int)(a0_1:Int)(a1_0:List GScalar)(a1_1:List GVar)(a1_2:List GChan)(a1_3:List GProc)(a1_4:List GVar)(a1_5:Int)(κ:List T×List Ob→Option ρ):type_of% (by have h:= @U_expr_named ρ β a0_0 a0_1 a1_0 a1_1 a1_2 a1_3 a1_4 a1_5 κ;simp only[K_expr_named]at h;exact h):=by have h:= @U_expr_named ρ β a0_0 a0_1 a1_0 a1_1 a1_2 a1_3 a1_4 a1_5 κ;simp only[K_expr_named]at h;exact h
@[go_sem] def K_lex_letter(a0:Int)(β:Bool)(y0_0:Bool):List T×List Ob:=([.d (.bool y0_0)],[])
def F_lex_letter(a0:Int){ρ:Type}:{Φ:(Bool→Option ρ)→Option ρ // ∀(β:Bool) (κ:List T×List Ob→Option ρ) (g:Bool→Option ρ),(∀(y0_0:Bool),κ (K_lex_letter a0 β y0_0)=g y0_0)→cbK (call 34 [(eK .i32) a0] []) κ=Φ g}:=mkF (p:=fun(β:Bool) (κ:List T×List Ob→Option ρ) (g:Bool→Option ρ)=>(∀(y0_0:Bool),κ (K_lex_letter a0 β y0_0)=g y0_0)) (ds:=fun β=>[(eK .i32) a0]) ge34 (fun _=>rfl) _
def f_lex_letter(a0:Int){ρ:Type}(g0:Bool→Option ρ):Option ρ:=(F_lex_letter a0).1 g0
theorem U_lex_letter{ρ:Type}(a0:Int)(κ:List T×List Ob→Option ρ):cbK (call 34 [.int .i32 a0] []) κ=f_lex_letter a0 (fun y0_0=>κ (K_lex_letter a0 true y0_0)):=(F_lex_letter a0).2 true κ _ (fun _=>rfl)
@[go_sem] theorem W_lex_letter{ρ:Type}(a0:Int)(κ:List T×List Ob→Option ρ):type_of% (by have h:= @U_lex_letter ρ a0 κ;simp only[K_lex_letter]at h;exact h):=by have h:= @U_lex_letter ρ a0 κ;simp only[K_lex_letter]at h;exact h
attribute [go_sem] ge35
attribute [go_sem] ge73
attribute [go_sem] ge36
@[go_sem] theorem T_35_0_1{ρ:Type}{x0 x1 x8:SV}{ct:List ((Nat×Nat)×T)}{H:List Ob}{κ:Ex×St→Option ρ}:goLp P hints hint35 b35 0 ⟨[(0,x0),(1,x1),(8,x8)],ct,H⟩ κ=go P hints hint35 b35 q35_0.1 ⟨[(0,x0),(1,x1),(8,x8)],ct,H⟩ (kLp (fun s=>goLp P hints hint35 b35 0 s κ) κ):=goLp_turn q35_0.2
section
variable(p0:List UInt8)
@[go_sem] def S_lex_run_in_lex_Name_0(p0:List UInt8)(β:Bool)(v0:Int)(v1:Bool)(v2:Nat):St:=⟨[(0,.d (.str p0)),(1,.d (.fn (Fn.func 36) [] [])),(5,.d (.int IntKind.i64 v0)),(8,.d (.ptr (0))),(16,.d (.bool v1))],[],[.iter p0 v2]⟩
def X_lex_run_in_lex_Name_0(p0:List UInt8){ρ:Type}:LX (A:=Int→Bool→Nat→((Int)×(Bool)×(Nat)→Option ρ)→(Ex×St→Option ρ)→Option ρ) fun β Φ=>∀(R:St→Option ρ) (g:(Int)×(Bool)×(Nat)→Option ρ) (κ:Ex×St→Option ρ),(∀(v0:Int) (v1:Bool) (v2:Nat),R (S_lex_run_in_lex_Name_0 p0 β v0 v1 v2)=g (v0,v1,v2))→∀(v0:Int) (v1:Bool) (v2:Nat),go P hints hint35 b35 q35_0.1 (S_lex_run_in_lex_Name_0 p0 β v0 v1 v2) (kLp R κ)=Φ v0 v1 v2 g κ:=mkL _ _
theorem V_lex_run_in_lex_Name_0(p0:List UInt8){ρ:Type}(β:Bool)(κ:Ex×St→Option ρ)(v0:Int)(v1:Bool)(v2:Nat):goLp P hints hint35 b35 0 (S_lex_run_in_lex_Name_0 p0 β v0 v1 v2) κ=iterC (fun v k=>(X_lex_run_in_lex_Name_0 p0 (ρ:=ρ)).f β v.1 v.2.1 v.2.2 k κ) (v0,v1,v2):=by
 refine goLp_iter (Φ:=fun v k=>(X_lex_run_in_lex_Name_0 p0 (ρ:=ρ)).f β v.1 v.2.1 v.2.2 k κ) q35_0.2 (S:=fun v=>S_lex_run_in_lex_Name_0 p0 β v.1 v.2.1 v.2.2) ?_ (v0,v1,v2)
 intro R g hR v
 have h:=(X_lex_run_in_lex_Name_0 p0 (ρ:=ρ)).ok β R g κ
 exact h (fun v0 v1 v2=>hR (v0,v1,v2)) v.1 v.2.1 v.2.2
end
@[go_sem] theorem W_lex_run_in_lex_Name_0t{ρ:Type}(p0:List UInt8)(κ:Ex×St→Option ρ)(v0:Int)(v1:Bool)(v2:Nat):type_of% (by have h:=V_lex_run_in_lex_Name_0 p0 true κ v0 v1 v2;simp only[S_lex_run_in_lex_Name_0,X_lex_run_in_lex_Name_0,mkL,LX.f]at h;exact h):=by have h:=V_lex_run_in_lex_Name_0 p0 true κ v0 v1 v2;simp only[S_lex_run_in_lex_Name_0,X_lex_run_in_lex_Name_0,mkL,LX.f]at h;exact h
section
variable(p0:List UInt8)
@[go_sem] def S_lex_Name_0(p0:List UInt8)(β:Bool)(v0:Int):St:=⟨[(0,.d (.str p0)),(26,.d (.agg (List.map eS (List.take 4 ownL)))),(27,.d (.int IntKind.i64 v0))],[],[]⟩
def X_lex_Name_0(p0:List UInt8){ρ:Type}:LX (A:=Int→(Int→Option ρ)→(Ex×St→Option ρ)→Option ρ) fun β Φ=>∀(R:St→Option ρ) (g:Int→Option ρ) (κ:Ex×St→Option ρ),(∀(v0:Int),R (S_lex_Name_0 p0 β v0)=g v0)→∀(v0:Int),go P hints hint15 b15 q15_0.1 (S_lex_Name_0 p0 β v0) (kLp R κ)=Φ v0 g κ:=mkL _ _
theorem V_lex_Name_0(p0:List UInt8){ρ:Type}(β:Bool)(κ:Ex×St→Option ρ)(v0:Int):goLp P hints hint15 b15 0 (S_lex_Name_0 p0 β v0) κ=iterC (fun v k=>(X_lex_Name_0 p0 (ρ:=ρ)).f β v k κ) v0:=by
 refine goLp_iter (Φ:=fun v k=>(X_lex_Name_0 p0 (ρ:=ρ)).f β v k κ) q15_0.2 (S:=fun v=>S_lex_Name_0 p0 β v) ?_ v0
 intro R g hR v
 have h:=(X_lex_Name_0 p0 (ρ:=ρ)).ok β R g κ
 exact h (fun v0=>hR v0) v
end
@[go_sem] theorem W_lex_Name_0t{ρ:Type}(p0:List UInt8)(κ:Ex×St→Option ρ)(v0:Int):type_of% (by have h:=V_lex_Name_0 p0 true κ v0;simp only[S_lex_Name_0,X_lex_Name_0,mkL,LX.f]at h;exact h):=by have h:=V_lex_Name_0 p0 true κ v0;simp only[S_lex_Name_0,X_lex_Name_0,mkL,LX.f]at h;exact h
@[go_sem] def K_lex_Name(a0:List UInt8)(β:Bool)(y0_0:Bool):List T×List Ob:=([.d (.bool y0_0)],[])
def F_lex_Name(a0:List UInt8){ρ:Type}:{Φ:(Bool→Option ρ)→Option ρ // ∀(β:Bool) (κ:List T×List Ob→Option ρ) (g:Bool→Option ρ),(∀(y0_0:Bool),κ (K_lex_Name a0 β y0_0)=g y0_0)→cbK (call 15 [eS a0] []) κ=Φ g}:=mkF (p:=fun(β:Bool) (κ:List T×List Ob→Option ρ) (g:Bool→Option ρ)=>(∀(y0_0:Bool),κ (K_lex_Name a0 β y0_0)=g y0_0)) (ds:=fun β=>[eS a0]) ge15 (fun _=>rfl) _
def f_lex_Name(a0:List UInt8){ρ:Type}(g0:Bool→Option ρ):Option ρ:=(F_lex_Name a0).1 g0
theorem U_lex_Name{ρ:Type}(a0:List UInt8)(κ:List T×List Ob→Option ρ):cbK (call 15 [.str a0] []) κ=f_lex_Name a0 (fun y0_0=>κ (K_lex_Name a0 true y0_0)):=(F_lex_Name a0).2 true κ _ (fun _=>rfl)
@[go_sem] theorem W_lex_Name{ρ:Type}(a0:List UInt8)(κ:List T×List Ob→Option ρ):type_of% (by have h:= @U_lex_Name ρ a0 κ;simp only[K_lex_Name]at h;exact h):=by have h:= @U_lex_Name ρ a0 κ;simp only[K_lex_Name]at h;exact h
attribute [go_sem] ge104
attribute [go_sem] ge66
attribute [go_sem] ge65
section
variable(p0:List GVar)(p1:Int)(p2:List UInt8)
@[go_sem] def S_iV_in_etext_stands_0(p0:List GVar)(p1:Int)(p2:List UInt8)(β:Bool)(v0:Int):St:=⟨[(0,.d (.sl β (List.map eVar p0))),(1,.d (.fn (Fn.func 104) [] [.ptr (0)])),(7,.d (.int IntKind.i64 p1)),(8,.d (.int IntKind.i64 v0))],[],[.box (.d (.str p2))]⟩
def X_iV_in_etext_stands_0(p0:List GVar)(p1:Int)(p2:List UInt8){ρ:Type}:LX (A:=Int→(Int→Option ρ)→(Ex×St→Option ρ)→Option ρ) fun β Φ=>∀(R:St→Option ρ) (g:Int→Option ρ) (κ:Ex×St→Option ρ),(∀(v0:Int),R (S_iV_in_etext_stands_0 p0 p1 p2 β v0)=g v0)→∀(v0:Int),go P hints hint65 b65 q65_0.1 (S_iV_in_etext_stands_0 p0 p1 p2 β v0) (kLp R κ)=Φ v0 g κ:=mkL _ _
theorem V_iV_in_etext_stands_0(p0:List GVar)(p1:Int)(p2:List UInt8){ρ:Type}(β:Bool)(κ:Ex×St→Option ρ)(v0:Int):goLp P hints hint65 b65 0 (S_iV_in_etext_stands_0 p0 p1 p2 β v0) κ=iterC (fun v k=>(X_iV_in_etext_stands_0 p0 p1 p2 (ρ:=ρ)).f β v k κ) v0:=by
 refine goLp_iter (Φ:=fun v k=>(X_iV_in_etext_stands_0 p0 p1 p2 (ρ:=ρ)).f β v k κ) q65_0.2 (S:=fun v=>S_iV_in_etext_stands_0 p0 p1 p2 β v) ?_ v0
 intro R g hR v
 have h:=(X_iV_in_etext_stands_0 p0 p1 p2 (ρ:=ρ)).ok β R g κ
 exact h (fun v0=>hR v0) v
end
@[go_sem] theorem W_iV_in_etext_stands_0f{ρ:Type}(p0:List GVar)(p1:Int)(p2:List UInt8)(κ:Ex×St→Option ρ)(v0:Int):type_of% (by have h:=V_iV_in_etext_stands_0 p0 p1 p2 false κ v0;simp only[S_iV_in_etext_stands_0,X_iV_in_etext_stands_0,mkL,LX.f]at h;exact h):=by have h:=V_iV_in_etext_stands_0 p0 p1 p2 false κ v0;simp only[S_iV_in_etext_stands_0,X_iV_in_etext_stands_0,mkL,LX.f]at h;exact h
@[go_sem] theorem W_iV_in_etext_stands_0t{ρ:Type}(p0:List GVar)(p1:Int)(p2:List UInt8)(κ:Ex×St→Option ρ)(v0:Int):type_of% (by have h:=V_iV_in_etext_stands_0 p0 p1 p2 true κ v0;simp only[S_iV_in_etext_stands_0,X_iV_in_etext_stands_0,mkL,LX.f]at h;exact h):=by have h:=V_iV_in_etext_stands_0 p0 p1 p2 true κ v0;simp only[S_iV_in_etext_stands_0,X_iV_in_etext_stands_0,mkL,LX.f]at h;exact h
section
variable(p0:List GVar)(p1:Int)(p2:List UInt8)
@[go_sem] def S_iV_in_etext_stands_0v1(p0:List GVar)(p1:Int)(p2:List UInt8)(β:Bool)(v0:Int):St:=⟨[(0,.d (.sl β (List.map eVar p0))),(1,.d (.fn (Fn.func 104) [] [.ptr (1)])),(7,.d (.int IntKind.i64 p1)),(8,.d (.int IntKind.i64 v0))],[],[.box (.d (.str p2)),.box (.d (.str p2))]⟩
def X_iV_in_etext_stands_0v1(p0:List GVar)(p1:Int)(p2:List UInt8){ρ:Type}:LX (A:=Int→(Int→Option ρ)→(Ex×St→Option ρ)→Option ρ) fun β Φ=>∀(R:St→Option ρ) (g:Int→Option ρ) (κ:Ex×St→Option ρ),(∀(v0:Int),R (S_iV_in_etext_stands_0v1 p0 p1 p2 β v0)=g v0)→∀(v0:Int),go P hints hint65 b65 q65_0.1 (S_iV_in_etext_stands_0v1 p0 p1 p2 β v0) (kLp R κ)=Φ v0 g κ:=mkL _ _
theorem V_iV_in_etext_stands_0v1(p0:List GVar)(p1:Int)(p2:List UInt8){ρ:Type}(β:Bool)(κ:Ex×St→Option ρ)(v0:Int):goLp P hints hint65 b65 0 (S_iV_in_etext_stands_0v1 p0 p1 p2 β v0) κ=iterC (fun v k=>(X_iV_in_etext_stands_0v1 p0 p1 p2 (ρ:=ρ)).f β v k κ) v0:=by
 refine goLp_iter (Φ:=fun v k=>(X_iV_in_etext_stands_0v1 p0 p1 p2 (ρ:=ρ)).f β v k κ) q65_0.2 (S:=fun v=>S_iV_in_etext_stands_0v1 p0 p1 p2 β v) ?_ v0
 intro R g hR v
 have h:=(X_iV_in_etext_stands_0v1 p0 p1 p2 (ρ:=ρ)).ok β R g κ
 exact h (fun v0=>hR v0) v
end
@[go_sem] theorem W_iV_in_etext_stands_0v1f{ρ:Type}(p0:List GVar)(p1:Int)(p2:List UInt8)(κ:Ex×St→Option ρ)(v0:Int):type_of% (by have h:=V_iV_in_etext_stands_0v1 p0 p1 p2 false κ v0;simp only[S_iV_in_etext_stands_0v1,X_iV_in_etext_stands_0v1,mkL,LX.f]at h;exact h):=by have h:=V_iV_in_etext_stands_0v1 p0 p1 p2 false κ v0;simp only[S_iV_in_etext_stands_0v1,X_iV_in_etext_stands_0v1,mkL,LX.f]at h;exact h
@[go_sem] theorem W_iV_in_etext_stands_0v1t{ρ:Type}(p0:List GVar)(p1:Int)(p2:List UInt8)(κ:Ex×St→Option ρ)(v0:Int):type_of% (by have h:=V_iV_in_etext_stands_0v1 p0 p1 p2 true κ v0;simp only[S_iV_in_etext_stands_0v1,X_iV_in_etext_stands_0v1,mkL,LX.f]at h;exact h):=by have h:=V_iV_in_etext_stands_0v1 p0 p1 p2 true κ v0;simp only[S_iV_in_etext_stands_0v1,X_iV_in_etext_stands_0v1,mkL,LX.f]at h;exact h
@[go_sem] def K_etext_stands(a0:List UInt8)(a1:GScope)(β:Bool)(y0_0:Int)(y0_1:Int):List T×List Ob:=([.d (.int IntKind.i64 y0_0),.d (.int IntKind.i64 y0_1)],[])
def F_etext_stands(a0:List UInt8)(a1:GScope){ρ:Type}:{Φ:(Int→Int→Option ρ)→Option ρ // ∀(β:Bool) (κ:List T×List Ob→Option ρ) (g:Int→Int→Option ρ),(∀(y0_0:Int) (y0_1:Int),κ (K_etext_stands a0 a1 β y0_0 y0_1)=g y0_0 y0_1)→cbK (call 30 [eS a0,(eScope β) a1] []) κ=Φ g}:=mkF (p:=fun(β:Bool) (κ:List T×List Ob→Option ρ) (g:Int→Int→Option ρ)=>(∀(y0_0:Int) (y0_1:Int),κ (K_etext_stands a0 a1 β y0_0 y0_1)=g y0_0 y0_1)) (ds:=fun β=>[eS a0,(eScope β) a1]) ge30 (fun _=>rfl) _
def f_etext_stands(a0:List UInt8)(a1:GScope){ρ:Type}(g0:Int→Int→Option ρ):Option ρ:=(F_etext_stands a0 a1).1 g0
theorem U_etext_stands{ρ:Type}(β:Bool)(a0:List UInt8)(a1_0:List GScalar)(a1_1:List GVar)(a1_2:List GChan)(a1_3:List GProc)(a1_4:List GVar)(a1_5:Int)(κ:List T×List Ob→Option ρ):cbK (call 30 [.str a0,.agg [.sl β (List.map eScalar a1_0),.sl β (List.map eVar a1_1),.sl β (List.map eChan a1_2),.sl β (List.map (eProc β) a1_3),.sl β (List.map eVar a1_4),.int .i64 a1_5]] []) κ=f_etext_stands a0 (GScope.mk a1_0 a1_1 a1_2 a1_3 a1_4 a1_5) (fun y0_0 y0_1=>κ (K_etext_stands a0 (GScope.mk a1_0 a1_1 a1_2 a1_3 a1_4 a1_5) β y0_0 y0_1)):=(F_etext_stands a0 (GScope.mk a1_0 a1_1 a1_2 a1_3 a1_4 a1_5)).2 β κ _ (fun _ _=>rfl)
@[go_sem] theorem W_etext_stands{ρ:Type}(β:Bool)(a0:List UInt8)(a1_0:List GScalar)(a1_1:List GVar)(a1_2:List GChan)(a1_3:List GProc)(a1_4:List GVar)(a1_5:Int)(κ:List T×List Ob→Option ρ):type_of% (by have h:= @U_etext_stands ρ β a0 a1_0 a1_1 a1_2 a1_3 a1_4 a1_5 κ;simp only[K_etext_stands]at h;exact h):=by have h:= @U_etext_stands ρ β a0 a1_0 a1_1 a1_2 a1_3 a1_4 a1_5 κ;simp only[K_etext_stands]at h;exact h
attribute [go_sem] ge68
attribute [go_sem] ge67
section
variable(p0:List GChan)(p1:Int)(p2:List UInt8)
@[go_sem] def S_iC_in_etext_channel_0(p0:List GChan)(p1:Int)(p2:List UInt8)(β:Bool)(v0:Int):St:=⟨[(0,.d (.sl β (List.map eChan p0))),(1,.d (.fn (Fn.func 68) [] [.ptr (0)])),(7,.d (.int IntKind.i64 p1)),(8,.d (.int IntKind.i64 v0))],[],[.box (.d (.str p2))]⟩
def X_iC_in_etext_channel_0(p0:List GChan)(p1:Int)(p2:List UInt8){ρ:Type}:LX (A:=Int→(Int→Option ρ)→(Ex×St→Option ρ)→Option ρ) fun β Φ=>∀(R:St→Option ρ) (g:Int→Option ρ) (κ:Ex×St→Option ρ),(∀(v0:Int),R (S_iC_in_etext_channel_0 p0 p1 p2 β v0)=g v0)→∀(v0:Int),go P hints hint67 b67 q67_0.1 (S_iC_in_etext_channel_0 p0 p1 p2 β v0) (kLp R κ)=Φ v0 g κ:=mkL _ _
theorem V_iC_in_etext_channel_0(p0:List GChan)(p1:Int)(p2:List UInt8){ρ:Type}(β:Bool)(κ:Ex×St→Option ρ)(v0:Int):goLp P hints hint67 b67 0 (S_iC_in_etext_channel_0 p0 p1 p2 β v0) κ=iterC (fun v k=>(X_iC_in_etext_channel_0 p0 p1 p2 (ρ:=ρ)).f β v k κ) v0:=by
 refine goLp_iter (Φ:=fun v k=>(X_iC_in_etext_channel_0 p0 p1 p2 (ρ:=ρ)).f β v k κ) q67_0.2 (S:=fun v=>S_iC_in_etext_channel_0 p0 p1 p2 β v) ?_ v0
 intro R g hR v
 have h:=(X_iC_in_etext_channel_0 p0 p1 p2 (ρ:=ρ)).ok β R g κ
 exact h (fun v0=>hR v0) v
end
@[go_sem] theorem W_iC_in_etext_channel_0f{ρ:Type}(p0:List GChan)(p1:Int)(p2:List UInt8)(κ:Ex×St→Option ρ)(v0:Int):type_of% (by have h:=V_iC_in_etext_channel_0 p0 p1 p2 false κ v0;simp only[S_iC_in_etext_channel_0,X_iC_in_etext_channel_0,mkL,LX.f]at h;exact h):=by have h:=V_iC_in_etext_channel_0 p0 p1 p2 false κ v0;simp only[S_iC_in_etext_channel_0,X_iC_in_etext_channel_0,mkL,LX.f]at h;exact h
@[go_sem] theorem W_iC_in_etext_channel_0t{ρ:Type}(p0:List GChan)(p1:Int)(p2:List UInt8)(κ:Ex×St→Option ρ)(v0:Int):type_of% (by have h:=V_iC_in_etext_channel_0 p0 p1 p2 true κ v0;simp only[S_iC_in_etext_channel_0,X_iC_in_etext_channel_0,mkL,LX.f]at h;exact h):=by have h:=V_iC_in_etext_channel_0 p0 p1 p2 true κ v0;simp only[S_iC_in_etext_channel_0,X_iC_in_etext_channel_0,mkL,LX.f]at h;exact h
@[go_sem] def K_etext_channel(a0:List UInt8)(a1:GScope)(β:Bool)(y0_0:Int):List T×List Ob:=([.d (.int IntKind.i64 y0_0)],[])
def F_etext_channel(a0:List UInt8)(a1:GScope){ρ:Type}:{Φ:(Int→Option ρ)→Option ρ // ∀(β:Bool) (κ:List T×List Ob→Option ρ) (g:Int→Option ρ),(∀(y0_0:Int),κ (K_etext_channel a0 a1 β y0_0)=g y0_0)→cbK (call 31 [eS a0,(eScope β) a1] []) κ=Φ g}:=mkF (p:=fun(β:Bool) (κ:List T×List Ob→Option ρ) (g:Int→Option ρ)=>(∀(y0_0:Int),κ (K_etext_channel a0 a1 β y0_0)=g y0_0)) (ds:=fun β=>[eS a0,(eScope β) a1]) ge31 (fun _=>rfl) _
def f_etext_channel(a0:List UInt8)(a1:GScope){ρ:Type}(g0:Int→Option ρ):Option ρ:=(F_etext_channel a0 a1).1 g0
theorem U_etext_channel{ρ:Type}(β:Bool)(a0:List UInt8)(a1_0:List GScalar)(a1_1:List GVar)(a1_2:List GChan)(a1_3:List GProc)(a1_4:List GVar)(a1_5:Int)(κ:List T×List Ob→Option ρ):cbK (call 31 [.str a0,.agg [.sl β (List.map eScalar a1_0),.sl β (List.map eVar a1_1),.sl β (List.map eChan a1_2),.sl β (List.map (eProc β) a1_3),.sl β (List.map eVar a1_4),.int .i64 a1_5]] []) κ=f_etext_channel a0 (GScope.mk a1_0 a1_1 a1_2 a1_3 a1_4 a1_5) (fun y0_0=>κ (K_etext_channel a0 (GScope.mk a1_0 a1_1 a1_2 a1_3 a1_4 a1_5) β y0_0)):=(F_etext_channel a0 (GScope.mk a1_0 a1_1 a1_2 a1_3 a1_4 a1_5)).2 β κ _ (fun _=>rfl)
@[go_sem] theorem W_etext_channel{ρ:Type}(β:Bool)(a0:List UInt8)(a1_0:List GScalar)(a1_1:List GVar)(a1_2:List GChan)(a1_3:List GProc)(a1_4:List GVar)(a1_5:Int)(κ:List T×List Ob→Option ρ):type_of% (by have h:= @U_etext_channel ρ β a0 a1_0 a1_1 a1_2 a1_3 a1_4 a1_5 κ;simp only[K_etext_channel]at h;exact h):=by have h:= @U_etext_channel ρ β a0 a1_0 a1_1 a1_2 a1_3 a1_4 a1_5 κ;simp only[K_etext_channel]at h;exact h
attribute [go_sem] ge70
attribute [go_sem] ge69
section
variable(p0:List GProc)(p1:Int)(p2:List UInt8)
@[go_sem] def S_iP_in_etext_process_0(p0:List GProc)(p1:Int)(p2:List UInt8)(β:Bool)(v0:Int):St:=⟨[(0,.d (.sl β (List.map (eProc β) p0))),(1,.d (.fn (Fn.func 70) [] [.ptr (0)])),(7,.d (.int IntKind.i64 p1)),(8,.d (.int IntKind.i64 v0))],[],[.box (.d (.str p2))]⟩
def X_iP_in_etext_process_0(p0:List GProc)(p1:Int)(p2:List UInt8){ρ:Type}:LX (A:=Int→(Int→Option ρ)→(Ex×St→Option ρ)→Option ρ) fun β Φ=>∀(R:St→Option ρ) (g:Int→Option ρ) (κ:Ex×St→Option ρ),(∀(v0:Int),R (S_iP_in_etext_process_0 p0 p1 p2 β v0)=g v0)→∀(v0:Int),go P hints hint69 b69 q69_0.1 (S_iP_in_etext_process_0 p0 p1 p2 β v0) (kLp R κ)=Φ v0 g κ:=mkL _ _
theorem V_iP_in_etext_process_0(p0:List GProc)(p1:Int)(p2:List UInt8){ρ:Type}(β:Bool)(κ:Ex×St→Option ρ)(v0:Int):goLp P hints hint69 b69 0 (S_iP_in_etext_process_0 p0 p1 p2 β v0) κ=iterC (fun v k=>(X_iP_in_etext_process_0 p0 p1 p2 (ρ:=ρ)).f β v k κ) v0:=by
 refine goLp_iter (Φ:=fun v k=>(X_iP_in_etext_process_0 p0 p1 p2 (ρ:=ρ)).f β v k κ) q69_0.2 (S:=fun v=>S_iP_in_etext_process_0 p0 p1 p2 β v) ?_ v0
 intro R g hR v
 have h:=(X_iP_in_etext_process_0 p0 p1 p2 (ρ:=ρ)).ok β R g κ
 exact h (fun v0=>hR v0) v
end
@[go_sem] theorem W_iP_in_etext_process_0f{ρ:Type}(p0:List GProc)(p1:Int)(p2:List UInt8)(κ:Ex×St→Option ρ)(v0:Int):type_of% (by have h:=V_iP_in_etext_process_0 p0 p1 p2 false κ v0;simp only[S_iP_in_etext_process_0,X_iP_in_etext_process_0,mkL,LX.f]at h;exact h):=by have h:=V_iP_in_etext_process_0 p0 p1 p2 false κ v0;simp only[S_iP_in_etext_process_0,X_iP_in_etext_process_0,mkL,LX.f]at h;exact h
@[go_sem] theorem W_iP_in_etext_process_0t{ρ:Type}(p0:List GProc)(p1:Int)(p2:List UInt8)(κ:Ex×St→Option ρ)(v0:Int):type_of% (by have h:=V_iP_in_etext_process_0 p0 p1 p2 true κ v0;simp only[S_iP_in_etext_process_0,X_iP_in_etext_process_0,mkL,LX.f]at h;exact h):=by have h:=V_iP_in_etext_process_0 p0 p1 p2 true κ v0;simp only[S_iP_in_etext_process_0,X_iP_in_etext_process_0,mkL,LX.f]at h;exact h
@[go_sem] def K_etext_process(a0:List UInt8)(a1:GScope)(β:Bool)(y0_0:Int):List T×List Ob:=([.d (.int IntKind.i64 y0_0)],[])
def F_etext_process(a0:List UInt8)(a1:GScope){ρ:Type}:{Φ:(Int→Option ρ)→Option ρ // ∀(β:Bool) (κ:List T×List Ob→Option ρ) (g:Int→Option ρ),(∀(y0_0:Int),κ (K_etext_process a0 a1 β y0_0)=g y0_0)→cbK (call 32 [eS a0,(eScope β) a1] []) κ=Φ g}:=mkF (p:=fun(β:Bool) (κ:List T×List Ob→Option ρ) (g:Int→Option ρ)=>(∀(y0_0:Int),κ (K_etext_process a0 a1 β y0_0)=g y0_0)) (ds:=fun β=>[eS a0,(eScope β) a1]) ge32 (fun _=>rfl) _
def f_etext_process(a0:List UInt8)(a1:GScope){ρ:Type}(g0:Int→Option ρ):Option ρ:=(F_etext_process a0 a1).1 g0
theorem U_etext_process{ρ:Type}(β:Bool)(a0:List UInt8)(a1_0:List GScalar)(a1_1:List GVar)(a1_2:List GChan)(a1_3:List GProc)(a1_4:List GVar)(a1_5:Int)(κ:List T×List Ob→Option ρ):cbK (call 32 [.str a0,.agg [.sl β (List.map eScalar a1_0),.sl β (List.map eVar a1_1),.sl β (List.map eChan a1_2),.sl β (List.map (eProc β) a1_3),.sl β (List.map eVar a1_4),.int .i64 a1_5]] []) κ=f_etext_process a0 (GScope.mk a1_0 a1_1 a1_2 a1_3 a1_4 a1_5) (fun y0_0=>κ (K_etext_process a0 (GScope.mk a1_0 a1_1 a1_2 a1_3 a1_4 a1_5) β y0_0)):=(F_etext_process a0 (GScope.mk a1_0 a1_1 a1_2 a1_3 a1_4 a1_5)).2 β κ _ (fun _=>rfl)
@[go_sem] theorem W_etext_process{ρ:Type}(β:Bool)(a0:List UInt8)(a1_0:List GScalar)(a1_1:List GVar)(a1_2:List GChan)(a1_3:List GProc)(a1_4:List GVar)(a1_5:Int)(κ:List T×List Ob→Option ρ):type_of% (by have h:= @U_etext_process ρ β a0 a1_0 a1_1 a1_2 a1_3 a1_4 a1_5 κ;simp only[K_etext_process]at h;exact h):=by have h:= @U_etext_process ρ β a0 a1_0 a1_1 a1_2 a1_3 a1_4 a1_5 κ;simp only[K_etext_process]at h;exact h
attribute [go_sem] ge72
attribute [go_sem] ge71
section
variable(p0:List GScalar)(p1:Int)(p2:List UInt8)
@[go_sem] def S_iS_in_etext_scalar_0(p0:List GScalar)(p1:Int)(p2:List UInt8)(β:Bool)(v0:Int):St:=⟨[(0,.d (.sl β (List.map eScalar p0))),(1,.d (.fn (Fn.func 72) [] [.ptr (0)])),(7,.d (.int IntKind.i64 p1)),(8,.d (.int IntKind.i64 v0))],[],[.box (.d (.str p2))]⟩
def X_iS_in_etext_scalar_0(p0:List GScalar)(p1:Int)(p2:List UInt8){ρ:Type}:LX (A:=Int→(Int→Option ρ)→(Ex×St→Option ρ)→Option ρ) fun β Φ=>∀(R:St→Option ρ) (g:Int→Option ρ) (κ:Ex×St→Option ρ),(∀(v0:Int),R (S_iS_in_etext_scalar_0 p0 p1 p2 β v0)=g v0)→∀(v0:Int),go P hints hint71 b71 q71_0.1 (S_iS_in_etext_scalar_0 p0 p1 p2 β v0) (kLp R κ)=Φ v0 g κ:=mkL _ _
theorem V_iS_in_etext_scalar_0(p0:List GScalar)(p1:Int)(p2:List UInt8){ρ:Type}(β:Bool)(κ:Ex×St→Option ρ)(v0:Int):goLp P hints hint71 b71 0 (S_iS_in_etext_scalar_0 p0 p1 p2 β v0) κ=iterC (fun v k=>(X_iS_in_etext_scalar_0 p0 p1 p2 (ρ:=ρ)).f β v k κ) v0:=by
 refine goLp_iter (Φ:=fun v k=>(X_iS_in_etext_scalar_0 p0 p1 p2 (ρ:=ρ)).f β v k κ) q71_0.2 (S:=fun v=>S_iS_in_etext_scalar_0 p0 p1 p2 β v) ?_ v0
 intro R g hR v
 have h:=(X_iS_in_etext_scalar_0 p0 p1 p2 (ρ:=ρ)).ok β R g κ
 exact h (fun v0=>hR v0) v
end
@[go_sem] theorem W_iS_in_etext_scalar_0f{ρ:Type}(p0:List GScalar)(p1:Int)(p2:List UInt8)(κ:Ex×St→Option ρ)(v0:Int):type_of% (by have h:=V_iS_in_etext_scalar_0 p0 p1 p2 false κ v0;simp only[S_iS_in_etext_scalar_0,X_iS_in_etext_scalar_0,mkL,LX.f]at h;exact h):=by have h:=V_iS_in_etext_scalar_0 p0 p1 p2 false κ v0;simp only[S_iS_in_etext_scalar_0,X_iS_in_etext_scalar_0,mkL,LX.f]at h;exact h
@[go_sem] theorem W_iS_in_etext_scalar_0t{ρ:Type}(p0:List GScalar)(p1:Int)(p2:List UInt8)(κ:Ex×St→Option ρ)(v0:Int):type_of% (by have h:=V_iS_in_etext_scalar_0 p0 p1 p2 true κ v0;simp only[S_iS_in_etext_scalar_0,X_iS_in_etext_scalar_0,mkL,LX.f]at h;exact h):=by have h:=V_iS_in_etext_scalar_0 p0 p1 p2 true κ v0;simp only[S_iS_in_etext_scalar_0,X_iS_in_etext_scalar_0,mkL,LX.f]at h;exact h
@[go_sem] def K_etext_scalar(a0:List UInt8)(a1:GScope)(β:Bool)(y0_0:Int):List T×List Ob:=([.d (.int IntKind.i64 y0_0)],[])
def F_etext_scalar(a0:List UInt8)(a1:GScope){ρ:Type}:{Φ:(Int→Option ρ)→Option ρ // ∀(β:Bool) (κ:List T×List Ob→Option ρ) (g:Int→Option ρ),(∀(y0_0:Int),κ (K_etext_scalar a0 a1 β y0_0)=g y0_0)→cbK (call 33 [eS a0,(eScope β) a1] []) κ=Φ g}:=mkF (p:=fun(β:Bool) (κ:List T×List Ob→Option ρ) (g:Int→Option ρ)=>(∀(y0_0:Int),κ (K_etext_scalar a0 a1 β y0_0)=g y0_0)) (ds:=fun β=>[eS a0,(eScope β) a1]) ge33 (fun _=>rfl) _
def f_etext_scalar(a0:List UInt8)(a1:GScope){ρ:Type}(g0:Int→Option ρ):Option ρ:=(F_etext_scalar a0 a1).1 g0
theorem U_etext_scalar{ρ:Type}(β:Bool)(a0:List UInt8)(a1_0:List GScalar)(a1_1:List GVar)(a1_2:List GChan)(a1_3:List GProc)(a1_4:List GVar)(a1_5:Int)(κ:List T×List Ob→Option ρ):cbK (call 33 [.str a0,.agg [.sl β (List.map eScalar a1_0),.sl β (List.map eVar a1_1),.sl β (List.map eChan a1_2),.sl β (List.map (eProc β) a1_3),.sl β (List.map eVar a1_4),.int .i64 a1_5]] []) κ=f_etext_scalar a0 (GScope.mk a1_0 a1_1 a1_2 a1_3 a1_4 a1_5) (fun y0_0=>κ (K_etext_scalar a0 (GScope.mk a1_0 a1_1 a1_2 a1_3 a1_4 a1_5) β y0_0)):=(F_etext_scalar a0 (GScope.mk a1_0 a1_1 a1_2 a1_3 a1_4 a1_5)).2 β κ _ (fun _=>rfl)
@[go_sem] theorem W_etext_scalar{ρ:Type}(β:Bool)(a0:List UInt8)(a1_0:List GScalar)(a1_1:List GVar)(a1_2:List GChan)(a1_3:List GProc)(a1_4:List GVar)(a1_5:Int)(κ:List T×List Ob→Option ρ):type_of% (by have h:= @U_etext_scalar ρ β a0 a1_0 a1_1 a1_2 a1_3 a1_4 a1_5 κ;simp only[K_etext_scalar]at h;exact h):=by have h:= @U_etext_scalar ρ β a0 a1_0 a1_1 a1_2 a1_3 a1_4 a1_5 κ;simp only[K_etext_scalar]at h;exact h
@[go_sem] def K_etext_named(a0:GNode)(a1:GScope)(β:Bool)(y0_0:List UInt8)(y0_1:Bool):List T×List Ob:=([.d (.str y0_0),.d (.bool y0_1)],[])
def F_etext_named(a0:GNode)(a1:GScope){ρ:Type}:{Φ:((List UInt8)→Bool→Option ρ)→Option ρ // ∀(β:Bool) (κ:List T×List Ob→Option ρ) (g:(List UInt8)→Bool→Option ρ),(∀(y0_0:List UInt8) (y0_1:Bool),κ (K_etext_named a0 a1 β y0_0 y0_1)=g y0_0 y0_1)→cbK (call 14 [eNode a0,(eScope β) a1] []) κ=Φ g}:=mkF (p:=fun(β:Bool) (κ:List T×List Ob→Option ρ) (g:(List UInt8)→Bool→Option ρ)=>(∀(y0_0:List UInt8) (y0_1:Bool),κ (K_etext_named a0 a1 β y0_0 y0_1)=g y0_0 y0_1)) (ds:=fun β=>[eNode a0,(eScope β) a1]) ge14 (fun _=>rfl) _
def f_etext_named(a0:GNode)(a1:GScope){ρ:Type}(g0:(List UInt8)→Bool→Option ρ):Option ρ:=(F_etext_named a0 a1).1 g0
theorem U_etext_named{ρ:Type}(β:Bool)(a0_0:Int)(a0_1:Int)(a1_0:List GScalar)(a1_1:List GVar)(a1_2:List GChan)(a1_3:List GProc)(a1_4:List GVar)(a1_5:Int)(κ:List T×List Ob→Option ρ):cbK (call 14 [.agg [.int .i64 a0_0,.int .i64 a0_1],.agg [.sl β (List.map eScalar a1_0),.sl β (List.map eVar a1_1),.sl β (List.map eChan a1_2),.sl β (List.map (eProc β) a1_3),.sl β (List.map eVar a1_4),.int .i64 a1_5]] []) κ=f_etext_named (GNode.mk a0_0 a0_1) (GScope.mk a1_0 a1_1 a1_2 a1_3 a1_4 a1_5) (fun y0_0 y0_1=>κ (K_etext_named (GNode.mk a0_0 a0_1) (GScope.mk a1_0 a1_1 a1_2 a1_3 a1_4 a1_5) β y0_0 y0_1)):=(F_etext_named (GNode.mk a0_0 a0_1) (GScope.mk a1_0 a1_1 a1_2 a1_3 a1_4 a1_5)).2 β κ _ (fun _ _=>rfl)
@[go_sem] theorem W_etext_named{ρ:Type}(β:Bool)(a0_0:Int)(a0_1:Int)(a1_0:List GScalar)(a1_1:List GVar)(a1_2:List GChan)(a1_3:List GProc)(a1_4:List GVar)(a1_5:Int)(κ:List T×List Ob→Option ρ):type_of% (by have h:= @U_etext_named ρ β a0_0 a0_1 a1_0 a1_1 a1_2 a1_3 a1_4 a1_5 κ;simp only[K_etext_named]at h;exact h):=by have h:= @U_etext_named ρ β a0_0 a0_1 a1_0 a1_1 a1_2 a1_3 a1_4 a1_5 κ;simp only[K_etext_named]at h;exact h
@[go_sem] def K_etext_tells(a0:Int)(β:Bool)(y0_0:Bool):List T×List Ob:=([.d (.bool y0_0)],[])
def F_etext_tells(a0:Int){ρ:Type}:{Φ:(Bool→Option ρ)→Option ρ // ∀(β:Bool) (κ:List T×List Ob→Option ρ) (g:Bool→Option ρ),(∀(y0_0:Bool),κ (K_etext_tells a0 β y0_0)=g y0_0)→cbK (call 16 [eI a0] []) κ=Φ g}:=mkF (p:=fun(β:Bool) (κ:List T×List Ob→Option ρ) (g:Bool→Option ρ)=>(∀(y0_0:Bool),κ (K_etext_tells a0 β y0_0)=g y0_0)) (ds:=fun β=>[eI a0]) ge16 (fun _=>rfl) _
def f_etext_tells(a0:Int){ρ:Type}(g0:Bool→Option ρ):Option ρ:=(F_etext_tells a0).1 g0
theorem U_etext_tells{ρ:Type}(a0:Int)(κ:List T×List Ob→Option ρ):cbK (call 16 [.int .i64 a0] []) κ=f_etext_tells a0 (fun y0_0=>κ (K_etext_tells a0 true y0_0)):=(F_etext_tells a0).2 true κ _ (fun _=>rfl)
@[go_sem] theorem W_etext_tells{ρ:Type}(a0:Int)(κ:List T×List Ob→Option ρ):type_of% (by have h:= @U_etext_tells ρ a0 κ;simp only[K_etext_tells]at h;exact h):=by have h:= @U_etext_tells ρ a0 κ;simp only[K_etext_tells]at h;exact h
@[go_sem] def K_etext_leaf(a0:GNode)(a1:List UInt8)(β:Bool)(y0_0:List UInt8)(y0_1:Int):List T×List Ob:=([.d (.agg [.str y0_0,.int IntKind.i64 (a0.Op),.int IntKind.i64 y0_1])],[])
def F_etext_leaf(a0:GNode)(a1:List UInt8){ρ:Type}:{Φ:((List UInt8)→Int→Option ρ)→Option ρ // ∀(β:Bool) (κ:List T×List Ob→Option ρ) (g:(List UInt8)→Int→Option ρ),(∀(y0_0:List UInt8) (y0_1:Int),κ (K_etext_leaf a0 a1 β y0_0 y0_1)=g y0_0 y0_1)→cbK (call 40 [eNode a0,eS a1] []) κ=Φ g}:=mkF (p:=fun(β:Bool) (κ:List T×List Ob→Option ρ) (g:(List UInt8)→Int→Option ρ)=>(∀(y0_0:List UInt8) (y0_1:Int),κ (K_etext_leaf a0 a1 β y0_0 y0_1)=g y0_0 y0_1)) (ds:=fun β=>[eNode a0,eS a1]) ge40 (fun _=>rfl) _
def f_etext_leaf(a0:GNode)(a1:List UInt8){ρ:Type}(g0:(List UInt8)→Int→Option ρ):Option ρ:=(F_etext_leaf a0 a1).1 g0
theorem U_etext_leaf{ρ:Type}(a0_0:Int)(a0_1:Int)(a1:List UInt8)(κ:List T×List Ob→Option ρ):cbK (call 40 [.agg [.int .i64 a0_0,.int .i64 a0_1],.str a1] []) κ=f_etext_leaf (GNode.mk a0_0 a0_1) a1 (fun y0_0 y0_1=>κ (K_etext_leaf (GNode.mk a0_0 a0_1) a1 true y0_0 y0_1)):=(F_etext_leaf (GNode.mk a0_0 a0_1) a1).2 true κ _ (fun _ _=>rfl)
@[go_sem] theorem W_etext_leaf{ρ:Type}(a0_0:Int)(a0_1:Int)(a1:List UInt8)(κ:List T×List Ob→Option ρ):type_of% (by have h:= @U_etext_leaf ρ a0_0 a0_1 a1 κ;simp only[K_etext_leaf]at h;exact h):=by have h:= @U_etext_leaf ρ a0_0 a0_1 a1 κ;simp only[K_etext_leaf]at h;exact h
@[go_sem] def K_etext_signOf(a0:Int)(β:Bool)(y0_0:List UInt8)(y0_1:Int)(y0_2:Bool):List T×List Ob:=([.d (.agg [.str y0_0,.int IntKind.i64 y0_1]),.d (.bool y0_2)],[])
def F_etext_signOf(a0:Int){ρ:Type}:{Φ:((List UInt8)→Int→Bool→Option ρ)→Option ρ // ∀(β:Bool) (κ:List T×List Ob→Option ρ) (g:(List UInt8)→Int→Bool→Option ρ),(∀(y0_0:List UInt8) (y0_1:Int) (y0_2:Bool),κ (K_etext_signOf a0 β y0_0 y0_1 y0_2)=g y0_0 y0_1 y0_2)→cbK (call 38 [eI a0] []) κ=Φ g}:=mkF (p:=fun(β:Bool) (κ:List T×List Ob→Option ρ) (g:(List UInt8)→Int→Bool→Option ρ)=>(∀(y0_0:List UInt8) (y0_1:Int) (y0_2:Bool),κ (K_etext_signOf a0 β y0_0 y0_1 y0_2)=g y0_0 y0_1 y0_2)) (ds:=fun β=>[eI a0]) ge38 (fun _=>rfl) _
def f_etext_signOf(a0:Int){ρ:Type}(g0:(List UInt8)→Int→Bool→Option ρ):Option ρ:=(F_etext_signOf a0).1 g0
theorem U_etext_signOf{ρ:Type}(a0:Int)(κ:List T×List Ob→Option ρ):cbK (call 38 [.int .i64 a0] []) κ=f_etext_signOf a0 (fun y0_0 y0_1 y0_2=>κ (K_etext_signOf a0 true y0_0 y0_1 y0_2)):=(F_etext_signOf a0).2 true κ _ (fun _ _ _=>rfl)
@[go_sem] theorem W_etext_signOf{ρ:Type}(a0:Int)(κ:List T×List Ob→Option ρ):type_of% (by have h:= @U_etext_signOf ρ a0 κ;simp only[K_etext_signOf]at h;exact h):=by have h:= @U_etext_signOf ρ a0 κ;simp only[K_etext_signOf]at h;exact h
@[go_sem] def K_etext_part_in(a0:Gpart)(a1:Bool)(β:Bool)(y0_0:List UInt8):List T×List Ob:=([.d (.str y0_0)],[])
def F_etext_part_in(a0:Gpart)(a1:Bool){ρ:Type}:{Φ:((List UInt8)→Option ρ)→Option ρ // ∀(β:Bool) (κ:List T×List Ob→Option ρ) (g:(List UInt8)→Option ρ),(∀(y0_0:List UInt8),κ (K_etext_part_in a0 a1 β y0_0)=g y0_0)→cbK (call 37 [epart a0,eB a1] []) κ=Φ g}:=mkF (p:=fun(β:Bool) (κ:List T×List Ob→Option ρ) (g:(List UInt8)→Option ρ)=>(∀(y0_0:List UInt8),κ (K_etext_part_in a0 a1 β y0_0)=g y0_0)) (ds:=fun β=>[epart a0,eB a1]) ge37 (fun _=>rfl) _
def f_etext_part_in(a0:Gpart)(a1:Bool){ρ:Type}(g0:(List UInt8)→Option ρ):Option ρ:=(F_etext_part_in a0 a1).1 g0
theorem U_etext_part_in{ρ:Type}(a0_0:List UInt8)(a0_1:Int)(a0_2:Int)(a1:Bool)(κ:List T×List Ob→Option ρ):cbK (call 37 [.agg [.str a0_0,.int .i64 a0_1,.int .i64 a0_2],.bool a1] []) κ=f_etext_part_in (Gpart.mk a0_0 a0_1 a0_2) a1 (fun y0_0=>κ (K_etext_part_in (Gpart.mk a0_0 a0_1 a0_2) a1 true y0_0)):=(F_etext_part_in (Gpart.mk a0_0 a0_1 a0_2) a1).2 true κ _ (fun _=>rfl)
@[go_sem] theorem W_etext_part_in{ρ:Type}(a0_0:List UInt8)(a0_1:Int)(a0_2:Int)(a1:Bool)(κ:List T×List Ob→Option ρ):type_of% (by have h:= @U_etext_part_in ρ a0_0 a0_1 a0_2 a1 κ;simp only[K_etext_part_in]at h;exact h):=by have h:= @U_etext_part_in ρ a0_0 a0_1 a0_2 a1 κ;simp only[K_etext_part_in]at h;exact h
@[go_sem] def K_etext_joined(a0:Int)(a1:Gpart)(a2:Gpart)(β:Bool)(y0_0:List UInt8)(y0_1:Int):List T×List Ob:=([.d (.agg [.str y0_0,.int IntKind.i64 (a0),.int IntKind.i64 y0_1])],[])
def F_etext_joined(a0:Int)(a1:Gpart)(a2:Gpart){ρ:Type}:{Φ:((List UInt8)→Int→Option ρ)→Option ρ // ∀(β:Bool) (κ:List T×List Ob→Option ρ) (g:(List UInt8)→Int→Option ρ),(∀(y0_0:List UInt8) (y0_1:Int),κ (K_etext_joined a0 a1 a2 β y0_0 y0_1)=g y0_0 y0_1)→cbK (call 39 [eI a0,epart a1,epart a2] []) κ=Φ g}:=mkF (p:=fun(β:Bool) (κ:List T×List Ob→Option ρ) (g:(List UInt8)→Int→Option ρ)=>(∀(y0_0:List UInt8) (y0_1:Int),κ (K_etext_joined a0 a1 a2 β y0_0 y0_1)=g y0_0 y0_1)) (ds:=fun β=>[eI a0,epart a1,epart a2]) ge39 (fun _=>rfl) _
def f_etext_joined(a0:Int)(a1:Gpart)(a2:Gpart){ρ:Type}(g0:(List UInt8)→Int→Option ρ):Option ρ:=(F_etext_joined a0 a1 a2).1 g0
theorem U_etext_joined{ρ:Type}(a0:Int)(a1_0:List UInt8)(a1_1:Int)(a1_2:Int)(a2_0:List UInt8)(a2_1:Int)(a2_2:Int)(κ:List T×List Ob→Option ρ):cbK (call 39 [.int .i64 a0,.agg [.str a1_0,.int .i64 a1_1,.int .i64 a1_2],.agg [.str a2_0,.int .i64 a2_1,.int .i64 a2_2]] []) κ=f_etext_joined a0 (Gpart.mk a1_0 a1_1 a1_2) (Gpart.mk a2_0 a2_1 a2_2) (fun y0_0 y0_1=>κ (K_etext_joined a0 (Gpart.mk a1_0 a1_1 a1_2) (Gpart.mk a2_0 a2_1 a2_2) true y0_0 y0_1)):=(F_etext_joined a0 (Gpart.mk a1_0 a1_1 a1_2) (Gpart.mk a2_0 a2_1 a2_2)).2 true κ _ (fun _ _=>rfl)
@[go_sem] theorem W_etext_joined{ρ:Type}(a0:Int)(a1_0:List UInt8)(a1_1:Int)(a1_2:Int)(a2_0:List UInt8)(a2_1:Int)(a2_2:Int)(κ:List T×List Ob→Option ρ):type_of% (by have h:= @U_etext_joined ρ a0 a1_0 a1_1 a1_2 a2_0 a2_1 a2_2 κ;simp only[K_etext_joined]at h;exact h):=by have h:= @U_etext_joined ρ a0 a1_0 a1_1 a1_2 a2_0 a2_1 a2_2 κ;simp only[K_etext_joined]at h;exact h
@[go_sem] def K_law11_Light(a0:List GNode)(a1:GScope)(β:Bool)(y0_0:Int):List T×List Ob:=([.d (.int IntKind.i64 y0_0)],[])
def F_law11_Light(a0:List GNode)(a1:GScope){ρ:Type}:{Φ:(Int→Option ρ)→Option ρ // ∀(β:Bool) (κ:List T×List Ob→Option ρ) (g:Int→Option ρ),(∀(y0_0:Int),κ (K_law11_Light a0 a1 β y0_0)=g y0_0)→cbK (call 5 [(esNode β) a0,(eScope β) a1] []) κ=Φ g}:=mkF (p:=fun(β:Bool) (κ:List T×List Ob→Option ρ) (g:Int→Option ρ)=>(∀(y0_0:Int),κ (K_law11_Light a0 a1 β y0_0)=g y0_0)) (ds:=fun β=>[(esNode β) a0,(eScope β) a1]) ge5 (fun _=>rfl) _
def f_law11_Light(a0:List GNode)(a1:GScope){ρ:Type}(g0:Int→Option ρ):Option ρ:=(F_law11_Light a0 a1).1 g0
theorem U_law11_Light{ρ:Type}(β:Bool)(a0:List GNode)(a1_0:List GScalar)(a1_1:List GVar)(a1_2:List GChan)(a1_3:List GProc)(a1_4:List GVar)(a1_5:Int)(κ:List T×List Ob→Option ρ):cbK (call 5 [.sl β (List.map eNode a0),.agg [.sl β (List.map eScalar a1_0),.sl β (List.map eVar a1_1),.sl β (List.map eChan a1_2),.sl β (List.map (eProc β) a1_3),.sl β (List.map eVar a1_4),.int .i64 a1_5]] []) κ=f_law11_Light a0 (GScope.mk a1_0 a1_1 a1_2 a1_3 a1_4 a1_5) (fun y0_0=>κ (K_law11_Light a0 (GScope.mk a1_0 a1_1 a1_2 a1_3 a1_4 a1_5) β y0_0)):=(F_law11_Light a0 (GScope.mk a1_0 a1_1 a1_2 a1_3 a1_4 a1_5)).2 β κ _ (fun _=>rfl)
@[go_sem] theorem W_law11_Light{ρ:Type}(β:Bool)(a0:List GNode)(a1_0:List GScalar)(a1_1:List GVar)(a1_2:List GChan)(a1_3:List GProc)(a1_4:List GVar)(a1_5:Int)(κ:List T×List Ob→Option ρ):type_of% (by have h:= @U_law11_Light ρ β a0 a1_0 a1_1 a1_2 a1_3 a1_4 a1_5 κ;simp only[K_law11_Light]at h;exact h):=by have h:= @U_law11_Light ρ β a0 a1_0 a1_1 a1_2 a1_3 a1_4 a1_5 κ;simp only[K_law11_Light]at h;exact h
section
variable(p0:List GNode)
@[go_sem] def S_law11_bare_0(p0:List GNode)(β:Bool)(n0:Nat)(v0:Int)(v1:List (GNode)):St:=⟨[(0,.d (.sl β (List.map eNode p0))),(3,.bor (.l 3 0) [] 0 n0),(4,.d (.int IntKind.i64 v0))],[((3,0),.own (tl eNode v1))],[]⟩
def X_law11_bare_0(p0:List GNode){ρ:Type}:LX (A:=Int→(List (GNode))→((Int)×(List (GNode))→Option ρ)→(Ex×St→Option ρ)→Option ρ) fun β Φ=>∀(R:St→Option ρ) (g:(Int)×(List (GNode))→Option ρ) (κ:Ex×St→Option ρ),(∀(n0:Nat) (v0:Int) (v1:List (GNode)),n0=List.length v1→R (S_law11_bare_0 p0 β n0 v0 v1)=g (v0,v1))→∀(v0:Int) (v1:List (GNode)),go P hints hint10 b10 q10_0.1 (S_law11_bare_0 p0 β (List.length v1) v0 v1) (kLp R κ)=Φ v0 v1 g κ:=mkL _ _
theorem V_law11_bare_0(p0:List GNode){ρ:Type}(β:Bool)(κ:Ex×St→Option ρ)(n0:Nat)(v0:Int)(v1:List (GNode))(hn0:n0=List.length v1):goLp P hints hint10 b10 0 (S_law11_bare_0 p0 β n0 v0 v1) κ=iterC (fun v k=>(X_law11_bare_0 p0 (ρ:=ρ)).f β v.1 v.2 k κ) (v0,v1):=by
 subst hn0;refine goLp_iter (Φ:=fun v k=>(X_law11_bare_0 p0 (ρ:=ρ)).f β v.1 v.2 k κ) q10_0.2 (S:=fun v=>S_law11_bare_0 p0 β (List.length v.2) v.1 v.2) ?_ (v0,v1)
 intro R g hR v
 have h:=(X_law11_bare_0 p0 (ρ:=ρ)).ok β R g κ
 exact h (fun n0 v0 v1 hn0=>by subst hn0;exact hR (v0,v1)) v.1 v.2
end
@[go_sem] theorem W_law11_bare_0_1f{ρ:Type}(p0:List GNode)(κ:Ex×St→Option ρ)(v0:Int):type_of% (by have h:=V_law11_bare_0 p0 false κ 0 v0 [] rfl;simp only[S_law11_bare_0,X_law11_bare_0,mkL,LX.f,tl_nil,tlo_rep,ents_nil,entsB_nil]at h;exact h):=by have h:=V_law11_bare_0 p0 false κ 0 v0 [] rfl;simp only[S_law11_bare_0,X_law11_bare_0,mkL,LX.f,tl_nil,tlo_rep,ents_nil,entsB_nil]at h;exact h
@[go_sem] theorem W_law11_bare_0_1t{ρ:Type}(p0:List GNode)(κ:Ex×St→Option ρ)(v0:Int):type_of% (by have h:=V_law11_bare_0 p0 true κ 0 v0 [] rfl;simp only[S_law11_bare_0,X_law11_bare_0,mkL,LX.f,tl_nil,tlo_rep,ents_nil,entsB_nil]at h;exact h):=by have h:=V_law11_bare_0 p0 true κ 0 v0 [] rfl;simp only[S_law11_bare_0,X_law11_bare_0,mkL,LX.f,tl_nil,tlo_rep,ents_nil,entsB_nil]at h;exact h
@[go_sem] def K_law11_bare(a0:List GNode)(β:Bool)(y0_0:List GNode):List T×List Ob:=([.d (.sl false (List.map eNode y0_0))],[])
def F_law11_bare(a0:List GNode){ρ:Type}:{Φ:((List GNode)→Option ρ)→Option ρ // ∀(β:Bool) (κ:List T×List Ob→Option ρ) (g:(List GNode)→Option ρ),(∀(y0_0:List GNode),κ (K_law11_bare a0 β y0_0)=g y0_0)→cbK (call 10 [(esNode β) a0] []) κ=Φ g}:=mkF (p:=fun(β:Bool) (κ:List T×List Ob→Option ρ) (g:(List GNode)→Option ρ)=>(∀(y0_0:List GNode),κ (K_law11_bare a0 β y0_0)=g y0_0)) (ds:=fun β=>[(esNode β) a0]) ge10 (fun _=>rfl) _
def f_law11_bare(a0:List GNode){ρ:Type}(g0:(List GNode)→Option ρ):Option ρ:=(F_law11_bare a0).1 g0
theorem U_law11_bare{ρ:Type}(β:Bool)(a0:List GNode)(κ:List T×List Ob→Option ρ):cbK (call 10 [.sl β (List.map eNode a0)] []) κ=f_law11_bare a0 (fun y0_0=>κ (K_law11_bare a0 β y0_0)):=(F_law11_bare a0).2 β κ _ (fun _=>rfl)
@[go_sem] theorem W_law11_bare{ρ:Type}(β:Bool)(a0:List GNode)(κ:List T×List Ob→Option ρ):type_of% (by have h:= @U_law11_bare ρ β a0 κ;simp only[K_law11_bare]at h;exact h):=by have h:= @U_law11_bare ρ β a0 κ;simp only[K_law11_bare]at h;exact h
section
variable(p0:List GNode)(p1:List GNode)(p2:Int)
@[go_sem] def S_eN_0(p0:List GNode)(p1:List GNode)(p2:Int)(β:Bool)(v0:Int):St:=⟨[(0,.d (.sl β (List.map eNode p0))),(1,.d (.sl β (List.map eNode p1))),(12,.d (.int IntKind.i64 p2)),(13,.d (.int IntKind.i64 v0))],[],[]⟩
def X_eN_0(p0:List GNode)(p1:List GNode)(p2:Int){ρ:Type}:LX (A:=Int→(Int→Option ρ)→(Ex×St→Option ρ)→Option ρ) fun β Φ=>∀(R:St→Option ρ) (g:Int→Option ρ) (κ:Ex×St→Option ρ),(∀(v0:Int),R (S_eN_0 p0 p1 p2 β v0)=g v0)→∀(v0:Int),go P hints hint9 b9 q9_0.1 (S_eN_0 p0 p1 p2 β v0) (kLp R κ)=Φ v0 g κ:=mkL _ _
theorem V_eN_0(p0:List GNode)(p1:List GNode)(p2:Int){ρ:Type}(β:Bool)(κ:Ex×St→Option ρ)(v0:Int):goLp P hints hint9 b9 0 (S_eN_0 p0 p1 p2 β v0) κ=iterC (fun v k=>(X_eN_0 p0 p1 p2 (ρ:=ρ)).f β v k κ) v0:=by
 refine goLp_iter (Φ:=fun v k=>(X_eN_0 p0 p1 p2 (ρ:=ρ)).f β v k κ) q9_0.2 (S:=fun v=>S_eN_0 p0 p1 p2 β v) ?_ v0
 intro R g hR v
 have h:=(X_eN_0 p0 p1 p2 (ρ:=ρ)).ok β R g κ
 exact h (fun v0=>hR v0) v
end
@[go_sem] theorem W_eN_0f{ρ:Type}(p0:List GNode)(p1:List GNode)(p2:Int)(κ:Ex×St→Option ρ)(v0:Int):type_of% (by have h:=V_eN_0 p0 p1 p2 false κ v0;simp only[S_eN_0,X_eN_0,mkL,LX.f]at h;exact h):=by have h:=V_eN_0 p0 p1 p2 false κ v0;simp only[S_eN_0,X_eN_0,mkL,LX.f]at h;exact h
@[go_sem] theorem W_eN_0t{ρ:Type}(p0:List GNode)(p1:List GNode)(p2:Int)(κ:Ex×St→Option ρ)(v0:Int):type_of% (by have h:=V_eN_0 p0 p1 p2 true κ v0;simp only[S_eN_0,X_eN_0,mkL,LX.f]at h;exact h):=by have h:=V_eN_0 p0 p1 p2 true κ v0;simp only[S_eN_0,X_eN_0,mkL,LX.f]at h;exact h
@[go_sem] def K_eN(a0:List GNode)(a1:List GNode)(β:Bool)(y0_0:Bool):List T×List Ob:=([.d (.bool y0_0)],[])
def F_eN(a0:List GNode)(a1:List GNode){ρ:Type}:{Φ:(Bool→Option ρ)→Option ρ // ∀(β:Bool) (κ:List T×List Ob→Option ρ) (g:Bool→Option ρ),(∀(y0_0:Bool),κ (K_eN a0 a1 β y0_0)=g y0_0)→cbK (call 9 [(esNode β) a0,(esNode β) a1] []) κ=Φ g}:=mkF (p:=fun(β:Bool) (κ:List T×List Ob→Option ρ) (g:Bool→Option ρ)=>(∀(y0_0:Bool),κ (K_eN a0 a1 β y0_0)=g y0_0)) (ds:=fun β=>[(esNode β) a0,(esNode β) a1]) ge9 (fun _=>rfl) _
def f_eN(a0:List GNode)(a1:List GNode){ρ:Type}(g0:Bool→Option ρ):Option ρ:=(F_eN a0 a1).1 g0
theorem U_eN{ρ:Type}(β:Bool)(a0:List GNode)(a1:List GNode)(κ:List T×List Ob→Option ρ):cbK (call 9 [.sl β (List.map eNode a0),.sl β (List.map eNode a1)] []) κ=f_eN a0 a1 (fun y0_0=>κ (K_eN a0 a1 β y0_0)):=(F_eN a0 a1).2 β κ _ (fun _=>rfl)
@[go_sem] theorem W_eN{ρ:Type}(β:Bool)(a0:List GNode)(a1:List GNode)(κ:List T×List Ob→Option ρ):type_of% (by have h:= @U_eN ρ β a0 a1 κ;simp only[K_eN]at h;exact h):=by have h:= @U_eN ρ β a0 a1 κ;simp only[K_eN]at h;exact h
end
end Go.Etx
namespace Go.Etx
open Go Go.Am Go.Proofs
abbrev w64(n:Int):Int:=IntKind.i64.wrap n
def scOk(n:Int)(s:GScope):Bool:=decide (0≤n)&&decide (n≤(s.Scalars.length:Int))
def kOf(n:Int):Int:=if n=0 then 0 else w64 (1+n)
def varAt(l:List GVar)(n:Int)(s:GScope):Option GVar:=
 if 0≤n then(l[n.toNat]?).bind fun v=>if(scOk v.Scalar s&&scOk v.Over s)=true then some v else none else none
def numK(n:Int):Int×Int:=if -1048576≤n∧n≤1048576 then(0,0)else(0,10)
def namedK(x:GNode)(s:GScope):Int×Int:=
 if x.Op=5 then(if 1≤s.Self∧s.Self≤(s.Scalars.length:Int)then(w64 (1+s.Self),0)else(0,8))
 else if x.Op=6 then(if 0≤x.N then match s.Chans[x.N.toNat]? with |some c=>if scOk c.Scalar s=true then(0,0)else(0,8) |none=>(0,8)else(0,8))
 else if x.Op=7 then(if 0≤x.N∧w64 (Int.tdiv x.N 16)<(s.Procs.length:Int)then match s.Procs[(w64 (Int.tdiv x.N 16)).toNat]? with |some p=>if Int.tmod x.N 16<p.Locs then(0,0)else(0,8) |none=>(0,8)else(0,8))
 else if x.Op=8 then(if 0≤x.N∧x.N<(s.Scalars.length:Int)then(w64 (2+x.N),0)else(0,8))
 else(0,8)
def varK:Option GVar→Int×Int
 |some v=>if v.Over=0 then(kOf v.Scalar,0)else(0,9)
 |none=>(0,8)
def leafK(x:GNode)(s:GScope):Int×Int:=
 if x.Op=1 then numK x.N
 else if x.Op=2 then varK (varAt s.Vars x.N s)
 else if x.Op=4 then varK (varAt s.Locals x.N s)
 else namedK x s
def itemK(x:GNode)(k:Int)(s:GScope):Int×Int:=
 match varAt s.Vars x.N s with |some v=>if v.Over=0 then(0,9)else if k=w64 (1+v.Over)then(kOf v.Scalar,0)else(0,9) |none=>(0,8)
section
variable{ρ:Type}{s:GScope}
theorem scx_eq{n:Int}{g:Int→Bool→Option ρ}:f_expr_scalar n s g=if scOk n s=true then g (kOf n) true else g 0 false:=by
 simp only[f_expr_scalar,F_expr_scalar,mkF,scOk,kOf]
 by_cases h0:n=0
 ·subst h0;simp
 ·by_cases h1:n<0
  ·simp[h0,h1,show¬(0≤n)by omega]
  ·by_cases h2:(s.Scalars.length:Int)<n
   ·simp[h0,h1,h2,show¬(n≤(s.Scalars.length:Int))by omega]
   ·simp[h0,h1,h2,show 0≤n by omega,show n≤(s.Scalars.length:Int)by omega]
theorem kOf_0(hs:s.Scalars.length≤1000){n:Int}(h:scOk n s=true):kOf n=0↔n=0:=by
 simp only[scOk,xA,yD]at h
 unfold kOf
 split
 ·simp_all
 ·rename_i h0
  unfold w64
  rw[wrap_i64 (by omega) (by omega)]
  omega
theorem varx_eq{l:List GVar}{n:Int}{g:Int→Int→Bool→Option ρ}{e:Option ρ}(he:∀a b,g a b false=e):f_expr_variable l n s g=match varAt l n s with |some v=>g (kOf v.Scalar) (kOf v.Over) true |none=>e:=by
 simp only[f_expr_variable,F_expr_variable,mkF,varAt,scx_eq]
 by_cases h0:n<0
 ·simp[h0,show¬(0≤n)by omega,he]
 ·by_cases h1:(l.length:Int)≤n
  ·have:l[n.toNat]? =none:=List.getElem?_eq_none (by omega)
   simp[h0,h1,this,he,show 0≤n by omega]
  ·have hlt:n.toNat<l.length:=by omega
   simp only[h0,h1,if_false,show 0≤n by omega,if_true,xG hlt,xS]
   cases ha:scOk l[n.toNat].Scalar s <;>cases hb:scOk l[n.toNat].Over s <;>simp[he]
theorem tdiv16{n:Int}(h0:0≤n)(hn:n≤9223372036854775807):0≤w64 (Int.tdiv n 16):=by
 unfold w64
 rw[Int.tdiv_eq_ediv_of_nonneg h0,wrap_i64 (by omega) (by omega)]
 omega
theorem namedx_eq{x:GNode}(hN:x.N≤9223372036854775807){g:Int→Int→Option ρ}:f_expr_named x s g=g (namedK x s).1 (namedK x s).2:=by
 simp only[f_expr_named,F_expr_named,mkF,namedK,scx_eq]
 by_cases h5:x.Op=5
 ·simp only[h5,if_true]
  by_cases a:1≤s.Self <;>by_cases b:s.Self≤(s.Scalars.length:Int) <;>simp[a,b]
 simp only[h5,if_false]
 by_cases h6:x.Op=6
 ·simp only[h6,if_true]
  by_cases a:0≤x.N
  ·by_cases b:x.N<(s.Chans.length:Int)
   ·have hlt:x.N.toNat<s.Chans.length:=by omega
    simp only[a,b,if_true,xG hlt,xS]
    cases scOk s.Chans[x.N.toNat].Scalar s <;>simp
   ·have:s.Chans[x.N.toNat]? =none:=List.getElem?_eq_none (by omega)
    simp[a,b,this]
  ·simp[a]
 simp only[h6,if_false]
 by_cases h7:x.Op=7
 ·simp only[h7,if_true]
  by_cases a:0≤x.N
  ·by_cases b:w64 (Int.tdiv x.N 16)<(s.Procs.length:Int)
   ·have hq:0≤w64 (Int.tdiv x.N 16):=tdiv16 a hN
    have hlt:(w64 (Int.tdiv x.N 16)).toNat<s.Procs.length:=by omega
    simp only[a,b,and_self,if_true,hq,xG hlt,xS]
    by_cases c:Int.tmod x.N 16<s.Procs[(w64 (Int.tdiv x.N 16)).toNat].Locs <;>simp[c]
   ·simp[a,b]
  ·simp[a]
 simp only[h7,if_false]
 by_cases h8:x.Op=8
 ·simp only[h8,if_true]
  by_cases a:0≤x.N <;>by_cases b:x.N<(s.Scalars.length:Int) <;>simp[a,b]
 simp[h8]
theorem within_eq{l:List Int}(hl:l.length≤1000){g:Bool→Option ρ}:f_num_within l g=g (l.all fun n=>decide (-1048576≤n)&&decide (n≤1048576)):=by
 simp only[f_num_within,F_num_within,mkF]
 refine(iterC_all l.length (fun i:Nat=>(i:Int)) (fun i=>match l[i]? with |some n=>decide (-1048576≤n)&&decide (n≤1048576) |none=>true) (g false) (g true) (fun i k hi=> ?_) (fun k=> ?_)).trans ?_
 ·rw[if_pos (by omega),if_pos (by omega),xV,xG hi,xS,wrapS (by omega)]
  by_cases a:l[i]< -1048576
  ·simp[a,show¬(-1048576≤l[i])by omega]
  ·by_cases b:1048576<l[i]
   ·simp[a,b,show¬(l[i]≤1048576)by omega]
   ·simp[a,b,show -1048576≤l[i]by omega,show l[i]≤1048576 by omega]
 ·rw[if_neg (by omega)]
 ·by_cases h:∀i,i<l.length→(match l[i]? with |some n=>decide (-1048576≤n)&&decide (n≤1048576) |none=>true)=true
  ·rw[if_pos h]
   congr 1
   rw[eq_comm,List.all_eq_true]
   intro x hx
   obtain⟨i,hi,rfl⟩:=List.mem_iff_getElem.1 hx
   have:=h i hi
   rw[xG hi]at this
   exact this
  ·rw[if_neg h]
   congr 1
   rw[eq_comm,List.all_eq_false]
   by_cases hc:∃x∈l,¬(decide (-1048576≤x)&&decide (x≤1048576))=true
   ·exact hc
   ·refine absurd (fun i hi=> ?_) h
    rw[xG hi]
    exact Classical.not_not.1 fun hn=>hc ⟨_,List.getElem_mem hi,hn⟩
theorem addx_eq{n:Int}{a b:Option ρ}:(f_num_Add n 0 fun _ y=>if y=false then a else b)=if numK n=(0,0)then b else a:=by
 simp only[f_num_Add,F_num_Add,mkF,f_num_Add_1,F_num_Add_1,within_eq (show([n,0]:List Int).length≤1000 by simp),within_eq (show([w64 (n+0)]:List Int).length≤1000 by simp),numK]
 by_cases h:-1048576≤n∧n≤1048576
 ·have hw:IntKind.i64.wrap (n+0)=n:=by rw[wrap_i64 (by omega) (by omega)];omega
  simp only[hw]
  simp[h]
 ·simp only[h,if_false]
  have:(decide (-1048576≤n)&&decide (n≤1048576))=false:=by
   by_cases a:-1048576≤n
   ·by_cases b:n≤1048576
    ·exact absurd ⟨a,b⟩ h
    ·simp[a,b]
   ·simp[a]
  simp[this]
end
def takesK(op:Int):Int:=if op=3 then 1 else if 1≤op∧op≤8 then 0 else if opH op=true then opP op else -1
def ok29(nt:Int)(l:List Int)(i:Nat):Bool:=(l.drop i).all fun y=>(decide (nt=-1) || decide (y=nt))&&decide (l[0]? =some y)
def opsK(op:Int)(l:List Int):Int×Int:=if ok29 (opT op) l 0=true then(opM op,0)else(0,9)
def nodeK(x:GNode)(s:GScope)(st:List Int):Int×Int:=
 if x.Op=3 then(match st.getLast? with |some k=>itemK x k s |none=>(0,8))
 else if takesK x.Op=0 then leafK x s
 else opsK x.Op (st.drop (st.length - (takesK x.Op).toNat))
def stepK(x:GNode)(s:GScope)(st:List Int):Int×List Int:=
 if takesK x.Op<0 then(3,st)else if(st.length:Int)<takesK x.Op then(4,st)
 else if(nodeK x s st).2≠0 then((nodeK x s st).2,st)
 else(if 12<st.length - (takesK x.Op).toNat+1 then 12 else 0,st.take (st.length - (takesK x.Op).toNat)++[(nodeK x s st).1])
def runK(s:GScope):List GNode→List Int→Int×List Int
 | [],st=>(0,st)
 |x::r,st=>if(stepK x s st).1=0 then runK s r (stepK x s st).2 else stepK x s st
def kindK(e:List GNode)(s:GScope):Int×Int:=
 if 24<e.length then(0,5)else if e=[]then(0,4)
 else if(runK s e []).1≠0 then(0,(runK s e []).1)else if 1<(runK s e []).2.length then(0,5)else((runK s e []).2.headD 0,0)
theorem opH_iff{x:Int}:opH x=true↔9≤x∧x≤19:=by
 simp only[opH,Bool.or_eq_true,yD]
 omega
theorem opP_eq{x:Int}(h:9≤x∧x≤19):opP x=if x≤10 then 1 else 2:=by
 unfold opP
 split
 ·simp_all
 split
 ·simp_all
 by_cases h10:x≤10
 ·omega
 ·rw[if_neg h10]
  repeat' split
  all_goals first |rfl |omega
theorem takes_cases(op:Int):(takesK op=-1∧(op<1∨19<op))∨(takesK op=0∧1≤op∧op≤8∧op≠3)∨(takesK op=1∧(op=3∨op=9∨op=10))∨(takesK op=2∧11≤op∧op≤19):=by
 unfold takesK
 by_cases h3:op=3
 ·rw[if_pos h3];omega
 rw[if_neg h3]
 by_cases h8:1≤op∧op≤8
 ·rw[if_pos h8];omega
 rw[if_neg h8]
 by_cases hh:opH op=true
 ·rw[if_pos hh]
  have:=opH_iff.1 hh
  rw[opP_eq this]
  split <;>omega
 ·rw[if_neg hh]
  have:¬(9≤op∧op≤19):=fun q=>hh (opH_iff.2 q)
  omega
section
variable{ρ:Type}{s:GScope}
theorem itemK_def{x:GNode}{k:Int}:itemK x k s=match varAt s.Vars x.N s with |some v=>if v.Over=0 then(0,9)else if k=w64 (1+v.Over)then(kOf v.Scalar,0)else(0,9) |none=>(0,8):=rfl
end
end Go.Etx
namespace Go.Etx
open Go Go.Am Go.Proofs
section
variable{ρ:Type}{s:GScope}
theorem subN{n m:Nat}(h:m≤n)(hn:n<4611686018427387904):IntKind.i64.wrap ((n:Int) - (m:Int))=((n - m:Nat):Int):=by rw[wrap_i64 (by omega) (by omega)];omega
end
end Go.Etx
namespace Go.Etx
open Go Go.Am Go.Proofs
set_option maxHeartbeats 4000000
set_option maxRecDepth 20000
@[go_sem] theorem snocPart{l:List Gpart}{a:List UInt8}{b c:Int}:tl epart l++[.d (.agg [.str a,.int .i64 b,.int .i64 c])]=tl epart (l++[⟨a,b,c⟩]):=by simp[tl,epart]
@[go_sem] theorem headPart{l:List Gpart}:headT 3 (tl epart l)=true:=headT_tl fun _=>rfl
@[go_sem] theorem uniPart{l:List Gpart}:uniform 3 (tl epart l)=true:=uniform_tl fun _=>rfl
@[go_sem] theorem lowPart{l:List Gpart}:T.lows 0 (tl epart l)=true:=lowT_tl fun _=>by simp[epart,D.low,D.lows]
noncomputable section
def FLaid(x:GNode)(nm:List UInt8)(st:List Gpart){ρ:Type}:
  {Φ:(List Gpart→Option ρ)→Option ρ // ∀(κ:List T×List Ob→Option ρ) (g:List Gpart→Option ρ),(∀y,κ ([.own (tl epart y)],[])=g y)→
   cbK (call 17 [eNode x,.str nm] [.row (tl epart st)]) κ=Φ g}:=by
 refine⟨?Φ,?h⟩
 case h=>
  intro κ g hg
  refine(gr17 _ _ _ rfl).trans ?_
  try simp only[go_sem]at hg
  refine viaR fun r hr=> ?_
  simp -implicitDefEqProofs (maxSteps:=1000000) [go_sem,hg,-List.map_append,-List.map_take,-List.map_drop,-List.map_set]
  exact hr
def fLaid(x:GNode)(nm:List UInt8)(st:List Gpart){ρ:Type}(g:List Gpart→Option ρ):Option ρ:=(FLaid x nm st).1 g
theorem WLaid{ρ:Type}(x0 x1:Int)(nm:List UInt8)(st:List Gpart)(κ:List T×List Ob→Option ρ):cbK (call 17 [.agg [.int .i64 x0,.int .i64 x1],.str nm] [.row (tl epart st)]) κ=fLaid ⟨x0,x1⟩ nm st fun y=>κ ([.own (tl epart y)],[]):=(FLaid ⟨x0,x1⟩ nm st).2 κ _ fun _=>rfl
end
def sgnT(op:Int):List UInt8:=if op=19 then [124,124]else if op=18 then [38,38]else if op=14 then [61,61]else if op=15 then [33,61]else if op=16 then [60]else if op=17 then [60,61]else if op=11 then [43]else if op=12 then [45]else if op=13 then [42]else []
def sgnB(op:Int):Int:=if op=19 then 1 else if op=18 then 2 else if op=14 then 3 else if op=15 then 3 else if op=16 then 3 else if op=17 then 3 else if op=11 then 4 else if op=12 then 4 else if op=13 then 5 else 0
def inB(t:List UInt8)(b:Bool):List UInt8:=if b=true then 40::(t++[41])else t
def joinL(op:Int)(b:Int):Bool:=if sgnB op=3 then decide (b<4)else decide (b<sgnB op)
def joinR(op:Int)(b:Int):Bool:=if sgnB op=3 then decide (b<4)else decide (b≤sgnB op)
def joinT(op:Int)(a b:Gpart):List UInt8:=inB a.text (joinL op a.binds)++32::(sgnT op++32::inB b.text (joinR op b.binds))
def leafT(x:GNode)(nm:List UInt8):List UInt8:=
 if x.Op=1 then Tr7.decI x.N else if x.Op=2 then nm else if x.Op=4 then nm else if x.Op=5 then [115,101,108,102]
 else if x.Op=6 then 108::101::110::40::(nm++[41])else if x.Op=7 then 97::116::40::(nm++44::32::(Tr7.decI (Int.tmod x.N 16)++[41]))
 else if x.Op=8 then 110::111::110::101::40::(nm++[41])else []
def leafB(x:GNode):Int:=if x.Op=1 then(if x.N<0 then 6 else 7)else 7
def layP(x:GNode)(nm:List UInt8)(st:List Gpart):List Gpart:=
 if x.Op=3 then(match st.getLast? with |some p=>st.take (st.length - 1)++[⟨nm++91::(p.text++[93]),3,7⟩] |none=>st)
 else if x.Op=9 then(match st.getLast? with |some p=>st.take (st.length - 1)++[⟨33::inB p.text (decide (p.binds<6)),9,6⟩] |none=>st)
 else if x.Op=10 then(match st.getLast? with |some p=>st.take (st.length - 1)++[⟨45::inB p.text (decide (p.binds<6) || decide (p.op=1)),10,6⟩] |none=>st)
 else if 11≤x.Op∧x.Op≤19 then(match st[st.length - 2]?,st.getLast? with |some a,some b=>st.take (st.length - 2)++[⟨joinT x.Op a b,x.Op,sgnB x.Op⟩] |_,_=>st)
 else st++[⟨leafT x nm,x.Op,leafB x⟩]
theorem decF_len:∀k u,(Tr7.decF k u).length≤k
 |0,_=>by simp[Tr7.decF]
 |k+1,u=>by
  unfold Tr7.decF
  split
  ·simp
  ·have:=decF_len k (u / 10)
   simp only[xP,xZ,yN];omega
theorem decI_len(n:Int):(Tr7.decI n).length≤21:=by
 unfold Tr7.decI
 split
 ·have:=decF_len 20 n.natAbs;simp only[xZ];omega
 ·have:=decF_len 20 n.toNat;omega
theorem sgnT_len(op:Int):(sgnT op).length≤2:=by
 unfold sgnT
 repeat' split
 all_goals simp
theorem inB_len(t:List UInt8)(b:Bool):(inB t b).length≤t.length+2:=by
 unfold inB;split
 ·simp
 ·omega
section
variable{ρ:Type}{s:GScope}
theorem inx_eq{p:Gpart}{b:Bool}(h:p.text.length≤100000){g:List UInt8→Option ρ}:f_etext_part_in p b g=g (inB p.text b):=by
 simp only[f_etext_part_in,F_etext_part_in,mkF,inB]
 cases b
 ·simp
 ·rw[if_pos rfl,if_pos (by omega),if_pos (by omega),if_pos rfl]
theorem signx_eq{op:Int}{g:List UInt8→Int→Bool→Option ρ}:f_etext_signOf op g=g (sgnT op) (sgnB op) (decide (11≤op∧op≤19)):=by
 simp only[f_etext_signOf,F_etext_signOf,mkF,sgnT,sgnB]
 by_cases h:11≤op∧op≤19
 ·have:op=11∨op=12∨op=13∨op=14∨op=15∨op=16∨op=17∨op=18∨op=19:=by omega
  rcases this with q |q |q |q |q |q |q |q |q <;>subst q <;>simp
 ·simp only[show¬op=11 by omega,show¬op=12 by omega,show¬op=13 by omega,show¬op=14 by omega,show¬op=15 by omega,show¬op=16 by omega,show¬op=17 by omega,show¬op=18 by omega,show¬op=19 by omega,if_false,h,decide_false]
theorem leafx_eq{x:GNode}(hr:Tr7.inR x.N=true){nm:List UInt8}(hn:nm.length≤100000){g:List UInt8→Int→Option ρ}:f_etext_leaf x nm g=g (leafT x nm) (leafB x):=by
 simp only[f_etext_leaf,F_etext_leaf,mkF,leafT,leafB]
 have hr':Tr7.inR (Int.tmod x.N 16)=true:=by
  have h1:(Int.tmod x.N 16).natAbs=x.N.natAbs % 16:=by rw[Int.natAbs_tmod];rfl
  simp only[Tr7.inR,xA,yD]
  omega
 by_cases h1:x.Op=1
 ·simp only[h1,if_true,hr]
  by_cases a:x.N<0 <;>simp[a]
 simp only[h1,if_false]
 by_cases h2:x.Op=2
 ·simp[h2]
 by_cases h4:x.Op=4
 ·simp[h4]
 by_cases h5:x.Op=5
 ·simp[h5]
 by_cases h6:x.Op=6
 ·simp only[h6,show¬((6:Int)=2)by decide,show¬((6:Int)=4)by decide,show¬((6:Int)=5)by decide,if_false,if_true]
  rw[if_pos (by omega),if_pos (by omega)]
 by_cases h7:x.Op=7
 ·have:=decI_len (Int.tmod x.N 16)
  simp only[h7,show¬((7:Int)=2)by decide,show¬((7:Int)=4)by decide,show¬((7:Int)=5)by decide,show¬((7:Int)=6)by decide,if_false,if_true,hr']
  rw[if_pos (by omega),if_pos (by omega),if_pos (by omega),if_pos (by omega)]
 by_cases h8:x.Op=8
 ·simp only[h8,show¬((8:Int)=2)by decide,show¬((8:Int)=4)by decide,show¬((8:Int)=5)by decide,show¬((8:Int)=6)by decide,show¬((8:Int)=7)by decide,if_false,if_true]
  rw[if_pos (by omega),if_pos (by omega)]
 simp only[h2,h4,h5,h6,h7,h8,if_false]
theorem joinx_eq{op:Int}{a b:Gpart}(ha:a.text.length≤100000)(hb:b.text.length≤100000){g:List UInt8→Int→Option ρ}:f_etext_joined op a b g=g (joinT op a b) (sgnB op):=by
 simp only[f_etext_joined,F_etext_joined,mkF,signx_eq,inx_eq ha,inx_eq hb,joinT,joinL,joinR]
 have h1:=sgnT_len op
 have l1:=fun c=>inB_len a.text c
 have l2:=fun c=>inB_len b.text c
 by_cases h3:sgnB op=3
 ·have q1:=l1 (decide (a.binds<4))
  have q2:=l2 (decide (b.binds<4))
  simp only[h3,if_true]
  rw[if_pos (by omega),if_pos (by omega),if_pos (by omega),if_pos (by omega)]
 ·have q1:=l1 (decide (a.binds<sgnB op))
  have q2:=l2 (decide (b.binds≤sgnB op))
  simp only[h3,if_false]
  rw[if_pos (by omega),if_pos (by omega),if_pos (by omega),if_pos (by omega)]
theorem laidx_eq{x:GNode}(hr:Tr7.inR x.N=true){nm:List UInt8}(hn:nm.length≤100000){st:List Gpart}(hs:∀p∈st,p.text.length≤90000)(hst:st.length≤1000)(ht:takesK x.Op≤(st.length:Int)){g:List Gpart→Option ρ}:fLaid x nm st g=g (layP x nm st):=by
 simp only[fLaid,FLaid,signx_eq]
 have last:∀n,1≤n→n≤st.length→∃p,st[st.length - n]? =some p∧p.text.length≤90000:=fun n h1 hn=>by
  have hi:st.length - n<st.length:=by omega
  exact⟨st[st.length - n],xG hi,hs _ (List.getElem_mem hi)⟩
 have key:∀n:Nat,n≤st.length→n≤2→IntKind.i64.wrap ((st.length:Int) - (n:Int))=((st.length - n:Nat):Int):=fun n hn h2=>subN hn (by omega)
 have mn:∀n,min (st.length - n) st.length=st.length - n:=fun n=>by omega
 have one:takesK x.Op=1→∃p,st.getLast? =some p∧st[st.length - 1]? =some p∧p.text.length≤90000∧1≤st.length∧IntKind.i64.wrap ((st.length:Int) - 1)=((st.length - 1:Nat):Int):=fun h=>by
  rw[h]at ht
  obtain⟨p,h1,h2⟩:=last 1 (by omega) (by omega)
  exact⟨p,by rw[List.getLast?_eq_getElem?];exact h1,h1,h2,by omega,key 1 (by omega) (by omega)⟩
 unfold layP
 by_cases h3:x.Op=3
 ·obtain⟨p,e1,e2,e3,e4,hw⟩:=one (by simp[takesK,h3])
  simp only[h3,if_true,hw,e1,e2,xV,xS,headPart,uniPart,and_true,mn]
  repeat rw[if_pos (by omega)]
 simp only[h3,if_false]
 by_cases h9:x.Op=9
 ·obtain⟨p,e1,e2,e3,e4,hw⟩:=one (by simp[takesK,h9,opH,opP])
  have:=inB_len p.text (decide (p.binds<6))
  simp only[h9,if_true,hw,e1,e2,xV,xS,headPart,uniPart,and_true,mn,inx_eq (show p.text.length≤100000 by omega)]
  repeat rw[if_pos (by omega)]
 simp only[h9,if_false]
 by_cases h10:x.Op=10
 ·obtain⟨p,e1,e2,e3,e4,hw⟩:=one (by simp[takesK,h10,opH,opP])
  have l1:=inB_len p.text true
  have l2:=inB_len p.text (decide (p.op=1))
  simp only[h10,if_true,hw,e1,e2,xV,xS,headPart,uniPart,and_true,mn,inx_eq (show p.text.length≤100000 by omega)]
  repeat rw[if_pos (by omega)]
  by_cases hb:p.binds<6
  ·simp only[hb,if_true,decide_true,Bool.true_or]
   repeat rw[if_pos (by omega)]
  ·simp only[hb,if_false,decide_false,Bool.false_or]
   repeat rw[if_pos (by omega)]
 simp only[h10,if_false]
 by_cases h2:11≤x.Op∧x.Op≤19
 ·have ht2:takesK x.Op=2:=by rcases takes_cases x.Op with⟨h,q⟩ |⟨h,q⟩ |⟨h,q⟩ |⟨h,q⟩ <;>omega
  rw[ht2]at ht
  obtain⟨a,a1,a2⟩:=last 2 (by omega) (by omega)
  obtain⟨b,b1,b2⟩:=last 1 (by omega) (by omega)
  have hw1:IntKind.i64.wrap ((st.length:Int) - 1)=((st.length - 1:Nat):Int):=key 1 (by omega) (by omega)
  have hw2:IntKind.i64.wrap ((st.length:Int) - 2)=((st.length - 2:Nat):Int):=key 2 (by omega) (by omega)
  have b3:st.getLast? =some b:=by rw[List.getLast?_eq_getElem?];exact b1
  simp only[h2,and_self,decide_true,if_true,hw1,hw2,a1,b1,b3,xV,xS,headPart,uniPart,and_true,mn,joinx_eq (show a.text.length≤100000 by omega) (show b.text.length≤100000 by omega)]
  repeat rw[if_pos (by omega)]
 ·simp only[h2,decide_false,xH,if_false,leafx_eq hr hn,uniPart,true_and]
  repeat rw[if_pos (by omega)]
end
end Go.Etx
namespace Go.Etx
open Go Go.Am Go.Proofs
def fidx{α:Type}(p:α→Bool)(l:List α):Int:=if l.findIdx p<l.length then((l.findIdx p:Nat):Int)else -1
section
variable{ρ:Type}{s:GScope}
theorem loop_first{α:Type}{Φ:Int→(Int→Option ρ)→Option ρ}(l:List α)(p:α→Bool)(found:Int→Option ρ)(fin:Option ρ)
  (hs:∀(i:Nat) k (h:i<l.length),Φ (i:Int) k=if p l[i]=true then found (i:Int)else k ((i+1:Nat):Int)) (hf:∀k,Φ (l.length:Int) k=fin):
  iterC Φ 0=if fidx p l<0 then fin else found (fidx p l):=by
 refine iterC_is (fun v:Int=>∃i:Nat,v=i∧i≤l.length∧∀j (hj:j<l.length),j<i→p l[j]=false) (fun _=>if fidx p l<0 then fin else found (fidx p l)) (fun v:Int=>l.length - v.toNat) ?_ (v:=(0:Int)) ⟨0,rfl,Nat.zero_le _,fun j _ h=>absurd h (Nat.not_lt_zero _)⟩
 rintro v k ⟨i,rfl,hi,hn⟩ hk
 by_cases hlt:i<l.length
 ·rw[hs i k hlt]
  cases hp:p l[i]with
  |true=>
   have:l.findIdx p=i:=by
    rw[List.findIdx_eq hlt]
    exact⟨hp,fun j hj=>hn j (by omega) hj⟩
   have e:fidx p l=(i:Int):=by rw[fidx,this,if_pos hlt]
   rw[e,if_pos rfl,if_neg (by omega)]
  |false=>
   rw[if_neg (by simp)]
   refine hk _ ⟨i+1,rfl,hlt,fun j hj hji=> ?_⟩ (by simp only[xV];omega)
   by_cases e:j=i
   ·subst e;exact hp
   ·exact hn j hj (by omega)
 ·obtain rfl:i=l.length:=by omega
  rw[hf]
  have:¬l.findIdx p<l.length:=fun h=>by
   have:=List.findIdx_getElem (w:=h)
   rw[hn _ h h]at this
   cases this
  have e:fidx p l=-1:=by rw[fidx,if_neg this]
  rw[e,if_pos (by omega)]
def pV(nm:List UInt8)(v:GVar):Bool:=decide (v.Name=nm)
def pC(nm:List UInt8)(v:GChan):Bool:=decide (v.Name=nm)
def pP(nm:List UInt8)(v:GProc):Bool:=decide (v.Name=nm)
def pS(nm:List UInt8)(v:GScalar):Bool:=decide (v.Name=nm)
structure Few(s:GScope):Prop where
 sc:s.Scalars.length≤1000
 va:s.Vars.length≤1000
 ch:s.Chans.length≤1000
 pr:s.Procs.length≤1000
 lo:s.Locals.length≤1000
theorem vars_loop(hs:s.Vars.length≤1000)(nm:List UInt8)(found:Int→Option ρ)(fin:Option ρ)(bad:Int→Option ρ):
  iterC (fun v k=>if v<(s.Vars.length:Int)then if 0≤v then(s.Vars[v.toNat]?).bind fun y=>if y.Name=nm then if 0≤v then found v else bad v else k (IntKind.i64.wrap (v+1))else none else fin) 0=if fidx (pV nm) s.Vars<0 then fin else found (fidx (pV nm) s.Vars):=by
 refine loop_first s.Vars (pV nm) found fin (fun i k h=> ?_) fun k=>by rw[if_neg (by omega)]
 rw[if_pos (by omega),if_pos (by omega),xV,xG h,xS,wrapS (by omega)]
 by_cases e:s.Vars[i].Name=nm
 ·simp[pV,e]
 ·simp[pV,e]
theorem standsx_eq(hs:Few s){nm:List UInt8}{g:Int→Int→Option ρ}:f_etext_stands nm s g=if fidx (pV nm) s.Locals<0 then(if fidx (pV nm) s.Vars<0 then g 0 (-1)else g 2 (fidx (pV nm) s.Vars))else g 4 (fidx (pV nm) s.Locals):=by
 simp only[f_etext_stands,F_etext_stands,mkF]
 have hv:=hs.va
 have hl:=hs.lo
 rw[vars_loop hv nm (fun v=>g 2 v) (g 0 (-1)) fun _=>g 0 (-1)]
 refine loop_first s.Locals (pV nm) (fun v=>g 4 v) _ (fun i k h=> ?_) fun k=>by rw[if_neg (by omega)]
 rw[if_pos (by omega),if_pos (by omega),xV,xG h,xS,wrapS (by omega)]
 by_cases e:s.Locals[i].Name=nm
 ·simp[pV,e]
 ·simp[pV,e]
theorem fin_first{α:Type}{p:α→Bool}{l:List α}{g:Int→Option ρ}:(if fidx p l<0 then g (-1)else g (fidx p l))=g (fidx p l):=by
 by_cases h:l.findIdx p<l.length
 ·have e:fidx p l=((l.findIdx p:Nat):Int):=by rw[fidx,if_pos h]
  rw[e,if_neg (by omega)]
 ·have e:fidx p l=-1:=by rw[fidx,if_neg h]
  rw[e,if_pos (by omega)]
theorem chanx_eq(hs:Few s){nm:List UInt8}{g:Int→Option ρ}:f_etext_channel nm s g=g (fidx (pC nm) s.Chans):=by
 simp only[f_etext_channel,F_etext_channel,mkF]
 have hv:=hs.ch
 rw[←fin_first (g:=g)]
 refine loop_first s.Chans (pC nm) g _ (fun i k h=> ?_) fun k=>by rw[if_neg (by omega)]
 rw[if_pos (by omega),if_pos (by omega),xV,xG h,xS,wrapS (by omega)]
 by_cases e:s.Chans[i].Name=nm <;>simp[pC,e]
theorem procx_eq(hs:Few s){nm:List UInt8}{g:Int→Option ρ}:f_etext_process nm s g=g (fidx (pP nm) s.Procs):=by
 simp only[f_etext_process,F_etext_process,mkF]
 have hv:=hs.pr
 rw[←fin_first (g:=g)]
 refine loop_first s.Procs (pP nm) g _ (fun i k h=> ?_) fun k=>by rw[if_neg (by omega)]
 rw[if_pos (by omega),if_pos (by omega),xV,xG h,xS,wrapS (by omega)]
 by_cases e:s.Procs[i].Name=nm <;>simp[pP,e]
theorem scalx_eq(hs:Few s){nm:List UInt8}{g:Int→Option ρ}:f_etext_scalar nm s g=g (fidx (pS nm) s.Scalars):=by
 simp only[f_etext_scalar,F_etext_scalar,mkF]
 have hv:=hs.sc
 rw[←fin_first (g:=g)]
 refine loop_first s.Scalars (pS nm) g _ (fun i k h=> ?_) fun k=>by rw[if_neg (by omega)]
 rw[if_pos (by omega),if_pos (by omega),xV,xG h,xS,wrapS (by omega)]
 by_cases e:s.Scalars[i].Name=nm <;>simp[pS,e]
def nameP(d:List UInt8)(x:GNode)(s:GScope):Option (List UInt8×Bool):=
 if x.Op=2∨x.Op=3 then(if 0≤x.N then(s.Vars[x.N.toNat]?).map fun y=>(y.Name,decide (fidx (pV y.Name) s.Locals<0)&&decide (fidx (pV y.Name) s.Vars=x.N))else none)
 else if x.Op=4 then(if 0≤x.N then(s.Locals[x.N.toNat]?).map fun y=>(y.Name,decide (fidx (pV y.Name) s.Locals=x.N))else none)
 else if x.Op=6 then(if 0≤x.N then(s.Chans[x.N.toNat]?).map fun y=>(y.Name,decide (fidx (pC y.Name) s.Chans=x.N))else none)
 else if x.Op=7 then(if 0≤w64 (Int.tdiv x.N 16)then(s.Procs[(w64 (Int.tdiv x.N 16)).toNat]?).map fun y=>(y.Name,decide (fidx (pP y.Name) s.Procs=w64 (Int.tdiv x.N 16)))else none)
 else if x.Op=8 then(if 0≤x.N then(s.Scalars[x.N.toNat]?).map fun y=>(y.Name,decide (fidx (pS y.Name) s.Scalars=x.N))else none)
 else some (d,true)
theorem namex_eq(hs:Few s){x:GNode}{g:List UInt8→Bool→Option ρ}:f_etext_named x s g=(nameP [] x s).bind fun p=>g p.1 p.2:=by
 simp only[f_etext_named,F_etext_named,mkF,standsx_eq hs,chanx_eq hs,procx_eq hs,scalx_eq hs,nameP,if_true,show¬((0:Int)=2)by decide,show¬((4:Int)=2)by decide,show¬((0:Int)=4)by decide,show¬((2:Int)=4)by decide,if_false]
 have vr:(if 0≤x.N then(s.Vars[x.N.toNat]?).bind fun y=>if fidx (pV y.Name) s.Locals<0 then(if fidx (pV y.Name) s.Vars<0 then g y.Name false else g y.Name (decide (fidx (pV y.Name) s.Vars=x.N)))else g y.Name false else none)=
   (if 0≤x.N then(s.Vars[x.N.toNat]?).map fun y=>(y.Name,decide (fidx (pV y.Name) s.Locals<0)&&decide (fidx (pV y.Name) s.Vars=x.N))else none).bind fun p=>g p.1 p.2:=by
  by_cases h0:0≤x.N
  ·rw[if_pos h0,if_pos h0]
   cases s.Vars[x.N.toNat]? with
   |none=>rfl
   |some y=>
    simp only[xS,xQ]
    by_cases a:fidx (pV y.Name) s.Locals<0
    ·by_cases b:fidx (pV y.Name) s.Vars<0
     ·have:¬fidx (pV y.Name) s.Vars=x.N:=by omega
      simp[a,b,this]
     ·simp[a,b]
    ·simp[a]
  ·rw[if_neg h0,if_neg h0];rfl
 by_cases h2:x.Op=2
 ·rw[if_pos h2,if_pos (show x.Op=2∨x.Op=3 from .inl h2)]
  exact vr
 rw[if_neg h2]
 by_cases h3:x.Op=3
 ·rw[if_pos h3,if_pos (show x.Op=2∨x.Op=3 from .inr h3)]
  exact vr
 rw[if_neg h3,if_neg (show¬(x.Op=2∨x.Op=3)from fun q=>q.elim h2 h3)]
 by_cases h4:x.Op=4
 ·rw[if_pos h4,if_pos h4]
  by_cases h0:0≤x.N
  ·rw[if_pos h0,if_pos h0]
   cases s.Locals[x.N.toNat]? with
   |none=>rfl
   |some y=>
    simp only[xS,xQ]
    by_cases a:fidx (pV y.Name) s.Locals<0
    ·have:¬fidx (pV y.Name) s.Locals=x.N:=by omega
     simp[a,this]
    ·simp[a]
  ·rw[if_neg h0,if_neg h0];rfl
 rw[if_neg h4,if_neg h4]
 by_cases h6:x.Op=6
 ·rw[if_pos h6,if_pos h6]
  by_cases h0:0≤x.N
  ·rw[if_pos h0,if_pos h0]
   cases s.Chans[x.N.toNat]? <;>rfl
  ·rw[if_neg h0,if_neg h0];rfl
 rw[if_neg h6,if_neg h6]
 by_cases h7:x.Op=7
 ·rw[if_pos h7,if_pos h7]
  by_cases h0:0≤w64 (Int.tdiv x.N 16)
  ·rw[if_pos h0,if_pos h0]
   cases s.Procs[(w64 (Int.tdiv x.N 16)).toNat]? <;>rfl
  ·rw[if_neg h0,if_neg h0];rfl
 rw[if_neg h7,if_neg h7]
 by_cases h8:x.Op=8
 ·rw[if_pos h8,if_pos h8]
  by_cases h0:0≤x.N
  ·rw[if_pos h0,if_pos h0]
   cases s.Scalars[x.N.toNat]? <;>rfl
  ·rw[if_neg h0,if_neg h0];rfl
 rw[if_neg h8,if_neg h8]
 rfl
end
end Go.Etx
namespace Go.Etx
open Go Go.Am Go.Proofs
set_option maxRecDepth 20000
def letB(n:Int):Bool:=decide (97≤n∧n≤122) || decide (65≤n∧n≤90)
def digB(n:Int):Bool:=decide (48≤n∧n≤57)
def partB(n:Int):Bool:=letB n || digB n || decide (n=95)
def bI(b:UInt8):Int:=(b.toNat:Int)
def lexN(nm:List UInt8):Bool:= !nm.isEmpty&&decide (nm.length≤16)&&letB (bI (nm.headD 0))&&nm.all (fun b=>partB (bI b))&& !ownL.contains nm
theorem get0{s:List UInt8}{p:Nat}(h:p<s.length):((⟨s.toArray⟩:ByteArray).get! (p+0))=s[p]:=by
 show(s.toArray)[p]! =_
 simp[h]
theorem rune_lo{s:List UInt8}{p:Nat}(h:p<s.length)(hb:s[p].toNat<128):rune s p=(s[p].toNat,1):=by
 unfold rune Utf8.decode
 simp only[get0 h]
 rw[if_pos hb]
theorem rune_hi{s:List UInt8}{p:Nat}(h:p<s.length)(hb:128≤s[p].toNat):128≤(rune s p).1:=by
 unfold rune Utf8.decode
 simp only[get0 h]
 rw[if_neg (by omega)]
 split
 ·split
  ·assumption
  ·simp[Utf8.runeError]
 split
 ·split
  ·rename_i q;simp only[xA,yD]at q;exact Nat.le_trans (by decide) q.1
  ·simp[Utf8.runeError]
 split
 ·split
  ·rename_i q;simp only[xA,yD]at q;exact Nat.le_trans (by decide) q.1
  ·simp[Utf8.runeError]
 simp[Utf8.runeError]
theorem part_rune{s:List UInt8}{p:Nat}(h:p<s.length):partB ((rune s p).1:Int)=partB (bI s[p])∧(partB (bI s[p])=true→(rune s p).2=1):=by
 by_cases hb:s[p].toNat<128
 ·rw[rune_lo h hb];exact⟨rfl,fun _=>rfl⟩
 ·have h1:=rune_hi h (by omega)
  have e1:partB ((rune s p).1:Int)=false:=by
   simp only[partB,letB,digB,Bool.or_eq_false_iff,decide_eq_false_iff_not]
   omega
  have e2:partB (bI s[p])=false:=by
   simp only[partB,letB,digB,bI,Bool.or_eq_false_iff]
   exact⟨⟨⟨decide_eq_false (by omega),decide_eq_false (by omega)⟩,decide_eq_false (by omega)⟩,decide_eq_false (by omega)⟩
  rw[e1,e2]
  exact⟨rfl,fun q=>by cases q⟩
section
variable{ρ:Type}
theorem letx_eq{n:Int}{g:Bool→Option ρ}:f_lex_letter n g=g (letB n):=by
 simp only[f_lex_letter,F_lex_letter,mkF,letB]
 by_cases a:97≤n <;>by_cases b:n≤122 <;>by_cases c:65≤n <;>simp[a,b,c]
theorem take_own':List.take 4 ownL=ownL:=rfl
theorem own_loop{nm:List UInt8}{g:Bool→Option ρ}:(iterC (fun(v:Int) k=>if v<4 then if 0≤v∧v<4 then((List.take 4 ownL)[v.toNat]?).bind fun y=>if y=nm then g false else k (IntKind.i64.wrap (v+1))else none else g true) 0)=g (!ownL.contains nm):=by
 refine(iterC_all 4 (fun i:Nat=>(i:Int)) (fun i=>match ownL[i]? with |some y=>decide (y≠nm) |none=>true) (g false) (g true) (fun i k hi=> ?_) (fun k=> ?_)).trans ?_
 ·have hl:i<ownL.length:=hi
  rw[if_pos (by omega),if_pos (by omega),xV,take_own',xG hl,xS,wrapS (by omega)]
  by_cases e:ownL[i]=nm <;>simp[e]
 ·rw[if_neg (by omega)]
 ·by_cases h:ownL.contains nm=true
  ·rw[h,if_neg]
   ·rfl
   ·intro hall
    simp only[List.contains_iff_mem]at h
    obtain⟨i,hi,rfl⟩:=List.mem_iff_getElem.1 h
    have:=hall i hi
    rw[xG hi]at this
    simp at this
  ·have h':ownL.contains nm=false:=by simpa using h
   rw[h',if_pos]
   ·rfl
   ·intro i hi
    have hl:i<ownL.length:=hi
    rw[xG hl]
    simp only[yD]
    intro e
    exact h (by rw[List.contains_iff_mem,←e];exact List.getElem_mem hl)
theorem all_drop{nm:List UInt8}{p:Nat}(h:p<nm.length):(nm.drop p).all (fun b=>partB (bI b))=(partB (bI nm[p])&&(nm.drop (p+1)).all fun b=>partB (bI b)):=by
 rw[xW h,List.all_cons]
theorem wrap32(b:UInt8):IntKind.i32.wrap ((b.toNat:Nat):Int)=(b.toNat:Int):=by
 have h:=b.toNat_lt
 revert h
 generalize b.toNat=n
 intro h
 have:∀n:Fin 256,IntKind.i32.wrap ((n.val:Nat):Int)=((n.val:Nat):Int):=by decide
 exact this ⟨n,h⟩
theorem partB_eq{n:Int}{x y:Option ρ}:(if letB n=true then x else if 48≤n then if n≤57 then x else if n=95 then x else y else if n=95 then x else y)=if partB n=true then x else y:=by
 unfold partB digB
 cases letB n
 ·by_cases a:48≤n
  ·by_cases b:n≤57
   ·simp[a,b]
   ·by_cases c:n=95 <;>simp[a,b,c]
  ·by_cases c:n=95 <;>simp[a,c]
 ·simp
theorem namel_eq{nm:List UInt8}{g:Bool→Option ρ}:f_lex_Name nm g=g (lexN nm):=by
 simp only[f_lex_Name,F_lex_Name,mkF,letx_eq,own_loop,lexN]
 by_cases h0:nm=[]
 ·subst h0;rfl
 rw[if_neg h0]
 by_cases h16:16<nm.length
 ·rw[if_pos (by omega)]
  have:¬nm.length≤16:=by omega
  simp[this]
 rw[if_neg (by omega)]
 have hpos:0<nm.length:=List.length_pos_iff.2 h0
 have hget:nm[0]? =some nm[0]:=xG hpos
 simp only[partB_eq,hget,xS,wrap32]
 have loop:∀p:Nat,p≤nm.length→(iterC (fun(v:Int×Bool×Nat) k=>if v.2.2<nm.length then(if partB ((rune nm v.2.2).1:Int)=true then k ((v.2.2:Int),false,v.2.2+(rune nm v.2.2).2)else if v.2.2<nm.length then g false else g (!ownL.contains nm))else g (!ownL.contains nm)) ((0:Int),false,p))=if((nm.drop p).all fun b=>partB (bI b))=true then g (!ownL.contains nm)else g false:=fun p hp=>by
  refine iterC_is (fun v:Int×Bool×Nat=>v.2.2≤nm.length) (fun v=>if((nm.drop v.2.2).all fun b=>partB (bI b))=true then g (!ownL.contains nm)else g false) (fun v=>nm.length - v.2.2) ?_ (v:=((0:Int),false,p)) hp
  rintro⟨a,b,q⟩ k hq hk
  simp only at hq ⊢
  by_cases hlt:q<nm.length
  ·rw[if_pos hlt,(part_rune hlt).1,all_drop hlt]
   cases hb:partB (bI nm[q])with
   |true=>
    rw[if_pos rfl,(part_rune hlt).2 hb,hk _ (by simp only;omega) (by simp only;omega),Bool.true_and]
   |false=>simp[hlt]
  ·rw[if_neg hlt]
   simp[List.drop_eq_nil_of_le (yC hlt)]
 have hall:nm.all (fun b=>partB (bI b))=(partB (bI nm[0])&&(nm.drop 1).all fun b=>partB (bI b)):=all_drop (p:=0) hpos
 have hfst:nm.headD 0=nm[0]:=by cases nm with |nil=>exact absurd rfl h0 |cons b r=>rfl
 have hne:(!nm.isEmpty)=true:=by simp[h0]
 rw[hne,hfst,hall,show decide (nm.length≤16)=true by simp;omega]
 simp only[Bool.true_and]
 show(if letB (bI nm[0])=false then g false else _)=_
 cases hl:letB (bI nm[0])with
 |false=>simp
 |true=>
  rw[if_neg (by simp),if_pos hpos]
  have hp:partB (bI nm[0])=true:=by simp[partB,hl]
  obtain⟨r1,r2⟩:=part_rune hpos
  rw[r1,hp,if_pos rfl,r2 hp]
  refine(loop 1 hpos).trans ?_
  cases h:(nm.drop 1).all fun b=>partB (bI b) <;>simp
end
end Go.Etx
namespace Go.Etx
open Go Go.Am Go.Proofs
set_option maxHeartbeats 4000000
set_option maxRecDepth 20000
noncomputable section
def FK1(x0 x1:Int)(p2:List GScalar)(p3:List GVar)(p4:List GChan)(p5:List GProc)(p6:List GVar)(p7:Int)(st:List Int){ρ:Type}:
  {Φ:(Int→Int→Option ρ)→Option ρ // ∀(β:Bool) (κ:List T×List Ob→Option ρ) (g:Int→Int→Option ρ),(∀y0 y1,κ ([.d (.int IntKind.i64 y0),.d (.int IntKind.i64 y1)],[Ob.box (.d (.agg [.sl β (List.map eScalar p2),.sl β (List.map eVar p3),.sl β (List.map eChan p4),.sl β (List.map (eProc β) p5),.sl β (List.map eVar p6),.int IntKind.i64 p7])),.box (.agg [.own (tl eI st),.d (.map (3))]),.box (.d (.ptr (1))),.map (opsL),.box (.d (.fn (Fn.func 94) [] [])),.box (.d (.fn (Fn.func 95) [] [])),.box (.d (.fn (Fn.func 96) [] [])),.box (.d (.fn (Fn.func 97) [] [])),.box (.d (.fn (Fn.func 98) [] [])),.box (.d (.fn (Fn.func 99) [] []))])=g y0 y1)→
   cbK (call 27 [.agg [.int .i64 x0,.int .i64 x1],.ptr 2,.ptr 0] ([Ob.box (.d (.agg [.sl β (List.map eScalar p2),.sl β (List.map eVar p3),.sl β (List.map eChan p4),.sl β (List.map (eProc β) p5),.sl β (List.map eVar p6),.int IntKind.i64 p7])),.box (.agg [.own (tl eI st),.d (.map (3))]),.box (.d (.ptr (1))),.map (opsL),.box (.d (.fn (Fn.func 94) [] [])),.box (.d (.fn (Fn.func 95) [] [])),.box (.d (.fn (Fn.func 96) [] [])),.box (.d (.fn (Fn.func 97) [] [])),.box (.d (.fn (Fn.func 98) [] [])),.box (.d (.fn (Fn.func 99) [] []))])) κ=Φ g}:=by
 refine⟨?Φ,?h⟩
 case h=>
  intro β κ g hg
  refine(ge27 _ _ _ rfl).trans ?_
  try simp only[go_sem]at hg
  refine viaR fun r hr=> ?_
  cases β
  all_goals (simp -implicitDefEqProofs (maxSteps:=1000000) [go_sem,hg,ge28,ge64,-List.map_append,-List.map_take,-List.map_drop,-List.map_set];exact hr)
def fK1(x0 x1:Int)(p2:List GScalar)(p3:List GVar)(p4:List GChan)(p5:List GProc)(p6:List GVar)(p7:Int)(st:List Int){ρ:Type}(g:Int→Int→Option ρ):Option ρ:=(FK1 x0 x1 p2 p3 p4 p5 p6 p7 st).1 g
@[go_sem] theorem WK1(x0 x1:Int)(p2:List GScalar)(p3:List GVar)(p4:List GChan)(p5:List GProc)(p6:List GVar)(p7:Int)(st:List Int){ρ:Type}(β:Bool)(κ:List T×List Ob→Option ρ):
   cbK (call 27 [.agg [.int .i64 x0,.int .i64 x1],.ptr 2,.ptr 0] ([Ob.box (.d (.agg [.sl β (List.map eScalar p2),.sl β (List.map eVar p3),.sl β (List.map eChan p4),.sl β (List.map (eProc β) p5),.sl β (List.map eVar p6),.int IntKind.i64 p7])),.box (.agg [.own (tl eI st),.d (.map (3))]),.box (.d (.ptr (1))),.map (opsL),.box (.d (.fn (Fn.func 94) [] [])),.box (.d (.fn (Fn.func 95) [] [])),.box (.d (.fn (Fn.func 96) [] [])),.box (.d (.fn (Fn.func 97) [] [])),.box (.d (.fn (Fn.func 98) [] [])),.box (.d (.fn (Fn.func 99) [] []))])) κ=fK1 x0 x1 p2 p3 p4 p5 p6 p7 st fun y0 y1=>κ ([.d (.int IntKind.i64 y0),.d (.int IntKind.i64 y1)],[Ob.box (.d (.agg [.sl β (List.map eScalar p2),.sl β (List.map eVar p3),.sl β (List.map eChan p4),.sl β (List.map (eProc β) p5),.sl β (List.map eVar p6),.int IntKind.i64 p7])),.box (.agg [.own (tl eI st),.d (.map (3))]),.box (.d (.ptr (1))),.map (opsL),.box (.d (.fn (Fn.func 94) [] [])),.box (.d (.fn (Fn.func 95) [] [])),.box (.d (.fn (Fn.func 96) [] [])),.box (.d (.fn (Fn.func 97) [] [])),.box (.d (.fn (Fn.func 98) [] [])),.box (.d (.fn (Fn.func 99) [] []))]):=
 (FK1 x0 x1 p2 p3 p4 p5 p6 p7 st).2 β κ _ fun _ _=>rfl
theorem ok29_end{nt:Int}{l:List Int}{i:Nat}(h:l.length≤i):ok29 nt l i=true:=by simp[ok29,List.drop_eq_nil_of_le h]
theorem ok29_at{nt:Int}{l:List Int}{i:Nat}(h:i<l.length):ok29 nt l i=((decide (nt=-1) || decide (l[i]=nt))&&decide (l[0]? =some l[i])&&ok29 nt l (i+1)):=by
 simp only[ok29,xW h,List.all_cons]
theorem turn29{ρ:Type}(np nt nm:Int)(l:List Int)(fn:Nat)(cp:List D)(c:Bool)(H:List Ob)(κ:Ex×St→Option ρ)(i:Int):
  goLp P hints hint29 b29 0 ((⟨[(1,SV.d (D.sl c (List.map eI l))),(2,SV.loc (Root.l 2 0) [] 0 0),(8,SV.d (D.sl c (List.map eI l))),(9,SV.d (D.int IntKind.i64 (List.length l))),(10,SV.d (D.int IntKind.i64 i))],[((2,0),T.own [T.d (D.agg [D.int IntKind.i64 np,D.int IntKind.i64 nt,D.int IntKind.i64 nm,D.fn (Fn.func fn) [] cp])])],H⟩:St)) κ=if i<(l.length:Int)then(if 0≤i then(l[i.toNat]?).bind fun y=>if nt=-1 then(l[0]?).bind fun y1=>if y=y1 then goLp P hints hint29 b29 0 ((⟨[(1,SV.d (D.sl c (List.map eI l))),(2,SV.loc (Root.l 2 0) [] 0 0),(8,SV.d (D.sl c (List.map eI l))),(9,SV.d (D.int IntKind.i64 (List.length l))),(10,SV.d (D.int IntKind.i64 (IntKind.i64.wrap (i+1))))],[((2,0),T.own [T.d (D.agg [D.int IntKind.i64 np,D.int IntKind.i64 nt,D.int IntKind.i64 nm,D.fn (Fn.func fn) [] cp])])],H⟩:St)) κ else κ (.ret,⟨[(4,.d (.int .i64 0)),(5,.d (.int .i64 9))],[],H⟩)else if y=nt then(l[0]?).bind fun y1=>if y=y1 then goLp P hints hint29 b29 0 ((⟨[(1,SV.d (D.sl c (List.map eI l))),(2,SV.loc (Root.l 2 0) [] 0 0),(8,SV.d (D.sl c (List.map eI l))),(9,SV.d (D.int IntKind.i64 (List.length l))),(10,SV.d (D.int IntKind.i64 (IntKind.i64.wrap (i+1))))],[((2,0),T.own [T.d (D.agg [D.int IntKind.i64 np,D.int IntKind.i64 nt,D.int IntKind.i64 nm,D.fn (Fn.func fn) [] cp])])],H⟩:St)) κ else κ (.ret,⟨[(4,.d (.int .i64 0)),(5,.d (.int .i64 9))],[],H⟩)else κ (.ret,⟨[(4,.d (.int .i64 0)),(5,.d (.int .i64 9))],[],H⟩)else none)
   else κ (.exit 0,⟨[(1,SV.d (D.sl c (List.map eI l))),(2,SV.loc (Root.l 2 0) [] 0 0),(8,SV.d (D.sl c (List.map eI l))),(9,SV.d (D.int IntKind.i64 (List.length l))),(10,SV.d (D.int IntKind.i64 i)),(11,SV.d (D.bool false))],[((2,0),T.own [T.d (D.agg [D.int IntKind.i64 np,D.int IntKind.i64 nt,D.int IntKind.i64 nm,D.fn (Fn.func fn) [] cp])])],H⟩):=by
 refine(goLp_turn q29_0.2).trans ?_
 simp -implicitDefEqProofs (maxSteps:=1000000) [go_sem,-List.map_append,-List.map_take,-List.map_drop,-List.map_set]
theorem lp29{ρ:Type}(np nt nm:Int)(l:List Int)(hl:l.length≤1000)(fn:Nat)(cp:List D)(c:Bool)(H:List Ob)(κ:Ex×St→Option ρ):∀(n i:Nat),l.length - i=n→i≤l.length→
  goLp P hints hint29 b29 0 ((⟨[(1,SV.d (D.sl c (List.map eI l))),(2,SV.loc (Root.l 2 0) [] 0 0),(8,SV.d (D.sl c (List.map eI l))),(9,SV.d (D.int IntKind.i64 (List.length l))),(10,SV.d (D.int IntKind.i64 i))],[((2,0),T.own [T.d (D.agg [D.int IntKind.i64 np,D.int IntKind.i64 nt,D.int IntKind.i64 nm,D.fn (Fn.func fn) [] cp])])],H⟩:St)) κ=if ok29 nt l i=true then κ (.exit 0,⟨[(1,SV.d (D.sl c (List.map eI l))),(2,SV.loc (Root.l 2 0) [] 0 0),(8,SV.d (D.sl c (List.map eI l))),(9,SV.d (D.int IntKind.i64 (List.length l))),(10,SV.d (D.int IntKind.i64 (List.length l))),(11,SV.d (D.bool false))],[((2,0),T.own [T.d (D.agg [D.int IntKind.i64 np,D.int IntKind.i64 nt,D.int IntKind.i64 nm,D.fn (Fn.func fn) [] cp])])],H⟩)else κ (.ret,⟨[(4,.d (.int .i64 0)),(5,.d (.int .i64 9))],[],H⟩):=by
 intro n
 induction n with
 |zero=>
  intro i hn hi
  obtain rfl:i=l.length:=by omega
  rw[turn29,if_neg (by omega),ok29_end (Nat.le_refl _),if_pos rfl]
 |succ n ih=>
  intro i hn hi
  have hlt:i<l.length:=by omega
  have hw:IntKind.i64.wrap ((i:Int)+1)=((i+1:Nat):Int):=by exact wrapS (by omega)
  rw[turn29,if_pos (by omega),if_pos (by omega),xV,xG hlt,xS,hw,ih (i+1) (by omega) (by omega),ok29_at hlt,xG (Nat.lt_of_le_of_lt (Nat.zero_le _) hlt),xS]
  simp only[xJ]
  by_cases h1:nt=-1
  ·simp only[h1,decide_true,Bool.true_or,Bool.true_and,if_true]
   by_cases h2:l[0]=l[i]
   ·simp[h2]
   ·simp[h2,Ne.symm h2,eq_comm]
  ·simp only[h1,decide_false,Bool.false_or,if_false]
   by_cases h2:l[i]=nt
   ·rw[if_pos h2]
    by_cases h3:l[i]=l[0]
    ·rw[if_pos h3];simp only[h2,decide_true,Bool.true_and,show(l[0]=l[i])from h3.symm]
    ·rw[if_neg h3];simp only[show¬(l[0]=l[i])from fun e=>h3 e.symm,decide_false,Bool.and_false,Bool.false_and,xH,if_false]
   ·rw[if_neg h2];simp only[h2,decide_false,Bool.false_and,xH,if_false]
def x29{ρ:Type}(np nt nm:Int)(l:List Int)(fn:Nat)(cp:List D)(c:Bool)(H:List Ob)(κ:List T×List Ob→Option ρ):Option ρ:=cbK (call 29 [.agg [.int .i64 np,.int .i64 nt,.int .i64 nm,.fn (.func fn) [] cp],.sl c (List.map eI l)] H) κ
theorem W29{ρ:Type}(np nt nm:Int)(l:List Int)(fn:Nat)(cp:List D)(c:Bool)(H:List Ob)(κ:List T×List Ob→Option ρ):cbK (call 29 [.agg [.int .i64 np,.int .i64 nt,.int .i64 nm,.fn (.func fn) [] cp],.sl c (List.map eI l)] H) κ=
  if l.length≤1000 then(if ok29 nt l 0=true then κ ([.d (.int .i64 nm),.d (.int .i64 0)],H)else κ ([.d (.int .i64 0),.d (.int .i64 9)],H))else x29 np nt nm l fn cp c H κ:=by
 by_cases hl:l.length≤1000
 ·rw[if_pos hl]
  refine(ge29 _ _ _ rfl).trans ?_
  have h:=fun κ=>lp29 (ρ:=ρ) np nt nm l hl fn cp c H κ _ 0 rfl (Nat.zero_le _)
  simp only[Int.natCast_zero]at h
  simp -implicitDefEqProofs (maxSteps:=1000000) [go_sem,h,-List.map_append,-List.map_take,-List.map_drop,-List.map_set]
 ·rw[if_neg hl];rfl
attribute [go_sem] W29
attribute [irreducible] x29
theorem ops_imm:(opsL.all fun e=>e.1.imm&&e.2.imm)=true:=rfl
theorem fK1_eq(x0 x1:Int)(s:GScope)(hs:s.Scalars.length≤1000)(hN:x1≤9223372036854775807)(st:List Int)(hst:st.length≤12)(hx:x0=3→st≠[]){ρ:Type}(g:Int→Int→Option ρ)(ht:takesK x0=0∨x0=3):
  fK1 x0 x1 s.Scalars s.Vars s.Chans s.Procs s.Locals s.Self st g=g (nodeK ⟨x0,x1⟩ s st).1 (nodeK ⟨x0,x1⟩ s st).2:=by
 have hsc:GScope.mk s.Scalars s.Vars s.Chans s.Procs s.Locals s.Self=s:=rfl
 simp only[fK1,FK1,hsc,addx_eq,nodeK]
 rcases ht with ht |ht
 ·have h3:¬x0=3:=fun e=>by subst e;simp[takesK]at ht
  simp only[h3,if_false,ht,if_true,leafK]
  have vr:∀l:List GVar,(f_expr_variable l x1 s fun y0_0 y0_1 y0_2=>if y0_2=false then g 0 8 else if y0_1=0 then g y0_0 0 else g 0 9)=g (varK (varAt l x1 s)).1 (varK (varAt l x1 s)).2:=fun l=>by
   rw[varx_eq (e:=g 0 8) (fun _ _=>by simp)]
   cases hv:varAt l x1 s with
   |none=>rfl
   |some v=>
    have hsv:scOk v.Over s=true:=by
     unfold varAt at hv
     split at hv
     ·simp only[xB]at hv
      obtain⟨u,_,hu⟩:=hv
      split at hu
      ·rename_i hb
       simp only[xJ]at hu
       subst hu
       simp only[xA]at hb
       exact hb.2
      ·cases hu
     ·cases hv
    simp only[Bool.true_eq_false,if_false,kOf_0 hs hsv,varK]
    by_cases h:v.Over=0 <;>simp[h]
  by_cases h1:x0=1
  ·simp only[h1,if_true]
   by_cases h:numK x1=(0,0)
   ·simp[h]
   ·rw[if_neg h]
    unfold numK at h ⊢
    split
    ·rename_i q;exact absurd (if_pos q) h
    ·rfl
  ·by_cases h4:x0=4
   ·subst h4
    simpa using vr s.Locals
   ·by_cases h2:x0=2
    ·subst h2
     simpa using vr s.Vars
    ·simp only[h1,h4,h2,if_false]
     exact namedx_eq (x:=⟨x0,x1⟩) hN
 ·subst ht
  have hne:=hx rfl
  obtain⟨k,hk⟩:∃k,st.getLast? =some k:=by cases h:st.getLast? with |none=>exact absurd (List.getLast?_eq_none_iff.1 h) hne |some k=>exact⟨k,rfl⟩
  have hpos:0<st.length:=List.length_pos_iff.2 hne
  have hw:IntKind.i64.wrap ((st.length:Int) - 1)=((st.length - 1:Nat):Int):=subN (m:=1) (by omega) (by omega)
  have hk':st[st.length - 1]? =some k:=by rw[←List.getLast?_eq_getElem?];exact hk
  simp only[show¬((3:Int)=1)by decide,show¬((3:Int)=4)by decide,show¬((3:Int)=2)by decide,if_false,if_true,hk,itemK_def]
  rw[varx_eq (e:=g 0 8) (fun _ _=>by simp)]
  cases hv:varAt s.Vars x1 s with
  |none=>rfl
  |some v=>
   have hsv:scOk v.Over s=true:=by
    unfold varAt at hv
    split at hv
    ·simp only[xB]at hv
     obtain⟨u,_,hu⟩:=hv
     split at hu
     ·rename_i hb
      simp only[xJ]at hu
      subst hu
      simp only[xA]at hb
      exact hb.2
     ·cases hu
    ·cases hv
   simp only[Bool.true_eq_false,if_false,kOf_0 hs hsv,hw,xV,hk',xS,show(0:Int)≤((st.length - 1:Nat):Int)by omega,show((st.length - 1:Nat):Int)<(st.length:Int)by omega,and_self,if_true]
   by_cases h:v.Over=0
   ·simp[h]
   ·have hko:kOf v.Over=w64 (1+v.Over):=by simp[kOf,h]
    simp only[h,if_false,hko]
    by_cases hkk:k=w64 (1+v.Over) <;>simp[hkk]
def outK{ρ:Type}(β:Bool)(s:GScope)(κ:List T×List Ob→Option ρ)(p:Int×List Int):Option ρ:=κ ([.d (.int IntKind.i64 p.1)],[Ob.box (.d (.agg [.sl β (List.map eScalar s.Scalars),.sl β (List.map eVar s.Vars),.sl β (List.map eChan s.Chans),.sl β (List.map (eProc β) s.Procs),.sl β (List.map eVar s.Locals),.int IntKind.i64 s.Self])),.box (.agg [.own (tl eI p.2),.d (.map (3))]),.box (.d (.ptr (1))),.map (opsL),.box (.d (.fn (Fn.func 94) [] [])),.box (.d (.fn (Fn.func 95) [] [])),.box (.d (.fn (Fn.func 96) [] [])),.box (.d (.fn (Fn.func 97) [] [])),.box (.d (.fn (Fn.func 98) [] [])),.box (.d (.fn (Fn.func 99) [] []))])
set_option maxHeartbeats 8000000 in
theorem op60(β:Bool)(x0 x1:Int)(s:GScope)(st:List Int)(hst:st.length≤12)(m:Nat)(hm:1≤m)(hm2:m≤2)(hP:opP x0=(m:Int))(hx:9≤x0∧x0≤19)(hl:m≤st.length){ρ:Type}(κ:List T×List Ob→Option ρ):
   cbK (call 60 [.ptr 1,.agg [.int .i64 x0,.int .i64 x1],.fn (.func 27) [] [.ptr 2,.ptr 0],.fn (.func 29) [] []] ([Ob.box (.d (.agg [.sl β (List.map eScalar s.Scalars),.sl β (List.map eVar s.Vars),.sl β (List.map eChan s.Chans),.sl β (List.map (eProc β) s.Procs),.sl β (List.map eVar s.Locals),.int IntKind.i64 s.Self])),.box (.agg [.own (tl eI st),.d (.map (3))]),.box (.d (.ptr (1))),.map (opsL),.box (.d (.fn (Fn.func 94) [] [])),.box (.d (.fn (Fn.func 95) [] [])),.box (.d (.fn (Fn.func 96) [] [])),.box (.d (.fn (Fn.func 97) [] [])),.box (.d (.fn (Fn.func 98) [] [])),.box (.d (.fn (Fn.func 99) [] []))])) κ=
    outK β s κ (if(opsK x0 (st.drop (st.length - m))).2≠0 then((opsK x0 (st.drop (st.length - m))).2,st)else(if 12<st.length - m+1 then 12 else 0,st.take (st.length - m)++[(opsK x0 (st.drop (st.length - m))).1])):=by
 refine(ge60 _ _ _ rfl).trans ?_
 have hH:opH x0=true:=opH_iff.2 hx
 have e3:¬x0=3:=by omega
 have e8:¬x0≤8:=by omega
 have n0:¬(m:Int)<0:=by omega
 have nl:¬(st.length:Int)<(m:Int):=by omega
 have hw:IntKind.i64.wrap ((st.length:Int) - (m:Int))=((st.length - m:Nat):Int):=subN hl (by omega)
 have q1:(0:Int)≤((st.length - m:Nat):Int):=by omega
 have q2:((st.length - m:Nat):Int)≤(st.length:Int):=by omega
 have q3:st.length≤1000+(st.length - m):=by omega
 have b1:(st.length - m+1) * 8≤140737488355328:=by omega
 have b2:st.length≤9223372036854775806+m:=by omega
 have hd:st.length - (st.length - m)=m:=by omega
 have q4:m≤1000:=by omega
 have htk:List.take m (List.drop (st.length - m) st)=List.drop (st.length - m) st:=List.take_of_length_le (by simp;omega)
 have h12:¬12<st.length - m+1:=by omega
 have h12':¬(12:Int)<((st.length - m:Nat):Int)+1:=by omega
 by_cases hk:ok29 (opT x0) (st.drop (st.length - m)) 0=true
 ·have hz:opsK x0 (st.drop (st.length - m))=(opM x0,0):=by rw[opsK,if_pos hk]
  rw[hz]
  cases β <;>simp -implicitDefEqProofs (maxSteps:=1000000) [go_sem,ge100,hH,hP,e3,e8,n0,nl,hw,q1,q2,q3,b1,b2,hd,htk,q4,hk,h12,h12',ops_imm,outK,-List.map_append,-List.map_take,-List.map_drop,-List.map_set]
 ·have hz:opsK x0 (st.drop (st.length - m))=(0,9):=by rw[opsK,if_neg hk]
  rw[hz]
  cases β <;>simp -implicitDefEqProofs (maxSteps:=1000000) [go_sem,ge100,hH,hP,e3,e8,n0,nl,hw,q1,q2,q3,b1,b2,hd,htk,q4,hk,h12,h12',ops_imm,outK,-List.map_append,-List.map_take,-List.map_drop,-List.map_set]
set_option maxHeartbeats 8000000 in
theorem WS60(β:Bool)(x0 x1:Int)(s:GScope)(hs:s.Scalars.length≤1000)(hN:x1≤9223372036854775807)(st:List Int)(hst:st.length≤12){ρ:Type}(κ:List T×List Ob→Option ρ):
   cbK (call 60 [.ptr 1,.agg [.int .i64 x0,.int .i64 x1],.fn (.func 27) [] [.ptr 2,.ptr 0],.fn (.func 29) [] []] ([Ob.box (.d (.agg [.sl β (List.map eScalar s.Scalars),.sl β (List.map eVar s.Vars),.sl β (List.map eChan s.Chans),.sl β (List.map (eProc β) s.Procs),.sl β (List.map eVar s.Locals),.int IntKind.i64 s.Self])),.box (.agg [.own (tl eI st),.d (.map (3))]),.box (.d (.ptr (1))),.map (opsL),.box (.d (.fn (Fn.func 94) [] [])),.box (.d (.fn (Fn.func 95) [] [])),.box (.d (.fn (Fn.func 96) [] [])),.box (.d (.fn (Fn.func 97) [] [])),.box (.d (.fn (Fn.func 98) [] [])),.box (.d (.fn (Fn.func 99) [] []))])) κ=outK β s κ (stepK ⟨x0,x1⟩ s st):=by
 refine(ge60 _ _ _ rfl).trans ?_
 have key:∀n:Nat,n≤st.length→n≤2→IntKind.i64.wrap ((st.length:Int) - (n:Int))=((st.length - n:Nat):Int):=fun n hn h2=>subN hn (by omega)
 have stp:∀n:Nat,takesK x0=(n:Int)→n≤st.length→stepK ⟨x0,x1⟩ s st=if(nodeK ⟨x0,x1⟩ s st).2≠0 then((nodeK ⟨x0,x1⟩ s st).2,st)else(if 12<st.length - n+1 then 12 else 0,st.take (st.length - n)++[(nodeK ⟨x0,x1⟩ s st).1]):=fun n ht hn=>by
  unfold stepK
  rw[ht,if_neg (by omega),if_neg (by omega),xV]
 rcases takes_cases x0 with⟨h,q⟩ |⟨h,q⟩ |⟨h,q⟩ |⟨h,q⟩
 ·-- none
  have hH:¬opH x0=true:=fun hh=>by have:=opH_iff.1 hh;omega
  have e3:¬x0=3:=by omega
  have e18:¬(1≤x0∧x0≤8):=by omega
  have hstep:stepK ⟨x0,x1⟩ s st=(3,st):=by unfold stepK;rw[h,if_pos (by omega)]
  rw[hstep]
  by_cases e1:1≤x0
  ·have e8:¬x0≤8:=fun q=>e18 ⟨e1,q⟩
   cases β <;>simp -implicitDefEqProofs (maxSteps:=1000000) [go_sem,ge100,hH,e3,e1,e8,outK,-List.map_append,-List.map_take,-List.map_drop,-List.map_set]
  ·cases β <;>simp -implicitDefEqProofs (maxSteps:=1000000) [go_sem,ge100,hH,e3,e1,outK,-List.map_append,-List.map_take,-List.map_drop,-List.map_set]
 ·-- a leaf
  have hH:¬opH x0=true:=fun hh=>by have:=opH_iff.1 hh;omega
  have hHf:opH x0=false:=by simpa using hH
  have e3:¬x0=3:=by omega
  have e1:1≤x0:=q.1
  have e8:x0≤8:=q.2.1
  have hw:=key 0 (Nat.zero_le _) (by omega)
  have hw':IntKind.i64.wrap ((st.length:Int))=(st.length:Int):=by simpa using hw
  have hcall:=fun g=>fK1_eq x0 x1 s hs hN st hst (fun e=>absurd e e3) (ρ:=ρ) g (.inl h)
  have n0:¬(st.length:Int)<0:=by omega
  have b1:(st.length+1) * 8≤140737488355328:=by omega
  have b2:st.length≤9223372036854775806:=by omega
  rw[stp 0 h (Nat.zero_le _)]
  by_cases hz:(nodeK ⟨x0,x1⟩ s st).2=0
  ·by_cases h12:12<st.length+1
   ·have h12':(12:Int)<(st.length:Int)+1:=by omega
    cases β <;>simp -implicitDefEqProofs (maxSteps:=1000000) [go_sem,ge100,hH,hHf,e3,e1,e8,hw',hcall,ops_imm,n0,b1,b2,hz,h12,h12',outK,-List.map_append,-List.map_take,-List.map_drop,-List.map_set]
   ·have h12':¬(12:Int)<(st.length:Int)+1:=by omega
    cases β <;>simp -implicitDefEqProofs (maxSteps:=1000000) [go_sem,ge100,hH,hHf,e3,e1,e8,hw',hcall,ops_imm,n0,b1,b2,hz,h12,h12',outK,-List.map_append,-List.map_take,-List.map_drop,-List.map_set]
  ·cases β <;>simp -implicitDefEqProofs (maxSteps:=1000000) [go_sem,ge100,hH,hHf,e3,e1,e8,hw',hcall,ops_imm,n0,b1,b2,hz,outK,-List.map_append,-List.map_take,-List.map_drop,-List.map_set]
 ·by_cases hlt:st.length<1
  ·have hstep:stepK ⟨x0,x1⟩ s st=(4,st):=by unfold stepK;rw[h,if_neg (by omega),if_pos (by omega)]
   have hlt':(st.length:Int)<1:=by omega
   rw[hstep]
   rcases q with q |q
   ·cases β <;>simp -implicitDefEqProofs (maxSteps:=1000000) [go_sem,ge100,q,hlt',outK,-List.map_append,-List.map_take,-List.map_drop,-List.map_set]
   ·have hH:opH x0=true:=opH_iff.2 (by omega)
    have e3:¬x0=3:=by omega
    have e8:¬x0≤8:=by omega
    have hP:opP x0=1:=by rw[opP_eq (by omega),if_pos (by omega)]
    cases β <;>simp -implicitDefEqProofs (maxSteps:=1000000) [go_sem,ge100,hH,hP,e3,e8,hlt',outK,-List.map_append,-List.map_take,-List.map_drop,-List.map_set]
  have n0:¬(st.length:Int)<1:=by omega
  have hw:IntKind.i64.wrap ((st.length:Int) - 1)=((st.length - 1:Nat):Int):=key 1 (by omega) (by omega)
  have q1:(0:Int)≤((st.length - 1:Nat):Int):=by omega
  have q2:((st.length - 1:Nat):Int)≤(st.length:Int):=by omega
  have q3:st.length≤1000+(st.length - 1):=by omega
  have b1:(st.length - 1+1) * 8≤140737488355328:=by omega
  have b2:st.length≤9223372036854775806+1:=by omega
  have b3:st.length≤9223372036854775807:=by omega
  have hd:st.length - (st.length - 1)=1:=by omega
  have h1:takesK x0=((1:Nat):Int):=h
  rw[stp 1 h1 (by omega)]
  rcases q with q |q
  ·subst q
   have hHf:opH 3=false:=rfl
   have hcall:=fun g=>fK1_eq 3 x1 s hs hN st hst (fun _ e=>by subst e;simp at hlt) (ρ:=ρ) g (.inr rfl)
   by_cases hz:(nodeK ⟨3,x1⟩ s st).2=0
   ·by_cases h12:12<st.length - 1+1
    ·omega
    ·have h12':¬(12:Int)<((st.length - 1:Nat):Int)+1:=by omega
     cases β <;>simp -implicitDefEqProofs (maxSteps:=1000000) [go_sem,ge100,hHf,hw,q1,q2,q3,hcall,ops_imm,n0,b1,b2,b3,hd,hz,h12,h12',outK,-List.map_append,-List.map_take,-List.map_drop,-List.map_set]
   ·cases β <;>simp -implicitDefEqProofs (maxSteps:=1000000) [go_sem,ge100,hHf,hw,q1,q2,q3,hcall,ops_imm,n0,b1,b2,b3,hd,hz,outK,-List.map_append,-List.map_take,-List.map_drop,-List.map_set]
  ·have hn:nodeK ⟨x0,x1⟩ s st=opsK x0 (st.drop (st.length - 1)):=by
    unfold nodeK
    rw[if_neg (by show¬x0=3;omega),if_neg (by show¬takesK x0=0;omega),show(takesK x0).toNat=1 by rw[h];rfl]
   rw[hn,←op60 β x0 x1 s st hst 1 (by omega) (by omega) (by rw[opP_eq (by omega),if_pos (by omega)];rfl) (by omega) (by omega)]
   exact(ge60 _ _ _ rfl).symm
 ·by_cases hlt:st.length<2
  ·have hstep:stepK ⟨x0,x1⟩ s st=(4,st):=by unfold stepK;rw[h,if_neg (by omega),if_pos (by omega)]
   have hlt':(st.length:Int)<2:=by omega
   rw[hstep]
   have hH:opH x0=true:=opH_iff.2 (by omega)
   have e3:¬x0=3:=by omega
   have e8:¬x0≤8:=by omega
   have hP:opP x0=2:=by rw[opP_eq (by omega),if_neg (by omega)]
   cases β <;>simp -implicitDefEqProofs (maxSteps:=1000000) [go_sem,ge100,hH,hP,e3,e8,hlt',outK,-List.map_append,-List.map_take,-List.map_drop,-List.map_set]
  have h2:takesK x0=((2:Nat):Int):=h
  rw[stp 2 h2 (by omega)]
  have hn:nodeK ⟨x0,x1⟩ s st=opsK x0 (st.drop (st.length - 2)):=by
   unfold nodeK
   rw[if_neg (by show¬x0=3;omega),if_neg (by show¬takesK x0=0;omega),show(takesK x0).toNat=2 by rw[h];rfl]
  rw[hn,←op60 β x0 x1 s st hst 2 (by omega) (by omega) (by rw[opP_eq (by omega),if_neg (by omega)];rfl) (by omega) (by omega)]
  exact(ge60 _ _ _ rfl).symm
end
end Go.Etx
namespace Go.Etx
open Go Go.Am Go.Proofs
set_option maxHeartbeats 4000000
set_option maxRecDepth 20000
noncomputable section
theorem turn26(β:Bool)(e:List GNode)(s:GScope)(hs:s.Scalars.length≤1000)(st:List Int)(hst:st.length≤12)(i:Nat)(hi:i<e.length)(hN:e[i].N≤9223372036854775807)(hlen:e.length≤24){ρ:Type}(κ:Ex×St→Option ρ):goLp P hints hint26 b26 0 ((⟨[(0,.d (.ptr (1))),(2,.d (.fn (Fn.func 27) [] [.ptr (2),.ptr (0)])),(3,.d (.fn (Fn.func 29) [] [])),(25,.d (.sl β (List.map eNode e))),(26,.d (.int IntKind.i64 (List.length e))),(27,.d (.int IntKind.i64 (i:Int)))],[],[Ob.box (.d (.agg [.sl β (List.map eScalar s.Scalars),.sl β (List.map eVar s.Vars),.sl β (List.map eChan s.Chans),.sl β (List.map (eProc β) s.Procs),.sl β (List.map eVar s.Locals),.int IntKind.i64 s.Self])),.box (.agg [.own (tl eI st),.d (.map (3))]),.box (.d (.ptr (1))),.map (opsL),.box (.d (.fn (Fn.func 94) [] [])),.box (.d (.fn (Fn.func 95) [] [])),.box (.d (.fn (Fn.func 96) [] [])),.box (.d (.fn (Fn.func 97) [] [])),.box (.d (.fn (Fn.func 98) [] [])),.box (.d (.fn (Fn.func 99) [] []))]⟩:St)) κ=
  if(stepK e[i] s st).1=0 then goLp P hints hint26 b26 0 ((⟨[(0,.d (.ptr (1))),(2,.d (.fn (Fn.func 27) [] [.ptr (2),.ptr (0)])),(3,.d (.fn (Fn.func 29) [] [])),(25,.d (.sl β (List.map eNode e))),(26,.d (.int IntKind.i64 (List.length e))),(27,.d (.int IntKind.i64 ((i+1:Nat):Int)))],[],[Ob.box (.d (.agg [.sl β (List.map eScalar s.Scalars),.sl β (List.map eVar s.Vars),.sl β (List.map eChan s.Chans),.sl β (List.map (eProc β) s.Procs),.sl β (List.map eVar s.Locals),.int IntKind.i64 s.Self])),.box (.agg [.own (tl eI ((stepK e[i] s st).2)),.d (.map (3))]),.box (.d (.ptr (1))),.map (opsL),.box (.d (.fn (Fn.func 94) [] [])),.box (.d (.fn (Fn.func 95) [] [])),.box (.d (.fn (Fn.func 96) [] [])),.box (.d (.fn (Fn.func 97) [] [])),.box (.d (.fn (Fn.func 98) [] [])),.box (.d (.fn (Fn.func 99) [] []))]⟩:St)) κ else κ (.ret,⟨[(8,SV.d (D.int IntKind.i64 0)),(9,SV.d (D.int IntKind.i64 (stepK e[i] s st).1))],[],[Ob.box (.d (.agg [.sl β (List.map eScalar s.Scalars),.sl β (List.map eVar s.Vars),.sl β (List.map eChan s.Chans),.sl β (List.map (eProc β) s.Procs),.sl β (List.map eVar s.Locals),.int IntKind.i64 s.Self])),.box (.agg [.own (tl eI ((stepK e[i] s st).2)),.d (.map (3))]),.box (.d (.ptr (1))),.map (opsL),.box (.d (.fn (Fn.func 94) [] [])),.box (.d (.fn (Fn.func 95) [] [])),.box (.d (.fn (Fn.func 96) [] [])),.box (.d (.fn (Fn.func 97) [] [])),.box (.d (.fn (Fn.func 98) [] [])),.box (.d (.fn (Fn.func 99) [] []))]⟩):=by
 refine(goLp_turn q26_0.2).trans ?_
 have hw:IntKind.i64.wrap ((i:Int)+1)=((i+1:Nat):Int):=wrapS (by omega)
 have h1:(i:Int)<(e.length:Int):=by omega
 have h2:e[i]? =some e[i]:=xG hi
 have h60:=fun κ=>WS60 (ρ:=ρ) β e[i].Op e[i].N s hs hN st hst κ
 cases β <;>simp -implicitDefEqProofs (maxSteps:=1000000) [go_sem,h1,h2,hw,h60,outK,-List.map_append,-List.map_take,-List.map_drop,-List.map_set]
theorem last26(β:Bool)(e:List GNode)(s:GScope)(st:List Int){ρ:Type}(κ:Ex×St→Option ρ):goLp P hints hint26 b26 0 ((⟨[(0,.d (.ptr (1))),(2,.d (.fn (Fn.func 27) [] [.ptr (2),.ptr (0)])),(3,.d (.fn (Fn.func 29) [] [])),(25,.d (.sl β (List.map eNode e))),(26,.d (.int IntKind.i64 (List.length e))),(27,.d (.int IntKind.i64 (e.length:Int)))],[],[Ob.box (.d (.agg [.sl β (List.map eScalar s.Scalars),.sl β (List.map eVar s.Vars),.sl β (List.map eChan s.Chans),.sl β (List.map (eProc β) s.Procs),.sl β (List.map eVar s.Locals),.int IntKind.i64 s.Self])),.box (.agg [.own (tl eI st),.d (.map (3))]),.box (.d (.ptr (1))),.map (opsL),.box (.d (.fn (Fn.func 94) [] [])),.box (.d (.fn (Fn.func 95) [] [])),.box (.d (.fn (Fn.func 96) [] [])),.box (.d (.fn (Fn.func 97) [] [])),.box (.d (.fn (Fn.func 98) [] [])),.box (.d (.fn (Fn.func 99) [] []))]⟩:St)) κ=κ (.exit 1,(⟨[(0,.d (.ptr (1))),(2,.d (.fn (Fn.func 27) [] [.ptr (2),.ptr (0)])),(3,.d (.fn (Fn.func 29) [] [])),(25,.d (.sl β (List.map eNode e))),(26,.d (.int IntKind.i64 (List.length e))),(27,.d (.int IntKind.i64 (List.length e))),(28,SV.d (D.bool false))],[],[Ob.box (.d (.agg [.sl β (List.map eScalar s.Scalars),.sl β (List.map eVar s.Vars),.sl β (List.map eChan s.Chans),.sl β (List.map (eProc β) s.Procs),.sl β (List.map eVar s.Locals),.int IntKind.i64 s.Self])),.box (.agg [.own (tl eI st),.d (.map (3))]),.box (.d (.ptr (1))),.map (opsL),.box (.d (.fn (Fn.func 94) [] [])),.box (.d (.fn (Fn.func 95) [] [])),.box (.d (.fn (Fn.func 96) [] [])),.box (.d (.fn (Fn.func 97) [] [])),.box (.d (.fn (Fn.func 98) [] [])),.box (.d (.fn (Fn.func 99) [] []))]⟩:St)):=by
 refine(goLp_turn q26_0.2).trans ?_
 cases β <;>simp -implicitDefEqProofs (maxSteps:=1000000) [go_sem,-List.map_append,-List.map_take,-List.map_drop,-List.map_set]
theorem step_ok0{x:GNode}{s:GScope}{st:List Int}(h:st.length≤12)(h0:(stepK x s st).1=0):(stepK x s st).2.length≤12:=by
 unfold stepK at h0 ⊢
 split at h0;· simp at h0
 rename_i h1
 split at h0;· simp at h0
 rename_i h2
 split at h0
 ·rename_i h3;simp only at h0;exact absurd h0 h3
 ·rename_i h3
  rw[if_neg h1,if_neg h2,if_neg h3]
  simp only at h0
  split at h0
  ·cases h0
  ·simp only[xP,yR,xZ,yN];omega
theorem loop26(β:Bool)(e:List GNode)(s:GScope)(hs:s.Scalars.length≤1000)(hN:∀x∈e,x.N≤9223372036854775807)(hlen:e.length≤24){ρ:Type}(κ:Ex×St→Option ρ):∀(n i:Nat) (st:List Int),e.length - i=n→i≤e.length→st.length≤12→goLp P hints hint26 b26 0 ((⟨[(0,.d (.ptr (1))),(2,.d (.fn (Fn.func 27) [] [.ptr (2),.ptr (0)])),(3,.d (.fn (Fn.func 29) [] [])),(25,.d (.sl β (List.map eNode e))),(26,.d (.int IntKind.i64 (List.length e))),(27,.d (.int IntKind.i64 (i:Int)))],[],[Ob.box (.d (.agg [.sl β (List.map eScalar s.Scalars),.sl β (List.map eVar s.Vars),.sl β (List.map eChan s.Chans),.sl β (List.map (eProc β) s.Procs),.sl β (List.map eVar s.Locals),.int IntKind.i64 s.Self])),.box (.agg [.own (tl eI st),.d (.map (3))]),.box (.d (.ptr (1))),.map (opsL),.box (.d (.fn (Fn.func 94) [] [])),.box (.d (.fn (Fn.func 95) [] [])),.box (.d (.fn (Fn.func 96) [] [])),.box (.d (.fn (Fn.func 97) [] [])),.box (.d (.fn (Fn.func 98) [] [])),.box (.d (.fn (Fn.func 99) [] []))]⟩:St)) κ=
  if(runK s (e.drop i) st).1=0 then κ (.exit 1,(⟨[(0,.d (.ptr (1))),(2,.d (.fn (Fn.func 27) [] [.ptr (2),.ptr (0)])),(3,.d (.fn (Fn.func 29) [] [])),(25,.d (.sl β (List.map eNode e))),(26,.d (.int IntKind.i64 (List.length e))),(27,.d (.int IntKind.i64 (List.length e))),(28,SV.d (D.bool false))],[],[Ob.box (.d (.agg [.sl β (List.map eScalar s.Scalars),.sl β (List.map eVar s.Vars),.sl β (List.map eChan s.Chans),.sl β (List.map (eProc β) s.Procs),.sl β (List.map eVar s.Locals),.int IntKind.i64 s.Self])),.box (.agg [.own (tl eI ((runK s (e.drop i) st).2)),.d (.map (3))]),.box (.d (.ptr (1))),.map (opsL),.box (.d (.fn (Fn.func 94) [] [])),.box (.d (.fn (Fn.func 95) [] [])),.box (.d (.fn (Fn.func 96) [] [])),.box (.d (.fn (Fn.func 97) [] [])),.box (.d (.fn (Fn.func 98) [] [])),.box (.d (.fn (Fn.func 99) [] []))]⟩:St))else κ (.ret,⟨[(8,SV.d (D.int IntKind.i64 0)),(9,SV.d (D.int IntKind.i64 (runK s (e.drop i) st).1))],[],[Ob.box (.d (.agg [.sl β (List.map eScalar s.Scalars),.sl β (List.map eVar s.Vars),.sl β (List.map eChan s.Chans),.sl β (List.map (eProc β) s.Procs),.sl β (List.map eVar s.Locals),.int IntKind.i64 s.Self])),.box (.agg [.own (tl eI ((runK s (e.drop i) st).2)),.d (.map (3))]),.box (.d (.ptr (1))),.map (opsL),.box (.d (.fn (Fn.func 94) [] [])),.box (.d (.fn (Fn.func 95) [] [])),.box (.d (.fn (Fn.func 96) [] [])),.box (.d (.fn (Fn.func 97) [] [])),.box (.d (.fn (Fn.func 98) [] [])),.box (.d (.fn (Fn.func 99) [] []))]⟩):=by
 intro n
 induction n with
 |zero=>
  intro i st hn hi hst
  obtain rfl:i=e.length:=by omega
  rw[last26,List.drop_length,runK,if_pos rfl]
 |succ n ih=>
  intro i st hn hi hst
  have hlt:i<e.length:=by omega
  rw[turn26 β e s hs st hst i hlt (hN _ (List.getElem_mem hlt)) hlen,xW hlt,runK]
  by_cases h0:(stepK e[i] s st).1=0
  ·rw[if_pos h0,if_pos h0,ih (i+1) _ (by omega) (by omega) (step_ok0 hst h0)]
  ·rw[if_neg h0,if_neg h0,if_neg h0]
theorem run_ok0{s:GScope}:∀{e:List GNode} {st:List Int},st.length≤12→(runK s e st).1=0→(runK s e st).2.length≤12∧(e≠[]→0<(runK s e st).2.length)
 | [],st,h,_=>⟨h,fun q=>absurd rfl q⟩
 |x::r,st,h,h0=>by
  unfold runK at h0 ⊢
  by_cases hx:(stepK x s st).1=0
  ·rw[if_pos hx]at h0 ⊢
   have hl:=step_ok0 h hx
   have:=run_ok0 hl h0
   refine⟨this.1,fun _=> ?_⟩
   cases r with
   |cons y r=>exact this.2 (by simp)
   |nil=>
    rw[runK]
    unfold stepK at hx ⊢
    split at hx;· simp at hx
    rename_i h1
    split at hx;· simp at hx
    rename_i h2
    split at hx
    ·rename_i h3;simp only at hx;exact absurd hx h3
    ·rename_i h3
     rw[if_neg h1,if_neg h2,if_neg h3]
     simp
  ·rw[if_neg hx]at h0;exact absurd h0 hx
set_option maxHeartbeats 8000000 in
theorem Kind_eq(β:Bool)(e:List GNode)(s:GScope)(hs:s.Scalars.length≤1000)(hN:∀x∈e,x.N≤9223372036854775807){ρ:Type}(κ:List T×List Ob→Option ρ):
  cbK (call 13 [.sl β (List.map eNode e),.agg [.sl β (List.map eScalar s.Scalars),.sl β (List.map eVar s.Vars),.sl β (List.map eChan s.Chans),.sl β (List.map (eProc β) s.Procs),.sl β (List.map eVar s.Locals),.int .i64 s.Self]] []) κ=κ ([.d (.int .i64 (kindK e s).1),.d (.int .i64 (kindK e s).2)],[]):=by
 refine(ge13 _ _ _ rfl).trans ?_
 unfold kindK
 by_cases h24:24<e.length
 ·have h24':(24:Int)<(e.length:Int):=by omega
  rw[if_pos h24]
  cases β <;>simp -implicitDefEqProofs (maxSteps:=1000000) [go_sem,ge26,ge59,ge93,h24',-List.map_append,-List.map_take,-List.map_drop,-List.map_set]
 rw[if_neg h24]
 have h24':¬(24:Int)<(e.length:Int):=by omega
 by_cases he:e=[]
 ·rw[if_pos he]
  subst he
  cases β <;>simp -implicitDefEqProofs (maxSteps:=1000000) [go_sem,ge26,ge59,ge93,-List.map_append,-List.map_take,-List.map_drop,-List.map_set]
 rw[if_neg he]
 have hl:=fun κ=>loop26 (ρ:=ρ) β e s hs hN (by omega) κ _ 0 [] rfl (Nat.zero_le _) (by simp)
 simp only[Int.natCast_zero,List.drop_zero,tl_nil]at hl
 by_cases h0:(runK s e []).1=0
 ·have hok:=run_ok0 (s:=s) (e:=e) (st:=[]) (by simp) h0
  have hpos:=hok.2 he
  by_cases h1:1<(runK s e []).2.length
  ·have h1':(1:Int)<((runK s e []).2.length:Int):=by omega
   cases β <;>simp -implicitDefEqProofs (maxSteps:=1000000) [go_sem,ge26,ge59,ge93,h24',he,hl,h0,h1,h1',-List.map_append,-List.map_take,-List.map_drop,-List.map_set]
  ·have h1':¬(1:Int)<((runK s e []).2.length:Int):=by omega
   obtain⟨a,ha⟩:∃a,(runK s e []).2=[a]:=List.length_eq_one_iff.1 (by omega)
   cases β <;>simp -implicitDefEqProofs (maxSteps:=1000000) [go_sem,ge26,ge59,ge93,h24',he,hl,h0,h1,h1',ha,-List.map_append,-List.map_take,-List.map_drop,-List.map_set]
 ·cases β <;>simp -implicitDefEqProofs (maxSteps:=1000000) [go_sem,ge26,ge59,ge93,h24',he,hl,h0,-List.map_append,-List.map_take,-List.map_drop,-List.map_set]
end
end Go.Etx
namespace Go.Etx
open Go Go.Am Go.Proofs
set_option maxHeartbeats 4000000
set_option maxRecDepth 20000
noncomputable section
def tellsB(op:Int):Bool:=decide (op=2) || decide (op=3) || decide (op=4) || decide (op=6) || decide (op=7) || decide (op=8)
theorem tellsx_eq{ρ:Type}{op:Int}{g:Bool→Option ρ}:f_etext_tells op g=g (tellsB op):=by
 simp only[f_etext_tells,F_etext_tells,mkF,tellsB]
 by_cases a2:op=2
 ·simp[a2]
 by_cases a3:op=3
 ·simp[a3]
 by_cases a4:op=4
 ·simp[a4]
 by_cases a6:op=6
 ·simp[a6]
 by_cases a7:op=7
 ·simp[a7]
 simp[a2,a3,a4,a6,a7]
def badN(x:GNode)(p:List UInt8×Bool):Bool:= !p.2 || (!p.1.isEmpty&& !lexN p.1) || (p.1.isEmpty&&tellsB x.Op)
theorem lexN_len{nm:List UInt8}(h:lexN nm=true):nm.length≤16:=by
 unfold lexN at h
 simp only[xA,yD]at h
 exact h.1.1.1.2
theorem turn7(β:Bool)(e:List GNode)(s:GScope)(hs:Few s)(st:List Gpart)(i:Nat)(hi:i<e.length)(hlen:e.length≤24)(p:List UInt8×Bool)(hp:nameP [] e[i] s=some p)
  (hl:badN e[i] p=false→∀{ρ:Type} (g:List Gpart→Option ρ),fLaid e[i] p.1 st g=g (layP e[i] p.1 st)) {ρ:Type} (κ:Ex×St→Option ρ):goLp P hints hint7 b7 0 ((⟨[(3,SV.loc (Root.l 3 0) [] 0 0),(8,SV.bor (Root.l 8 0) [] 0 (List.length st)),(22,SV.d (D.sl β (List.map eNode e))),(23,SV.d (D.int IntKind.i64 (List.length e))),(24,SV.d (D.int IntKind.i64 (i:Int)))],[((3,0),T.own [T.d (D.agg [D.sl β (List.map eScalar s.Scalars),D.sl β (List.map eVar s.Vars),D.sl β (List.map eChan s.Chans),D.sl β (List.map (eProc β) s.Procs),D.sl β (List.map eVar s.Locals),D.int IntKind.i64 s.Self])]),((8,0),T.own (tl epart st))],[]⟩:St)) κ=
  if badN e[i] p=true then κ (.ret,⟨[(4,SV.d (D.str [])),(5,SV.d (D.int IntKind.i64 6))],[],[]⟩)else goLp P hints hint7 b7 0 ((⟨[(3,SV.loc (Root.l 3 0) [] 0 0),(8,SV.bor (Root.l 8 0) [] 0 (List.length (layP e[i] p.1 st))),(22,SV.d (D.sl β (List.map eNode e))),(23,SV.d (D.int IntKind.i64 (List.length e))),(24,SV.d (D.int IntKind.i64 ((i+1:Nat):Int)))],[((3,0),T.own [T.d (D.agg [D.sl β (List.map eScalar s.Scalars),D.sl β (List.map eVar s.Vars),D.sl β (List.map eChan s.Chans),D.sl β (List.map (eProc β) s.Procs),D.sl β (List.map eVar s.Locals),D.int IntKind.i64 s.Self])]),((8,0),T.own (tl epart (layP e[i] p.1 st)))],[]⟩:St)) κ:=by
 refine(goLp_turn q7_0.2).trans ?_
 have hw:IntKind.i64.wrap ((i:Int)+1)=((i+1:Nat):Int):=wrapS (by omega)
 have h1:(i:Int)<(e.length:Int):=by omega
 have h2:e[i]? =some e[i]:=xG hi
 obtain⟨nm,back⟩:=p
 cases hb:badN e[i] (nm,back)with
 |true=>
  rw[if_pos rfl]
  cases back with
  |false=>cases β <;>simp -implicitDefEqProofs (maxSteps:=1000000) [go_sem,h1,h2,hw,namex_eq hs,hp,-List.map_append,-List.map_take,-List.map_drop,-List.map_set]
  |true=>
   by_cases h0:nm=[]
   ·subst h0
    have ht:tellsB e[i].Op=true:=by simpa [badN]using hb
    cases β <;>simp -implicitDefEqProofs (maxSteps:=1000000) [go_sem,h1,h2,hw,namex_eq hs,hp,tellsx_eq,ht,-List.map_append,-List.map_take,-List.map_drop,-List.map_set]
   ·have hx:lexN nm=false:=by simpa [badN,h0]using hb
    cases β <;>simp -implicitDefEqProofs (maxSteps:=1000000) [go_sem,h1,h2,hw,namex_eq hs,hp,h0,namel_eq,hx,-List.map_append,-List.map_take,-List.map_drop,-List.map_set]
 |false=>
  rw[if_neg (by simp)]
  have hl':=fun g=>hl hb (ρ:=ρ) g
  cases back with
  |false=>simp[badN]at hb
  |true=>
   by_cases h0:nm=[]
   ·subst h0
    have ht:tellsB e[i].Op=false:=by simpa [badN]using hb
    cases β <;>simp -implicitDefEqProofs (maxSteps:=1000000) [go_sem,h1,h2,hw,namex_eq hs,hp,tellsx_eq,ht,WLaid,hl',-List.map_append,-List.map_take,-List.map_drop,-List.map_set]
   ·have hx:lexN nm=true:=by simpa [badN,h0]using hb
    cases β <;>simp -implicitDefEqProofs (maxSteps:=1000000) [go_sem,h1,h2,hw,namex_eq hs,hp,h0,namel_eq,hx,WLaid,hl',-List.map_append,-List.map_take,-List.map_drop,-List.map_set]
def tot(st:List Gpart):Nat:=(st.map fun p=>p.text.length).sum
theorem tot_app(a b:List Gpart):tot (a++b)=tot a+tot b:=by simp[tot]
theorem tot_one(p:Gpart):tot [p]=p.text.length:=by simp[tot]
theorem tot_mem{st:List Gpart}{p:Gpart}(h:p∈st):p.text.length≤tot st:=by
 induction st with
 |nil=>cases h
 |cons a r ih=>
  have e:tot (a::r)=a.text.length+tot r:=by simp[tot]
  rw[e]
  rcases List.mem_cons.1 h with rfl |h
  ·omega
  ·have:=ih h;omega
theorem lay_len{x:GNode}{nm:List UInt8}{st:List Gpart}(h0:0≤takesK x.Op)(h:takesK x.Op≤(st.length:Int)):(layP x nm st).length=st.length - (takesK x.Op).toNat+1:=by
 rcases takes_cases x.Op with⟨e,q⟩ |⟨e,q⟩ |⟨e,q⟩ |⟨e,q⟩
 ·omega
 ·unfold layP
  rw[if_neg q.2.2,if_neg (by omega),if_neg (by omega),if_neg (by omega),e]
  simp
 ·have hpos:0<st.length:=by omega
  have hl:st.getLast? =some st[st.length - 1]:=by rw[List.getLast?_eq_getElem?,xG (by omega)]
  unfold layP
  rw[e]
  rcases q with q |q |q
  ·rw[if_pos q,hl];simp
  ·rw[if_neg (by omega),if_pos q,hl];simp
  ·rw[if_neg (by omega),if_neg (by omega),if_pos q,hl];simp
 ·have hpos:2≤st.length:=by omega
  have hl:st.getLast? =some st[st.length - 1]:=by rw[List.getLast?_eq_getElem?,xG (by omega)]
  have hl2:st[st.length - 2]? =some st[st.length - 2]:=xG (by omega)
  unfold layP
  rw[e,if_neg (by omega),if_neg (by omega),if_neg (by omega),if_pos q,hl,hl2]
  simp
theorem tot_split{st:List Gpart}(n:Nat):tot (st.take n)+tot (st.drop n)=tot st:=by rw[←tot_app,yP]
theorem lay_tot{x:GNode}{nm:List UInt8}{st:List Gpart}(hn:nm.length≤16)(h0:0≤takesK x.Op)(h:takesK x.Op≤(st.length:Int)):tot (layP x nm st)≤tot st+64:=by
 rcases takes_cases x.Op with⟨e,q⟩ |⟨e,q⟩ |⟨e,q⟩ |⟨e,q⟩
 ·omega
 ·unfold layP
  rw[if_neg q.2.2,if_neg (by omega),if_neg (by omega),if_neg (by omega),tot_app,tot_one]
  have:(leafT x nm).length≤64:=by
   unfold leafT
   have d1:=decI_len x.N
   have d2:=decI_len (Int.tmod x.N 16)
   repeat' split
   all_goals simp
   all_goals omega
  simp only
  omega
 ·have hpos:0<st.length:=by omega
  have hl:st.getLast? =some st[st.length - 1]:=by rw[List.getLast?_eq_getElem?,xG (by omega)]
  have hd:tot (st.drop (st.length - 1))=st[st.length - 1].text.length:=by
   rw[xW (by omega),List.drop_eq_nil_of_le (by omega),tot_one]
  have hs:=tot_split (st:=st) (st.length - 1)
  rw[hd]at hs
  have b1:=fun b=>inB_len st[st.length - 1].text b
  unfold layP
  rcases q with q |q |q
  ·rw[if_pos q,hl]
   simp only[tot_app,tot_one,xP,xZ,yN]
   omega
  ·rw[if_neg (by omega),if_pos q,hl]
   have:=b1 (decide (st[st.length - 1].binds<6))
   simp only[tot_app,tot_one,xP,xZ,yN]
   omega
  ·rw[if_neg (by omega),if_neg (by omega),if_pos q,hl]
   have:=b1 (decide (st[st.length - 1].binds<6) || decide (st[st.length - 1].op=1))
   simp only[tot_app,tot_one,xP,xZ,yN]
   omega
 ·have hpos:2≤st.length:=by omega
  have hl:st.getLast? =some st[st.length - 1]:=by rw[List.getLast?_eq_getElem?,xG (by omega)]
  have hl2:st[st.length - 2]? =some st[st.length - 2]:=xG (by omega)
  have hd:tot (st.drop (st.length - 2))=st[st.length - 2].text.length+st[st.length - 1].text.length:=by
   rw[xW (by omega),xW (by omega),List.drop_eq_nil_of_le (by omega)]
   simp[tot,show st.length - 2+1=st.length - 1 by omega]
  have hs:=tot_split (st:=st) (st.length - 2)
  rw[hd]at hs
  unfold layP
  rw[if_neg (by omega),if_neg (by omega),if_neg (by omega),if_pos q,hl,hl2]
  have c1:=inB_len st[st.length - 2].text (joinL x.Op st[st.length - 2].binds)
  have c2:=inB_len st[st.length - 1].text (joinR x.Op st[st.length - 1].binds)
  have c3:=sgnT_len x.Op
  simp only[tot_app,tot_one,joinT,xP,xZ,yN]
  omega
theorem name_some{x:GNode}{s:GScope}{st:List Int}(hN:x.N≤9223372036854775807)(d:List UInt8)(h0:0≤takesK x.Op)(h:(nodeK x s st).2=0):∃p,nameP d x s=some p:=by
 have var:∀l:List GVar,∀v,varAt l x.N s=some v→0≤x.N∧∃y,l[x.N.toNat]? =some y:=fun l v hv=>by
  unfold varAt at hv
  split at hv
  ·rename_i h0
   simp only[xB]at hv
   obtain⟨u,hu,_⟩:=hv
   exact⟨h0,u,hu⟩
  ·cases hv
 have vk:∀l:List GVar,(varK (varAt l x.N s)).2=0→0≤x.N∧∃y,l[x.N.toNat]? =some y:=fun l hv=>by
  cases hh:varAt l x.N s with
  |none=>rw[hh]at hv;simp[varK]at hv
  |some v=>exact var l v hh
 unfold nameP
 by_cases h3:x.Op=3
 ·rw[if_pos (.inr h3)]
  unfold nodeK at h
  rw[if_pos h3]at h
  split at h
  ·rw[itemK_def]at h
   cases hh:varAt s.Vars x.N s with
   |none=>rw[hh]at h;simp at h
   |some v=>
    obtain⟨q1,y,q2⟩:=var _ _ hh
    rw[if_pos q1,q2]
    exact⟨_,rfl⟩
  ·simp at h
 unfold nodeK at h
 rw[if_neg h3]at h
 by_cases ht:takesK x.Op=0
 ·rw[if_pos ht]at h
  unfold leafK at h
  by_cases h2:x.Op=2
  ·rw[if_pos (.inl h2)]
   rw[if_neg (by omega),if_pos h2]at h
   obtain⟨q1,y,q2⟩:=vk _ h
   rw[if_pos q1,q2]
   exact⟨_,rfl⟩
  rw[if_neg (fun q=>q.elim h2 h3)]
  by_cases h4:x.Op=4
  ·rw[if_pos h4]
   rw[if_neg (by omega),if_neg h2,if_pos h4]at h
   obtain⟨q1,y,q2⟩:=vk _ h
   rw[if_pos q1,q2]
   exact⟨_,rfl⟩
  rw[if_neg h4]
  by_cases h1:x.Op=1
  ·rw[if_neg (by omega),if_neg (by omega),if_neg (by omega)]
   exact⟨_,rfl⟩
  rw[if_neg h1,if_neg h2,if_neg h4]at h
  unfold namedK at h
  by_cases h6:x.Op=6
  ·rw[if_pos h6]
   rw[if_neg (by omega),if_pos h6]at h
   split at h
   ·rename_i q1
    rw[if_pos q1]
    split at h
    ·rename_i c hc
     rw[hc]
     exact⟨_,rfl⟩
    ·simp at h
   ·simp at h
  rw[if_neg h6]
  by_cases h7:x.Op=7
  ·rw[if_pos h7]
   rw[if_neg (by omega),if_neg h6,if_pos h7]at h
   split at h
   ·rename_i q1
    rw[if_pos (tdiv16 q1.1 hN)]
    split at h
    ·rename_i c hc
     rw[hc]
     exact⟨_,rfl⟩
    ·simp at h
   ·simp at h
  rw[if_neg h7]
  by_cases h8:x.Op=8
  ·rw[if_pos h8]
   rw[if_neg (by omega),if_neg h6,if_neg h7,if_pos h8]at h
   split at h
   ·rename_i q1
    rw[if_pos q1.1,xG (by omega)]
    exact⟨_,rfl⟩
   ·simp at h
  rw[if_neg h8]
  exact⟨_,rfl⟩
 ·have:¬(1≤x.Op∧x.Op≤8):=by
   rcases takes_cases x.Op with⟨e,q⟩ |⟨e,q⟩ |⟨e,q⟩ |⟨e,q⟩ <;>omega
  rw[if_neg (by omega),if_neg (by omega),if_neg (by omega),if_neg (by omega),if_neg (by omega)]
  exact⟨_,rfl⟩
theorem step_facts{x:GNode}{s:GScope}{st:List Int}(h0:(stepK x s st).1=0):0≤takesK x.Op∧takesK x.Op≤(st.length:Int)∧(nodeK x s st).2=0∧(stepK x s st).2.length=st.length - (takesK x.Op).toNat+1:=by
 unfold stepK at h0 ⊢
 split at h0;· simp at h0
 rename_i h1
 split at h0;· simp at h0
 rename_i h2
 split at h0
 ·rename_i h3;simp only at h0;exact absurd h0 h3
 ·rename_i h3
  rw[if_neg h1,if_neg h2,if_neg h3]
  refine⟨by omega,by omega,by simpa using h3,?_⟩
  simp
def layAll(s:GScope):List GNode→List Gpart→Option (List Gpart)
 | [],st=>some st
 |x::r,st=>match nameP [] x s with |some p=>if badN x p=true then none else layAll s r (layP x p.1 st) |none=>none
theorem last7(β:Bool)(e:List GNode)(s:GScope)(st:List Gpart){ρ:Type}(κ:Ex×St→Option ρ):goLp P hints hint7 b7 0 ((⟨[(3,SV.loc (Root.l 3 0) [] 0 0),(8,SV.bor (Root.l 8 0) [] 0 (List.length st)),(22,SV.d (D.sl β (List.map eNode e))),(23,SV.d (D.int IntKind.i64 (List.length e))),(24,SV.d (D.int IntKind.i64 (e.length:Int)))],[((3,0),T.own [T.d (D.agg [D.sl β (List.map eScalar s.Scalars),D.sl β (List.map eVar s.Vars),D.sl β (List.map eChan s.Chans),D.sl β (List.map (eProc β) s.Procs),D.sl β (List.map eVar s.Locals),D.int IntKind.i64 s.Self])]),((8,0),T.own (tl epart st))],[]⟩:St)) κ=κ (.exit 0,(⟨[(3,SV.loc (Root.l 3 0) [] 0 0),(8,SV.bor (Root.l 8 0) [] 0 (List.length st)),(22,SV.d (D.sl β (List.map eNode e))),(23,SV.d (D.int IntKind.i64 (List.length e))),(24,SV.d (D.int IntKind.i64 (List.length e))),(25,SV.d (D.bool false))],[((3,0),T.own [T.d (D.agg [D.sl β (List.map eScalar s.Scalars),D.sl β (List.map eVar s.Vars),D.sl β (List.map eChan s.Chans),D.sl β (List.map (eProc β) s.Procs),D.sl β (List.map eVar s.Locals),D.int IntKind.i64 s.Self])]),((8,0),T.own (tl epart st))],[]⟩:St)):=by
 refine(goLp_turn q7_0.2).trans ?_
 cases β <;>simp -implicitDefEqProofs (maxSteps:=1000000) [go_sem,-List.map_append,-List.map_take,-List.map_drop,-List.map_set]
theorem loop7(β:Bool)(e:List GNode)(s:GScope)(hs:Few s)(hN:∀x∈e,Tr7.inR x.N=true)(hlen:e.length≤24){ρ:Type}(κ:Ex×St→Option ρ):∀(n i:Nat) (st:List Gpart) (ks:List Int),e.length - i=n→i≤e.length→st.length=ks.length→ks.length≤12→tot st≤64 * i→(runK s (e.drop i) ks).1=0→
  goLp P hints hint7 b7 0 ((⟨[(3,SV.loc (Root.l 3 0) [] 0 0),(8,SV.bor (Root.l 8 0) [] 0 (List.length st)),(22,SV.d (D.sl β (List.map eNode e))),(23,SV.d (D.int IntKind.i64 (List.length e))),(24,SV.d (D.int IntKind.i64 (i:Int)))],[((3,0),T.own [T.d (D.agg [D.sl β (List.map eScalar s.Scalars),D.sl β (List.map eVar s.Vars),D.sl β (List.map eChan s.Chans),D.sl β (List.map (eProc β) s.Procs),D.sl β (List.map eVar s.Locals),D.int IntKind.i64 s.Self])]),((8,0),T.own (tl epart st))],[]⟩:St)) κ=match layAll s (e.drop i) st with
   |some st'=>κ (.exit 0,(⟨[(3,SV.loc (Root.l 3 0) [] 0 0),(8,SV.bor (Root.l 8 0) [] 0 (List.length st')),(22,SV.d (D.sl β (List.map eNode e))),(23,SV.d (D.int IntKind.i64 (List.length e))),(24,SV.d (D.int IntKind.i64 (List.length e))),(25,SV.d (D.bool false))],[((3,0),T.own [T.d (D.agg [D.sl β (List.map eScalar s.Scalars),D.sl β (List.map eVar s.Vars),D.sl β (List.map eChan s.Chans),D.sl β (List.map (eProc β) s.Procs),D.sl β (List.map eVar s.Locals),D.int IntKind.i64 s.Self])]),((8,0),T.own (tl epart st'))],[]⟩:St))
   |none=>κ (.ret,⟨[(4,SV.d (D.str [])),(5,SV.d (D.int IntKind.i64 6))],[],[]⟩):=by
 intro n
 induction n with
 |zero=>
  intro i st ks hn hi hl hk htot hr
  obtain rfl:i=e.length:=by omega
  rw[last7,List.drop_length,layAll]
 |succ n ih=>
  intro i st ks hn hi hl hk htot hr
  have hlt:i<e.length:=by omega
  have hx:=hN _ (List.getElem_mem hlt)
  have hx':e[i].N≤9223372036854775807:=by
   simp only[Tr7.inR,xA,yD]at hx
   exact hx.2
  rw[xW hlt,runK]at hr
  have h0:(stepK e[i] s ks).1=0:=by
   by_cases h0:(stepK e[i] s ks).1=0
   ·exact h0
   ·rw[if_neg h0]at hr;exact absurd hr h0
  rw[if_pos h0]at hr
  obtain⟨f1,f2,f3,f4⟩:=step_facts h0
  obtain⟨p,hp⟩:=name_some (s:=s) hx' [] f1 f3
  have htk:takesK e[i].Op≤(st.length:Int):=by rw[hl];exact f2
  have hnm:badN e[i] p=false→p.1.length≤16:=fun hb=>by
   by_cases h:p.1=[]
   ·simp[h]
   ·refine lexN_len ?_
    simp only[badN,Bool.or_eq_false_iff,Bool.and_eq_false_iff]at hb
    rcases hb.1.2 with q |q
    ·simp[h]at q
    ·simpa using q
  rw[turn7 β e s hs st i hlt hlen p hp (fun hb ρ g=>laidx_eq hx (by have:=hnm hb;omega) (fun q hq=>by have:=tot_mem hq;omega) (by omega) htk),xW hlt,layAll,hp]
  simp only
  cases hb:badN e[i] p with
  |true=>simp
  |false=>
   rw[if_neg (by simp),if_neg (by simp)]
   have l1:=lay_len (nm:=p.1) f1 htk
   exact ih (i+1) _ (stepK e[i] s ks).2 (by omega) (by omega) (by rw[l1,f4,hl]) (step_ok0 hk h0) (by have:=lay_tot (x:=e[i]) (st:=st) (hnm hb) f1 htk;omega) hr
theorem layAll_len{s:GScope}:∀{e:List GNode} {st st':List Gpart} {ks:List Int},st.length=ks.length→(runK s e ks).1=0→layAll s e st=some st'→st'.length=(runK s e ks).2.length
 | [],st,st',ks,hl,_,h=>by
  simp only[layAll,xJ]at h
  subst h
  exact hl
 |x::r,st,st',ks,hl,h0,h=>by
  rw[layAll]at h
  rw[runK]at h0 ⊢
  by_cases hx:(stepK x s ks).1=0
  ·rw[if_pos hx]at h0 ⊢
   obtain⟨f1,f2,f3,f4⟩:=step_facts hx
   split at h
   ·split at h
    ·cases h
    ·exact layAll_len (by rw[lay_len f1 (by rw[hl];exact f2),f4,hl]) h0 h
   ·cases h
  ·rw[if_neg hx]at h0;exact absurd h0 hx
def textK(e:List GNode)(s:GScope):List UInt8×Int:=
 if(kindK e s).2≠0 then([],(kindK e s).2)else match layAll s e []with |some (p::_)=>(p.text,0) |some []=>([],0) |none=>([],6)
theorem kind_ok{e:List GNode}{s:GScope}(h:(kindK e s).2=0):e.length≤24∧e≠[]∧(runK s e []).1=0∧(runK s e []).2.length=1:=by
 unfold kindK at h
 split at h;· simp at h
 rename_i h1
 split at h;· simp at h
 rename_i h2
 split at h
 ·rename_i h3;exact absurd h h3
 rename_i h3
 split at h;· simp at h
 rename_i h4
 have h3':(runK s e []).1=0:=by simpa using h3
 have:=(run_ok0 (s:=s) (e:=e) (st:=[]) (by simp) h3').2 h2
 exact⟨by omega,h2,h3',by omega⟩
theorem Text_eq(β:Bool)(e:List GNode)(s:GScope)(hs:Few s)(hN:∀x∈e,Tr7.inR x.N=true){ρ:Type}(κ:List T×List Ob→Option ρ):
  cbK (call 7 [.sl β (List.map eNode e),.agg [.sl β (List.map eScalar s.Scalars),.sl β (List.map eVar s.Vars),.sl β (List.map eChan s.Chans),.sl β (List.map (eProc β) s.Procs),.sl β (List.map eVar s.Locals),.int .i64 s.Self]] []) κ=κ ([.d (.str (textK e s).1),.d (.int .i64 (textK e s).2)],[]):=by
 refine(ge7 _ _ _ rfl).trans ?_
 have hN':∀x∈e,x.N≤9223372036854775807:=fun x hx=>by
  have:=hN x hx
  simp only[Tr7.inR,xA,yD]at this
  exact this.2
 have hk:=fun κ=>Kind_eq (ρ:=ρ) β e s hs.sc hN' κ
 unfold textK
 by_cases h0:(kindK e s).2=0
 ·obtain⟨k1,k2,k3,k4⟩:=kind_ok h0
  have hl:=fun κ=>loop7 (ρ:=ρ) β e s hs hN k1 κ _ 0 [] [] rfl (Nat.zero_le _) rfl (by simp) (by simp[tot]) k3
  simp only[Int.natCast_zero,List.drop_zero,tl_nil,yN]at hl
  cases hla:layAll s e []with
  |none=>
   rw[hla]at hl
   cases β <;>simp -implicitDefEqProofs (maxSteps:=1000000) [go_sem,hk,h0,hl,-List.map_append,-List.map_take,-List.map_drop,-List.map_set]
  |some st=>
   have hlen:=layAll_len rfl k3 hla
   rw[k4]at hlen
   obtain⟨p,rfl⟩:=List.length_eq_one_iff.1 hlen
   rw[hla]at hl
   cases β <;>simp -implicitDefEqProofs (maxSteps:=1000000) [go_sem,hk,h0,hl,-List.map_append,-List.map_take,-List.map_drop,-List.map_set]
 ·cases β <;>simp -implicitDefEqProofs (maxSteps:=1000000) [go_sem,hk,h0,-List.map_append,-List.map_take,-List.map_drop,-List.map_set]
end
end Go.Etx
