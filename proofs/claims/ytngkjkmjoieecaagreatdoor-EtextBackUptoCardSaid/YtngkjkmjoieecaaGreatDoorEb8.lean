/- A part of the proof: texts of mine, merged by a program (wip/dev/merge.py). -/
import Derived.Test.YtngkjkmjoieecaaGreatDoorEb7
set_option linter.unusedSimpArgs false
set_option linter.unusedVariables false
namespace Go.Etx
open Go Go.Am Go.Proofs
def fidx{α:Type}(p:α→Bool)(l:List α):Int:=if l.findIdx p<l.length then((l.findIdx p:Nat):Int)else -1
section
variable{ρ:Type}{s:GScope}
theorem loop_first{α:Type}{Φ:Int→(Int→Option ρ)→Option ρ}(l:List α)(p:α→Bool)(found:Int→Option ρ)(fin:Option ρ)
  (hs:∀(i:Nat) k (h:i<l.length),Φ (i:Int) k=if p l[i]=true then found (i:Int)else k ((i+1:Nat):Int)) (hf:∀k,Φ (l.length:Int) k=fin):
  iterC Φ 0=if fidx p l<0 then fin else found (fidx p l):=by
 refine iterC_is (fun v:Int=>∃i:Nat,v=i∧i≤l.length∧∀j (hj:j<l.length),j<i→p l[j]=false) (fun _=>if fidx p l<0 then fin else found (fidx p l)) (fun v:Int=>l.length - v.toNat) ?_ (v:=(0:Int)) ⟨0,rfl,Nat.zero_le _,fun j _ h=>absurd h (Nat.not_lt_zero _)⟩
 rintro v k ⟨i,rfl,hi,hn⟩ hk
 by_cases hlt:i<l.length
 ·rw[hs i k hlt]
  cases hp:p l[i]with
  |true=>
   have:l.findIdx p=i:=by
    rw[List.findIdx_eq hlt]
    exact⟨hp,fun j hj=>hn j (by omega) hj⟩
   have e:fidx p l=(i:Int):=by rw[fidx,this,if_pos hlt]
   rw[e,if_pos rfl,if_neg (by omega)]
  |false=>
   rw[if_neg (by simp)]
   refine hk _ ⟨i+1,rfl,hlt,fun j hj hji=> ?_⟩ (by simp only[xV];omega)
   by_cases e:j=i
   ·subst e;exact hp
   ·exact hn j hj (by omega)
 ·obtain rfl:i=l.length:=by omega
  rw[hf]
  have:¬l.findIdx p<l.length:=fun h=>by
   have:=List.findIdx_getElem (w:=h)
   rw[hn _ h h]at this
   cases this
  have e:fidx p l=-1:=by rw[fidx,if_neg this]
  rw[e,if_pos (by omega)]
def pV(nm:List UInt8)(v:GVar):Bool:=decide (v.Name=nm)
def pC(nm:List UInt8)(v:GChan):Bool:=decide (v.Name=nm)
def pP(nm:List UInt8)(v:GProc):Bool:=decide (v.Name=nm)
def pS(nm:List UInt8)(v:GScalar):Bool:=decide (v.Name=nm)
structure Few(s:GScope):Prop where
 sc:s.Scalars.length≤1000
 va:s.Vars.length≤1000
 ch:s.Chans.length≤1000
 pr:s.Procs.length≤1000
 lo:s.Locals.length≤1000
theorem vars_loop(hs:s.Vars.length≤1000)(nm:List UInt8)(found:Int→Option ρ)(fin:Option ρ)(bad:Int→Option ρ):
  iterC (fun v k=>if v<(s.Vars.length:Int)then if 0≤v then(s.Vars[v.toNat]?).bind fun y=>if y.Name=nm then if 0≤v then found v else bad v else k (IntKind.i64.wrap (v+1))else none else fin) 0=if fidx (pV nm) s.Vars<0 then fin else found (fidx (pV nm) s.Vars):=by
 refine loop_first s.Vars (pV nm) found fin (fun i k h=> ?_) fun k=>by rw[if_neg (by omega)]
 rw[if_pos (by omega),if_pos (by omega),xV,xG h,xS,wrapS (by omega)]
 by_cases e:s.Vars[i].Name=nm
 ·simp[pV,e]
 ·simp[pV,e]
theorem standsx_eq(hs:Few s){nm:List UInt8}{g:Int→Int→Option ρ}:f_etext_stands nm s g=if fidx (pV nm) s.Locals<0 then(if fidx (pV nm) s.Vars<0 then g 0 (-1)else g 2 (fidx (pV nm) s.Vars))else g 4 (fidx (pV nm) s.Locals):=by
 simp only[f_etext_stands,F_etext_stands,mkF]
 have hv:=hs.va
 have hl:=hs.lo
 rw[vars_loop hv nm (fun v=>g 2 v) (g 0 (-1)) fun _=>g 0 (-1)]
 refine loop_first s.Locals (pV nm) (fun v=>g 4 v) _ (fun i k h=> ?_) fun k=>by rw[if_neg (by omega)]
 rw[if_pos (by omega),if_pos (by omega),xV,xG h,xS,wrapS (by omega)]
 by_cases e:s.Locals[i].Name=nm
 ·simp[pV,e]
 ·simp[pV,e]
theorem fin_first{α:Type}{p:α→Bool}{l:List α}{g:Int→Option ρ}:(if fidx p l<0 then g (-1)else g (fidx p l))=g (fidx p l):=by
 by_cases h:l.findIdx p<l.length
 ·have e:fidx p l=((l.findIdx p:Nat):Int):=by rw[fidx,if_pos h]
  rw[e,if_neg (by omega)]
 ·have e:fidx p l=-1:=by rw[fidx,if_neg h]
  rw[e,if_pos (by omega)]
theorem chanx_eq(hs:Few s){nm:List UInt8}{g:Int→Option ρ}:f_etext_channel nm s g=g (fidx (pC nm) s.Chans):=by
 simp only[f_etext_channel,F_etext_channel,mkF]
 have hv:=hs.ch
 rw[←fin_first (g:=g)]
 refine loop_first s.Chans (pC nm) g _ (fun i k h=> ?_) fun k=>by rw[if_neg (by omega)]
 rw[if_pos (by omega),if_pos (by omega),xV,xG h,xS,wrapS (by omega)]
 by_cases e:s.Chans[i].Name=nm <;>simp[pC,e]
theorem procx_eq(hs:Few s){nm:List UInt8}{g:Int→Option ρ}:f_etext_process nm s g=g (fidx (pP nm) s.Procs):=by
 simp only[f_etext_process,F_etext_process,mkF]
 have hv:=hs.pr
 rw[←fin_first (g:=g)]
 refine loop_first s.Procs (pP nm) g _ (fun i k h=> ?_) fun k=>by rw[if_neg (by omega)]
 rw[if_pos (by omega),if_pos (by omega),xV,xG h,xS,wrapS (by omega)]
 by_cases e:s.Procs[i].Name=nm <;>simp[pP,e]
theorem scalx_eq(hs:Few s){nm:List UInt8}{g:Int→Option ρ}:f_etext_scalar nm s g=g (fidx (pS nm) s.Scalars):=by
 simp only[f_etext_scalar,F_etext_scalar,mkF]
 have hv:=hs.sc
 rw[←fin_first (g:=g)]
 refine loop_first s.Scalars (pS nm) g _ (fun i k h=> ?_) fun k=>by rw[if_neg (by omega)]
 rw[if_pos (by omega),if_pos (by omega),xV,xG h,xS,wrapS (by omega)]
 by_cases e:s.Scalars[i].Name=nm <;>simp[pS,e]
def nameP(d:List UInt8)(x:GNode)(s:GScope):Option (List UInt8×Bool):=
 if x.Op=2∨x.Op=3 then(if 0≤x.N then(s.Vars[x.N.toNat]?).map fun y=>(y.Name,decide (fidx (pV y.Name) s.Locals<0)&&decide (fidx (pV y.Name) s.Vars=x.N))else none)
 else if x.Op=4 then(if 0≤x.N then(s.Locals[x.N.toNat]?).map fun y=>(y.Name,decide (fidx (pV y.Name) s.Locals=x.N))else none)
 else if x.Op=6 then(if 0≤x.N then(s.Chans[x.N.toNat]?).map fun y=>(y.Name,decide (fidx (pC y.Name) s.Chans=x.N))else none)
 else if x.Op=7 then(if 0≤w64 (Int.tdiv x.N 16)then(s.Procs[(w64 (Int.tdiv x.N 16)).toNat]?).map fun y=>(y.Name,decide (fidx (pP y.Name) s.Procs=w64 (Int.tdiv x.N 16)))else none)
 else if x.Op=8 then(if 0≤x.N then(s.Scalars[x.N.toNat]?).map fun y=>(y.Name,decide (fidx (pS y.Name) s.Scalars=x.N))else none)
 else some (d,true)
theorem namex_eq(hs:Few s){x:GNode}{g:List UInt8→Bool→Option ρ}:f_etext_named x s g=(nameP [] x s).bind fun p=>g p.1 p.2:=by
 simp only[f_etext_named,F_etext_named,mkF,standsx_eq hs,chanx_eq hs,procx_eq hs,scalx_eq hs,nameP,if_true,show¬((0:Int)=2)by decide,show¬((4:Int)=2)by decide,show¬((0:Int)=4)by decide,show¬((2:Int)=4)by decide,if_false]
 have vr:(if 0≤x.N then(s.Vars[x.N.toNat]?).bind fun y=>if fidx (pV y.Name) s.Locals<0 then(if fidx (pV y.Name) s.Vars<0 then g y.Name false else g y.Name (decide (fidx (pV y.Name) s.Vars=x.N)))else g y.Name false else none)=
   (if 0≤x.N then(s.Vars[x.N.toNat]?).map fun y=>(y.Name,decide (fidx (pV y.Name) s.Locals<0)&&decide (fidx (pV y.Name) s.Vars=x.N))else none).bind fun p=>g p.1 p.2:=by
  by_cases h0:0≤x.N
  ·rw[if_pos h0,if_pos h0]
   cases s.Vars[x.N.toNat]? with
   |none=>rfl
   |some y=>
    simp only[xS,xQ]
    by_cases a:fidx (pV y.Name) s.Locals<0
    ·by_cases b:fidx (pV y.Name) s.Vars<0
     ·have:¬fidx (pV y.Name) s.Vars=x.N:=by omega
      simp[a,b,this]
     ·simp[a,b]
    ·simp[a]
  ·rw[if_neg h0,if_neg h0];rfl
 by_cases h2:x.Op=2
 ·rw[if_pos h2,if_pos (show x.Op=2∨x.Op=3 from .inl h2)]
  exact vr
 rw[if_neg h2]
 by_cases h3:x.Op=3
 ·rw[if_pos h3,if_pos (show x.Op=2∨x.Op=3 from .inr h3)]
  exact vr
 rw[if_neg h3,if_neg (show¬(x.Op=2∨x.Op=3)from fun q=>q.elim h2 h3)]
 by_cases h4:x.Op=4
 ·rw[if_pos h4,if_pos h4]
  by_cases h0:0≤x.N
  ·rw[if_pos h0,if_pos h0]
   cases s.Locals[x.N.toNat]? with
   |none=>rfl
   |some y=>
    simp only[xS,xQ]
    by_cases a:fidx (pV y.Name) s.Locals<0
    ·have:¬fidx (pV y.Name) s.Locals=x.N:=by omega
     simp[a,this]
    ·simp[a]
  ·rw[if_neg h0,if_neg h0];rfl
 rw[if_neg h4,if_neg h4]
 by_cases h6:x.Op=6
 ·rw[if_pos h6,if_pos h6]
  by_cases h0:0≤x.N
  ·rw[if_pos h0,if_pos h0]
   cases s.Chans[x.N.toNat]? <;>rfl
  ·rw[if_neg h0,if_neg h0];rfl
 rw[if_neg h6,if_neg h6]
 by_cases h7:x.Op=7
 ·rw[if_pos h7,if_pos h7]
  by_cases h0:0≤w64 (Int.tdiv x.N 16)
  ·rw[if_pos h0,if_pos h0]
   cases s.Procs[(w64 (Int.tdiv x.N 16)).toNat]? <;>rfl
  ·rw[if_neg h0,if_neg h0];rfl
 rw[if_neg h7,if_neg h7]
 by_cases h8:x.Op=8
 ·rw[if_pos h8,if_pos h8]
  by_cases h0:0≤x.N
  ·rw[if_pos h0,if_pos h0]
   cases s.Scalars[x.N.toNat]? <;>rfl
  ·rw[if_neg h0,if_neg h0];rfl
 rw[if_neg h8,if_neg h8]
 rfl
end
end Go.Etx
namespace Go.Etx
open Go Go.Am Go.Proofs
set_option maxRecDepth 20000
def letB(n:Int):Bool:=decide (97≤n∧n≤122) || decide (65≤n∧n≤90)
def digB(n:Int):Bool:=decide (48≤n∧n≤57)
def partB(n:Int):Bool:=letB n || digB n || decide (n=95)
def bI(b:UInt8):Int:=(b.toNat:Int)
def lexN(nm:List UInt8):Bool:= !nm.isEmpty&&decide (nm.length≤16)&&letB (bI (nm.headD 0))&&nm.all (fun b=>partB (bI b))&& !ownL.contains nm
theorem get0{s:List UInt8}{p:Nat}(h:p<s.length):((⟨s.toArray⟩:ByteArray).get! (p+0))=s[p]:=by
 show(s.toArray)[p]! =_
 simp[h]
theorem rune_lo{s:List UInt8}{p:Nat}(h:p<s.length)(hb:s[p].toNat<128):rune s p=(s[p].toNat,1):=by
 unfold rune Utf8.decode
 simp only[get0 h]
 rw[if_pos hb]
theorem rune_hi{s:List UInt8}{p:Nat}(h:p<s.length)(hb:128≤s[p].toNat):128≤(rune s p).1:=by
 unfold rune Utf8.decode
 simp only[get0 h]
 rw[if_neg (by omega)]
 split
 ·split
  ·assumption
  ·simp[Utf8.runeError]
 split
 ·split
  ·rename_i q;simp only[xA,yD]at q;exact Nat.le_trans (by decide) q.1
  ·simp[Utf8.runeError]
 split
 ·split
  ·rename_i q;simp only[xA,yD]at q;exact Nat.le_trans (by decide) q.1
  ·simp[Utf8.runeError]
 simp[Utf8.runeError]
theorem part_rune{s:List UInt8}{p:Nat}(h:p<s.length):partB ((rune s p).1:Int)=partB (bI s[p])∧(partB (bI s[p])=true→(rune s p).2=1):=by
 by_cases hb:s[p].toNat<128
 ·rw[rune_lo h hb];exact⟨rfl,fun _=>rfl⟩
 ·have h1:=rune_hi h (by omega)
  have e1:partB ((rune s p).1:Int)=false:=by
   simp only[partB,letB,digB,Bool.or_eq_false_iff,decide_eq_false_iff_not]
   omega
  have e2:partB (bI s[p])=false:=by
   simp only[partB,letB,digB,bI,Bool.or_eq_false_iff]
   exact⟨⟨⟨decide_eq_false (by omega),decide_eq_false (by omega)⟩,decide_eq_false (by omega)⟩,decide_eq_false (by omega)⟩
  rw[e1,e2]
  exact⟨rfl,fun q=>by cases q⟩
section
variable{ρ:Type}
theorem letx_eq{n:Int}{g:Bool→Option ρ}:f_lex_letter n g=g (letB n):=by
 simp only[f_lex_letter,F_lex_letter,mkF,letB]
 by_cases a:97≤n <;>by_cases b:n≤122 <;>by_cases c:65≤n <;>simp[a,b,c]
theorem take_own':List.take 4 ownL=ownL:=rfl
theorem own_loop{nm:List UInt8}{g:Bool→Option ρ}:(iterC (fun(v:Int) k=>if v<4 then if 0≤v∧v<4 then((List.take 4 ownL)[v.toNat]?).bind fun y=>if y=nm then g false else k (IntKind.i64.wrap (v+1))else none else g true) 0)=g (!ownL.contains nm):=by
 refine(iterC_all 4 (fun i:Nat=>(i:Int)) (fun i=>match ownL[i]? with |some y=>decide (y≠nm) |none=>true) (g false) (g true) (fun i k hi=> ?_) (fun k=> ?_)).trans ?_
 ·have hl:i<ownL.length:=hi
  rw[if_pos (by omega),if_pos (by omega),xV,take_own',xG hl,xS,wrapS (by omega)]
  by_cases e:ownL[i]=nm <;>simp[e]
 ·rw[if_neg (by omega)]
 ·by_cases h:ownL.contains nm=true
  ·rw[h,if_neg]
   ·rfl
   ·intro hall
    simp only[List.contains_iff_mem]at h
    obtain⟨i,hi,rfl⟩:=List.mem_iff_getElem.1 h
    have:=hall i hi
    rw[xG hi]at this
    simp at this
  ·have h':ownL.contains nm=false:=by simpa using h
   rw[h',if_pos]
   ·rfl
   ·intro i hi
    have hl:i<ownL.length:=hi
    rw[xG hl]
    simp only[yD]
    intro e
    exact h (by rw[List.contains_iff_mem,←e];exact List.getElem_mem hl)
theorem all_drop{nm:List UInt8}{p:Nat}(h:p<nm.length):(nm.drop p).all (fun b=>partB (bI b))=(partB (bI nm[p])&&(nm.drop (p+1)).all fun b=>partB (bI b)):=by
 rw[xW h,List.all_cons]
theorem wrap32(b:UInt8):IntKind.i32.wrap ((b.toNat:Nat):Int)=(b.toNat:Int):=by
 have h:=b.toNat_lt
 revert h
 generalize b.toNat=n
 intro h
 have:∀n:Fin 256,IntKind.i32.wrap ((n.val:Nat):Int)=((n.val:Nat):Int):=by decide
 exact this ⟨n,h⟩
theorem partB_eq{n:Int}{x y:Option ρ}:(if letB n=true then x else if 48≤n then if n≤57 then x else if n=95 then x else y else if n=95 then x else y)=if partB n=true then x else y:=by
 unfold partB digB
 cases letB n
 ·by_cases a:48≤n
  ·by_cases b:n≤57
   ·simp[a,b]
   ·by_cases c:n=95 <;>simp[a,b,c]
  ·by_cases c:n=95 <;>simp[a,c]
 ·simp
theorem namel_eq{nm:List UInt8}{g:Bool→Option ρ}:f_lex_Name nm g=g (lexN nm):=by
 simp only[f_lex_Name,F_lex_Name,mkF,letx_eq,own_loop,lexN]
 by_cases h0:nm=[]
 ·subst h0;rfl
 rw[if_neg h0]
 by_cases h16:16<nm.length
 ·rw[if_pos (by omega)]
  have:¬nm.length≤16:=by omega
  simp[this]
 rw[if_neg (by omega)]
 have hpos:0<nm.length:=List.length_pos_iff.2 h0
 have hget:nm[0]? =some nm[0]:=xG hpos
 simp only[partB_eq,hget,xS,wrap32]
 have loop:∀p:Nat,p≤nm.length→(iterC (fun(v:Int×Bool×Nat) k=>if v.2.2<nm.length then(if partB ((rune nm v.2.2).1:Int)=true then k ((v.2.2:Int),false,v.2.2+(rune nm v.2.2).2)else if v.2.2<nm.length then g false else g (!ownL.contains nm))else g (!ownL.contains nm)) ((0:Int),false,p))=if((nm.drop p).all fun b=>partB (bI b))=true then g (!ownL.contains nm)else g false:=fun p hp=>by
  refine iterC_is (fun v:Int×Bool×Nat=>v.2.2≤nm.length) (fun v=>if((nm.drop v.2.2).all fun b=>partB (bI b))=true then g (!ownL.contains nm)else g false) (fun v=>nm.length - v.2.2) ?_ (v:=((0:Int),false,p)) hp
  rintro⟨a,b,q⟩ k hq hk
  simp only at hq ⊢
  by_cases hlt:q<nm.length
  ·rw[if_pos hlt,(part_rune hlt).1,all_drop hlt]
   cases hb:partB (bI nm[q])with
   |true=>
    rw[if_pos rfl,(part_rune hlt).2 hb,hk _ (by simp only;omega) (by simp only;omega),Bool.true_and]
   |false=>simp[hlt]
  ·rw[if_neg hlt]
   simp[List.drop_eq_nil_of_le (yC hlt)]
 have hall:nm.all (fun b=>partB (bI b))=(partB (bI nm[0])&&(nm.drop 1).all fun b=>partB (bI b)):=all_drop (p:=0) hpos
 have hfst:nm.headD 0=nm[0]:=by cases nm with |nil=>exact absurd rfl h0 |cons b r=>rfl
 have hne:(!nm.isEmpty)=true:=by simp[h0]
 rw[hne,hfst,hall,show decide (nm.length≤16)=true by simp;omega]
 simp only[Bool.true_and]
 show(if letB (bI nm[0])=false then g false else _)=_
 cases hl:letB (bI nm[0])with
 |false=>simp
 |true=>
  rw[if_neg (by simp),if_pos hpos]
  have hp:partB (bI nm[0])=true:=by simp[partB,hl]
  obtain⟨r1,r2⟩:=part_rune hpos
  rw[r1,hp,if_pos rfl,r2 hp]
  refine(loop 1 hpos).trans ?_
  cases h:(nm.drop 1).all fun b=>partB (bI b) <;>simp
end
end Go.Etx
namespace Go.Etx
open Go Go.Am Go.Proofs
set_option maxHeartbeats 4000000
set_option maxRecDepth 20000
noncomputable section
def FK1(x0 x1:Int)(p2:List GScalar)(p3:List GVar)(p4:List GChan)(p5:List GProc)(p6:List GVar)(p7:Int)(st:List Int){ρ:Type}:
  {Φ:(Int→Int→Option ρ)→Option ρ // ∀(β:Bool) (κ:List T×List Ob→Option ρ) (g:Int→Int→Option ρ),(∀y0 y1,κ ([.d (.int IntKind.i64 y0),.d (.int IntKind.i64 y1)],[Ob.box (.d (.agg [.sl β (List.map eScalar p2),.sl β (List.map eVar p3),.sl β (List.map eChan p4),.sl β (List.map (eProc β) p5),.sl β (List.map eVar p6),.int IntKind.i64 p7])),.box (.agg [.own (tl eI st),.d (.map (3))]),.box (.d (.ptr (1))),.map (opsL),.box (.d (.fn (Fn.func 120) [] [])),.box (.d (.fn (Fn.func 121) [] [])),.box (.d (.fn (Fn.func 122) [] [])),.box (.d (.fn (Fn.func 123) [] [])),.box (.d (.fn (Fn.func 124) [] [])),.box (.d (.fn (Fn.func 125) [] []))])=g y0 y1)→
   cbK (call 37 [.agg [.int .i64 x0,.int .i64 x1],.ptr 2,.ptr 0] ([Ob.box (.d (.agg [.sl β (List.map eScalar p2),.sl β (List.map eVar p3),.sl β (List.map eChan p4),.sl β (List.map (eProc β) p5),.sl β (List.map eVar p6),.int IntKind.i64 p7])),.box (.agg [.own (tl eI st),.d (.map (3))]),.box (.d (.ptr (1))),.map (opsL),.box (.d (.fn (Fn.func 120) [] [])),.box (.d (.fn (Fn.func 121) [] [])),.box (.d (.fn (Fn.func 122) [] [])),.box (.d (.fn (Fn.func 123) [] [])),.box (.d (.fn (Fn.func 124) [] [])),.box (.d (.fn (Fn.func 125) [] []))])) κ=Φ g}:=by
 refine⟨?Φ,?h⟩
 case h=>
  intro β κ g hg
  refine(ge37 _ _ _ rfl).trans ?_
  try simp only[go_sem]at hg
  refine viaR fun r hr=> ?_
  cases β
  all_goals (simp -implicitDefEqProofs (maxSteps:=1000000) [go_sem,hg,ge38,ge76,-List.map_append,-List.map_take,-List.map_drop,-List.map_set];exact hr)
def fK1(x0 x1:Int)(p2:List GScalar)(p3:List GVar)(p4:List GChan)(p5:List GProc)(p6:List GVar)(p7:Int)(st:List Int){ρ:Type}(g:Int→Int→Option ρ):Option ρ:=(FK1 x0 x1 p2 p3 p4 p5 p6 p7 st).1 g
@[go_sem] theorem WK1(x0 x1:Int)(p2:List GScalar)(p3:List GVar)(p4:List GChan)(p5:List GProc)(p6:List GVar)(p7:Int)(st:List Int){ρ:Type}(β:Bool)(κ:List T×List Ob→Option ρ):
   cbK (call 37 [.agg [.int .i64 x0,.int .i64 x1],.ptr 2,.ptr 0] ([Ob.box (.d (.agg [.sl β (List.map eScalar p2),.sl β (List.map eVar p3),.sl β (List.map eChan p4),.sl β (List.map (eProc β) p5),.sl β (List.map eVar p6),.int IntKind.i64 p7])),.box (.agg [.own (tl eI st),.d (.map (3))]),.box (.d (.ptr (1))),.map (opsL),.box (.d (.fn (Fn.func 120) [] [])),.box (.d (.fn (Fn.func 121) [] [])),.box (.d (.fn (Fn.func 122) [] [])),.box (.d (.fn (Fn.func 123) [] [])),.box (.d (.fn (Fn.func 124) [] [])),.box (.d (.fn (Fn.func 125) [] []))])) κ=fK1 x0 x1 p2 p3 p4 p5 p6 p7 st fun y0 y1=>κ ([.d (.int IntKind.i64 y0),.d (.int IntKind.i64 y1)],[Ob.box (.d (.agg [.sl β (List.map eScalar p2),.sl β (List.map eVar p3),.sl β (List.map eChan p4),.sl β (List.map (eProc β) p5),.sl β (List.map eVar p6),.int IntKind.i64 p7])),.box (.agg [.own (tl eI st),.d (.map (3))]),.box (.d (.ptr (1))),.map (opsL),.box (.d (.fn (Fn.func 120) [] [])),.box (.d (.fn (Fn.func 121) [] [])),.box (.d (.fn (Fn.func 122) [] [])),.box (.d (.fn (Fn.func 123) [] [])),.box (.d (.fn (Fn.func 124) [] [])),.box (.d (.fn (Fn.func 125) [] []))]):=
 (FK1 x0 x1 p2 p3 p4 p5 p6 p7 st).2 β κ _ fun _ _=>rfl
theorem ok29_end{nt:Int}{l:List Int}{i:Nat}(h:l.length≤i):ok29 nt l i=true:=by simp[ok29,List.drop_eq_nil_of_le h]
theorem ok29_at{nt:Int}{l:List Int}{i:Nat}(h:i<l.length):ok29 nt l i=((decide (nt=-1) || decide (l[i]=nt))&&decide (l[0]? =some l[i])&&ok29 nt l (i+1)):=by
 simp only[ok29,xW h,List.all_cons]
theorem turn29{ρ:Type}(np nt nm:Int)(l:List Int)(fn:Nat)(cp:List D)(c:Bool)(H:List Ob)(κ:Ex×St→Option ρ)(i:Int):
  goLp P hints hint39 b39 0 ((⟨[(1,SV.d (D.sl c (List.map eI l))),(2,SV.loc (Root.l 2 0) [] 0 0),(8,SV.d (D.sl c (List.map eI l))),(9,SV.d (D.int IntKind.i64 (List.length l))),(10,SV.d (D.int IntKind.i64 i))],[((2,0),T.own [T.d (D.agg [D.int IntKind.i64 np,D.int IntKind.i64 nt,D.int IntKind.i64 nm,D.fn (Fn.func fn) [] cp])])],H⟩:St)) κ=if i<(l.length:Int)then(if 0≤i then(l[i.toNat]?).bind fun y=>if nt=-1 then(l[0]?).bind fun y1=>if y=y1 then goLp P hints hint39 b39 0 ((⟨[(1,SV.d (D.sl c (List.map eI l))),(2,SV.loc (Root.l 2 0) [] 0 0),(8,SV.d (D.sl c (List.map eI l))),(9,SV.d (D.int IntKind.i64 (List.length l))),(10,SV.d (D.int IntKind.i64 (IntKind.i64.wrap (i+1))))],[((2,0),T.own [T.d (D.agg [D.int IntKind.i64 np,D.int IntKind.i64 nt,D.int IntKind.i64 nm,D.fn (Fn.func fn) [] cp])])],H⟩:St)) κ else κ (.ret,⟨[(4,.d (.int .i64 0)),(5,.d (.int .i64 9))],[],H⟩)else if y=nt then(l[0]?).bind fun y1=>if y=y1 then goLp P hints hint39 b39 0 ((⟨[(1,SV.d (D.sl c (List.map eI l))),(2,SV.loc (Root.l 2 0) [] 0 0),(8,SV.d (D.sl c (List.map eI l))),(9,SV.d (D.int IntKind.i64 (List.length l))),(10,SV.d (D.int IntKind.i64 (IntKind.i64.wrap (i+1))))],[((2,0),T.own [T.d (D.agg [D.int IntKind.i64 np,D.int IntKind.i64 nt,D.int IntKind.i64 nm,D.fn (Fn.func fn) [] cp])])],H⟩:St)) κ else κ (.ret,⟨[(4,.d (.int .i64 0)),(5,.d (.int .i64 9))],[],H⟩)else κ (.ret,⟨[(4,.d (.int .i64 0)),(5,.d (.int .i64 9))],[],H⟩)else none)
   else κ (.exit 0,⟨[(1,SV.d (D.sl c (List.map eI l))),(2,SV.loc (Root.l 2 0) [] 0 0),(8,SV.d (D.sl c (List.map eI l))),(9,SV.d (D.int IntKind.i64 (List.length l))),(10,SV.d (D.int IntKind.i64 i)),(11,SV.d (D.bool false))],[((2,0),T.own [T.d (D.agg [D.int IntKind.i64 np,D.int IntKind.i64 nt,D.int IntKind.i64 nm,D.fn (Fn.func fn) [] cp])])],H⟩):=by
 refine(goLp_turn q39_0.2).trans ?_
 simp -implicitDefEqProofs (maxSteps:=1000000) [go_sem,-List.map_append,-List.map_take,-List.map_drop,-List.map_set]
theorem lp29{ρ:Type}(np nt nm:Int)(l:List Int)(hl:l.length≤1000)(fn:Nat)(cp:List D)(c:Bool)(H:List Ob)(κ:Ex×St→Option ρ):∀(n i:Nat),l.length - i=n→i≤l.length→
  goLp P hints hint39 b39 0 ((⟨[(1,SV.d (D.sl c (List.map eI l))),(2,SV.loc (Root.l 2 0) [] 0 0),(8,SV.d (D.sl c (List.map eI l))),(9,SV.d (D.int IntKind.i64 (List.length l))),(10,SV.d (D.int IntKind.i64 i))],[((2,0),T.own [T.d (D.agg [D.int IntKind.i64 np,D.int IntKind.i64 nt,D.int IntKind.i64 nm,D.fn (Fn.func fn) [] cp])])],H⟩:St)) κ=if ok29 nt l i=true then κ (.exit 0,⟨[(1,SV.d (D.sl c (List.map eI l))),(2,SV.loc (Root.l 2 0) [] 0 0),(8,SV.d (D.sl c (List.map eI l))),(9,SV.d (D.int IntKind.i64 (List.length l))),(10,SV.d (D.int IntKind.i64 (List.length l))),(11,SV.d (D.bool false))],[((2,0),T.own [T.d (D.agg [D.int IntKind.i64 np,D.int IntKind.i64 nt,D.int IntKind.i64 nm,D.fn (Fn.func fn) [] cp])])],H⟩)else κ (.ret,⟨[(4,.d (.int .i64 0)),(5,.d (.int .i64 9))],[],H⟩):=by
 intro n
 induction n with
 |zero=>
  intro i hn hi
  obtain rfl:i=l.length:=by omega
  rw[turn29,if_neg (by omega),ok29_end (Nat.le_refl _),if_pos rfl]
 |succ n ih=>
  intro i hn hi
  have hlt:i<l.length:=by omega
  have hw:IntKind.i64.wrap ((i:Int)+1)=((i+1:Nat):Int):=by exact wrapS (by omega)
  rw[turn29,if_pos (by omega),if_pos (by omega),xV,xG hlt,xS,hw,ih (i+1) (by omega) (by omega),ok29_at hlt,xG (Nat.lt_of_le_of_lt (Nat.zero_le _) hlt),xS]
  simp only[xJ]
  by_cases h1:nt=-1
  ·simp only[h1,decide_true,Bool.true_or,Bool.true_and,if_true]
   by_cases h2:l[0]=l[i]
   ·simp[h2]
   ·simp[h2,Ne.symm h2,eq_comm]
  ·simp only[h1,decide_false,Bool.false_or,if_false]
   by_cases h2:l[i]=nt
   ·rw[if_pos h2]
    by_cases h3:l[i]=l[0]
    ·rw[if_pos h3];simp only[h2,decide_true,Bool.true_and,show(l[0]=l[i])from h3.symm]
    ·rw[if_neg h3];simp only[show¬(l[0]=l[i])from fun e=>h3 e.symm,decide_false,Bool.and_false,Bool.false_and,xH,if_false]
   ·rw[if_neg h2];simp only[h2,decide_false,Bool.false_and,xH,if_false]
def x29{ρ:Type}(np nt nm:Int)(l:List Int)(fn:Nat)(cp:List D)(c:Bool)(H:List Ob)(κ:List T×List Ob→Option ρ):Option ρ:=cbK (call 39 [.agg [.int .i64 np,.int .i64 nt,.int .i64 nm,.fn (.func fn) [] cp],.sl c (List.map eI l)] H) κ
theorem W29{ρ:Type}(np nt nm:Int)(l:List Int)(fn:Nat)(cp:List D)(c:Bool)(H:List Ob)(κ:List T×List Ob→Option ρ):cbK (call 39 [.agg [.int .i64 np,.int .i64 nt,.int .i64 nm,.fn (.func fn) [] cp],.sl c (List.map eI l)] H) κ=
  if l.length≤1000 then(if ok29 nt l 0=true then κ ([.d (.int .i64 nm),.d (.int .i64 0)],H)else κ ([.d (.int .i64 0),.d (.int .i64 9)],H))else x29 np nt nm l fn cp c H κ:=by
 by_cases hl:l.length≤1000
 ·rw[if_pos hl]
  refine(ge39 _ _ _ rfl).trans ?_
  have h:=fun κ=>lp29 (ρ:=ρ) np nt nm l hl fn cp c H κ _ 0 rfl (Nat.zero_le _)
  simp only[Int.natCast_zero]at h
  simp -implicitDefEqProofs (maxSteps:=1000000) [go_sem,h,-List.map_append,-List.map_take,-List.map_drop,-List.map_set]
 ·rw[if_neg hl];rfl
attribute [go_sem] W29
attribute [irreducible] x29
theorem ops_imm:(opsL.all fun e=>e.1.imm&&e.2.imm)=true:=rfl
theorem fK1_eq(x0 x1:Int)(s:GScope)(hs:s.Scalars.length≤1000)(hN:x1≤9223372036854775807)(st:List Int)(hst:st.length≤12)(hx:x0=3→st≠[]){ρ:Type}(g:Int→Int→Option ρ)(ht:takesK x0=0∨x0=3):
  fK1 x0 x1 s.Scalars s.Vars s.Chans s.Procs s.Locals s.Self st g=g (nodeK ⟨x0,x1⟩ s st).1 (nodeK ⟨x0,x1⟩ s st).2:=by
 have hsc:GScope.mk s.Scalars s.Vars s.Chans s.Procs s.Locals s.Self=s:=rfl
 simp only[fK1,FK1,hsc,addx_eq,nodeK]
 rcases ht with ht |ht
 ·have h3:¬x0=3:=fun e=>by subst e;simp[takesK]at ht
  simp only[h3,if_false,ht,if_true,leafK]
  have vr:∀l:List GVar,(f_expr_variable l x1 s fun y0_0 y0_1 y0_2=>if y0_2=false then g 0 8 else if y0_1=0 then g y0_0 0 else g 0 9)=g (varK (varAt l x1 s)).1 (varK (varAt l x1 s)).2:=fun l=>by
   rw[varx_eq (e:=g 0 8) (fun _ _=>by simp)]
   cases hv:varAt l x1 s with
   |none=>rfl
   |some v=>
    have hsv:scOk v.Over s=true:=by
     unfold varAt at hv
     split at hv
     ·simp only[xB]at hv
      obtain⟨u,_,hu⟩:=hv
      split at hu
      ·rename_i hb
       simp only[xJ]at hu
       subst hu
       simp only[xA]at hb
       exact hb.2
      ·cases hu
     ·cases hv
    simp only[Bool.true_eq_false,if_false,kOf_0 hs hsv,varK]
    by_cases h:v.Over=0 <;>simp[h]
  by_cases h1:x0=1
  ·simp only[h1,if_true]
   by_cases h:numK x1=(0,0)
   ·simp[h]
   ·rw[if_neg h]
    unfold numK at h ⊢
    split
    ·rename_i q;exact absurd (if_pos q) h
    ·rfl
  ·by_cases h4:x0=4
   ·subst h4
    simpa using vr s.Locals
   ·by_cases h2:x0=2
    ·subst h2
     simpa using vr s.Vars
    ·simp only[h1,h4,h2,if_false]
     exact namedx_eq (x:=⟨x0,x1⟩) hN
 ·subst ht
  have hne:=hx rfl
  obtain⟨k,hk⟩:∃k,st.getLast? =some k:=by cases h:st.getLast? with |none=>exact absurd (List.getLast?_eq_none_iff.1 h) hne |some k=>exact⟨k,rfl⟩
  have hpos:0<st.length:=List.length_pos_iff.2 hne
  have hw:IntKind.i64.wrap ((st.length:Int) - 1)=((st.length - 1:Nat):Int):=subN (m:=1) (by omega) (by omega)
  have hk':st[st.length - 1]? =some k:=by rw[←List.getLast?_eq_getElem?];exact hk
  simp only[show¬((3:Int)=1)by decide,show¬((3:Int)=4)by decide,show¬((3:Int)=2)by decide,if_false,if_true,hk,itemK_def]
  rw[varx_eq (e:=g 0 8) (fun _ _=>by simp)]
  cases hv:varAt s.Vars x1 s with
  |none=>rfl
  |some v=>
   have hsv:scOk v.Over s=true:=by
    unfold varAt at hv
    split at hv
    ·simp only[xB]at hv
     obtain⟨u,_,hu⟩:=hv
     split at hu
     ·rename_i hb
      simp only[xJ]at hu
      subst hu
      simp only[xA]at hb
      exact hb.2
     ·cases hu
    ·cases hv
   simp only[Bool.true_eq_false,if_false,kOf_0 hs hsv,hw,xV,hk',xS,show(0:Int)≤((st.length - 1:Nat):Int)by omega,show((st.length - 1:Nat):Int)<(st.length:Int)by omega,and_self,if_true]
   by_cases h:v.Over=0
   ·simp[h]
   ·have hko:kOf v.Over=w64 (1+v.Over):=by simp[kOf,h]
    simp only[h,if_false,hko]
    by_cases hkk:k=w64 (1+v.Over) <;>simp[hkk]
def outK{ρ:Type}(β:Bool)(s:GScope)(κ:List T×List Ob→Option ρ)(p:Int×List Int):Option ρ:=κ ([.d (.int IntKind.i64 p.1)],[Ob.box (.d (.agg [.sl β (List.map eScalar s.Scalars),.sl β (List.map eVar s.Vars),.sl β (List.map eChan s.Chans),.sl β (List.map (eProc β) s.Procs),.sl β (List.map eVar s.Locals),.int IntKind.i64 s.Self])),.box (.agg [.own (tl eI p.2),.d (.map (3))]),.box (.d (.ptr (1))),.map (opsL),.box (.d (.fn (Fn.func 120) [] [])),.box (.d (.fn (Fn.func 121) [] [])),.box (.d (.fn (Fn.func 122) [] [])),.box (.d (.fn (Fn.func 123) [] [])),.box (.d (.fn (Fn.func 124) [] [])),.box (.d (.fn (Fn.func 125) [] []))])
set_option maxHeartbeats 8000000 in
theorem op60(β:Bool)(x0 x1:Int)(s:GScope)(st:List Int)(hst:st.length≤12)(m:Nat)(hm:1≤m)(hm2:m≤2)(hP:opP x0=(m:Int))(hx:9≤x0∧x0≤19)(hl:m≤st.length){ρ:Type}(κ:List T×List Ob→Option ρ):
   cbK (call 72 [.ptr 1,.agg [.int .i64 x0,.int .i64 x1],.fn (.func 37) [] [.ptr 2,.ptr 0],.fn (.func 39) [] []] ([Ob.box (.d (.agg [.sl β (List.map eScalar s.Scalars),.sl β (List.map eVar s.Vars),.sl β (List.map eChan s.Chans),.sl β (List.map (eProc β) s.Procs),.sl β (List.map eVar s.Locals),.int IntKind.i64 s.Self])),.box (.agg [.own (tl eI st),.d (.map (3))]),.box (.d (.ptr (1))),.map (opsL),.box (.d (.fn (Fn.func 120) [] [])),.box (.d (.fn (Fn.func 121) [] [])),.box (.d (.fn (Fn.func 122) [] [])),.box (.d (.fn (Fn.func 123) [] [])),.box (.d (.fn (Fn.func 124) [] [])),.box (.d (.fn (Fn.func 125) [] []))])) κ=
    outK β s κ (if(opsK x0 (st.drop (st.length - m))).2≠0 then((opsK x0 (st.drop (st.length - m))).2,st)else(if 12<st.length - m+1 then 12 else 0,st.take (st.length - m)++[(opsK x0 (st.drop (st.length - m))).1])):=by
 refine(ge72 _ _ _ rfl).trans ?_
 have hH:opH x0=true:=opH_iff.2 hx
 have e3:¬x0=3:=by omega
 have e8:¬x0≤8:=by omega
 have n0:¬(m:Int)<0:=by omega
 have nl:¬(st.length:Int)<(m:Int):=by omega
 have hw:IntKind.i64.wrap ((st.length:Int) - (m:Int))=((st.length - m:Nat):Int):=subN hl (by omega)
 have q1:(0:Int)≤((st.length - m:Nat):Int):=by omega
 have q2:((st.length - m:Nat):Int)≤(st.length:Int):=by omega
 have q3:st.length≤1000+(st.length - m):=by omega
 have b1:(st.length - m+1) * 8≤140737488355328:=by omega
 have b2:st.length≤9223372036854775806+m:=by omega
 have hd:st.length - (st.length - m)=m:=by omega
 have q4:m≤1000:=by omega
 have htk:List.take m (List.drop (st.length - m) st)=List.drop (st.length - m) st:=List.take_of_length_le (by simp;omega)
 have h12:¬12<st.length - m+1:=by omega
 have h12':¬(12:Int)<((st.length - m:Nat):Int)+1:=by omega
 by_cases hk:ok29 (opT x0) (st.drop (st.length - m)) 0=true
 ·have hz:opsK x0 (st.drop (st.length - m))=(opM x0,0):=by rw[opsK,if_pos hk]
  rw[hz]
  cases β <;>simp -implicitDefEqProofs (maxSteps:=1000000) [go_sem,ge126,hH,hP,e3,e8,n0,nl,hw,q1,q2,q3,b1,b2,hd,htk,q4,hk,h12,h12',ops_imm,outK,-List.map_append,-List.map_take,-List.map_drop,-List.map_set]
 ·have hz:opsK x0 (st.drop (st.length - m))=(0,9):=by rw[opsK,if_neg hk]
  rw[hz]
  cases β <;>simp -implicitDefEqProofs (maxSteps:=1000000) [go_sem,ge126,hH,hP,e3,e8,n0,nl,hw,q1,q2,q3,b1,b2,hd,htk,q4,hk,h12,h12',ops_imm,outK,-List.map_append,-List.map_take,-List.map_drop,-List.map_set]
set_option maxHeartbeats 8000000 in
theorem WS60(β:Bool)(x0 x1:Int)(s:GScope)(hs:s.Scalars.length≤1000)(hN:x1≤9223372036854775807)(st:List Int)(hst:st.length≤12){ρ:Type}(κ:List T×List Ob→Option ρ):
   cbK (call 72 [.ptr 1,.agg [.int .i64 x0,.int .i64 x1],.fn (.func 37) [] [.ptr 2,.ptr 0],.fn (.func 39) [] []] ([Ob.box (.d (.agg [.sl β (List.map eScalar s.Scalars),.sl β (List.map eVar s.Vars),.sl β (List.map eChan s.Chans),.sl β (List.map (eProc β) s.Procs),.sl β (List.map eVar s.Locals),.int IntKind.i64 s.Self])),.box (.agg [.own (tl eI st),.d (.map (3))]),.box (.d (.ptr (1))),.map (opsL),.box (.d (.fn (Fn.func 120) [] [])),.box (.d (.fn (Fn.func 121) [] [])),.box (.d (.fn (Fn.func 122) [] [])),.box (.d (.fn (Fn.func 123) [] [])),.box (.d (.fn (Fn.func 124) [] [])),.box (.d (.fn (Fn.func 125) [] []))])) κ=outK β s κ (stepK ⟨x0,x1⟩ s st):=by
 refine(ge72 _ _ _ rfl).trans ?_
 have key:∀n:Nat,n≤st.length→n≤2→IntKind.i64.wrap ((st.length:Int) - (n:Int))=((st.length - n:Nat):Int):=fun n hn h2=>subN hn (by omega)
 have stp:∀n:Nat,takesK x0=(n:Int)→n≤st.length→stepK ⟨x0,x1⟩ s st=if(nodeK ⟨x0,x1⟩ s st).2≠0 then((nodeK ⟨x0,x1⟩ s st).2,st)else(if 12<st.length - n+1 then 12 else 0,st.take (st.length - n)++[(nodeK ⟨x0,x1⟩ s st).1]):=fun n ht hn=>by
  unfold stepK
  rw[ht,if_neg (by omega),if_neg (by omega),xV]
 rcases takes_cases x0 with⟨h,q⟩ |⟨h,q⟩ |⟨h,q⟩ |⟨h,q⟩
 ·-- none
  have hH:¬opH x0=true:=fun hh=>by have:=opH_iff.1 hh;omega
  have e3:¬x0=3:=by omega
  have e18:¬(1≤x0∧x0≤8):=by omega
  have hstep:stepK ⟨x0,x1⟩ s st=(3,st):=by unfold stepK;rw[h,if_pos (by omega)]
  rw[hstep]
  by_cases e1:1≤x0
  ·have e8:¬x0≤8:=fun q=>e18 ⟨e1,q⟩
   cases β <;>simp -implicitDefEqProofs (maxSteps:=1000000) [go_sem,ge126,hH,e3,e1,e8,outK,-List.map_append,-List.map_take,-List.map_drop,-List.map_set]
  ·cases β <;>simp -implicitDefEqProofs (maxSteps:=1000000) [go_sem,ge126,hH,e3,e1,outK,-List.map_append,-List.map_take,-List.map_drop,-List.map_set]
 ·-- a leaf
  have hH:¬opH x0=true:=fun hh=>by have:=opH_iff.1 hh;omega
  have hHf:opH x0=false:=by simpa using hH
  have e3:¬x0=3:=by omega
  have e1:1≤x0:=q.1
  have e8:x0≤8:=q.2.1
  have hw:=key 0 (Nat.zero_le _) (by omega)
  have hw':IntKind.i64.wrap ((st.length:Int))=(st.length:Int):=by simpa using hw
  have hcall:=fun g=>fK1_eq x0 x1 s hs hN st hst (fun e=>absurd e e3) (ρ:=ρ) g (.inl h)
  have n0:¬(st.length:Int)<0:=by omega
  have b1:(st.length+1) * 8≤140737488355328:=by omega
  have b2:st.length≤9223372036854775806:=by omega
  rw[stp 0 h (Nat.zero_le _)]
  by_cases hz:(nodeK ⟨x0,x1⟩ s st).2=0
  ·by_cases h12:12<st.length+1
   ·have h12':(12:Int)<(st.length:Int)+1:=by omega
    cases β <;>simp -implicitDefEqProofs (maxSteps:=1000000) [go_sem,ge126,hH,hHf,e3,e1,e8,hw',hcall,ops_imm,n0,b1,b2,hz,h12,h12',outK,-List.map_append,-List.map_take,-List.map_drop,-List.map_set]
   ·have h12':¬(12:Int)<(st.length:Int)+1:=by omega
    cases β <;>simp -implicitDefEqProofs (maxSteps:=1000000) [go_sem,ge126,hH,hHf,e3,e1,e8,hw',hcall,ops_imm,n0,b1,b2,hz,h12,h12',outK,-List.map_append,-List.map_take,-List.map_drop,-List.map_set]
  ·cases β <;>simp -implicitDefEqProofs (maxSteps:=1000000) [go_sem,ge126,hH,hHf,e3,e1,e8,hw',hcall,ops_imm,n0,b1,b2,hz,outK,-List.map_append,-List.map_take,-List.map_drop,-List.map_set]
 ·by_cases hlt:st.length<1
  ·have hstep:stepK ⟨x0,x1⟩ s st=(4,st):=by unfold stepK;rw[h,if_neg (by omega),if_pos (by omega)]
   have hlt':(st.length:Int)<1:=by omega
   rw[hstep]
   rcases q with q |q
   ·cases β <;>simp -implicitDefEqProofs (maxSteps:=1000000) [go_sem,ge126,q,hlt',outK,-List.map_append,-List.map_take,-List.map_drop,-List.map_set]
   ·have hH:opH x0=true:=opH_iff.2 (by omega)
    have e3:¬x0=3:=by omega
    have e8:¬x0≤8:=by omega
    have hP:opP x0=1:=by rw[opP_eq (by omega),if_pos (by omega)]
    cases β <;>simp -implicitDefEqProofs (maxSteps:=1000000) [go_sem,ge126,hH,hP,e3,e8,hlt',outK,-List.map_append,-List.map_take,-List.map_drop,-List.map_set]
  have n0:¬(st.length:Int)<1:=by omega
  have hw:IntKind.i64.wrap ((st.length:Int) - 1)=((st.length - 1:Nat):Int):=key 1 (by omega) (by omega)
  have q1:(0:Int)≤((st.length - 1:Nat):Int):=by omega
  have q2:((st.length - 1:Nat):Int)≤(st.length:Int):=by omega
  have q3:st.length≤1000+(st.length - 1):=by omega
  have b1:(st.length - 1+1) * 8≤140737488355328:=by omega
  have b2:st.length≤9223372036854775806+1:=by omega
  have b3:st.length≤9223372036854775807:=by omega
  have hd:st.length - (st.length - 1)=1:=by omega
  have h1:takesK x0=((1:Nat):Int):=h
  rw[stp 1 h1 (by omega)]
  rcases q with q |q
  ·subst q
   have hHf:opH 3=false:=rfl
   have hcall:=fun g=>fK1_eq 3 x1 s hs hN st hst (fun _ e=>by subst e;simp at hlt) (ρ:=ρ) g (.inr rfl)
   by_cases hz:(nodeK ⟨3,x1⟩ s st).2=0
   ·by_cases h12:12<st.length - 1+1
    ·omega
    ·have h12':¬(12:Int)<((st.length - 1:Nat):Int)+1:=by omega
     cases β <;>simp -implicitDefEqProofs (maxSteps:=1000000) [go_sem,ge126,hHf,hw,q1,q2,q3,hcall,ops_imm,n0,b1,b2,b3,hd,hz,h12,h12',outK,-List.map_append,-List.map_take,-List.map_drop,-List.map_set]
   ·cases β <;>simp -implicitDefEqProofs (maxSteps:=1000000) [go_sem,ge126,hHf,hw,q1,q2,q3,hcall,ops_imm,n0,b1,b2,b3,hd,hz,outK,-List.map_append,-List.map_take,-List.map_drop,-List.map_set]
  ·have hn:nodeK ⟨x0,x1⟩ s st=opsK x0 (st.drop (st.length - 1)):=by
    unfold nodeK
    rw[if_neg (by show¬x0=3;omega),if_neg (by show¬takesK x0=0;omega),show(takesK x0).toNat=1 by rw[h];rfl]
   rw[hn,←op60 β x0 x1 s st hst 1 (by omega) (by omega) (by rw[opP_eq (by omega),if_pos (by omega)];rfl) (by omega) (by omega)]
   exact(ge72 _ _ _ rfl).symm
 ·by_cases hlt:st.length<2
  ·have hstep:stepK ⟨x0,x1⟩ s st=(4,st):=by unfold stepK;rw[h,if_neg (by omega),if_pos (by omega)]
   have hlt':(st.length:Int)<2:=by omega
   rw[hstep]
   have hH:opH x0=true:=opH_iff.2 (by omega)
   have e3:¬x0=3:=by omega
   have e8:¬x0≤8:=by omega
   have hP:opP x0=2:=by rw[opP_eq (by omega),if_neg (by omega)]
   cases β <;>simp -implicitDefEqProofs (maxSteps:=1000000) [go_sem,ge126,hH,hP,e3,e8,hlt',outK,-List.map_append,-List.map_take,-List.map_drop,-List.map_set]
  have h2:takesK x0=((2:Nat):Int):=h
  rw[stp 2 h2 (by omega)]
  have hn:nodeK ⟨x0,x1⟩ s st=opsK x0 (st.drop (st.length - 2)):=by
   unfold nodeK
   rw[if_neg (by show¬x0=3;omega),if_neg (by show¬takesK x0=0;omega),show(takesK x0).toNat=2 by rw[h];rfl]
  rw[hn,←op60 β x0 x1 s st hst 2 (by omega) (by omega) (by rw[opP_eq (by omega),if_neg (by omega)];rfl) (by omega) (by omega)]
  exact(ge72 _ _ _ rfl).symm
end
end Go.Etx
namespace Go.Etx
open Go Go.Am Go.Proofs
set_option maxHeartbeats 4000000
set_option maxRecDepth 20000
noncomputable section
theorem turn26(β:Bool)(e:List GNode)(s:GScope)(hs:s.Scalars.length≤1000)(st:List Int)(hst:st.length≤12)(i:Nat)(hi:i<e.length)(hN:e[i].N≤9223372036854775807)(hlen:e.length≤24){ρ:Type}(κ:Ex×St→Option ρ):goLp P hints hint36 b36 0 ((⟨[(0,.d (.ptr (1))),(2,.d (.fn (Fn.func 37) [] [.ptr (2),.ptr (0)])),(3,.d (.fn (Fn.func 39) [] [])),(25,.d (.sl β (List.map eNode e))),(26,.d (.int IntKind.i64 (List.length e))),(27,.d (.int IntKind.i64 (i:Int)))],[],[Ob.box (.d (.agg [.sl β (List.map eScalar s.Scalars),.sl β (List.map eVar s.Vars),.sl β (List.map eChan s.Chans),.sl β (List.map (eProc β) s.Procs),.sl β (List.map eVar s.Locals),.int IntKind.i64 s.Self])),.box (.agg [.own (tl eI st),.d (.map (3))]),.box (.d (.ptr (1))),.map (opsL),.box (.d (.fn (Fn.func 120) [] [])),.box (.d (.fn (Fn.func 121) [] [])),.box (.d (.fn (Fn.func 122) [] [])),.box (.d (.fn (Fn.func 123) [] [])),.box (.d (.fn (Fn.func 124) [] [])),.box (.d (.fn (Fn.func 125) [] []))]⟩:St)) κ=
  if(stepK e[i] s st).1=0 then goLp P hints hint36 b36 0 ((⟨[(0,.d (.ptr (1))),(2,.d (.fn (Fn.func 37) [] [.ptr (2),.ptr (0)])),(3,.d (.fn (Fn.func 39) [] [])),(25,.d (.sl β (List.map eNode e))),(26,.d (.int IntKind.i64 (List.length e))),(27,.d (.int IntKind.i64 ((i+1:Nat):Int)))],[],[Ob.box (.d (.agg [.sl β (List.map eScalar s.Scalars),.sl β (List.map eVar s.Vars),.sl β (List.map eChan s.Chans),.sl β (List.map (eProc β) s.Procs),.sl β (List.map eVar s.Locals),.int IntKind.i64 s.Self])),.box (.agg [.own (tl eI ((stepK e[i] s st).2)),.d (.map (3))]),.box (.d (.ptr (1))),.map (opsL),.box (.d (.fn (Fn.func 120) [] [])),.box (.d (.fn (Fn.func 121) [] [])),.box (.d (.fn (Fn.func 122) [] [])),.box (.d (.fn (Fn.func 123) [] [])),.box (.d (.fn (Fn.func 124) [] [])),.box (.d (.fn (Fn.func 125) [] []))]⟩:St)) κ else κ (.ret,⟨[(8,SV.d (D.int IntKind.i64 0)),(9,SV.d (D.int IntKind.i64 (stepK e[i] s st).1))],[],[Ob.box (.d (.agg [.sl β (List.map eScalar s.Scalars),.sl β (List.map eVar s.Vars),.sl β (List.map eChan s.Chans),.sl β (List.map (eProc β) s.Procs),.sl β (List.map eVar s.Locals),.int IntKind.i64 s.Self])),.box (.agg [.own (tl eI ((stepK e[i] s st).2)),.d (.map (3))]),.box (.d (.ptr (1))),.map (opsL),.box (.d (.fn (Fn.func 120) [] [])),.box (.d (.fn (Fn.func 121) [] [])),.box (.d (.fn (Fn.func 122) [] [])),.box (.d (.fn (Fn.func 123) [] [])),.box (.d (.fn (Fn.func 124) [] [])),.box (.d (.fn (Fn.func 125) [] []))]⟩):=by
 refine(goLp_turn q36_0.2).trans ?_
 have hw:IntKind.i64.wrap ((i:Int)+1)=((i+1:Nat):Int):=wrapS (by omega)
 have h1:(i:Int)<(e.length:Int):=by omega
 have h2:e[i]? =some e[i]:=xG hi
 have h60:=fun κ=>WS60 (ρ:=ρ) β e[i].Op e[i].N s hs hN st hst κ
 cases β <;>simp -implicitDefEqProofs (maxSteps:=1000000) [go_sem,h1,h2,hw,h60,outK,-List.map_append,-List.map_take,-List.map_drop,-List.map_set]
theorem last26(β:Bool)(e:List GNode)(s:GScope)(st:List Int){ρ:Type}(κ:Ex×St→Option ρ):goLp P hints hint36 b36 0 ((⟨[(0,.d (.ptr (1))),(2,.d (.fn (Fn.func 37) [] [.ptr (2),.ptr (0)])),(3,.d (.fn (Fn.func 39) [] [])),(25,.d (.sl β (List.map eNode e))),(26,.d (.int IntKind.i64 (List.length e))),(27,.d (.int IntKind.i64 (e.length:Int)))],[],[Ob.box (.d (.agg [.sl β (List.map eScalar s.Scalars),.sl β (List.map eVar s.Vars),.sl β (List.map eChan s.Chans),.sl β (List.map (eProc β) s.Procs),.sl β (List.map eVar s.Locals),.int IntKind.i64 s.Self])),.box (.agg [.own (tl eI st),.d (.map (3))]),.box (.d (.ptr (1))),.map (opsL),.box (.d (.fn (Fn.func 120) [] [])),.box (.d (.fn (Fn.func 121) [] [])),.box (.d (.fn (Fn.func 122) [] [])),.box (.d (.fn (Fn.func 123) [] [])),.box (.d (.fn (Fn.func 124) [] [])),.box (.d (.fn (Fn.func 125) [] []))]⟩:St)) κ=κ (.exit 1,(⟨[(0,.d (.ptr (1))),(2,.d (.fn (Fn.func 37) [] [.ptr (2),.ptr (0)])),(3,.d (.fn (Fn.func 39) [] [])),(25,.d (.sl β (List.map eNode e))),(26,.d (.int IntKind.i64 (List.length e))),(27,.d (.int IntKind.i64 (List.length e))),(28,SV.d (D.bool false))],[],[Ob.box (.d (.agg [.sl β (List.map eScalar s.Scalars),.sl β (List.map eVar s.Vars),.sl β (List.map eChan s.Chans),.sl β (List.map (eProc β) s.Procs),.sl β (List.map eVar s.Locals),.int IntKind.i64 s.Self])),.box (.agg [.own (tl eI st),.d (.map (3))]),.box (.d (.ptr (1))),.map (opsL),.box (.d (.fn (Fn.func 120) [] [])),.box (.d (.fn (Fn.func 121) [] [])),.box (.d (.fn (Fn.func 122) [] [])),.box (.d (.fn (Fn.func 123) [] [])),.box (.d (.fn (Fn.func 124) [] [])),.box (.d (.fn (Fn.func 125) [] []))]⟩:St)):=by
 refine(goLp_turn q36_0.2).trans ?_
 cases β <;>simp -implicitDefEqProofs (maxSteps:=1000000) [go_sem,-List.map_append,-List.map_take,-List.map_drop,-List.map_set]
theorem step_ok0{x:GNode}{s:GScope}{st:List Int}(h:st.length≤12)(h0:(stepK x s st).1=0):(stepK x s st).2.length≤12:=by
 unfold stepK at h0 ⊢
 split at h0;· simp at h0
 rename_i h1
 split at h0;· simp at h0
 rename_i h2
 split at h0
 ·rename_i h3;simp only at h0;exact absurd h0 h3
 ·rename_i h3
  rw[if_neg h1,if_neg h2,if_neg h3]
  simp only at h0
  split at h0
  ·cases h0
  ·simp only[xP,yR,xZ,yN];omega
theorem loop26(β:Bool)(e:List GNode)(s:GScope)(hs:s.Scalars.length≤1000)(hN:∀x∈e,x.N≤9223372036854775807)(hlen:e.length≤24){ρ:Type}(κ:Ex×St→Option ρ):∀(n i:Nat) (st:List Int),e.length - i=n→i≤e.length→st.length≤12→goLp P hints hint36 b36 0 ((⟨[(0,.d (.ptr (1))),(2,.d (.fn (Fn.func 37) [] [.ptr (2),.ptr (0)])),(3,.d (.fn (Fn.func 39) [] [])),(25,.d (.sl β (List.map eNode e))),(26,.d (.int IntKind.i64 (List.length e))),(27,.d (.int IntKind.i64 (i:Int)))],[],[Ob.box (.d (.agg [.sl β (List.map eScalar s.Scalars),.sl β (List.map eVar s.Vars),.sl β (List.map eChan s.Chans),.sl β (List.map (eProc β) s.Procs),.sl β (List.map eVar s.Locals),.int IntKind.i64 s.Self])),.box (.agg [.own (tl eI st),.d (.map (3))]),.box (.d (.ptr (1))),.map (opsL),.box (.d (.fn (Fn.func 120) [] [])),.box (.d (.fn (Fn.func 121) [] [])),.box (.d (.fn (Fn.func 122) [] [])),.box (.d (.fn (Fn.func 123) [] [])),.box (.d (.fn (Fn.func 124) [] [])),.box (.d (.fn (Fn.func 125) [] []))]⟩:St)) κ=
  if(runK s (e.drop i) st).1=0 then κ (.exit 1,(⟨[(0,.d (.ptr (1))),(2,.d (.fn (Fn.func 37) [] [.ptr (2),.ptr (0)])),(3,.d (.fn (Fn.func 39) [] [])),(25,.d (.sl β (List.map eNode e))),(26,.d (.int IntKind.i64 (List.length e))),(27,.d (.int IntKind.i64 (List.length e))),(28,SV.d (D.bool false))],[],[Ob.box (.d (.agg [.sl β (List.map eScalar s.Scalars),.sl β (List.map eVar s.Vars),.sl β (List.map eChan s.Chans),.sl β (List.map (eProc β) s.Procs),.sl β (List.map eVar s.Locals),.int IntKind.i64 s.Self])),.box (.agg [.own (tl eI ((runK s (e.drop i) st).2)),.d (.map (3))]),.box (.d (.ptr (1))),.map (opsL),.box (.d (.fn (Fn.func 120) [] [])),.box (.d (.fn (Fn.func 121) [] [])),.box (.d (.fn (Fn.func 122) [] [])),.box (.d (.fn (Fn.func 123) [] [])),.box (.d (.fn (Fn.func 124) [] [])),.box (.d (.fn (Fn.func 125) [] []))]⟩:St))else κ (.ret,⟨[(8,SV.d (D.int IntKind.i64 0)),(9,SV.d (D.int IntKind.i64 (runK s (e.drop i) st).1))],[],[Ob.box (.d (.agg [.sl β (List.map eScalar s.Scalars),.sl β (List.map eVar s.Vars),.sl β (List.map eChan s.Chans),.sl β (List.map (eProc β) s.Procs),.sl β (List.map eVar s.Locals),.int IntKind.i64 s.Self])),.box (.agg [.own (tl eI ((runK s (e.drop i) st).2)),.d (.map (3))]),.box (.d (.ptr (1))),.map (opsL),.box (.d (.fn (Fn.func 120) [] [])),.box (.d (.fn (Fn.func 121) [] [])),.box (.d (.fn (Fn.func 122) [] [])),.box (.d (.fn (Fn.func 123) [] [])),.box (.d (.fn (Fn.func 124) [] [])),.box (.d (.fn (Fn.func 125) [] []))]⟩):=by
 intro n
 induction n with
 |zero=>
  intro i st hn hi hst
  obtain rfl:i=e.length:=by omega
  rw[last26,List.drop_length,runK,if_pos rfl]
 |succ n ih=>
  intro i st hn hi hst
  have hlt:i<e.length:=by omega
  rw[turn26 β e s hs st hst i hlt (hN _ (List.getElem_mem hlt)) hlen,xW hlt,runK]
  by_cases h0:(stepK e[i] s st).1=0
  ·rw[if_pos h0,if_pos h0,ih (i+1) _ (by omega) (by omega) (step_ok0 hst h0)]
  ·rw[if_neg h0,if_neg h0,if_neg h0]
theorem run_ok0{s:GScope}:∀{e:List GNode} {st:List Int},st.length≤12→(runK s e st).1=0→(runK s e st).2.length≤12∧(e≠[]→0<(runK s e st).2.length)
 | [],st,h,_=>⟨h,fun q=>absurd rfl q⟩
 |x::r,st,h,h0=>by
  unfold runK at h0 ⊢
  by_cases hx:(stepK x s st).1=0
  ·rw[if_pos hx]at h0 ⊢
   have hl:=step_ok0 h hx
   have:=run_ok0 hl h0
   refine⟨this.1,fun _=> ?_⟩
   cases r with
   |cons y r=>exact this.2 (by simp)
   |nil=>
    rw[runK]
    unfold stepK at hx ⊢
    split at hx;· simp at hx
    rename_i h1
    split at hx;· simp at hx
    rename_i h2
    split at hx
    ·rename_i h3;simp only at hx;exact absurd hx h3
    ·rename_i h3
     rw[if_neg h1,if_neg h2,if_neg h3]
     simp
  ·rw[if_neg hx]at h0;exact absurd h0 hx
set_option maxHeartbeats 8000000 in
theorem Kind_eq(β:Bool)(e:List GNode)(s:GScope)(hs:s.Scalars.length≤1000)(hN:∀x∈e,x.N≤9223372036854775807){ρ:Type}(κ:List T×List Ob→Option ρ):
  cbK (call 18 [.sl β (List.map eNode e),.agg [.sl β (List.map eScalar s.Scalars),.sl β (List.map eVar s.Vars),.sl β (List.map eChan s.Chans),.sl β (List.map (eProc β) s.Procs),.sl β (List.map eVar s.Locals),.int .i64 s.Self]] []) κ=κ ([.d (.int .i64 (kindK e s).1),.d (.int .i64 (kindK e s).2)],[]):=by
 refine(ge18 _ _ _ rfl).trans ?_
 unfold kindK
 by_cases h24:24<e.length
 ·have h24':(24:Int)<(e.length:Int):=by omega
  rw[if_pos h24]
  cases β <;>simp -implicitDefEqProofs (maxSteps:=1000000) [go_sem,ge36,ge71,ge119,h24',-List.map_append,-List.map_take,-List.map_drop,-List.map_set]
 rw[if_neg h24]
 have h24':¬(24:Int)<(e.length:Int):=by omega
 by_cases he:e=[]
 ·rw[if_pos he]
  subst he
  cases β <;>simp -implicitDefEqProofs (maxSteps:=1000000) [go_sem,ge36,ge71,ge119,-List.map_append,-List.map_take,-List.map_drop,-List.map_set]
 rw[if_neg he]
 have hl:=fun κ=>loop26 (ρ:=ρ) β e s hs hN (by omega) κ _ 0 [] rfl (Nat.zero_le _) (by simp)
 simp only[Int.natCast_zero,List.drop_zero,tl_nil]at hl
 by_cases h0:(runK s e []).1=0
 ·have hok:=run_ok0 (s:=s) (e:=e) (st:=[]) (by simp) h0
  have hpos:=hok.2 he
  by_cases h1:1<(runK s e []).2.length
  ·have h1':(1:Int)<((runK s e []).2.length:Int):=by omega
   cases β <;>simp -implicitDefEqProofs (maxSteps:=1000000) [go_sem,ge36,ge71,ge119,h24',he,hl,h0,h1,h1',-List.map_append,-List.map_take,-List.map_drop,-List.map_set]
  ·have h1':¬(1:Int)<((runK s e []).2.length:Int):=by omega
   obtain⟨a,ha⟩:∃a,(runK s e []).2=[a]:=List.length_eq_one_iff.1 (by omega)
   cases β <;>simp -implicitDefEqProofs (maxSteps:=1000000) [go_sem,ge36,ge71,ge119,h24',he,hl,h0,h1,h1',ha,-List.map_append,-List.map_take,-List.map_drop,-List.map_set]
 ·cases β <;>simp -implicitDefEqProofs (maxSteps:=1000000) [go_sem,ge36,ge71,ge119,h24',he,hl,h0,-List.map_append,-List.map_take,-List.map_drop,-List.map_set]
end
end Go.Etx
namespace Go.Etx
open Go Go.Am Go.Proofs
set_option maxHeartbeats 4000000
set_option maxRecDepth 20000
noncomputable section
def tellsB(op:Int):Bool:=decide (op=2) || decide (op=3) || decide (op=4) || decide (op=6) || decide (op=7) || decide (op=8)
theorem tellsx_eq{ρ:Type}{op:Int}{g:Bool→Option ρ}:f_etext_tells op g=g (tellsB op):=by
 simp only[f_etext_tells,F_etext_tells,mkF,tellsB]
 by_cases a2:op=2
 ·simp[a2]
 by_cases a3:op=3
 ·simp[a3]
 by_cases a4:op=4
 ·simp[a4]
 by_cases a6:op=6
 ·simp[a6]
 by_cases a7:op=7
 ·simp[a7]
 simp[a2,a3,a4,a6,a7]
def badN(x:GNode)(p:List UInt8×Bool):Bool:= !p.2 || (!p.1.isEmpty&& !lexN p.1) || (p.1.isEmpty&&tellsB x.Op)
theorem lexN_len{nm:List UInt8}(h:lexN nm=true):nm.length≤16:=by
 unfold lexN at h
 simp only[xA,yD]at h
 exact h.1.1.1.2
theorem turn7(β:Bool)(e:List GNode)(s:GScope)(hs:Few s)(st:List Gpart)(i:Nat)(hi:i<e.length)(hlen:e.length≤24)(p:List UInt8×Bool)(hp:nameP [] e[i] s=some p)
  (hl:badN e[i] p=false→∀{ρ:Type} (g:List Gpart→Option ρ),fLaid e[i] p.1 st g=g (layP e[i] p.1 st)) {ρ:Type} (κ:Ex×St→Option ρ):goLp P hints hint9 b9 0 ((⟨[(3,SV.loc (Root.l 3 0) [] 0 0),(8,SV.bor (Root.l 8 0) [] 0 (List.length st)),(22,SV.d (D.sl β (List.map eNode e))),(23,SV.d (D.int IntKind.i64 (List.length e))),(24,SV.d (D.int IntKind.i64 (i:Int)))],[((3,0),T.own [T.d (D.agg [D.sl β (List.map eScalar s.Scalars),D.sl β (List.map eVar s.Vars),D.sl β (List.map eChan s.Chans),D.sl β (List.map (eProc β) s.Procs),D.sl β (List.map eVar s.Locals),D.int IntKind.i64 s.Self])]),((8,0),T.own (tl epart st))],[]⟩:St)) κ=
  if badN e[i] p=true then κ (.ret,⟨[(4,SV.d (D.str [])),(5,SV.d (D.int IntKind.i64 6))],[],[]⟩)else goLp P hints hint9 b9 0 ((⟨[(3,SV.loc (Root.l 3 0) [] 0 0),(8,SV.bor (Root.l 8 0) [] 0 (List.length (layP e[i] p.1 st))),(22,SV.d (D.sl β (List.map eNode e))),(23,SV.d (D.int IntKind.i64 (List.length e))),(24,SV.d (D.int IntKind.i64 ((i+1:Nat):Int)))],[((3,0),T.own [T.d (D.agg [D.sl β (List.map eScalar s.Scalars),D.sl β (List.map eVar s.Vars),D.sl β (List.map eChan s.Chans),D.sl β (List.map (eProc β) s.Procs),D.sl β (List.map eVar s.Locals),D.int IntKind.i64 s.Self])]),((8,0),T.own (tl epart (layP e[i] p.1 st)))],[]⟩:St)) κ:=by
 refine(goLp_turn q9_0.2).trans ?_
 have hw:IntKind.i64.wrap ((i:Int)+1)=((i+1:Nat):Int):=wrapS (by omega)
 have h1:(i:Int)<(e.length:Int):=by omega
 have h2:e[i]? =some e[i]:=xG hi
 obtain⟨nm,back⟩:=p
 cases hb:badN e[i] (nm,back)with
 |true=>
  rw[if_pos rfl]
  cases back with
  |false=>cases β <;>simp -implicitDefEqProofs (maxSteps:=1000000) [go_sem,h1,h2,hw,namex_eq hs,hp,-List.map_append,-List.map_take,-List.map_drop,-List.map_set]
  |true=>
   by_cases h0:nm=[]
   ·subst h0
    have ht:tellsB e[i].Op=true:=by simpa [badN]using hb
    cases β <;>simp -implicitDefEqProofs (maxSteps:=1000000) [go_sem,h1,h2,hw,namex_eq hs,hp,tellsx_eq,ht,-List.map_append,-List.map_take,-List.map_drop,-List.map_set]
   ·have hx:lexN nm=false:=by simpa [badN,h0]using hb
    cases β <;>simp -implicitDefEqProofs (maxSteps:=1000000) [go_sem,h1,h2,hw,namex_eq hs,hp,h0,namel_eq,hx,-List.map_append,-List.map_take,-List.map_drop,-List.map_set]
 |false=>
  rw[if_neg (by simp)]
  have hl':=fun g=>hl hb (ρ:=ρ) g
  cases back with
  |false=>simp[badN]at hb
  |true=>
   by_cases h0:nm=[]
   ·subst h0
    have ht:tellsB e[i].Op=false:=by simpa [badN]using hb
    cases β <;>simp -implicitDefEqProofs (maxSteps:=1000000) [go_sem,h1,h2,hw,namex_eq hs,hp,tellsx_eq,ht,WLaid,hl',-List.map_append,-List.map_take,-List.map_drop,-List.map_set]
   ·have hx:lexN nm=true:=by simpa [badN,h0]using hb
    cases β <;>simp -implicitDefEqProofs (maxSteps:=1000000) [go_sem,h1,h2,hw,namex_eq hs,hp,h0,namel_eq,hx,WLaid,hl',-List.map_append,-List.map_take,-List.map_drop,-List.map_set]
def tot(st:List Gpart):Nat:=(st.map fun p=>p.text.length).sum
theorem tot_app(a b:List Gpart):tot (a++b)=tot a+tot b:=by simp[tot]
theorem tot_one(p:Gpart):tot [p]=p.text.length:=by simp[tot]
theorem tot_mem{st:List Gpart}{p:Gpart}(h:p∈st):p.text.length≤tot st:=by
 induction st with
 |nil=>cases h
 |cons a r ih=>
  have e:tot (a::r)=a.text.length+tot r:=by simp[tot]
  rw[e]
  rcases List.mem_cons.1 h with rfl |h
  ·omega
  ·have:=ih h;omega
theorem lay_len{x:GNode}{nm:List UInt8}{st:List Gpart}(h0:0≤takesK x.Op)(h:takesK x.Op≤(st.length:Int)):(layP x nm st).length=st.length - (takesK x.Op).toNat+1:=by
 rcases takes_cases x.Op with⟨e,q⟩ |⟨e,q⟩ |⟨e,q⟩ |⟨e,q⟩
 ·omega
 ·unfold layP
  rw[if_neg q.2.2,if_neg (by omega),if_neg (by omega),if_neg (by omega),e]
  simp
 ·have hpos:0<st.length:=by omega
  have hl:st.getLast? =some st[st.length - 1]:=by rw[List.getLast?_eq_getElem?,xG (by omega)]
  unfold layP
  rw[e]
  rcases q with q |q |q
  ·rw[if_pos q,hl];simp
  ·rw[if_neg (by omega),if_pos q,hl];simp
  ·rw[if_neg (by omega),if_neg (by omega),if_pos q,hl];simp
 ·have hpos:2≤st.length:=by omega
  have hl:st.getLast? =some st[st.length - 1]:=by rw[List.getLast?_eq_getElem?,xG (by omega)]
  have hl2:st[st.length - 2]? =some st[st.length - 2]:=xG (by omega)
  unfold layP
  rw[e,if_neg (by omega),if_neg (by omega),if_neg (by omega),if_pos q,hl,hl2]
  simp
theorem tot_split{st:List Gpart}(n:Nat):tot (st.take n)+tot (st.drop n)=tot st:=by rw[←tot_app,yP]
theorem lay_tot{x:GNode}{nm:List UInt8}{st:List Gpart}(hn:nm.length≤16)(h0:0≤takesK x.Op)(h:takesK x.Op≤(st.length:Int)):tot (layP x nm st)≤tot st+64:=by
 rcases takes_cases x.Op with⟨e,q⟩ |⟨e,q⟩ |⟨e,q⟩ |⟨e,q⟩
 ·omega
 ·unfold layP
  rw[if_neg q.2.2,if_neg (by omega),if_neg (by omega),if_neg (by omega),tot_app,tot_one]
  have:(leafT x nm).length≤64:=by
   unfold leafT
   have d1:=decI_len x.N
   have d2:=decI_len (Int.tmod x.N 16)
   repeat' split
   all_goals simp
   all_goals omega
  simp only
  omega
 ·have hpos:0<st.length:=by omega
  have hl:st.getLast? =some st[st.length - 1]:=by rw[List.getLast?_eq_getElem?,xG (by omega)]
  have hd:tot (st.drop (st.length - 1))=st[st.length - 1].text.length:=by
   rw[xW (by omega),List.drop_eq_nil_of_le (by omega),tot_one]
  have hs:=tot_split (st:=st) (st.length - 1)
  rw[hd]at hs
  have b1:=fun b=>inB_len st[st.length - 1].text b
  unfold layP
  rcases q with q |q |q
  ·rw[if_pos q,hl]
   simp only[tot_app,tot_one,xP,xZ,yN]
   omega
  ·rw[if_neg (by omega),if_pos q,hl]
   have:=b1 (decide (st[st.length - 1].binds<6))
   simp only[tot_app,tot_one,xP,xZ,yN]
   omega
  ·rw[if_neg (by omega),if_neg (by omega),if_pos q,hl]
   have:=b1 (decide (st[st.length - 1].binds<6) || decide (st[st.length - 1].op=1))
   simp only[tot_app,tot_one,xP,xZ,yN]
   omega
 ·have hpos:2≤st.length:=by omega
  have hl:st.getLast? =some st[st.length - 1]:=by rw[List.getLast?_eq_getElem?,xG (by omega)]
  have hl2:st[st.length - 2]? =some st[st.length - 2]:=xG (by omega)
  have hd:tot (st.drop (st.length - 2))=st[st.length - 2].text.length+st[st.length - 1].text.length:=by
   rw[xW (by omega),xW (by omega),List.drop_eq_nil_of_le (by omega)]
   simp[tot,show st.length - 2+1=st.length - 1 by omega]
  have hs:=tot_split (st:=st) (st.length - 2)
  rw[hd]at hs
  unfold layP
  rw[if_neg (by omega),if_neg (by omega),if_neg (by omega),if_pos q,hl,hl2]
  have c1:=inB_len st[st.length - 2].text (joinL x.Op st[st.length - 2].binds)
  have c2:=inB_len st[st.length - 1].text (joinR x.Op st[st.length - 1].binds)
  have c3:=sgnT_len x.Op
  simp only[tot_app,tot_one,joinT,xP,xZ,yN]
  omega
theorem name_some{x:GNode}{s:GScope}{st:List Int}(hN:x.N≤9223372036854775807)(d:List UInt8)(h0:0≤takesK x.Op)(h:(nodeK x s st).2=0):∃p,nameP d x s=some p:=by
 have var:∀l:List GVar,∀v,varAt l x.N s=some v→0≤x.N∧∃y,l[x.N.toNat]? =some y:=fun l v hv=>by
  unfold varAt at hv
  split at hv
  ·rename_i h0
   simp only[xB]at hv
   obtain⟨u,hu,_⟩:=hv
   exact⟨h0,u,hu⟩
  ·cases hv
 have vk:∀l:List GVar,(varK (varAt l x.N s)).2=0→0≤x.N∧∃y,l[x.N.toNat]? =some y:=fun l hv=>by
  cases hh:varAt l x.N s with
  |none=>rw[hh]at hv;simp[varK]at hv
  |some v=>exact var l v hh
 unfold nameP
 by_cases h3:x.Op=3
 ·rw[if_pos (.inr h3)]
  unfold nodeK at h
  rw[if_pos h3]at h
  split at h
  ·rw[itemK_def]at h
   cases hh:varAt s.Vars x.N s with
   |none=>rw[hh]at h;simp at h
   |some v=>
    obtain⟨q1,y,q2⟩:=var _ _ hh
    rw[if_pos q1,q2]
    exact⟨_,rfl⟩
  ·simp at h
 unfold nodeK at h
 rw[if_neg h3]at h
 by_cases ht:takesK x.Op=0
 ·rw[if_pos ht]at h
  unfold leafK at h
  by_cases h2:x.Op=2
  ·rw[if_pos (.inl h2)]
   rw[if_neg (by omega),if_pos h2]at h
   obtain⟨q1,y,q2⟩:=vk _ h
   rw[if_pos q1,q2]
   exact⟨_,rfl⟩
  rw[if_neg (fun q=>q.elim h2 h3)]
  by_cases h4:x.Op=4
  ·rw[if_pos h4]
   rw[if_neg (by omega),if_neg h2,if_pos h4]at h
   obtain⟨q1,y,q2⟩:=vk _ h
   rw[if_pos q1,q2]
   exact⟨_,rfl⟩
  rw[if_neg h4]
  by_cases h1:x.Op=1
  ·rw[if_neg (by omega),if_neg (by omega),if_neg (by omega)]
   exact⟨_,rfl⟩
  rw[if_neg h1,if_neg h2,if_neg h4]at h
  unfold namedK at h
  by_cases h6:x.Op=6
  ·rw[if_pos h6]
   rw[if_neg (by omega),if_pos h6]at h
   split at h
   ·rename_i q1
    rw[if_pos q1]
    split at h
    ·rename_i c hc
     rw[hc]
     exact⟨_,rfl⟩
    ·simp at h
   ·simp at h
  rw[if_neg h6]
  by_cases h7:x.Op=7
  ·rw[if_pos h7]
   rw[if_neg (by omega),if_neg h6,if_pos h7]at h
   split at h
   ·rename_i q1
    rw[if_pos (tdiv16 q1.1 hN)]
    split at h
    ·rename_i c hc
     rw[hc]
     exact⟨_,rfl⟩
    ·simp at h
   ·simp at h
  rw[if_neg h7]
  by_cases h8:x.Op=8
  ·rw[if_pos h8]
   rw[if_neg (by omega),if_neg h6,if_neg h7,if_pos h8]at h
   split at h
   ·rename_i q1
    rw[if_pos q1.1,xG (by omega)]
    exact⟨_,rfl⟩
   ·simp at h
  rw[if_neg h8]
  exact⟨_,rfl⟩
 ·have:¬(1≤x.Op∧x.Op≤8):=by
   rcases takes_cases x.Op with⟨e,q⟩ |⟨e,q⟩ |⟨e,q⟩ |⟨e,q⟩ <;>omega
  rw[if_neg (by omega),if_neg (by omega),if_neg (by omega),if_neg (by omega),if_neg (by omega)]
  exact⟨_,rfl⟩
theorem step_facts{x:GNode}{s:GScope}{st:List Int}(h0:(stepK x s st).1=0):0≤takesK x.Op∧takesK x.Op≤(st.length:Int)∧(nodeK x s st).2=0∧(stepK x s st).2.length=st.length - (takesK x.Op).toNat+1:=by
 unfold stepK at h0 ⊢
 split at h0;· simp at h0
 rename_i h1
 split at h0;· simp at h0
 rename_i h2
 split at h0
 ·rename_i h3;simp only at h0;exact absurd h0 h3
 ·rename_i h3
  rw[if_neg h1,if_neg h2,if_neg h3]
  refine⟨by omega,by omega,by simpa using h3,?_⟩
  simp
def layAll(s:GScope):List GNode→List Gpart→Option (List Gpart)
 | [],st=>some st
 |x::r,st=>match nameP [] x s with |some p=>if badN x p=true then none else layAll s r (layP x p.1 st) |none=>none
theorem last7(β:Bool)(e:List GNode)(s:GScope)(st:List Gpart){ρ:Type}(κ:Ex×St→Option ρ):goLp P hints hint9 b9 0 ((⟨[(3,SV.loc (Root.l 3 0) [] 0 0),(8,SV.bor (Root.l 8 0) [] 0 (List.length st)),(22,SV.d (D.sl β (List.map eNode e))),(23,SV.d (D.int IntKind.i64 (List.length e))),(24,SV.d (D.int IntKind.i64 (e.length:Int)))],[((3,0),T.own [T.d (D.agg [D.sl β (List.map eScalar s.Scalars),D.sl β (List.map eVar s.Vars),D.sl β (List.map eChan s.Chans),D.sl β (List.map (eProc β) s.Procs),D.sl β (List.map eVar s.Locals),D.int IntKind.i64 s.Self])]),((8,0),T.own (tl epart st))],[]⟩:St)) κ=κ (.exit 0,(⟨[(3,SV.loc (Root.l 3 0) [] 0 0),(8,SV.bor (Root.l 8 0) [] 0 (List.length st)),(22,SV.d (D.sl β (List.map eNode e))),(23,SV.d (D.int IntKind.i64 (List.length e))),(24,SV.d (D.int IntKind.i64 (List.length e))),(25,SV.d (D.bool false))],[((3,0),T.own [T.d (D.agg [D.sl β (List.map eScalar s.Scalars),D.sl β (List.map eVar s.Vars),D.sl β (List.map eChan s.Chans),D.sl β (List.map (eProc β) s.Procs),D.sl β (List.map eVar s.Locals),D.int IntKind.i64 s.Self])]),((8,0),T.own (tl epart st))],[]⟩:St)):=by
 refine(goLp_turn q9_0.2).trans ?_
 cases β <;>simp -implicitDefEqProofs (maxSteps:=1000000) [go_sem,-List.map_append,-List.map_take,-List.map_drop,-List.map_set]
theorem loop7(β:Bool)(e:List GNode)(s:GScope)(hs:Few s)(hN:∀x∈e,Tr7.inR x.N=true)(hlen:e.length≤24){ρ:Type}(κ:Ex×St→Option ρ):∀(n i:Nat) (st:List Gpart) (ks:List Int),e.length - i=n→i≤e.length→st.length=ks.length→ks.length≤12→tot st≤64 * i→(runK s (e.drop i) ks).1=0→
  goLp P hints hint9 b9 0 ((⟨[(3,SV.loc (Root.l 3 0) [] 0 0),(8,SV.bor (Root.l 8 0) [] 0 (List.length st)),(22,SV.d (D.sl β (List.map eNode e))),(23,SV.d (D.int IntKind.i64 (List.length e))),(24,SV.d (D.int IntKind.i64 (i:Int)))],[((3,0),T.own [T.d (D.agg [D.sl β (List.map eScalar s.Scalars),D.sl β (List.map eVar s.Vars),D.sl β (List.map eChan s.Chans),D.sl β (List.map (eProc β) s.Procs),D.sl β (List.map eVar s.Locals),D.int IntKind.i64 s.Self])]),((8,0),T.own (tl epart st))],[]⟩:St)) κ=match layAll s (e.drop i) st with
   |some st'=>κ (.exit 0,(⟨[(3,SV.loc (Root.l 3 0) [] 0 0),(8,SV.bor (Root.l 8 0) [] 0 (List.length st')),(22,SV.d (D.sl β (List.map eNode e))),(23,SV.d (D.int IntKind.i64 (List.length e))),(24,SV.d (D.int IntKind.i64 (List.length e))),(25,SV.d (D.bool false))],[((3,0),T.own [T.d (D.agg [D.sl β (List.map eScalar s.Scalars),D.sl β (List.map eVar s.Vars),D.sl β (List.map eChan s.Chans),D.sl β (List.map (eProc β) s.Procs),D.sl β (List.map eVar s.Locals),D.int IntKind.i64 s.Self])]),((8,0),T.own (tl epart st'))],[]⟩:St))
   |none=>κ (.ret,⟨[(4,SV.d (D.str [])),(5,SV.d (D.int IntKind.i64 6))],[],[]⟩):=by
 intro n
 induction n with
 |zero=>
  intro i st ks hn hi hl hk htot hr
  obtain rfl:i=e.length:=by omega
  rw[last7,List.drop_length,layAll]
 |succ n ih=>
  intro i st ks hn hi hl hk htot hr
  have hlt:i<e.length:=by omega
  have hx:=hN _ (List.getElem_mem hlt)
  have hx':e[i].N≤9223372036854775807:=by
   simp only[Tr7.inR,xA,yD]at hx
   exact hx.2
  rw[xW hlt,runK]at hr
  have h0:(stepK e[i] s ks).1=0:=by
   by_cases h0:(stepK e[i] s ks).1=0
   ·exact h0
   ·rw[if_neg h0]at hr;exact absurd hr h0
  rw[if_pos h0]at hr
  obtain⟨f1,f2,f3,f4⟩:=step_facts h0
  obtain⟨p,hp⟩:=name_some (s:=s) hx' [] f1 f3
  have htk:takesK e[i].Op≤(st.length:Int):=by rw[hl];exact f2
  have hnm:badN e[i] p=false→p.1.length≤16:=fun hb=>by
   by_cases h:p.1=[]
   ·simp[h]
   ·refine lexN_len ?_
    simp only[badN,Bool.or_eq_false_iff,Bool.and_eq_false_iff]at hb
    rcases hb.1.2 with q |q
    ·simp[h]at q
    ·simpa using q
  rw[turn7 β e s hs st i hlt hlen p hp (fun hb ρ g=>laidx_eq hx (by have:=hnm hb;omega) (fun q hq=>by have:=tot_mem hq;omega) (by omega) htk),xW hlt,layAll,hp]
  simp only
  cases hb:badN e[i] p with
  |true=>simp
  |false=>
   rw[if_neg (by simp),if_neg (by simp)]
   have l1:=lay_len (nm:=p.1) f1 htk
   exact ih (i+1) _ (stepK e[i] s ks).2 (by omega) (by omega) (by rw[l1,f4,hl]) (step_ok0 hk h0) (by have:=lay_tot (x:=e[i]) (st:=st) (hnm hb) f1 htk;omega) hr
theorem layAll_len{s:GScope}:∀{e:List GNode} {st st':List Gpart} {ks:List Int},st.length=ks.length→(runK s e ks).1=0→layAll s e st=some st'→st'.length=(runK s e ks).2.length
 | [],st,st',ks,hl,_,h=>by
  simp only[layAll,xJ]at h
  subst h
  exact hl
 |x::r,st,st',ks,hl,h0,h=>by
  rw[layAll]at h
  rw[runK]at h0 ⊢
  by_cases hx:(stepK x s ks).1=0
  ·rw[if_pos hx]at h0 ⊢
   obtain⟨f1,f2,f3,f4⟩:=step_facts hx
   split at h
   ·split at h
    ·cases h
    ·exact layAll_len (by rw[lay_len f1 (by rw[hl];exact f2),f4,hl]) h0 h
   ·cases h
  ·rw[if_neg hx]at h0;exact absurd h0 hx
def textK(e:List GNode)(s:GScope):List UInt8×Int:=
 if(kindK e s).2≠0 then([],(kindK e s).2)else match layAll s e []with |some (p::_)=>(p.text,0) |some []=>([],0) |none=>([],6)
theorem kind_ok{e:List GNode}{s:GScope}(h:(kindK e s).2=0):e.length≤24∧e≠[]∧(runK s e []).1=0∧(runK s e []).2.length=1:=by
 unfold kindK at h
 split at h;· simp at h
 rename_i h1
 split at h;· simp at h
 rename_i h2
 split at h
 ·rename_i h3;exact absurd h h3
 rename_i h3
 split at h;· simp at h
 rename_i h4
 have h3':(runK s e []).1=0:=by simpa using h3
 have:=(run_ok0 (s:=s) (e:=e) (st:=[]) (by simp) h3').2 h2
 exact⟨by omega,h2,h3',by omega⟩
theorem Text_eq(β:Bool)(e:List GNode)(s:GScope)(hs:Few s)(hN:∀x∈e,Tr7.inR x.N=true){ρ:Type}(κ:List T×List Ob→Option ρ):
  cbK (call 9 [.sl β (List.map eNode e),.agg [.sl β (List.map eScalar s.Scalars),.sl β (List.map eVar s.Vars),.sl β (List.map eChan s.Chans),.sl β (List.map (eProc β) s.Procs),.sl β (List.map eVar s.Locals),.int .i64 s.Self]] []) κ=κ ([.d (.str (textK e s).1),.d (.int .i64 (textK e s).2)],[]):=by
 refine(ge9 _ _ _ rfl).trans ?_
 have hN':∀x∈e,x.N≤9223372036854775807:=fun x hx=>by
  have:=hN x hx
  simp only[Tr7.inR,xA,yD]at this
  exact this.2
 have hk:=fun κ=>Kind_eq (ρ:=ρ) β e s hs.sc hN' κ
 unfold textK
 by_cases h0:(kindK e s).2=0
 ·obtain⟨k1,k2,k3,k4⟩:=kind_ok h0
  have hl:=fun κ=>loop7 (ρ:=ρ) β e s hs hN k1 κ _ 0 [] [] rfl (Nat.zero_le _) rfl (by simp) (by simp[tot]) k3
  simp only[Int.natCast_zero,List.drop_zero,tl_nil,yN]at hl
  cases hla:layAll s e []with
  |none=>
   rw[hla]at hl
   cases β <;>simp -implicitDefEqProofs (maxSteps:=1000000) [go_sem,hk,h0,hl,-List.map_append,-List.map_take,-List.map_drop,-List.map_set]
  |some st=>
   have hlen:=layAll_len rfl k3 hla
   rw[k4]at hlen
   obtain⟨p,rfl⟩:=List.length_eq_one_iff.1 hlen
   rw[hla]at hl
   cases β <;>simp -implicitDefEqProofs (maxSteps:=1000000) [go_sem,hk,h0,hl,-List.map_append,-List.map_take,-List.map_drop,-List.map_set]
 ·cases β <;>simp -implicitDefEqProofs (maxSteps:=1000000) [go_sem,hk,h0,-List.map_append,-List.map_take,-List.map_drop,-List.map_set]
end
end Go.Etx
namespace Go.Etx
open Go Go.Am Go.Proofs
def strK(x:GNode):Int:=if 11≤x.Op∧x.Op≤19 then sgnB x.Op else if x.Op=9∨x.Op=10 then 6 else leafB x
section
variable{ρ:Type}
def decs:Nat→List UInt8
 |0=>[]
 |u+1=>decs ((u+1) / 10)++[UInt8.ofNat (48+(u+1) % 10)]
termination_by u=>u
decreasing_by omega
theorem decs_pos{u:Nat}(h:u≠0):decs u=decs (u / 10)++[UInt8.ofNat (48+u % 10)]:=by
 cases u with
 |zero=>exact absurd rfl h
 |succ u=>rw[decs]
theorem decs_F:∀(k u:Nat),u≠0→u<10 ^ k→decs u=Tr7.decF k u
 |0,u,h,hu=>by simp at hu;exact absurd hu h
 |k+1,u,h,hu=>by
  rw[decs_pos h,Tr7.decF]
  by_cases h10:u<10
  ·rw[if_pos h10,show u / 10=0 by omega,show u % 10=u by omega,decs,List.nil_append]
  ·rw[if_neg h10,decs_F k (u / 10) (by omega) (by rw[Nat.pow_succ]at hu;omega)]
theorem decs_I{n:Int}(h:Tr7.inR n=true):Tr7.decI n=if n=0 then [48]else if n<0 then 45::decs n.natAbs else decs n.natAbs:=by
 simp only[Tr7.inR,xA,yD]at h
 have e20:(10:Nat) ^ 20=100000000000000000000:=by decide
 unfold Tr7.decI
 by_cases h0:n=0
 ·subst h0;rfl
 rw[if_neg h0,decs_F 20 n.natAbs (by omega) (by rw[e20];omega)]
 by_cases hn:n<0
 ·rw[if_pos hn,if_pos hn]
 ·rw[if_neg hn,if_neg hn,show n.toNat=n.natAbs by omega]
end
end Go.Etx
namespace Go.Etx
open Go Go.Am Go.Proofs
inductive Ex where
 |leaf (x:GNode)
 |un (x:GNode) (a:Ex)
 |bin (x:GNode) (a b:Ex)
def Ex.flat:Ex→List GNode
 | .leaf x=>[x]
 | .un x a=>a.flat++[x]
 | .bin x a b=>a.flat++b.flat++[x]
def Ex.top:Ex→GNode
 | .leaf x=>x
 | .un x _=>x
 | .bin x _ _=>x
def Ex.wf:Ex→Prop
 | .leaf x=>takesK x.Op=0
 | .un x a=>takesK x.Op=1∧a.wf
 | .bin x a b=>takesK x.Op=2∧a.wf∧b.wf
def nameN(s:GScope)(x:GNode):List UInt8:=match nameP [] x s with |some p=>p.1 |none=>[]
def partOf(s:GScope):Ex→Gpart
 | .leaf x=>⟨leafT x (nameN s x),x.Op,leafB x⟩
 | .un x a=>if x.Op=3 then⟨nameN s x++91::((partOf s a).text++[93]),3,7⟩
  else if x.Op=9 then⟨33::inB (partOf s a).text (decide ((partOf s a).binds<6)),9,6⟩
  else⟨45::inB (partOf s a).text (decide ((partOf s a).binds<6) || decide ((partOf s a).op=1)),10,6⟩
 | .bin x a b=>⟨joinT x.Op (partOf s a) (partOf s b),x.Op,sgnB x.Op⟩
theorem part_op{s:GScope}{t:Ex}(h:t.wf):(partOf s t).op=t.top.Op:=by
 cases t with
 |leaf x=>rfl
 |un x a=>
  obtain⟨h1,h2⟩:=h
  rcases takes_cases x.Op with⟨e,q⟩ |⟨e,q⟩ |⟨e,q⟩ |⟨e,q⟩
  ·omega
  ·omega
  ·rcases q with q |q |q <;>simp[partOf,Ex.top,q]
  ·omega
 |bin x a b=>rfl
theorem part_binds{s:GScope}{t:Ex}(h:t.wf):(partOf s t).binds=strK t.top:=by
 cases t with
 |leaf x=>
  have h:takesK x.Op=0:=h
  rcases takes_cases x.Op with⟨e,q⟩ |⟨e,q⟩ |⟨e,q⟩ |⟨e,q⟩
  ·omega
  ·show leafB x=strK x
   unfold strK
   rw[if_neg (by omega),if_neg (by omega)]
  ·omega
  ·omega
 |un x a=>
  obtain⟨h1,h2⟩:=h
  rcases takes_cases x.Op with⟨e,q⟩ |⟨e,q⟩ |⟨e,q⟩ |⟨e,q⟩
  ·omega
  ·omega
  ·rcases q with q |q |q <;>simp[partOf,Ex.top,q,strK,leafB]
  ·omega
 |bin x a b=>
  obtain⟨h1,h2⟩:=h
  rcases takes_cases x.Op with⟨e,q⟩ |⟨e,q⟩ |⟨e,q⟩ |⟨e,q⟩
  ·omega
  ·omega
  ·omega
  ·show sgnB x.Op=strK x
   unfold strK
   rw[if_pos q]
def layE(x:GNode)(ts:List Ex):List Ex:=
 if takesK x.Op=0 then ts++[.leaf x]
 else if takesK x.Op=1 then(match ts.getLast? with |some a=>ts.take (ts.length - 1)++[.un x a] |none=>ts)
 else(match ts[ts.length - 2]?,ts.getLast? with |some a,some b=>ts.take (ts.length - 2)++[.bin x a b] |_,_=>ts)
def treesL:List GNode→List Ex→List Ex
 | [],ts=>ts
 |x::r,ts=>treesL r (layE x ts)
theorem last_split{α:Type}{l:List α}(h:1≤l.length):∃m a,l=m++[a]:=⟨l.dropLast,l.getLast (by intro e;subst e;simp at h),(List.dropLast_concat_getLast _).symm⟩
theorem last_split2{α:Type}{l:List α}(h:2≤l.length):∃m a b,l=m++[a,b]:=by
 obtain⟨m,b,rfl⟩:=last_split (l:=l) (by omega)
 obtain⟨m',a,rfl⟩:=last_split (l:=m) (by simp at h;omega)
 exact⟨m',a,b,by simp⟩
theorem layE_1{x:GNode}(h:takesK x.Op=1){m:List Ex}{a:Ex}:layE x (m++[a])=m++[.un x a]:=by
 unfold layE
 rw[if_neg (by omega),if_pos h]
 simp
theorem layE_2{x:GNode}(h:takesK x.Op=2){m:List Ex}{a b:Ex}:layE x (m++[a,b])=m++[.bin x a b]:=by
 unfold layE
 rw[if_neg (by omega),if_neg (by omega)]
 have h1:(m++[a,b])[(m++[a,b]).length - 2]? =some a:=by simp
 have h2:(m++[a,b]).getLast? =some b:=by simp
 rw[h1,h2]
 simp
theorem layE_0{x:GNode}(h:takesK x.Op=0){ts:List Ex}:layE x ts=ts++[.leaf x]:=by unfold layE;rw[if_pos h]
theorem layE_all{x:GNode}{ts:List Ex}(h0:0≤takesK x.Op)(h:takesK x.Op≤(ts.length:Int))(hw:∀t∈ts,t.wf):
  (layE x ts).flatMap Ex.flat=ts.flatMap Ex.flat++[x]∧(∀t∈layE x ts,t.wf)∧(layE x ts).length=ts.length - (takesK x.Op).toNat+1∧∀s,layP x (nameN s x) (ts.map (partOf s))=(layE x ts).map (partOf s):=by
 rcases takes_cases x.Op with⟨e,q⟩ |⟨e,q⟩ |⟨e,q⟩ |⟨e,q⟩
 ·omega
 ·rw[layE_0 e,e]
  refine⟨by simp[Ex.flat],fun t ht=> ?_,by simp,fun s=> ?_⟩
  ·rcases List.mem_append.1 ht with ht |ht
   ·exact hw t ht
   ·simp only[yQ]at ht;subst ht;exact e
  ·unfold layP
   rw[if_neg q.2.2,if_neg (by omega),if_neg (by omega),if_neg (by omega)]
   simp[partOf]
 ·obtain⟨m,a,rfl⟩:=last_split (l:=ts) (by omega)
  rw[layE_1 e,e]
  refine⟨by simp[Ex.flat],fun t ht=> ?_,by simp,fun s=> ?_⟩
  ·rcases List.mem_append.1 ht with ht |ht
   ·exact hw t (by simp[ht])
   ·simp only[yQ]at ht;subst ht;exact⟨e,hw a (by simp)⟩
  ·unfold layP
   rcases q with q |q |q
   ·rw[if_pos q];simp[partOf,q]
   ·rw[if_neg (by omega),if_pos q];simp[partOf,q]
   ·rw[if_neg (by omega),if_neg (by omega),if_pos q];simp[partOf,q]
 ·obtain⟨m,a,b,rfl⟩:=last_split2 (l:=ts) (by omega)
  rw[layE_2 e,e]
  refine⟨by simp[Ex.flat],fun t ht=> ?_,by simp,fun s=> ?_⟩
  ·rcases List.mem_append.1 ht with ht |ht
   ·exact hw t (by simp[ht])
   ·simp only[yQ]at ht;subst ht;exact⟨e,hw a (by simp),hw b (by simp)⟩
  ·unfold layP
   rw[if_neg (by omega),if_neg (by omega),if_neg (by omega),if_pos q]
   have h1:(List.map (partOf s) (m++[a,b]))[(List.map (partOf s) (m++[a,b])).length - 2]? =some (partOf s a):=by simp
   have h2:(List.map (partOf s) (m++[a,b])).getLast? =some (partOf s b):=by simp
   rw[h1,h2]
   simp[partOf]
def badE(s:GScope)(x:GNode):Bool:=match nameP [] x s with |some p=>badN x p |none=>true
theorem trees_all{s:GScope}:∀{e:List GNode} {ts:List Ex} {ks:List Int},(∀x∈e,x.N≤9223372036854775807)→ts.length=ks.length→(∀t∈ts,t.wf)→(runK s e ks).1=0→
  (treesL e ts).flatMap Ex.flat=ts.flatMap Ex.flat++e∧(∀t∈treesL e ts,t.wf)∧(treesL e ts).length=(runK s e ks).2.length∧layAll s e (ts.map (partOf s))=if e.any (badE s)=true then none else some ((treesL e ts).map (partOf s))
 | [],ts,ks,_,hl,hw,_=>⟨by simp[treesL],hw,hl,by simp[treesL,layAll]⟩
 |x::r,ts,ks,hN,hl,hw,h0=>by
  rw[runK]at h0 ⊢
  have hx:(stepK x s ks).1=0:=by
   by_cases hx:(stepK x s ks).1=0
   ·exact hx
   ·rw[if_neg hx]at h0;exact absurd h0 hx
  rw[if_pos hx]at h0 ⊢
  obtain⟨f1,f2,f3,f4⟩:=step_facts hx
  obtain⟨g1,g2,g3,g4⟩:=layE_all (x:=x) (ts:=ts) f1 (by rw[hl];exact f2) hw
  obtain⟨p,hp⟩:=name_some (s:=s) (hN x (by simp)) [] f1 f3
  have hnm:nameN s x=p.1:=by unfold nameN;rw[hp]
  have hbe:badE s x=badN x p:=by unfold badE;rw[hp]
  obtain⟨k1,k2,k3,k4⟩:=trees_all (e:=r) (ts:=layE x ts) (ks:=(stepK x s ks).2) (fun y hy=>hN y (by simp[hy])) (by rw[g3,f4,hl]) g2 h0
  refine⟨by rw[treesL,k1,g1];simp,k2,k3,?_⟩
  rw[layAll,hp]
  simp only
  have g4':=g4 s
  rw[hnm]at g4'
  rw[g4',k4,List.any_cons,hbe,treesL]
  cases badN x p <;>simp
theorem tree_of{e:List GNode}{s:GScope}(hN:∀x∈e,x.N≤9223372036854775807)(h:(kindK e s).2=0):∃t:Ex,treesL e []=[t]∧t.flat=e∧t.wf∧textK e s=if e.any (badE s)=true then([],6)else((partOf s t).text,0):=by
 obtain⟨k1,k2,k3,k4⟩:=kind_ok h
 obtain⟨q1,q2,q3,q4⟩:=trees_all (s:=s) (e:=e) (ts:=[]) (ks:=[]) hN rfl (by simp) k3
 rw[k4]at q3
 obtain⟨t,ht⟩:=List.length_eq_one_iff.1 q3
 rw[ht]at q1 q2 q4
 refine⟨t,ht,by simpa using q1,q2 t (by simp),?_⟩
 unfold textK
 rw[if_neg (by simp[h])]
 simp only[List.map_nil]at q4
 rw[q4]
 by_cases hb:e.any (badE s)=true
 ·rw[if_pos hb,if_pos hb]
 ·rw[if_neg hb,if_neg hb]
  rfl
end Go.Etx
namespace Go.Etx
open Go Go.Am Go.Proofs
def fl(ts:List Ex):Nat:=(ts.flatMap Ex.flat).length
end Go.Etx
namespace Go.Etx
open Go Go.Am Go.Proofs
abbrev dg(b:UInt8):Bool:=digB (bI b)
abbrev pt(b:UInt8):Bool:=partB (bI b)
abbrev K:=Int×List UInt8
def unC(c:UInt8)(r:List UInt8):Option (List K×Option (Int×Nat)×List UInt8):=
 if c=33 then some ([(9,[])],some (6,0),r)
 else if c=40 then some ([],some (1,1),r)
 else if c=45 then(if(r.head?.map dg)=some true then some ([(1,45::r.takeWhile dg)],none,r.dropWhile dg)else some ([(10,[])],some (6,0),r))
 else if dg c=true then some ([(1,(c::r).takeWhile dg)],none,(c::r).dropWhile dg)
 else if((c::r).dropWhile pt).head? =some 91 then some ([(3,(c::r).takeWhile pt)],some (1,1),((c::r).dropWhile pt).tail)
 else if((c::r).dropWhile pt).head? =some 40 then some ([(6,(c::r).takeWhile (fun b=>decide (b≠41)))],none,((c::r).dropWhile (fun b=>decide (b≠41))).tail)
 else some ([(2,(c::r).takeWhile pt)],none,(c::r).dropWhile pt)
def unT:List UInt8→Option (List K×Option (Int×Nat)×List UInt8)
 | []=>none
 |c::r=>unC c r
def opR(r:List UInt8):Option (Int×List UInt8):=(([11,12,13,14,15,16,17,18,19]:List Int).find? fun o=>decide (sgnT o=r.takeWhile (fun b=>decide (b≠32)))).map fun o=>(o,(r.dropWhile (fun b=>decide (b≠32))).tail)
def opAt:List UInt8→Option (Int×List UInt8)
 | []=>none
 |c::r=>if c=32 then opR r else none
def nx(r:List UInt8):Int:=match opAt r with |some p=>sgnB p.1 |none=>0
def rd:Nat→Int→Option (List K)→List UInt8→Option (List K×List UInt8)
 |0,_,_,_=>none
 |n+1,p,none,s=>(unT s).bind fun u=>match u.2.1 with
  |none=>rd n p (some u.1) u.2.2
  |some q=>(rd n q.1 none u.2.2).bind fun y=>rd n p (some (y.1++u.1)) (y.2.drop q.2)
 |n+1,p,some x,r=>match opAt r with
  |some o=>if p≤sgnB o.1 then(rd n (sgnB o.1+1) none o.2).bind fun y=>rd n p (some (x++y.1++[(o.1,[])])) y.2 else some (x,r)
  |none=>some (x,r)
theorem rd_succ:∀{n:Nat} {p:Int} {m:Option (List K)} {s:List UInt8} {v:List K×List UInt8},rd n p m s=some v→rd (n+1) p m s=some v
 |0,_,_,_,_,h=>by simp[rd]at h
 |n+1,p,none,s,v,h=>by
  rw[rd]at h ⊢
  cases hu:unT s with
  |none=>rw[hu]at h;cases h
  |some u=>
   obtain⟨l,o,r⟩:=u
   rw[hu]at h
   simp only[xS]at h ⊢
   cases o with
   |none=>exact rd_succ h
   |some q=>
    simp only[xB]at h ⊢
    obtain⟨y,h1,h2⟩:=h
    exact⟨y,rd_succ h1,rd_succ h2⟩
 |n+1,p,some x,r,v,h=>by
  rw[rd]at h ⊢
  cases ho:opAt r with
  |none=>rw[ho]at h;exact h
  |some o=>
   rw[ho]at h
   simp only at h ⊢
   by_cases hp:p≤sgnB o.1
   ·rw[if_pos hp]at h ⊢
    simp only[xB]at h ⊢
    obtain⟨y,h1,h2⟩:=h
    exact⟨y,rd_succ h1,rd_succ h2⟩
   ·rw[if_neg hp]at h ⊢
    exact h
theorem rd_le{p:Int}{m:Option (List K)}{s:List UInt8}{v:List K×List UInt8}{n n':Nat}(hn:n≤n')(h:rd n p m s=some v):rd n' p m s=some v:=by
 induction hn with
 |refl=>exact h
 |step _ ih=>exact rd_succ ih
def Rd(p:Int)(m:Option (List K))(s:List UInt8)(v:List K×List UInt8):Prop:=∃n,rd n p m s=some v
theorem Rd.uniq{p:Int}{m:Option (List K)}{s:List UInt8}{v v':List K×List UInt8}(h:Rd p m s v)(h':Rd p m s v'):v=v':=by
 obtain⟨n,h⟩:=h
 obtain⟨n',h'⟩:=h'
 have e:=rd_le (Nat.le_max_left n n') h
 rw[rd_le (Nat.le_max_right n n') h']at e
 exact(Option.some.inj e).symm
theorem Rd.leaf{p:Int}{s r:List UInt8}{l:List K}{v:List K×List UInt8}(hu:unT s=some (l,none,r))(h:Rd p (some l) r v):Rd p none s v:=by
 obtain⟨n,h⟩:=h
 exact⟨n+1,by rw[rd,hu];exact h⟩
theorem Rd.sub{p q:Int}{c:Nat}{s r r':List UInt8}{l y:List K}{v:List K×List UInt8}(hu:unT s=some (l,some (q,c),r))(h1:Rd q none r (y,r'))(h2:Rd p (some (y++l)) (r'.drop c) v):Rd p none s v:=by
 obtain⟨n,h1⟩:=h1
 obtain⟨n',h2⟩:=h2
 refine⟨max n n'+1,?_⟩
 rw[rd,hu]
 simp only[xS]
 rw[rd_le (Nat.le_max_left n n') h1,xS]
 exact rd_le (Nat.le_max_right n n') h2
theorem Rd.op{p o:Int}{r r' r2:List UInt8}{x y:List K}{v:List K×List UInt8}(ho:opAt r=some (o,r'))(hp:p≤sgnB o)(h1:Rd (sgnB o+1) none r' (y,r2))(h2:Rd p (some (x++y++[(o,[])])) r2 v):Rd p (some x) r v:=by
 obtain⟨n,h1⟩:=h1
 obtain⟨n',h2⟩:=h2
 refine⟨max n n'+1,?_⟩
 rw[rd,ho]
 simp only
 rw[if_pos hp,rd_le (Nat.le_max_left n n') h1,xS]
 exact rd_le (Nat.le_max_right n n') h2
theorem Rd.done{p:Int}{r:List UInt8}{x:List K}(h:nx r<p):Rd p (some x) r (x,r):=by
 refine⟨1,?_⟩
 rw[rd]
 unfold nx at h
 cases ho:opAt r with
 |none=>rfl
 |some o=>rw[ho]at h;simp only at h ⊢;rw[if_neg (by omega)]
theorem tw{p:UInt8→Bool}{l r:List UInt8}(h:∀b∈l,p b=true)(hr:∀c,r.head? =some c→p c=false):(l++r).takeWhile p=l∧(l++r).dropWhile p=r:=by
 rw[List.takeWhile_append_of_pos h,List.dropWhile_append_of_pos h]
 cases r with
 |nil=>simp
 |cons c r=>have:=hr c rfl;simp[this]
def tok(r:List UInt8):Prop:=∀c,r.head? =some c→c=32∨c=41∨c=93
theorem tok_dg{r:List UInt8}(h:tok r):∀c,r.head? =some c→dg c=false:=fun c hc=>by rcases h c hc with q |q |q <;>(subst q;decide)
theorem tok_pt{r:List UInt8}(h:tok r):∀c,r.head? =some c→pt c=false:=fun c hc=>by rcases h c hc with q |q |q <;>(subst q;decide)
theorem decs_dg:∀(u:Nat),∀b∈decs u,dg b=true:=fun u=>by
 induction u using Nat.strongRecOn with
 |_ u ih=>
  by_cases h0:u=0
  ·subst h0;rw[decs];intro b hb;cases hb
  ·rw[decs_pos h0]
   intro b hb
   rcases List.mem_append.1 hb with hb |hb
   ·exact ih _ (by omega) b hb
   ·simp only[yQ]at hb
    subst hb
    have hm:u % 10<10:=by omega
    have:∀d:Nat,d<10→dg (UInt8.ofNat (48+d))=true:=by decide
    exact this _ hm
def dv(l:List UInt8):Nat:=l.foldl (fun a b=>10 * a+(b.toNat - 48)) 0
theorem dv_decs(u:Nat):dv (decs u)=u:=by
 induction u using Nat.strongRecOn with
 |_ u ih=>
  by_cases h0:u=0
  ·subst h0;rw[decs];rfl
  ·rw[decs_pos h0]
   unfold dv at ih ⊢
   rw[List.foldl_append,ih _ (by omega)]
   have hm:u % 10<10:=by omega
   have:∀d:Nat,d<10→(UInt8.ofNat (48+d)).toNat - 48=d:=by decide
   simp only[List.foldl_cons,List.foldl_nil,this _ hm]
   omega
theorem decs_ne{u:Nat}(h:u≠0):decs u≠[]:=by rw[decs_pos h];simp
theorem decI_cases{n:Int}(h:Tr7.inR n=true):(0≤n∧(∀b∈Tr7.decI n,dg b=true)∧Tr7.decI n≠[]∧dv (Tr7.decI n)=n.natAbs)∨(n<0∧∃l,Tr7.decI n=45::l∧(∀b∈l,dg b=true)∧l≠[]∧dv l=n.natAbs):=by
 rw[decs_I h]
 by_cases h0:n=0
 ·rw[if_pos h0]
  subst h0
  exact .inl ⟨by omega,by decide,by simp,rfl⟩
 rw[if_neg h0]
 by_cases hn:n<0
 ·rw[if_pos hn]
  exact .inr ⟨hn,_,rfl,decs_dg _,decs_ne (by omega),dv_decs _⟩
 ·rw[if_neg hn]
  exact .inl ⟨by omega,decs_dg _,decs_ne (by omega),dv_decs _⟩
def key(s:GScope)(x:GNode):K:=
 if 9≤x.Op then(x.Op,[])else if x.Op=1 then(1,Tr7.decI x.N)else if x.Op=3 then(3,nameN s x)else if 6≤x.Op then(6,(leafT x (nameN s x)).dropLast)else(2,leafT x (nameN s x))
structure Fine(s:GScope)(x:GNode):Prop where
 r:Tr7.inR x.N=true
 n:tellsB x.Op=true→lexN (nameN s x)=true
theorem lexN_parts{nm:List UInt8}(h:lexN nm=true):(∃c l,nm=c::l∧letB (bI c)=true)∧(∀b∈nm,pt b=true)∧nm∉ownL:=by
 simp only[lexN,xA,Bool.not_eq_true',List.all_eq_true,List.contains_eq_mem,decide_eq_false_iff_not]at h
 obtain⟨⟨⟨⟨h1,_⟩,h3⟩,h4⟩,h5⟩:=h
 refine⟨?_,h4,h5⟩
 cases nm with
 |nil=>simp at h1
 |cons c l=>exact⟨c,l,rfl,h3⟩
end Go.Etx
namespace Go.Etx
open Go Go.Am Go.Proofs
def gap:Bool→List UInt8→Nat
 |_,[]=>0
 |true,b::r=>1+gap (decide (b≠10)) r
 |false,b::r=>if b=32∨b=10 then 1+gap false r else if b=35 then 1+gap true r else 0
def twl(q:UInt8→Bool)(s:List UInt8):Nat:=(s.takeWhile q).length
abbrev nl(b:UInt8):Bool:=decide (b≠10)
theorem gap_le:∀(c:Bool) (s:List UInt8),gap c s≤s.length
 |true,[]=>Nat.le_refl _
 |false,[]=>Nat.le_refl _
 |true,b::r=>by have:=gap_le (decide (b≠10)) r;simp only[gap,xZ];omega
 |false,b::r=>by
  simp only[gap,xZ]
  split
  ·have:=gap_le false r;omega
  split
  ·have:=gap_le true r;omega
  ·omega
theorem twl_le(q:UInt8→Bool)(s:List UInt8):twl q s≤s.length:=(List.takeWhile_sublist q).length_le
theorem twl_cons(q:UInt8→Bool)(b:UInt8)(r:List UInt8):twl q (b::r)=if q b=true then 1+twl q r else 0:=by
 unfold twl
 cases h:q b <;>simp[List.takeWhile_cons,h];omega
theorem gap_true:∀(s:List UInt8),gap true s=twl nl s+gap false (s.drop (twl nl s))
 | []=>rfl
 |b::r=>by
  rw[twl_cons]
  by_cases h:b=10
  ·subst h
   simp[gap]
  ·have:=gap_true r
   simp only[gap,nl,ne_eq,h,not_false_eq_true,decide_true,if_true]
   rw[this,Nat.add_comm 1 (twl nl r),List.drop_succ_cons]
   omega
theorem gap_sp{s:List UInt8}{p:Nat}(h:p<s.length)(hb:s[p]=32∨s[p]=10):gap false (s.drop p)=1+gap false (s.drop (p+1)):=by
 rw[xW h,gap,if_pos hb]
theorem gap_hash{s:List UInt8}{p:Nat}(h:p<s.length)(hb:s[p]=35):gap false (s.drop p)=twl nl (s.drop p)+gap false (s.drop (p+twl nl (s.drop p))):=by
 have e:twl nl (s.drop p)=1+twl nl (s.drop (p+1)):=by rw[xW h,twl_cons,hb];rfl
 rw[e,xW h,gap,if_neg (by rw[hb];decide),if_pos hb,gap_true,List.drop_drop]
 rw[show p+1+twl nl (s.drop (p+1))=p+(1+twl nl (s.drop (p+1)))by omega]
 omega
theorem gap_no{s:List UInt8}{p:Nat}(h:p<s.length)(hb:¬(s[p]=32∨s[p]=10))(hc:s[p]≠35):gap false (s.drop p)=0:=by
 rw[xW h,gap,if_neg hb,if_neg hc]
theorem twl_ext{q:UInt8→Bool}{s:List UInt8}:∀(w p:Nat),(∀j,p≤j→j<p+w→∃h:j<s.length,q s[j]=true)→twl q (s.drop p)=w+twl q (s.drop (p+w))
 |0,p,_=>by rw[Nat.zero_add,Nat.add_zero]
 |w+1,p,h=>by
  obtain⟨h1,h2⟩:=h p (Nat.le_refl _) (by omega)
  rw[xW h1,twl_cons,if_pos h2,twl_ext w (p+1) (fun j a b=>h j (by omega) (by omega)),show p+1+w=p+(w+1)by omega]
  omega
theorem twl_stop{q:UInt8→Bool}{s:List UInt8}{p:Nat}(h:p<s.length)(hq:q s[p]=false):twl q (s.drop p)=0:=by
 rw[xW h,twl_cons,hq];rfl
structure OfB(p:Int→Bool)(q:UInt8→Bool):Prop where
 here:∀(s:List UInt8) (i:Nat) (h:i<s.length),p ((rune s i).1:Int)=q s[i]
 more:∀(s:List UInt8) (i:Nat) (h:i<s.length),q s[i]=true→∀j,i≤j→j<i+(rune s i).2→∃h:j<s.length,q s[j]=true
theorem rune_pos(s:List UInt8)(i:Nat):1≤(rune s i).2:=by
 unfold rune Utf8.decode
 simp only
 repeat' split
 all_goals simp
theorem ofb_lo{p:Int→Bool}{q:UInt8→Bool}(h:∀b:UInt8,b.toNat<128→p (bI b)=q b)(hp:∀n:Int,128≤n→p n=false)(hq:∀b:UInt8,128≤b.toNat→q b=false):OfB p q:=by
 refine⟨fun s i hi=> ?_,fun s i hi hh j h1 h2=> ?_⟩
 ·by_cases hb:s[i].toNat<128
  ·rw[rune_lo hi hb];exact h _ hb
  ·rw[hq _ (by omega),hp _ (by have:=rune_hi hi (by omega);omega)]
 ·by_cases hb:s[i].toNat<128
  ·rw[rune_lo hi hb]at h2
   obtain rfl:j=i:=by simp only at h2;omega
   exact⟨hi,hh⟩
  ·rw[hq _ (by omega)]at hh;cases hh
theorem ofb_part:OfB partB pt:=ofb_lo (fun _ _=>rfl) (fun n h=>by simp only[partB,letB,digB,Bool.or_eq_false_iff,decide_eq_false_iff_not];omega) (fun b h=>by
 simp only[pt,partB,letB,digB,bI,Bool.or_eq_false_iff]
 exact⟨⟨⟨decide_eq_false (by omega),decide_eq_false (by omega)⟩,decide_eq_false (by omega)⟩,decide_eq_false (by omega)⟩)
theorem ofb_dig:OfB digB dg:=ofb_lo (fun _ _=>rfl) (fun n h=>by simp only[digB,decide_eq_false_iff_not];omega) (fun b h=>by
 simp only[dg,digB,bI]
 exact decide_eq_false (by omega))
theorem cont_ne{s:List UInt8}{i k:Nat}(h:((decide (i+k<(⟨s.toArray⟩:ByteArray).size)&&((⟨s.toArray⟩:ByteArray).get! (i+k)).toNat / 64==2)=true)):∃h:i+k<s.length,nl s[i+k]=true:=by
 simp only[xA,yD,beq_iff_eq]at h
 obtain⟨h1,h2⟩:=h
 have h1:i+k<s.length:=h1
 refine⟨h1,?_⟩
 have e:((⟨s.toArray⟩:ByteArray).get! (i+k))=s[i+k]:=get0 h1
 rw[e]at h2
 refine decide_eq_true fun q=> ?_
 rw[q]at h2
 exact absurd h2 (by decide)
theorem ofb_nl:OfB (fun n=> !decide (n=10)) nl:=by
 refine⟨fun s i hi=> ?_,fun s i hi hh j h1 h2=> ?_⟩
 ·by_cases hb:s[i].toNat<128
  ·rw[rune_lo hi hb]
   by_cases h:s[i]=10
   ·simp[nl,h]
   ·have:¬(s[i].toNat:Int)=10:=fun e=>h (UInt8.toNat_inj.1 (by rw[show((10:UInt8).toNat)=10 from rfl];omega))
    simp[nl,h,this]
  ·have:=rune_hi hi (by omega)
   have h1:¬((rune s i).1:Int)=10:=by omega
   have h2:¬s[i]=10:=fun e=>by rw[e]at hb;exact hb (by decide)
   simp[nl,h1,h2]
 ·have key:∀k,k<(rune s i).2→∃h:i+k<s.length,nl s[i+k]=true:=by
   intro k hk
   by_cases k0:k=0
   ·subst k0;exact⟨hi,hh⟩
   revert hk
   unfold rune Utf8.decode
   simp only
   repeat' split
   all_goals intro hk
   all_goals first
    |(simp only[]at hk;omega)
    |skip
   all_goals (rename_i hc _;simp only[xA]at hc)
   ·obtain rfl:k=1:=by simp only at hk;omega
    exact cont_ne (by simpa using hc.2)
   ·have:k=1∨k=2:=by simp only at hk;omega
    rcases this with rfl |rfl
    ·exact cont_ne (by simpa using hc.1.2)
    ·exact cont_ne (by simpa using hc.2)
   ·have:k=1∨k=2∨k=3:=by simp only at hk;omega
    rcases this with rfl |rfl |rfl
    ·exact cont_ne (by simpa using hc.1.1.2)
    ·exact cont_ne (by simpa using hc.1.2)
    ·exact cont_ne (by simpa using hc.2)
  obtain⟨k,rfl⟩:∃k,j=i+k:=⟨j - i,by omega⟩
  exact key k (by omega)
def oneK(s:List UInt8):Int×Glex_Token:=
 if 0<twl pt s∧letB (bI (s.headD 0))=true then(if 16<twl pt s then(6,⟨0,0,0,[]⟩)else(0,⟨1,0,0,s.take (twl pt s)⟩))
 else if 0<twl dg s then(if(Tr7.numF (s.take (twl dg s))).2=true then(0,⟨2,(Tr7.numF (s.take (twl dg s))).1,0,s.take (twl dg s)⟩)else(10,⟨0,0,0,[]⟩))
 else match sgL.find? fun x=>x.isPrefixOf s with
  |some x=>(0,⟨3,0,0,x⟩)
  |none=>(13,⟨0,0,0,[]⟩)
def scanL:Nat→List UInt8→Nat→List Glex_Token→List Glex_Token×Int×Int
 |0,_,_,_=>([],0,1)
 |n+1,s,p,out=>
  if p<s.length then
   (if 6000≤out.length then([],(p:Int),11)
    else if(oneK (s.drop p)).1=0 then scanL n s (p+(oneK (s.drop p)).2.Text.length+gap false (s.drop (p+(oneK (s.drop p)).2.Text.length))) (out++[⟨(oneK (s.drop p)).2.Kind,(oneK (s.drop p)).2.N,(p:Int),(oneK (s.drop p)).2.Text⟩])
    else([],(p:Int),(oneK (s.drop p)).1))
  else(out,0,0)
def scanK(s:List UInt8):List Glex_Token×Int×Int:=if 20000<s.length then([],0,5)else scanL (s.length+1) s (gap false s) []
theorem sgL_ne{x:List UInt8}(h:x∈sgL):1≤x.length∧x.length≤2:=by
 have:∀x∈sgL,1≤x.length∧x.length≤2:=by decide
 exact this x h
theorem numF_inR(s:List UInt8):Tr7.inR (Tr7.numF s).1=true:=by
 unfold Tr7.numF
 split
 ·split
  ·rename_i v _ h
   simp only[xA,Tr7.inB,yD]at h
   simp only[Tr7.inR,xA,yD]
   omega
  ·rfl
 ·rfl
theorem one_ok{s:List UInt8}(h:(oneK s).1=0):1≤(oneK s).2.Text.length∧(oneK s).2.Text.length≤s.length∧Tr7.inR (oneK s).2.N=true:=by
 unfold oneK at h ⊢
 split at h
 ·rename_i c
  rw[if_pos c]
  split at h
  ·cases h
  ·rename_i c2
   rw[if_neg c2]
   have:=twl_le pt s
   simp only[yR]
   exact⟨by omega,by omega,rfl⟩
 ·rename_i c
  rw[if_neg c]
  split at h
  ·rename_i c2
   rw[if_pos c2]
   split at h
   ·rename_i c3
    rw[if_pos c3]
    have:=twl_le dg s
    simp only[yR]
    exact⟨by omega,by omega,numF_inR _⟩
   ·cases h
  ·rename_i c2
   rw[if_neg c2]
   split at h
   ·rename_i x hx
    have h1:=sgL_ne (List.mem_of_find?_eq_some hx)
    have h2:=List.find?_some hx
    have h3:=(List.isPrefixOf_iff_prefix.1 h2).length_le
    exact⟨h1.1,h3,rfl⟩
   ·cases h
theorem scan_ok{s:List UInt8}:∀(n p:Nat) (out:List Glex_Token),s.length<p+n→p≤s.length→out.length≤p→(∀x∈out,Tr7.inR x.N=true)→
  (scanL n s p out).1.length≤s.length∧∀x∈(scanL n s p out).1,Tr7.inR x.N=true
 |0,p,out,h,hp,_,_=>by omega
 |n+1,p,out,h,hp,ho,hr=>by
  rw[scanL]
  split
  ·rename_i hlt
   split
   ·exact⟨Nat.zero_le _,fun x hx=>by cases hx⟩
   split
   ·rename_i h1
    obtain⟨a,b,c⟩:=one_ok h1
    rw[List.length_drop]at b
    have hg:=gap_le false (s.drop (p+(oneK (s.drop p)).2.Text.length))
    rw[List.length_drop]at hg
    refine scan_ok n _ _ (by omega) (by omega) (by rw[xP,List.length_singleton];omega) fun x hx=> ?_
    rcases List.mem_append.1 hx with q |q
    ·exact hr x q
    ·rw[yQ]at q;subst q;exact c
   ·exact⟨Nat.zero_le _,fun x hx=>by cases hx⟩
  ·exact⟨by show out.length≤_;omega,hr⟩
end Go.Etx
namespace Go.Etx
open Go Go.Am Go.Proofs
structure Rdr where
 l:List Glex_Token
 stop:Int
 s:GScope
 pos:Nat
 place:Int
 e:Int
 out:List GNode
abbrev tok0:Glex_Token:=⟨0,0,0,[]⟩
namespace Rdr
def now(r:Rdr):Glex_Token:=(r.l[r.pos]?).getD tok0
def fail(x:Int)(r:Rdr):Rdr:=if r.e=0 then{r with e:=x,place:=match r.l[r.pos]? with |some t=>t.At |none=>r.stop}else r
def is(k:Int)(t:List UInt8)(r:Rdr):Bool:=decide (r.e=0)&&(decide (r.now.Kind=k)&&decide (r.now.Text=t))
def step(r:Rdr):Rdr:={r with pos:=r.pos+1}
def take(t:List UInt8)(r:Rdr):Rdr:=if r.is 3 t=true then r.step else r.fail 3
def put(op n:Int)(r:Rdr):Rdr:=if r.e=0 then{r with out:=r.out++[⟨op,n⟩]}else r
def kind(k:Int)(r:Rdr):Glex_Token×Rdr:=if r.e=0∧r.now.Kind=k then(r.now,r.step)else(tok0,r.fail 3)
def found(look:List UInt8→Int)(r:Rdr):Int×Rdr:=if r.e=0∧r.now.Kind=1 then(if look r.now.Text<0 then(0,r.fail 8)else(look r.now.Text,r.step))else(0,r.fail 3)
def length(r:Rdr):Rdr:=let p:=(r.take [40]).found (fun nm=>fidx (pC nm) r.s.Chans);(p.2.take [41]).put 6 p.1
def nothing(r:Rdr):Rdr:=let p:=(r.take [40]).found (fun nm=>fidx (pS nm) r.s.Scalars);(p.2.take [41]).put 8 p.1
def wide(r:Rdr):Rdr:=if r.e=0∧r.now.Kind=2∧16≤r.now.N then r.fail 10 else r
def whereA(r:Rdr):Rdr:=((r.take [40]).found (fun nm=>fidx (pP nm) r.s.Procs)).2.take [44]
def whereI(r:Rdr):Int:=((r.take [40]).found (fun nm=>fidx (pP nm) r.s.Procs)).1
def whereR(r:Rdr):Rdr:=((r.whereA.wide.kind 2).2.take [41]).put 7 (w64 (w64 (16 * r.whereI)+(r.whereA.wide.kind 2).1.N))
end Rdr
def opK(t:List UInt8)(b:Int):Option Int:=([11,12,13,14,15,16,17,18,19]:List Int).find? fun o=>decide (sgnT o=t∧sgnB o=b)
def standsK(s:GScope)(nm:List UInt8):Int×Int:=if 0≤fidx (pV nm) s.Locals then(4,fidx (pV nm) s.Locals)else if 0≤fidx (pV nm) s.Vars then(2,fidx (pV nm) s.Vars)else(0,-1)
inductive Md where
 |level (b:Int)
 |rest (b:Int)
 |strong
 |leaf
 |word
def rdK:Nat→Md→Rdr→Option Rdr
 |0,_,_=>none
 |n+1,.level b,r=>if b=6 then rdK n .strong r else if b=7 then rdK n .leaf r else(rdK n (.level (b+1)) r).bind (rdK n (.rest b))
 |n+1,.rest b,r=>if r.e=0 then(match opK r.now.Text b with
   |none=>some r
   |some o=>if r.now.Kind=3 then(rdK n (.level (b+1)) r.step).bind fun r1=>if b=3 then some (r1.put o 0)else rdK n (.rest b) (r1.put o 0)else some r)else some r
 |n+1,.strong,r=>if r.is 3 [33]=true then(rdK n .strong r.step).map (Rdr.put 9 0)
   else if r.is 3 [45]=true then(if r.step.now.Kind=2 then some (r.step.step.put 1 (w64 (-r.step.now.N)))else(rdK n .strong r.step).map (Rdr.put 10 0))
   else rdK n .leaf r
 |n+1,.leaf,r=>if r.e=0 then(if r.now.Kind=2 then some (r.step.put 1 r.now.N)else if r.is 3 [40]=true then(rdK n (.level 1) r.step).map (Rdr.take [41])else if r.now.Kind=1 then rdK n .word r else some (r.fail 3))else some r
 |n+1,.word,r=>
  if r.now.Text=[115,101,108,102]then some (r.step.put 5 0)
  else if r.now.Text=[108,101,110]then some r.step.length
  else if r.now.Text=[97,116]then some r.step.whereR
  else if r.now.Text=[110,111,110,101]then some r.step.nothing
  else if(standsK r.s r.now.Text).1=0 then some (r.fail 8)
  else if(standsK r.s r.now.Text).1=2∧r.step.is 3 [91]=true then(rdK n (.level 1) r.step.step).map fun r1=>(r1.take [93]).put 3 (standsK r.s r.now.Text).2
  else some (r.step.put (standsK r.s r.now.Text).1 (standsK r.s r.now.Text).2)
end Go.Etx
namespace Go.Etx
open Go Go.Am Go.Proofs
set_option maxHeartbeats 4000000
set_option maxRecDepth 20000
noncomputable section
abbrev rdT(r:Rdr):T:=.agg [.d (.sl false (List.map elex_Token r.l)),.d (.int .i64 r.stop),.d (.sl false (List.map eScalar r.s.Scalars)),.d (.sl false (List.map eVar r.s.Vars)),.d (.sl false (List.map eChan r.s.Chans)),.d (.sl false (List.map (eProc false) r.s.Procs)),.d (.sl false (List.map eVar r.s.Locals)),.d (.int .i64 r.s.Self),
 .d (.int .i64 (r.pos:Int)),.d (.int .i64 r.place),.d (.int .i64 r.e),.own (tl eNode r.out)]
@[go_sem] theorem fold_step(r:Rdr):T.agg [.d (.sl false (List.map elex_Token r.l)),.d (.int .i64 r.stop),.d (.sl false (List.map eScalar r.s.Scalars)),.d (.sl false (List.map eVar r.s.Vars)),.d (.sl false (List.map eChan r.s.Chans)),.d (.sl false (List.map (eProc false) r.s.Procs)),.d (.sl false (List.map eVar r.s.Locals)),.d (.int .i64 r.s.Self),
 .d (.int .i64 ((r.pos:Int)+1)),.d (.int .i64 r.place),.d (.int .i64 r.e),.own (tl eNode r.out)]=rdT r.step:=rfl
theorem step_pos(r:Rdr):r.step.pos=r.pos+1:=rfl
theorem step_l(r:Rdr):r.step.l=r.l:=rfl
theorem step_s(r:Rdr):r.step.s=r.s:=rfl
theorem tt{p:Prop}(h:p):p=True:=eq_true h
theorem ff{p:Prop}(h:¬p):p=False:=eq_false h
variable{ρ:Type}
theorem now_w(r:Rdr)(hp:r.pos<4611686018427387904)(M:List Ob)(κ:KT ρ):cbK (call 110 [.ptr 0] (.box (rdT r)::M)) κ=κ ([.d (.agg [.int .i64 r.now.Kind,.int .i64 r.now.N,.int .i64 r.now.At,.str r.now.Text])],.box (rdT r)::M):=by
 refine(ge110 _ _ _ rfl).trans ?_
 unfold Rdr.now
 by_cases h:r.pos<r.l.length
 ·have h1:(r.pos:Int)<(r.l.length:Int):=by omega
  have h2:r.l[r.pos]? =some r.l[r.pos]:=xG h
  rw[h2,Option.getD_some]
  simp -implicitDefEqProofs (maxSteps:=1000000) [go_sem,h1,h2,-List.map_append,-List.map_take,-List.map_drop,-List.map_set]
 ·have h1:¬(r.pos:Int)<(r.l.length:Int):=by omega
  have h2:r.l[r.pos]? =none:=List.getElem?_eq_none (by omega)
  rw[h2]
  simp -implicitDefEqProofs (maxSteps:=1000000) [go_sem,h1,-List.map_append,-List.map_take,-List.map_drop,-List.map_set]
theorem fail_w(r:Rdr)(hp:r.pos<4611686018427387904)(x:Int)(M:List Ob)(κ:KT ρ):cbK (call 17 [.ptr 0,.int .i64 x] (.box (rdT r)::M)) κ=κ ([],.box (rdT (r.fail x))::M):=by
 refine(ge17 _ _ _ rfl).trans ?_
 unfold Rdr.fail
 by_cases h0:r.e=0
 ·by_cases h:r.pos<r.l.length
  ·have h1:(r.pos:Int)<(r.l.length:Int):=by omega
   have h2:r.l[r.pos]? =some r.l[r.pos]:=xG h
   rw[if_pos h0,h2]
   simp -implicitDefEqProofs (maxSteps:=1000000) [go_sem,h0,h1,h2,-List.map_append,-List.map_take,-List.map_drop,-List.map_set]
  ·have h1:¬(r.pos:Int)<(r.l.length:Int):=by omega
   have h2:r.l[r.pos]? =none:=List.getElem?_eq_none (by omega)
   rw[if_pos h0,h2]
   simp -implicitDefEqProofs (maxSteps:=1000000) [go_sem,h0,h1,-List.map_append,-List.map_take,-List.map_drop,-List.map_set]
 ·rw[if_neg h0]
  simp -implicitDefEqProofs (maxSteps:=1000000) [go_sem,h0,-List.map_append,-List.map_take,-List.map_drop,-List.map_set]
theorem is_w(r:Rdr)(hp:r.pos<4611686018427387904)(k:Int)(t:List UInt8)(M:List Ob)(κ:KT ρ):cbK (call 108 [.ptr 0,.int .i64 k,.str t] (.box (rdT r)::M)) κ=κ ([.d (.bool (r.is k t))],.box (rdT r)::M):=by
 refine(ge108 _ _ _ rfl).trans ?_
 have hn:=fun M κ=>now_w (ρ:=ρ) r hp M κ
 unfold Rdr.is
 by_cases h0:r.e=0 <;>by_cases h1:r.now.Kind=k <;>by_cases h2:r.now.Text=t <;>
  simp -implicitDefEqProofs (maxSteps:=1000000) [go_sem,hn,h0,h1,h2,-List.map_append,-List.map_take,-List.map_drop,-List.map_set]
theorem take_w(r:Rdr)(hp:r.pos<4611686018427387904)(t:List UInt8)(M:List Ob)(κ:KT ρ):cbK (call 111 [.ptr 0,.str t] (.box (rdT r)::M)) κ=κ ([],.box (rdT (r.take t))::M):=by
 refine(ge111 _ _ _ rfl).trans ?_
 have hi:=fun k t M κ=>is_w (ρ:=ρ) r hp k t M κ
 have hf:=fun x M κ=>fail_w (ρ:=ρ) r hp x M κ
 have hw:IntKind.i64.wrap ((r.pos:Int)+1)=(r.pos:Int)+1:=wrap_i64 (by omega) (by omega)
 unfold Rdr.take
 by_cases h:r.is 3 t=true
 ·rw[if_pos h]
  simp -implicitDefEqProofs (maxSteps:=1000000) [go_sem,hi,h,hw,-List.map_append,-List.map_take,-List.map_drop,-List.map_set]
 ·rw[if_neg h]
  simp -implicitDefEqProofs (maxSteps:=1000000) [go_sem,hi,h,hf,-List.map_append,-List.map_take,-List.map_drop,-List.map_set]
theorem kind_w(r:Rdr)(hp:r.pos<4611686018427387904)(k:Int)(M:List Ob)(κ:KT ρ):cbK (call 148 [.ptr 0,.int .i64 k] (.box (rdT r)::M)) κ=κ ([.d (.agg [.int .i64 (r.kind k).1.Kind,.int .i64 (r.kind k).1.N,.int .i64 (r.kind k).1.At,.str (r.kind k).1.Text])],.box (rdT (r.kind k).2)::M):=by
 refine(ge148 _ _ _ rfl).trans ?_
 have hn:=fun M κ=>now_w (ρ:=ρ) r hp M κ
 have hf:=fun x M κ=>fail_w (ρ:=ρ) r hp x M κ
 have hw:IntKind.i64.wrap ((r.pos:Int)+1)=(r.pos:Int)+1:=wrap_i64 (by omega) (by omega)
 unfold Rdr.kind
 by_cases h0:r.e=0∧r.now.Kind=k
 ·rw[if_pos h0]
  have h1:=tt h0.1
  have h2:=tt h0.2
  simp -implicitDefEqProofs (maxSteps:=1000000) [go_sem,hn,hf,hw,h1,h2,-List.map_append,-List.map_take,-List.map_drop,-List.map_set]
 ·rw[if_neg h0]
  by_cases h1:r.e=0
  ·have h2:=ff (fun h2=>h0 ⟨h1,h2⟩)
   have h1:=tt h1
   simp -implicitDefEqProofs (maxSteps:=1000000) [go_sem,hn,hf,hw,h1,h2,-List.map_append,-List.map_take,-List.map_drop,-List.map_set]
  ·have h1:=ff h1
   simp -implicitDefEqProofs (maxSteps:=1000000) [go_sem,hn,hf,hw,h1,-List.map_append,-List.map_take,-List.map_drop,-List.map_set]
theorem put_w(r:Rdr)(ho:r.out.length<1099511627776)(op n:Int)(M:List Ob)(κ:KT ρ):cbK (call 109 [.ptr 0,.int .i64 op,.int .i64 n] (.box (rdT r)::M)) κ=κ ([],.box (rdT (r.put op n))::M):=by
 refine(ge109 _ _ _ rfl).trans ?_
 have h1:(r.out.length+1) * 16≤140737488355328∧r.out.length≤9223372036854775806:=by omega
 unfold Rdr.put
 by_cases h0:r.e=0
 ·rw[if_pos h0]
  have h0:=tt h0
  simp -implicitDefEqProofs (maxSteps:=1000000) [go_sem,h0,h1,-List.map_append,-List.map_take,-List.map_drop,-List.map_set]
 ·rw[if_neg h0]
  have h0:=ff h0
  simp -implicitDefEqProofs (maxSteps:=1000000) [go_sem,h0,-List.map_append,-List.map_take,-List.map_drop,-List.map_set]
theorem put_s(r:Rdr)(op n:Int):(r.put op n).s=r.s:=by unfold Rdr.put;split <;>rfl
theorem put_pos(r:Rdr)(op n:Int):(r.put op n).pos=r.pos:=by unfold Rdr.put;split <;>rfl
theorem fail_pos(r:Rdr)(x:Int):(r.fail x).pos=r.pos:=by unfold Rdr.fail;split <;>rfl
theorem fail_s(r:Rdr)(x:Int):(r.fail x).s=r.s:=by unfold Rdr.fail;split <;>rfl
theorem fail_out(r:Rdr)(x:Int):(r.fail x).out=r.out:=by unfold Rdr.fail;split <;>rfl
theorem take_pos(r:Rdr)(t:List UInt8):(r.take t).pos≤r.pos+1:=by unfold Rdr.take;split;exact Nat.le_refl _;rw[fail_pos];omega
theorem take_s(r:Rdr)(t:List UInt8):(r.take t).s=r.s:=by unfold Rdr.take;split;rfl;exact fail_s r 3
theorem take_out(r:Rdr)(t:List UInt8):(r.take t).out=r.out:=by unfold Rdr.take;split;rfl;exact fail_out r 3
theorem found_pos(r:Rdr)(l:List UInt8→Int):(r.found l).2.pos≤r.pos+1:=by
 unfold Rdr.found
 split
 ·split
  ·simp only[fail_pos];omega
  ·exact Nat.le_refl _
 ·simp only[fail_pos];omega
theorem found_out(r:Rdr)(l:List UInt8→Int):(r.found l).2.out=r.out:=by
 unfold Rdr.found
 split
 ·split
  ·exact fail_out r 8
  ·rfl
 ·exact fail_out r 3
theorem kind_pos(r:Rdr)(k:Int):(r.kind k).2.pos≤r.pos+1:=by
 unfold Rdr.kind
 split
 ·exact Nat.le_refl _
 ·simp only[fail_pos];omega
theorem kind_out(r:Rdr)(k:Int):(r.kind k).2.out=r.out:=by
 unfold Rdr.kind
 split
 ·rfl
 ·exact fail_out r 3
theorem wide_pos(r:Rdr):r.wide.pos=r.pos:=by unfold Rdr.wide;split;exact fail_pos r 10;rfl
theorem wide_out(r:Rdr):r.wide.out=r.out:=by unfold Rdr.wide;split;exact fail_out r 10;rfl
theorem now_ro(r:Rdr)(hp:r.pos<4611686018427387904)(κ:KT ρ):cbK (call 110 [.rptr [.sl true (List.map elex_Token r.l),.int .i64 r.stop,.sl true (List.map eScalar r.s.Scalars),.sl true (List.map eVar r.s.Vars),.sl true (List.map eChan r.s.Chans),.sl true (List.map (eProc true) r.s.Procs),.sl true (List.map eVar r.s.Locals),.int .i64 r.s.Self,.int .i64 (r.pos:Int),.int .i64 r.place,.int .i64 r.e,.sl true (List.map eNode r.out)]] []) κ=κ ([.d (.agg [.int .i64 r.now.Kind,.int .i64 r.now.N,.int .i64 r.now.At,.str r.now.Text])],[]):=by
 refine(ge110 _ _ _ rfl).trans ?_
 unfold Rdr.now
 by_cases h:r.pos<r.l.length
 ·have h1:(r.pos:Int)<(r.l.length:Int):=by omega
  have h2:r.l[r.pos]? =some r.l[r.pos]:=xG h
  rw[h2,Option.getD_some]
  simp -implicitDefEqProofs (maxSteps:=1000000) [go_sem,h1,h2,-List.map_append,-List.map_take,-List.map_drop,-List.map_set]
 ·have h1:¬(r.pos:Int)<(r.l.length:Int):=by omega
  have h2:r.l[r.pos]? =none:=List.getElem?_eq_none (by omega)
  rw[h2]
  simp -implicitDefEqProofs (maxSteps:=1000000) [go_sem,h1,-List.map_append,-List.map_take,-List.map_drop,-List.map_set]
theorem found_w(r:Rdr)(hp:r.pos<4611686018427387904)(g:Nat)(lk:List UInt8→Int)(hg:g<1099511627776)(hx:extOf P g=none)
  (hl:∀(κ:KT ρ),cbK (call g [.str r.now.Text,.agg [.sl false (List.map eScalar r.s.Scalars),.sl false (List.map eVar r.s.Vars),.sl false (List.map eChan r.s.Chans),.sl false (List.map (eProc false) r.s.Procs),.sl false (List.map eVar r.s.Locals),.int .i64 r.s.Self]] []) κ=κ ([.d (.int .i64 (lk r.now.Text))],[]))
  (M:List Ob) (κ:KT ρ):cbK (call 147 [.ptr 0,.fn (.func g) [] []] (.box (rdT r)::M)) κ=κ ([.d (.int .i64 (r.found lk).1)],.box (rdT (r.found lk).2)::M):=by
 refine(ge147 _ _ _ rfl).trans ?_
 have hn:=fun M κ=>now_w (ρ:=ρ) r hp M κ
 have hr:=fun κ=>now_ro (ρ:=ρ) r hp κ
 have hf:=fun x M κ=>fail_w (ρ:=ρ) r hp x M κ
 have hw:IntKind.i64.wrap ((r.pos:Int)+1)=(r.pos:Int)+1:=wrap_i64 (by omega) (by omega)
 unfold Rdr.found
 by_cases h0:r.e=0∧r.now.Kind=1
 ·rw[if_pos h0]
  have h1:=tt h0.1
  have h2:=tt h0.2
  by_cases h3:lk r.now.Text<0
  ·simp -implicitDefEqProofs (maxSteps:=1000000) [go_sem,mapO,roD,hr,hn,hf,hl,hg,hx,hw,h1,h2,h3,-List.map_append,-List.map_take,-List.map_drop,-List.map_set]
  ·simp -implicitDefEqProofs (maxSteps:=1000000) [go_sem,mapO,roD,hr,hn,hf,hl,hg,hx,hw,h1,h2,h3,-List.map_append,-List.map_take,-List.map_drop,-List.map_set]
 ·rw[if_neg h0]
  by_cases h1:r.e=0
  ·have h2:=ff (fun h2=>h0 ⟨h1,h2⟩)
   have h1:=tt h1
   simp -implicitDefEqProofs (maxSteps:=1000000) [go_sem,hn,hf,hw,h1,h2,-List.map_append,-List.map_take,-List.map_drop,-List.map_set]
  ·have h1:=ff h1
   simp -implicitDefEqProofs (maxSteps:=1000000) [go_sem,hn,hf,hw,h1,-List.map_append,-List.map_take,-List.map_drop,-List.map_set]
abbrev LK(g:Nat)(s:GScope)(lk:List UInt8→Int)(ρ:Type):Prop:=∀(nm:List UInt8) (κ:KT ρ),cbK (call g [.str nm,.agg [.sl false (List.map eScalar s.Scalars),.sl false (List.map eVar s.Vars),.sl false (List.map eChan s.Chans),.sl false (List.map (eProc false) s.Procs),.sl false (List.map eVar s.Locals),.int .i64 s.Self]] []) κ=κ ([.d (.int .i64 (lk nm))],[])
theorem length_w(r:Rdr)(hp:r.pos<4611686018427387000)(ho:r.out.length<1099511627776)(hl:LK 41 r.s (fun nm=>fidx (pC nm) r.s.Chans) ρ)(M:List Ob)(κ:KT ρ):cbK (call 135 [.ptr 0] (.box (rdT r)::M)) κ=κ ([],.box (rdT r.length)::M):=by
 refine(ge135 _ _ _ rfl).trans ?_
 have p1:=take_pos r [40]
 have p2:=found_pos (r.take [40]) (fun nm=>fidx (pC nm) r.s.Chans)
 have p3:=take_pos ((r.take [40]).found (fun nm=>fidx (pC nm) r.s.Chans)).2 [41]
 have s1:=fun M κ=>take_w (ρ:=ρ) r (by omega) [40] M κ
 have s2:=fun M κ=>found_w (ρ:=ρ) (r.take [40]) (by omega) 41 (fun nm=>fidx (pC nm) r.s.Chans) (by decide) (by simp[go_sem]) (by rw[take_s];exact hl _) M κ
 have s3:=fun M κ=>take_w (ρ:=ρ) ((r.take [40]).found (fun nm=>fidx (pC nm) r.s.Chans)).2 (by omega) [41] M κ
 have s4:=fun op n M κ=>put_w (ρ:=ρ) (((r.take [40]).found (fun nm=>fidx (pC nm) r.s.Chans)).2.take [41]) (by rw[take_out,found_out,take_out];exact ho) op n M κ
 unfold Rdr.length
 simp -implicitDefEqProofs (maxSteps:=1000000) [go_sem,s1,s2,s3,s4,-List.map_append,-List.map_take,-List.map_drop,-List.map_set]
theorem nothing_w(r:Rdr)(hp:r.pos<4611686018427387000)(ho:r.out.length<1099511627776)(hl:LK 43 r.s (fun nm=>fidx (pS nm) r.s.Scalars) ρ)(M:List Ob)(κ:KT ρ):cbK (call 137 [.ptr 0] (.box (rdT r)::M)) κ=κ ([],.box (rdT r.nothing)::M):=by
 refine(ge137 _ _ _ rfl).trans ?_
 have p1:=take_pos r [40]
 have p2:=found_pos (r.take [40]) (fun nm=>fidx (pS nm) r.s.Scalars)
 have p3:=take_pos ((r.take [40]).found (fun nm=>fidx (pS nm) r.s.Scalars)).2 [41]
 have s1:=fun M κ=>take_w (ρ:=ρ) r (by omega) [40] M κ
 have s2:=fun M κ=>found_w (ρ:=ρ) (r.take [40]) (by omega) 43 (fun nm=>fidx (pS nm) r.s.Scalars) (by decide) (by simp[go_sem]) (by rw[take_s];exact hl _) M κ
 have s3:=fun M κ=>take_w (ρ:=ρ) ((r.take [40]).found (fun nm=>fidx (pS nm) r.s.Scalars)).2 (by omega) [41] M κ
 have s4:=fun op n M κ=>put_w (ρ:=ρ) (((r.take [40]).found (fun nm=>fidx (pS nm) r.s.Scalars)).2.take [41]) (by rw[take_out,found_out,take_out];exact ho) op n M κ
 unfold Rdr.nothing
 simp -implicitDefEqProofs (maxSteps:=1000000) [go_sem,s1,s2,s3,s4,-List.map_append,-List.map_take,-List.map_drop,-List.map_set]
theorem self_w(r:Rdr)(ho:r.out.length<1099511627776)(M:List Ob)(κ:KT ρ):cbK (call 134 [.ptr 0] (.box (rdT r)::M)) κ=κ ([],.box (rdT (r.put 5 0))::M):=by
 refine(ge134 _ _ _ rfl).trans ?_
 have s4:=fun op n M κ=>put_w (ρ:=ρ) r ho op n M κ
 simp -implicitDefEqProofs (maxSteps:=1000000) [go_sem,s4,-List.map_append,-List.map_take,-List.map_drop,-List.map_set]
theorem where_w(r:Rdr)(hp:r.pos<4611686018427387000)(ho:r.out.length<1099511627776)(hl:LK 42 r.s (fun nm=>fidx (pP nm) r.s.Procs) ρ)(M:List Ob)(κ:KT ρ):cbK (call 136 [.ptr 0] (.box (rdT r)::M)) κ=κ ([],.box (rdT r.whereR)::M):=by
 refine(ge136 _ _ _ rfl).trans ?_
 unfold Rdr.whereR
 have p1:=take_pos r [40]
 have p2:=found_pos (r.take [40]) (fun nm=>fidx (pP nm) r.s.Procs)
 have p3:=take_pos ((r.take [40]).found (fun nm=>fidx (pP nm) r.s.Procs)).2 [44]
 have o3:r.whereA.out=r.out:=by unfold Rdr.whereA;rw[take_out,found_out,take_out]
 have s1:=fun M κ=>take_w (ρ:=ρ) r (by omega) [40] M κ
 have s2:∀M (κ:KT ρ),_=κ ([.d (.int .i64 r.whereI)],_):=fun M κ=>found_w (ρ:=ρ) (r.take [40]) (by omega) 42 (fun nm=>fidx (pP nm) r.s.Procs) (by decide) (by simp[go_sem]) (by rw[take_s];exact hl _) M κ
 have s3:∀M (κ:KT ρ),_=κ ([],.box (rdT r.whereA)::M):=fun M κ=>take_w (ρ:=ρ) ((r.take [40]).found (fun nm=>fidx (pP nm) r.s.Procs)).2 (by omega) [44] M κ
 have p3:r.whereA.pos≤((r.take [40]).found (fun nm=>fidx (pP nm) r.s.Procs)).2.pos+1:=p3
 generalize r.whereA=R at *
 generalize r.whereI=i at *
 have s4:=fun M κ=>now_w (ρ:=ρ) R (by omega) M κ
 have s5:=fun x M κ=>fail_w (ρ:=ρ) R (by omega) x M κ
 have p5:=wide_pos R
 have p6:=kind_pos R.wide 2
 have p7:=take_pos (R.wide.kind 2).2 [41]
 have s6:=fun M κ=>kind_w (ρ:=ρ) R.wide (by omega) 2 M κ
 have s7:=fun M κ=>take_w (ρ:=ρ) (R.wide.kind 2).2 (by omega) [41] M κ
 have s8:=fun op n M κ=>put_w (ρ:=ρ) ((R.wide.kind 2).2.take [41]) (by rw[take_out,kind_out,wide_out,o3];exact ho) op n M κ
 by_cases h0:R.e=0∧R.now.Kind=2∧16≤R.now.N
 ·have hW:R.wide=R.fail 10:=by unfold Rdr.wide;rw[if_pos h0]
  rw[hW]at s6 s7 s8
  rw[hW]
  have h1:=tt h0.1
  have h2:=tt h0.2.1
  have h3:=tt h0.2.2
  simp -implicitDefEqProofs (maxSteps:=1000000) [go_sem,s1,s2,s3,s4,s5,s6,s7,s8,h1,h2,h3,-List.map_append,-List.map_take,-List.map_drop,-List.map_set]
 ·have hW:R.wide=R:=by unfold Rdr.wide;rw[if_neg h0]
  rw[hW]at s6 s7 s8
  rw[hW]
  by_cases h1:R.e=0
  ·by_cases h2:R.now.Kind=2
   ·have h3:=ff (fun h3=>h0 ⟨h1,h2,h3⟩)
    have h1:=tt h1
    have h2:=tt h2
    simp -implicitDefEqProofs (maxSteps:=1000000) [go_sem,s1,s2,s3,s4,s5,s6,s7,s8,h1,h2,h3,-List.map_append,-List.map_take,-List.map_drop,-List.map_set]
   ·have h1:=tt h1
    have h2:=ff h2
    simp -implicitDefEqProofs (maxSteps:=1000000) [go_sem,s1,s2,s3,s4,s5,s6,s7,s8,h1,h2,-List.map_append,-List.map_take,-List.map_drop,-List.map_set]
  ·have h1:=ff h1
   simp -implicitDefEqProofs (maxSteps:=1000000) [go_sem,s1,s2,s3,s4,s5,s6,s7,s8,h1,-List.map_append,-List.map_take,-List.map_drop,-List.map_set]
end
end Go.Etx
namespace Go.Etx
open Go Go.Am Go.Proofs
set_option maxHeartbeats 4000000
set_option maxRecDepth 20000
noncomputable section
variable{ρ:Type}
abbrev OfW(g:Nat)(p:Int→Bool)(ρ:Type):Prop:=∀(n:Int) (H:List Ob) (κ:KT ρ),cbK (call g [.int .i32 n] H) κ=κ ([.d (.bool (p n))],H)
theorem more_le{p:Int→Bool}{q:UInt8→Bool}(hq:OfB p q){s:List UInt8}{i:Nat}(h:i<s.length)(hh:q s[i]=true):i+(rune s i).2≤s.length:=by
 have h1:=rune_pos s i
 obtain⟨h2,_⟩:=hq.more s i h hh (i+(rune s i).2 - 1) (by omega) (by omega)
 omega
theorem run_loop{g:Nat}{p:Int→Bool}{q:UInt8→Bool}(hq:OfB p q)(hg:g<1099511627776)(hx:extOf P g=none)(hp:OfW g p ρ)(s:List UInt8)(κ:Am.Ex×St→Option ρ)(A:Int→Option ρ)
  (hr:∀(v:Int) (j:Nat),κ (.ret,⟨[(4,.d (.int .i64 v))],[],[.iter s j]⟩)=A v)
  (he:∀(j:Nat),κ (.exit 0,⟨[(0,.d (.str s)),(1,.d (.fn (.func g) [] [])),(8,.d (.ptr 0)),(9,.tup [.d (.bool false)]),(10,.d (.bool false))],[],[.iter s j]⟩)=A (s.length:Nat)):
  ∀(n i:Nat) (v0:Int) (v1:Bool),s.length - i<n→i≤s.length→goLp P hints hint45 b45 0 ⟨[(0,.d (.str s)),(1,.d (.fn (.func g) [] [])),(5,.d (.int .i64 v0)),(8,.d (.ptr 0)),(16,.d (.bool v1))],[],[.iter s i]⟩ κ=A ((i+twl q (s.drop i):Nat))
 |0,i,v0,v1,h,_=>by omega
 |n+1,i,v0,v1,h,hi=>by
  refine(goLp_turn q45_0.2).trans ?_
  by_cases hlt:i<s.length
  ·have hh:=hq.here s i hlt
   cases hb:q s[i]with
   |true=>
    rw[hb]at hh
    have h1:=rune_pos s i
    have ih:=run_loop hq hg hx hp s κ A hr he n (i+(rune s i).2) (i:Int) false (by omega) (more_le hq hlt hb)
    rw[Nat.add_assoc,←twl_ext (rune s i).2 i (hq.more s i hlt hb)]at ih
    simp -implicitDefEqProofs (maxSteps:=1000000) [go_sem,hlt,hg,hx,hp _ _,hh,ih,-List.map_append,-List.map_take,-List.map_drop,-List.map_set,-Int.natCast_add]
   |false=>
    rw[hb]at hh
    rw[twl_stop hlt hb,Nat.add_zero]
    simp -implicitDefEqProofs (maxSteps:=1000000) [go_sem,hlt,hg,hx,hp _ _,hh,hr,-List.map_append,-List.map_take,-List.map_drop,-List.map_set]
  ·obtain rfl:i=s.length:=by omega
   have e:twl q (s.drop s.length)=0:=by rw[List.drop_length];rfl
   rw[e,Nat.add_zero]
   simp -implicitDefEqProofs (maxSteps:=1000000) [go_sem,he,-List.map_append,-List.map_take,-List.map_drop,-List.map_set]
theorem run_w{g:Nat}{p:Int→Bool}{q:UInt8→Bool}(hq:OfB p q)(hg:g<1099511627776)(hx:extOf P g=none)(hp:OfW g p ρ)(s:List UInt8)(κ:KT ρ):
  cbK (call 45 [.str s,.fn (.func g) [] []] []) κ=κ ([.d (.int .i64 ((twl q s:Nat):Int))],[]):=by
 refine(ge45 _ _ _ rfl).trans ?_
 by_cases hlt:0<s.length
 ·have hh:=hq.here s 0 hlt
  cases hb:q s[0]with
  |true=>
   rw[hb]at hh
   have h1:=rune_pos s 0
   have e:twl q s=(rune s 0).2+twl q (s.drop (rune s 0).2):=by
    have:=twl_ext (q:=q) (s:=s) (rune s 0).2 0 (hq.more s 0 hlt hb)
    rwa [List.drop_zero,Nat.zero_add]at this
   have hl:=fun κ A hr he=>run_loop (ρ:=ρ) hq hg hx hp s κ A hr he (s.length+1) (rune s 0).2 0 false (by omega) (by have:=more_le hq hlt hb;omega)
   rw[←e]at hl
   simp -implicitDefEqProofs (maxSteps:=1000000) [go_sem,hlt,hg,hx,hp _ _,hh,-List.map_append,-List.map_take,-List.map_drop,-List.map_set]
   refine hl _ (fun v=>κ ([.d (.int .i64 v)],[])) (fun v j=> ?_) (fun j=> ?_) <;>
    simp -implicitDefEqProofs (maxSteps:=1000000) [go_sem,-List.map_append,-List.map_take,-List.map_drop,-List.map_set]
  |false=>
   rw[hb]at hh
   have e:twl q s=0:=by
    have:=twl_stop (s:=s) (p:=0) hlt hb
    rwa [List.drop_zero]at this
   rw[e]
   simp -implicitDefEqProofs (maxSteps:=1000000) [go_sem,hlt,hg,hx,hp _ _,hh,-List.map_append,-List.map_take,-List.map_drop,-List.map_set]
 ·obtain rfl:s=[]:=List.length_eq_zero_iff.1 (by omega)
  simp -implicitDefEqProofs (maxSteps:=1000000) [go_sem,twl,-List.map_append,-List.map_take,-List.map_drop,-List.map_set]
theorem byte_eq{b:UInt8}{k:UInt8}:(((b.toNat:Nat):Int)=((k.toNat:Nat):Int))=(b=k):=by
 refine propext ⟨fun e=>UInt8.toNat_inj.1 (by omega),fun e=>by rw[e]⟩
theorem let_w(n:Int)(H:List Ob)(κ:KT ρ):cbK (call 44 [.int .i32 n] H) κ=κ ([.d (.bool (letB n))],H):=by
 refine(ge44 _ _ _ rfl).trans ?_
 unfold letB
 by_cases a:97≤n <;>by_cases b:n≤122 <;>by_cases c:65≤n <;>by_cases d:n≤90 <;>
  simp -implicitDefEqProofs (maxSteps:=1000000) [go_sem,a,b,c,d,-List.map_append,-List.map_take,-List.map_drop,-List.map_set]
theorem dig_w(n:Int)(H:List Ob)(κ:KT ρ):cbK (call 64 [.int .i32 n] H) κ=κ ([.d (.bool (digB n))],H):=by
 refine(ge64 _ _ _ rfl).trans ?_
 unfold digB
 by_cases a:48≤n <;>by_cases b:n≤57 <;>
  simp -implicitDefEqProofs (maxSteps:=1000000) [go_sem,a,b,-List.map_append,-List.map_take,-List.map_drop,-List.map_set]
theorem part_w(n:Int)(H:List Ob)(κ:KT ρ):cbK (call 46 [.int .i32 n] H) κ=κ ([.d (.bool (partB n))],H):=by
 refine(ge46 _ _ _ rfl).trans ?_
 have h1:=fun H κ=>let_w (ρ:=ρ) n H κ
 have h2:=fun H κ=>dig_w (ρ:=ρ) n H κ
 unfold partB
 by_cases c:n=95
 ·have c:=tt c
  cases a:letB n <;>cases b:digB n <;>simp -implicitDefEqProofs (maxSteps:=1000000) [go_sem,h1,h2,a,b,c,-List.map_append,-List.map_take,-List.map_drop,-List.map_set]
 ·have c:=ff c
  cases a:letB n <;>cases b:digB n <;>simp -implicitDefEqProofs (maxSteps:=1000000) [go_sem,h1,h2,a,b,c,-List.map_append,-List.map_take,-List.map_drop,-List.map_set]
theorem nl_w(n:Int)(H:List Ob)(κ:KT ρ):cbK (call 63 [.int .i32 n] H) κ=κ ([.d (.bool (!decide (n=10)))],H):=by
 refine(ge63 _ _ _ rfl).trans ?_
 by_cases a:n=10 <;>simp -implicitDefEqProofs (maxSteps:=1000000) [go_sem,a,-List.map_append,-List.map_take,-List.map_drop,-List.map_set]
theorem between_loop(s:List UInt8)(hs:s.length<1099511627776)(κ:Am.Ex×St→Option ρ)(A:Nat→Option ρ)
  (hr:∀(j:Nat),κ (.ret,⟨[(2,.d (.int .i64 j))],[],[]⟩)=A j)
  (he:κ (.exit 0,⟨[(0,.d (.str s)),(3,.d (.int .i64 s.length)),(7,.d (.bool false))],[],[]⟩)=A s.length):
  ∀(n i:Nat),s.length - i<n→i≤s.length→goLp P hints hint33 b33 0 ⟨[(0,.d (.str s)),(3,.d (.int .i64 i))],[],[]⟩ κ=A (i+gap false (s.drop i))
 |0,i,h,_=>by omega
 |n+1,i,hn,hi=>by
  refine(goLp_turn q33_0.2).trans ?_
  by_cases hlt:i<s.length
  ·have h1:(i:Int)<(s.length:Int):=by omega
   have h2:s[i]? =some s[i]:=xG hlt
   have b32:(((s[i].toNat:Nat):Int)=32)=(s[i]=32):=byte_eq (k:=32)
   have b10:(((s[i].toNat:Nat):Int)=10)=(s[i]=10):=byte_eq (k:=10)
   have b35:(((s[i].toNat:Nat):Int)=35)=(s[i]=35):=byte_eq (k:=35)
   have hw:=wrapS (k:=i) (by omega)
   by_cases hsp:s[i]=32∨s[i]=10
   ·have ih:=between_loop s hs κ A hr he n (i+1) (by omega) hlt
    rw[gap_sp hlt hsp,←Nat.add_assoc]
    rcases hsp with q |q
    ·have q:=tt q
     simp -implicitDefEqProofs (maxSteps:=1000000) [go_sem,h1,h2,b32,b10,b35,q,hw,ih,-Int.natCast_add,-List.map_append,-List.map_take,-List.map_drop,-List.map_set]
    ·have q2:(s[i]=32)=False:=eq_false fun e=>by rw[e]at q;exact absurd q (by decide)
     have q:=tt q
     simp -implicitDefEqProofs (maxSteps:=1000000) [go_sem,h1,h2,b32,b10,b35,q,q2,hw,ih,-Int.natCast_add,-List.map_append,-List.map_take,-List.map_drop,-List.map_set]
   ·have n32:=ff (fun e=>hsp (.inl e))
    have n10:=ff (fun e=>hsp (.inr e))
    by_cases q:s[i]=35
    ·have hle:=twl_le nl (s.drop i)
     rw[List.length_drop]at hle
     have hpos:1≤twl nl (s.drop i):=by
      rw[twl_ext (q:=nl) (s:=s) 1 i (fun j a b=>(by obtain rfl:j=i:=(by omega);exact⟨hlt,by simp[nl,q]⟩))];omega
     have ih:=between_loop s hs κ A hr he n (i+twl nl (s.drop i)) (by omega) (by omega)
     have hw2:IntKind.i64.wrap ((i:Int)+(twl nl (s.drop i):Nat))=((i+twl nl (s.drop i):Nat):Int):=by rw[wrap_i64 (by omega) (by omega)];omega
     have hrun:=fun κ=>run_w (ρ:=ρ) ofb_nl (g:=63) (by decide) (by simp[go_sem]) nl_w (s.drop i) κ
     have ht:(s.drop i).take (s.length - i)=s.drop i:=List.take_of_length_le (by simp)
     rw[gap_hash hlt q,←Nat.add_assoc]
     have q:=tt q
     simp -implicitDefEqProofs (maxSteps:=1000000) [go_sem,h1,h2,b32,b10,b35,q,n32,n10,hi,ht,hrun,hw2,ih,-Int.natCast_add,-List.map_append,-List.map_take,-List.map_drop,-List.map_set]
    ·rw[gap_no hlt hsp q,Nat.add_zero]
     have q:=ff q
     simp -implicitDefEqProofs (maxSteps:=1000000) [go_sem,h1,h2,b32,b10,b35,q,n32,n10,hr,-Int.natCast_add,-List.map_append,-List.map_take,-List.map_drop,-List.map_set]
  ·obtain rfl:i=s.length:=by omega
   have e:gap false (s.drop s.length)=0:=by rw[List.drop_length];rfl
   rw[e,Nat.add_zero]
   simp -implicitDefEqProofs (maxSteps:=1000000) [go_sem,he,-List.map_append,-List.map_take,-List.map_drop,-List.map_set]
theorem between_w(s:List UInt8)(hs:s.length<1099511627776)(κ:KT ρ):cbK (call 33 [.str s] []) κ=κ ([.d (.int .i64 ((gap false s:Nat):Int))],[]):=by
 refine(ge33 _ _ _ rfl).trans ?_
 have hl:=fun K A hr he=>between_loop (ρ:=ρ) s hs K A hr he (s.length+1) 0 (by omega) (Nat.zero_le _)
 rw[List.drop_zero,Nat.zero_add]at hl
 simp only[Int.natCast_zero]at hl
 simp -implicitDefEqProofs (maxSteps:=1000000) [go_sem,-Int.natCast_add,-List.map_append,-List.map_take,-List.map_drop,-List.map_set]
 refine hl _ (fun j=>κ ([.d (.int .i64 ((j:Nat):Int))],[])) (fun j=> ?_) ?_ <;>
 simp -implicitDefEqProofs (maxSteps:=1000000) [go_sem,-Int.natCast_add,-List.map_append,-List.map_take,-List.map_drop,-List.map_set]
theorem pre_eq{s x:List UInt8}(h:x.length≤s.length):(s.take x.length=x)=(x.isPrefixOf s=true):=by
 refine propext ⟨fun e=>List.isPrefixOf_iff_prefix.2 (by rw[←e];exact List.take_prefix _ _),fun e=> ?_⟩
 exact(List.prefix_iff_eq_take.1 (List.isPrefixOf_iff_prefix.1 e)).symm
theorem prefix_w(s x:List UInt8)(κ:KT ρ):cbK (call 66 [.str s,.str x] []) κ=κ ([.d (.bool (x.isPrefixOf s))],[]):=by
 have h107:∀κ:KT ρ,cbK (call 107 [.str s,.str x] []) κ=κ ([.d (.bool (x.isPrefixOf s))],[]):=fun κ=>by
  refine(ge107 _ _ _ rfl).trans ?_
  by_cases h:x.length≤s.length
  ·have h1:(x.length:Int)≤(s.length:Int):=by omega
   have h2:=pre_eq h
   cases hp:x.isPrefixOf s with
   |true=>
    have h2:=tt (h2.mpr hp)
    simp -implicitDefEqProofs (maxSteps:=1000000) [go_sem,h,h1,h2,-List.map_append,-List.map_take,-List.map_drop,-List.map_set]
   |false=>
    have h2:=ff (fun e=>by rw[h2.mp e]at hp;cases hp)
    simp -implicitDefEqProofs (maxSteps:=1000000) [go_sem,h,h1,h2,-List.map_append,-List.map_take,-List.map_drop,-List.map_set]
  ·have h1:¬(x.length:Int)≤(s.length:Int):=by omega
   have hp:x.isPrefixOf s=false:=by
    cases hq:x.isPrefixOf s with
    |true=>exact absurd (List.isPrefixOf_iff_prefix.1 hq).length_le h
    |false=>rfl
   rw[hp]
   simp -implicitDefEqProofs (maxSteps:=1000000) [go_sem,h1,-List.map_append,-List.map_take,-List.map_drop,-List.map_set]
 refine(ge66 _ _ _ rfl).trans ?_
 simp -implicitDefEqProofs (maxSteps:=1000000) [go_sem,h107,-List.map_append,-List.map_take,-List.map_drop,-List.map_set]
abbrev zTok:T:=T.d (D.agg [D.int IntKind.i64 0,D.int IntKind.i64 0,D.int IntKind.i64 0,D.str []])
theorem sign_loop(s:List UInt8)(κ:Am.Ex×St→Option ρ)(A:List UInt8→Option ρ)(B:Option ρ)
  (hr:∀x:List UInt8,κ (.ret,⟨[(2,.loc (Root.l 2 0) [] 0 0),(3,.d (.int .i64 0))],[((2,0),.own [T.d (D.agg [D.int IntKind.i64 3,D.int IntKind.i64 0,D.int IntKind.i64 0,D.str x])])],[]⟩)=A x)
  (he:κ (.exit 0,⟨[(0,.d (.str s)),(2,.loc (Root.l 2 0) [] 0 0),(46,.d (.agg (List.map eS sgL))),(47,.d (.int .i64 25)),(48,.d (.bool false))],[((2,0),.own [zTok])],[]⟩)=B):
  ∀(n i:Nat),i+n=25→goLp P hints hint34 b34 0 ⟨[(0,.d (.str s)),(2,.loc (Root.l 2 0) [] 0 0),(46,.d (.agg (List.map eS sgL))),(47,.d (.int .i64 i))],[((2,0),.own [zTok])],[]⟩ κ=match (sgL.drop i).find? (fun x=>x.isPrefixOf s)with |some x=>A x |none=>B
 |0,i,h=>by
  obtain rfl:i=25:=by omega
  refine(goLp_turn q34_0.2).trans ?_
  have e:(sgL.drop 25).find? (fun x=>x.isPrefixOf s)=none:=rfl
  rw[e]
  simp -implicitDefEqProofs (maxSteps:=1000000) [go_sem,he,-List.map_append,-List.map_take,-List.map_drop,-List.map_set]
 |n+1,i,h=>by
  refine(goLp_turn q34_0.2).trans ?_
  have hl:i<sgL.length:=by show i<25;omega
  have h2:sgL[i]? =some sgL[i]:=xG hl
  have h1:(i:Int)<25:=by omega
  have hp:=fun κ=>prefix_w (ρ:=ρ) s sgL[i] κ
  rw[xW hl,List.find?_cons]
  cases hb:sgL[i].isPrefixOf s with
  |true=>
   simp -implicitDefEqProofs (maxSteps:=1000000) [go_sem,h1,h2,hp,hb,hr,-List.map_append,-List.map_take,-List.map_drop,-List.map_set]
  |false=>
   have ih:=sign_loop s κ A B hr he n (i+1) (by omega)
   have hw:=wrapS (k:=i) (by omega)
   simp -implicitDefEqProofs (maxSteps:=1000000) [go_sem,h1,h2,hp,hb,hw,ih,-Int.natCast_add,-List.map_append,-List.map_take,-List.map_drop,-List.map_set]
theorem twl_pos{q:UInt8→Bool}{s:List UInt8}(h:0<twl q s):0<s.length:=yA h (twl_le q s)
abbrev tokT(t:Glex_Token):T:=.d (.agg [.int .i64 t.Kind,.int .i64 t.N,.int .i64 t.At,.str t.Text])
theorem gl34:hint34.gl 1=some (.agg (List.map eS sgL)):=rfl
theorem glk_sg:glOK (.agg (List.map eS sgL))=true:=rfl
theorem take_sg:List.take 25 (D.agg (List.map eS sgL)).cells=List.map eS sgL:=rfl
theorem len_sgc:25≤(D.agg (List.map eS sgL)).cells.length:=by decide
theorem one_w(s:List UInt8)(hs:s.length≤1000000)(κ:KT ρ):cbK (call 34 [.str s] []) κ=κ ([tokT (oneK s).2,.d (.int .i64 (oneK s).1)],[]):=by
 refine(ge34 _ _ _ rfl).trans ?_
 have hp:=fun κ=>run_w (ρ:=ρ) ofb_part (g:=46) (by decide) (by simp[go_sem]) part_w s κ
 have hd:=fun κ=>run_w (ρ:=ρ) ofb_dig (g:=64) (by decide) (by simp[go_sem]) dig_w s κ
 have hl:=fun n κ=>let_w (ρ:=ρ) n [] κ
 have lp:=twl_le pt s
 have ld:=twl_le dg s
 have hsg:=fun K A B hr he=>sign_loop (ρ:=ρ) s K A B hr he 25 0 rfl
 rw[List.drop_zero]at hsg
 simp only[Int.natCast_zero]at hsg
 unfold oneK
 by_cases h1:0<twl pt s
 ·have hpos:=twl_pos h1
  have h0:s[0]? =some s[0]:=xG hpos
  have hh:s.headD 0=s[0]:=by cases s with |nil=>cases hpos |cons b r=>rfl
  have w32:=wrap32 s[0]
  have i1:(0:Int)<((twl pt s:Nat):Int):=by omega
  have k1:¬twl pt s=0:=by omega
  have i0:(0:Int)<(s.length:Int):=by omega
  rw[hh]
  cases h2:letB (bI s[0])with
  |true=>
   have h2':letB ((s[0].toNat:Nat):Int)=true:=h2
   rw[if_pos ⟨h1,rfl⟩]
   by_cases h3:16<twl pt s
   ·have i3:(16:Int)<((twl pt s:Nat):Int):=by omega
    rw[if_pos h3]
    simp -implicitDefEqProofs (maxSteps:=1000000) [go_sem,hp,hl,i1,k1,h1,i0,i3,h0,w32,h2',-List.map_append,-List.map_take,-List.map_drop,-List.map_set]
   ·have i3:¬(16:Int)<((twl pt s:Nat):Int):=by omega
    rw[if_neg h3]
    simp -implicitDefEqProofs (maxSteps:=1000000) [go_sem,hp,hl,i1,k1,h1,i0,i3,h0,w32,h2',lp,-List.map_append,-List.map_take,-List.map_drop,-List.map_set]
  |false=>
   have h2':letB ((s[0].toNat:Nat):Int)=false:=h2
   rw[if_neg (by simp)]
   by_cases h4:0<twl dg s
   ·have i4:(0:Int)<((twl dg s:Nat):Int):=by omega
    have k4:¬twl dg s=0:=by omega
    have hlen:(s.take (twl dg s)).length≤1000000:=by rw[yR];omega
    rw[if_pos h4]
    cases h5:(Tr7.numF (s.take (twl dg s))).2 with
    |true=>
     simp -implicitDefEqProofs (maxSteps:=1000000) [go_sem,hp,hd,hl,i1,k1,h1,i0,i4,k4,h4,h0,w32,h2',lp,ld,hlen,h5,-List.map_append,-List.map_take,-List.map_drop,-List.map_set,-List.length_take]
    |false=>
     simp -implicitDefEqProofs (maxSteps:=1000000) [go_sem,hp,hd,hl,i1,k1,h1,i0,i4,k4,h4,h0,w32,h2',lp,ld,hlen,h5,-List.map_append,-List.map_take,-List.map_drop,-List.map_set,-List.length_take]
   ·have i4:¬(0:Int)<((twl dg s:Nat):Int):=by omega
    have k4:twl dg s=0:=by omega
    rw[if_neg h4]
    simp -implicitDefEqProofs (maxSteps:=1000000) [go_sem,gl34,glk_sg,take_sg,len_sgc,hp,hd,hl,i1,k1,h1,i0,i4,k4,h4,h0,w32,h2',lp,ld,-List.map_append,-List.map_take,-List.map_drop,-List.map_set]
    refine(hsg _ (fun x=>κ ([tokT ⟨3,0,0,x⟩,.d (.int .i64 0)],[])) (κ ([tokT ⟨0,0,0,[]⟩,.d (.int .i64 13)],[])) (fun x=> ?_) ?_).trans ?_
    ·simp -implicitDefEqProofs (maxSteps:=1000000) [go_sem,-List.map_append,-List.map_take,-List.map_drop,-List.map_set]
    ·simp -implicitDefEqProofs (maxSteps:=1000000) [go_sem,-List.map_append,-List.map_take,-List.map_drop,-List.map_set]
    ·cases sgL.find? fun x=>x.isPrefixOf s <;>rfl
 ·have i1:¬(0:Int)<((twl pt s:Nat):Int):=by omega
  have k1:twl pt s=0:=by omega
  rw[if_neg (fun q=>h1 q.1)]
  have h4:¬0<twl dg s:=fun h4=>by
   have hpos:=twl_pos h4
   cases s with
   |nil=>cases hpos
   |cons b r=>
    unfold twl at h4 h1
    rw[List.takeWhile_cons]at h4 h1
    cases hq:dg b with
    |true=>
     have:pt b=true:=by simp only[pt,partB,Bool.or_eq_true];exact .inl (.inr hq)
     rw[this]at h1
     simp at h1
    |false=>rw[hq]at h4;simp at h4
  have i4:¬(0:Int)<((twl dg s:Nat):Int):=by omega
  have k4:twl dg s=0:=by omega
  rw[if_neg h4]
  simp -implicitDefEqProofs (maxSteps:=1000000) [go_sem,gl34,glk_sg,take_sg,len_sgc,hp,hd,hl,i1,k1,i4,k4,lp,ld,-List.map_append,-List.map_take,-List.map_drop,-List.map_set]
  refine(hsg _ (fun x=>κ ([tokT ⟨3,0,0,x⟩,.d (.int .i64 0)],[])) (κ ([tokT ⟨0,0,0,[]⟩,.d (.int .i64 13)],[])) (fun x=> ?_) ?_).trans ?_
  ·simp -implicitDefEqProofs (maxSteps:=1000000) [go_sem,-List.map_append,-List.map_take,-List.map_drop,-List.map_set]
  ·simp -implicitDefEqProofs (maxSteps:=1000000) [go_sem,-List.map_append,-List.map_take,-List.map_drop,-List.map_set]
  ·cases sgL.find? fun x=>x.isPrefixOf s <;>rfl
theorem scan_loop(s:List UInt8)(hs:s.length≤1000000)(κ:Am.Ex×St→Option ρ)(A:List Glex_Token×Int×Int→Option ρ)
  (hr:∀a b:Int,κ (.ret,⟨[(2,.bor (.l 2 0) [] 0 0),(3,.d (.int .i64 a)),(4,.d (.int .i64 b))],[((2,0),.own [])],[]⟩)=A ([],a,b))
  (he:∀(out:List Glex_Token),κ (.exit 0,⟨[(0,.d (.str s)),(5,.bor (.l 5 0) [] 0 out.length),(6,.d (.int .i64 s.length)),(17,.d (.bool false))],[((5,0),.own (tl elex_Token out))],[]⟩)=A (out,0,0)):
  ∀(n p:Nat) (out:List Glex_Token),s.length<p+n→p≤s.length→out.length≤p→goLp P hints hint15 b15 0 ⟨[(0,.d (.str s)),(5,.bor (.l 5 0) [] 0 out.length),(6,.d (.int .i64 p))],[((5,0),.own (tl elex_Token out))],[]⟩ κ=A (scanL n s p out)
 |0,p,out,h,hp,_=>by omega
 |n+1,p,out,h,hp,ho=>by
  refine(goLp_turn q15_0.2).trans ?_
  rw[scanL]
  by_cases hlt:p<s.length
  ·have h1:(p:Int)<(s.length:Int):=by omega
   rw[if_pos hlt]
   by_cases h6:6000≤out.length
   ·have h2:(6000:Int)≤(out.length:Int):=by omega
    rw[if_pos h6]
    simp -implicitDefEqProofs (maxSteps:=1000000) [go_sem,h1,h2,hr,-List.map_append,-List.map_take,-List.map_drop,-List.map_set]
   ·have h2:¬(6000:Int)≤(out.length:Int):=by omega
    rw[if_neg h6]
    have ht:(s.drop p).take (s.length - p)=s.drop p:=List.take_of_length_le (by simp)
    have ho1:=fun κ=>one_w (ρ:=ρ) (s.drop p) (by simp;omega) κ
    by_cases h0:(oneK (s.drop p)).1=0
    ·rw[if_pos h0]
     obtain⟨a1,a2,a3⟩:=one_ok h0
     rw[List.length_drop]at a2
     have hg:=gap_le false (s.drop (p+(oneK (s.drop p)).2.Text.length))
     rw[List.length_drop]at hg
     have w1:IntKind.i64.wrap ((p:Int)+((oneK (s.drop p)).2.Text.length:Nat))=((p+(oneK (s.drop p)).2.Text.length:Nat):Int):=by rw[wrap_i64 (by omega) (by omega)];omega
     have w2:IntKind.i64.wrap (((p+(oneK (s.drop p)).2.Text.length:Nat):Int)+(gap false (s.drop (p+(oneK (s.drop p)).2.Text.length)):Nat))=((p+(oneK (s.drop p)).2.Text.length+gap false (s.drop (p+(oneK (s.drop p)).2.Text.length)):Nat):Int):=by rw[wrap_i64 (by omega) (by omega)];omega
     have hb:=fun κ=>between_w (ρ:=ρ) (s.drop (p+(oneK (s.drop p)).2.Text.length)) (by simp;omega) κ
     have ht2:(s.drop (p+(oneK (s.drop p)).2.Text.length)).take (s.length - (p+(oneK (s.drop p)).2.Text.length))=s.drop (p+(oneK (s.drop p)).2.Text.length):=List.take_of_length_le (by simp)
     have hle:p+(oneK (s.drop p)).2.Text.length≤s.length:=by omega
     have hb1:(out.length+1) * 40≤140737488355328:=by omega
     have ih:=scan_loop s hs κ A hr he n (p+(oneK (s.drop p)).2.Text.length+gap false (s.drop (p+(oneK (s.drop p)).2.Text.length))) (out++[⟨(oneK (s.drop p)).2.Kind,(oneK (s.drop p)).2.N,(p:Int),(oneK (s.drop p)).2.Text⟩]) (by omega) (by omega) (by rw[xP,List.length_singleton];omega)
     have hb2:out.length≤9223372036854775806:=by omega
     rw[xP,List.length_singleton]at ih
     generalize hK:oneK (s.drop p)=K at *
     have h0:=tt h0
     simp -implicitDefEqProofs (maxSteps:=1000000) [go_sem,h1,h2,hp,ht,ho1,h0,w1,w2,hb,ht2,hle,hb1,hb2,ih,-Int.natCast_add,-List.map_append,-List.map_take,-List.map_drop,-List.map_set]
    ·rw[if_neg h0]
     generalize hK:oneK (s.drop p)=K at *
     have h0:=ff h0
     simp -implicitDefEqProofs (maxSteps:=1000000) [go_sem,h1,h2,hp,ht,ho1,h0,hr,-List.map_append,-List.map_take,-List.map_drop,-List.map_set]
  ·have h1:¬(p:Int)<(s.length:Int):=by omega
   obtain rfl:p=s.length:=by omega
   rw[if_neg hlt]
   simp -implicitDefEqProofs (maxSteps:=1000000) [go_sem,h1,he,-List.map_append,-List.map_take,-List.map_drop,-List.map_set]
theorem scan_w(s:List UInt8)(hs:s.length≤1000000)(κ:KT ρ):cbK (call 15 [.str s] []) κ=κ ([.d (.sl false (List.map elex_Token (scanK s).1)),.d (.int .i64 (scanK s).2.1),.d (.int .i64 (scanK s).2.2)],[]):=by
 refine(ge15 _ _ _ rfl).trans ?_
 have hb:=fun κ=>between_w (ρ:=ρ) s (by omega) κ
 unfold scanK
 by_cases h:20000<s.length
 ·have h1:(20000:Int)<(s.length:Int):=by omega
  rw[if_pos h]
  simp -implicitDefEqProofs (maxSteps:=1000000) [go_sem,h1,-List.map_append,-List.map_take,-List.map_drop,-List.map_set]
 ·have h1:¬(20000:Int)<(s.length:Int):=by omega
  rw[if_neg h]
  simp -implicitDefEqProofs (maxSteps:=1000000) [go_sem,h1,hb,-List.map_append,-List.map_take,-List.map_drop,-List.map_set]
  have hg:=gap_le false s
  refine scan_loop s hs _ (fun v=>κ ([.d (.sl false (List.map elex_Token v.1)),.d (.int .i64 v.2.1),.d (.int .i64 v.2.2)],[])) (fun a b=> ?_) (fun out=> ?_) (s.length+1) (gap false s) [] (by omega) hg (Nat.zero_le _) <;>
   simp -implicitDefEqProofs (maxSteps:=1000000) [go_sem,-List.map_append,-List.map_take,-List.map_drop,-List.map_set]
end
end Go.Etx
