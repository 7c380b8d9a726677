/- A part of the proof: texts of mine, merged by a program (wip/dev/merge.py). -/
import Derived.Test.YtngkjkmjoieecaaGreatDoorEr7
import Derived.Shelf.Strconv.Atoi
import Derived.Shelf.Strconv.Itoa0
import Derived.Shelf.Strconv.Itoa1
import Derived.Shelf.LaysM
import Derived.Shelf.Strconv.Itoa2
import Derived.Shelf.Strconv.Itoa3
import Derived.Shelf.Strconv.AtoiErrFast
import Derived.Shelf.Strconv.ParseIntEmpty
import Derived.Shelf.Strconv.AtoiFail
import Derived.Shelf.Strconv.Clone
import Derived.Shelf.Strconv.SyntaxError
import Derived.Shelf.LaysC
import Derived.Shelf.Strconv.ToError
import Derived.Shelf.Strconv.Lower
import Derived.Shelf.Strconv.ParseUint10
import Derived.Shelf.Strconv.ParseUint10Empty
import Derived.Shelf.Strconv.ParseUint10Any
import Derived.Shelf.Strconv.ParseInt10
import Derived.Shelf.Strconv.AtoiLong
import Derived.Shelf.Strconv.AtoiInnerAll
import Derived.Shelf.Strconv.RangeError
import Derived.Shelf.Strconv.ToErrorRange
import Derived.Shelf.Strconv.AtoiAll
import Derived.Shelf.Strconv.ErrVarAll
import Derived.Test.YtngkjkmjoieecaaGreatDoorProg
import Derived.Test.YtngkjkmjoieecaaGreatDoorChecked
import Derived.WalkKit
import Derived.Laws.Externs
import Derived.Deep.Draws
import Derived.Lib.AtoiAll
import Derived.WalkSmall
import Derived.Lib.AtoiErrMem
set_option linter.unusedSimpArgs false
set_option linter.unusedVariables false
namespace Go.Etx
open Go Go.Am Go.Proofs
def fidx{α:Type}(p:α→Bool)(l:List α):Int:=if l.findIdx p<l.length then((l.findIdx p:Nat):Int)else -1
section
variable{ρ:Type}{s:GScope}
theorem loop_first{α:Type}{Φ:Int→(Int→Option ρ)→Option ρ}(l:List α)(p:α→Bool)(found:Int→Option ρ)(fin:Option ρ)
  (hs:∀(i:Nat) k (h:i<l.length),Φ (i:Int) k=if p l[i]=true then found (i:Int)else k ((i+1:Nat):Int)) (hf:∀k,Φ (l.length:Int) k=fin):
  iterC Φ 0=if fidx p l<0 then fin else found (fidx p l):=by
 refine iterC_is (fun v:Int=>∃i:Nat,v=i∧i≤l.length∧∀j (hj:j<l.length),j<i→p l[j]=false) (fun _=>if fidx p l<0 then fin else found (fidx p l)) (fun v:Int=>l.length - v.toNat) ?_ (v:=(0:Int)) ⟨0,rfl,Nat.zero_le _,fun j _ h=>absurd h (Nat.not_lt_zero _)⟩
 rintro v k ⟨i,rfl,hi,hn⟩ hk
 by_cases hlt:i<l.length
 ·rw[hs i k hlt]
  cases hp:p l[i]with
  |true=>
   have:l.findIdx p=i:=by
    rw[List.findIdx_eq hlt]
    exact⟨hp,fun j hj=>hn j (by omega) hj⟩
   have e:fidx p l=(i:Int):=by rw[fidx,this,if_pos hlt]
   rw[e,if_pos rfl,if_neg (by omega)]
  |false=>
   rw[if_neg (by simp)]
   refine hk _ ⟨i+1,rfl,hlt,fun j hj hji=> ?_⟩ (by simp only[xV];omega)
   by_cases e:j=i
   ·subst e;exact hp
   ·exact hn j hj (by omega)
 ·obtain rfl:i=l.length:=by omega
  rw[hf]
  have:¬l.findIdx p<l.length:=fun h=>by
   have:=List.findIdx_getElem (w:=h)
   rw[hn _ h h]at this
   cases this
  have e:fidx p l=-1:=by rw[fidx,if_neg this]
  rw[e,if_pos (by omega)]
def pV(nm:List UInt8)(v:GVar):Bool:=decide (v.Name=nm)
def pC(nm:List UInt8)(v:GChan):Bool:=decide (v.Name=nm)
def pP(nm:List UInt8)(v:GProc):Bool:=decide (v.Name=nm)
def pS(nm:List UInt8)(v:GScalar):Bool:=decide (v.Name=nm)
structure Few(s:GScope):Prop where
 sc:s.Scalars.length≤1000
 va:s.Vars.length≤1000
 ch:s.Chans.length≤1000
 pr:s.Procs.length≤1000
 lo:s.Locals.length≤1000
theorem vars_loop(hs:s.Vars.length≤1000)(nm:List UInt8)(found:Int→Option ρ)(fin:Option ρ)(bad:Int→Option ρ):
  iterC (fun v k=>if v<(s.Vars.length:Int)then if 0≤v then(s.Vars[v.toNat]?).bind fun y=>if y.Name=nm then if 0≤v then found v else bad v else k (IntKind.i64.wrap (v+1))else none else fin) 0=if fidx (pV nm) s.Vars<0 then fin else found (fidx (pV nm) s.Vars):=by
 refine loop_first s.Vars (pV nm) found fin (fun i k h=> ?_) fun k=>by rw[if_neg (by omega)]
 rw[if_pos (by omega),if_pos (by omega),xV,xG h,xS,wrapS (by omega)]
 by_cases e:s.Vars[i].Name=nm
 ·simp[pV,e]
 ·simp[pV,e]
theorem standsx_eq(hs:Few s){nm:List UInt8}{g:Int→Int→Option ρ}:f_etext_stands nm s g=if fidx (pV nm) s.Locals<0 then(if fidx (pV nm) s.Vars<0 then g 0 (-1)else g 2 (fidx (pV nm) s.Vars))else g 4 (fidx (pV nm) s.Locals):=by
 simp only[f_etext_stands,F_etext_stands,mkF]
 have hv:=hs.va
 have hl:=hs.lo
 rw[vars_loop hv nm (fun v=>g 2 v) (g 0 (-1)) fun _=>g 0 (-1)]
 refine loop_first s.Locals (pV nm) (fun v=>g 4 v) _ (fun i k h=> ?_) fun k=>by rw[if_neg (by omega)]
 rw[if_pos (by omega),if_pos (by omega),xV,xG h,xS,wrapS (by omega)]
 by_cases e:s.Locals[i].Name=nm
 ·simp[pV,e]
 ·simp[pV,e]
theorem fin_first{α:Type}{p:α→Bool}{l:List α}{g:Int→Option ρ}:(if fidx p l<0 then g (-1)else g (fidx p l))=g (fidx p l):=by
 by_cases h:l.findIdx p<l.length
 ·have e:fidx p l=((l.findIdx p:Nat):Int):=by rw[fidx,if_pos h]
  rw[e,if_neg (by omega)]
 ·have e:fidx p l=-1:=by rw[fidx,if_neg h]
  rw[e,if_pos (by omega)]
theorem chanx_eq(hs:Few s){nm:List UInt8}{g:Int→Option ρ}:f_etext_channel nm s g=g (fidx (pC nm) s.Chans):=by
 simp only[f_etext_channel,F_etext_channel,mkF]
 have hv:=hs.ch
 rw[←fin_first (g:=g)]
 refine loop_first s.Chans (pC nm) g _ (fun i k h=> ?_) fun k=>by rw[if_neg (by omega)]
 rw[if_pos (by omega),if_pos (by omega),xV,xG h,xS,wrapS (by omega)]
 by_cases e:s.Chans[i].Name=nm <;>simp[pC,e]
theorem procx_eq(hs:Few s){nm:List UInt8}{g:Int→Option ρ}:f_etext_process nm s g=g (fidx (pP nm) s.Procs):=by
 simp only[f_etext_process,F_etext_process,mkF]
 have hv:=hs.pr
 rw[←fin_first (g:=g)]
 refine loop_first s.Procs (pP nm) g _ (fun i k h=> ?_) fun k=>by rw[if_neg (by omega)]
 rw[if_pos (by omega),if_pos (by omega),xV,xG h,xS,wrapS (by omega)]
 by_cases e:s.Procs[i].Name=nm <;>simp[pP,e]
theorem scalx_eq(hs:Few s){nm:List UInt8}{g:Int→Option ρ}:f_etext_scalar nm s g=g (fidx (pS nm) s.Scalars):=by
 simp only[f_etext_scalar,F_etext_scalar,mkF]
 have hv:=hs.sc
 rw[←fin_first (g:=g)]
 refine loop_first s.Scalars (pS nm) g _ (fun i k h=> ?_) fun k=>by rw[if_neg (by omega)]
 rw[if_pos (by omega),if_pos (by omega),xV,xG h,xS,wrapS (by omega)]
 by_cases e:s.Scalars[i].Name=nm <;>simp[pS,e]
theorem chanr_eq(hs:Few s){nm:List UInt8}{g:Int→Option ρ}:f_r11_Chan s nm g=g (fidx (pC nm) s.Chans):=by
 simp only[f_r11_Chan,F_r11_Chan,mkF]
 have hv:=hs.ch
 rw[←fin_first (g:=g)]
 refine loop_first s.Chans (pC nm) g _ (fun i k h=> ?_) fun k=>by rw[if_neg (by omega)]
 rw[if_pos (by omega),if_pos (by omega),xV,xG h,xS,wrapS (by omega)]
 by_cases e:s.Chans[i].Name=nm <;>simp[pC,e]
theorem procr_eq(hs:Few s){nm:List UInt8}{g:Int→Option ρ}:f_r11_Proc s nm g=g (fidx (pP nm) s.Procs):=by
 simp only[f_r11_Proc,F_r11_Proc,mkF]
 have hv:=hs.pr
 rw[←fin_first (g:=g)]
 refine loop_first s.Procs (pP nm) g _ (fun i k h=> ?_) fun k=>by rw[if_neg (by omega)]
 rw[if_pos (by omega),if_pos (by omega),xV,xG h,xS,wrapS (by omega)]
 by_cases e:s.Procs[i].Name=nm <;>simp[pP,e]
theorem scalr_eq(hs:Few s){nm:List UInt8}{g:Int→Option ρ}:f_r11_Scalar s nm g=g (fidx (pS nm) s.Scalars):=by
 simp only[f_r11_Scalar,F_r11_Scalar,mkF]
 have hv:=hs.sc
 rw[←fin_first (g:=g)]
 refine loop_first s.Scalars (pS nm) g _ (fun i k h=> ?_) fun k=>by rw[if_neg (by omega)]
 rw[if_pos (by omega),if_pos (by omega),xV,xG h,xS,wrapS (by omega)]
 by_cases e:s.Scalars[i].Name=nm <;>simp[pS,e]
theorem localr_eq(hs:Few s){nm:List UInt8}{g:Int→Option ρ}:f_r11_Local s nm g=g (fidx (pV nm) s.Locals):=by
 simp only[f_r11_Local,F_r11_Local,mkF]
 have hv:=hs.lo
 rw[←fin_first (g:=g)]
 refine loop_first s.Locals (pV nm) g _ (fun i k h=> ?_) fun k=>by rw[if_neg (by omega)]
 rw[if_pos (by omega),if_pos (by omega),xV,xG h,xS,wrapS (by omega)]
 by_cases e:s.Locals[i].Name=nm <;>simp[pV,e]
theorem varr11_eq(hs:Few s){nm:List UInt8}{g:Int→Option ρ}:f_r11_Var s nm g=g (if fidx (pV nm) s.Locals<0 then fidx (pV nm) s.Vars else -1):=by
 simp only[f_r11_Var,F_r11_Var,mkF,localr_eq hs]
 have hv:=hs.va
 by_cases hl:fidx (pV nm) s.Locals<0
 ·simp only[hl,if_true]
  rw[←fin_first (g:=g)]
  refine loop_first s.Vars (pV nm) g _ (fun i k h=> ?_) fun k=>by rw[if_neg (by omega)]
  rw[if_pos (by omega),if_pos (by omega),xV,xG h,xS,wrapS (by omega)]
  by_cases e:s.Vars[i].Name=nm <;>simp[pV,e]
 ·simp only[hl,if_false]
  refine iterC_is (fun v=>v=0) (fun _=>g (-1)) (fun _=>0) (fun v k hv _=> ?_) rfl
  split <;>rfl
def nameP(d:List UInt8)(x:GNode)(s:GScope):Option (List UInt8×Bool):=
 if x.Op=2∨x.Op=3 then(if 0≤x.N then(s.Vars[x.N.toNat]?).map fun y=>(y.Name,decide (fidx (pV y.Name) s.Locals<0)&&decide (fidx (pV y.Name) s.Vars=x.N))else none)
 else if x.Op=4 then(if 0≤x.N then(s.Locals[x.N.toNat]?).map fun y=>(y.Name,decide (fidx (pV y.Name) s.Locals=x.N))else none)
 else if x.Op=6 then(if 0≤x.N then(s.Chans[x.N.toNat]?).map fun y=>(y.Name,decide (fidx (pC y.Name) s.Chans=x.N))else none)
 else if x.Op=7 then(if 0≤w64 (Int.tdiv x.N 16)then(s.Procs[(w64 (Int.tdiv x.N 16)).toNat]?).map fun y=>(y.Name,decide (fidx (pP y.Name) s.Procs=w64 (Int.tdiv x.N 16)))else none)
 else if x.Op=8 then(if 0≤x.N then(s.Scalars[x.N.toNat]?).map fun y=>(y.Name,decide (fidx (pS y.Name) s.Scalars=x.N))else none)
 else some (d,true)
theorem namex_eq(hs:Few s){x:GNode}{g:List UInt8→Bool→Option ρ}:f_etext_named x s g=(nameP [] x s).bind fun p=>g p.1 p.2:=by
 simp only[f_etext_named,F_etext_named,mkF,standsx_eq hs,chanx_eq hs,procx_eq hs,scalx_eq hs,nameP,if_true,show¬((0:Int)=2)by decide,show¬((4:Int)=2)by decide,show¬((0:Int)=4)by decide,show¬((2:Int)=4)by decide,if_false]
 have vr:(if 0≤x.N then(s.Vars[x.N.toNat]?).bind fun y=>if fidx (pV y.Name) s.Locals<0 then(if fidx (pV y.Name) s.Vars<0 then g y.Name false else g y.Name (decide (fidx (pV y.Name) s.Vars=x.N)))else g y.Name false else none)=
   (if 0≤x.N then(s.Vars[x.N.toNat]?).map fun y=>(y.Name,decide (fidx (pV y.Name) s.Locals<0)&&decide (fidx (pV y.Name) s.Vars=x.N))else none).bind fun p=>g p.1 p.2:=by
  by_cases h0:0≤x.N
  ·rw[if_pos h0,if_pos h0]
   cases s.Vars[x.N.toNat]? with
   |none=>rfl
   |some y=>
    simp only[xS,xQ]
    by_cases a:fidx (pV y.Name) s.Locals<0
    ·by_cases b:fidx (pV y.Name) s.Vars<0
     ·have:¬fidx (pV y.Name) s.Vars=x.N:=by omega
      simp[a,b,this]
     ·simp[a,b]
    ·simp[a]
  ·rw[if_neg h0,if_neg h0];rfl
 by_cases h2:x.Op=2
 ·rw[if_pos h2,if_pos (show x.Op=2∨x.Op=3 from .inl h2)]
  exact vr
 rw[if_neg h2]
 by_cases h3:x.Op=3
 ·rw[if_pos h3,if_pos (show x.Op=2∨x.Op=3 from .inr h3)]
  exact vr
 rw[if_neg h3,if_neg (show¬(x.Op=2∨x.Op=3)from fun q=>q.elim h2 h3)]
 by_cases h4:x.Op=4
 ·rw[if_pos h4,if_pos h4]
  by_cases h0:0≤x.N
  ·rw[if_pos h0,if_pos h0]
   cases s.Locals[x.N.toNat]? with
   |none=>rfl
   |some y=>
    simp only[xS,xQ]
    by_cases a:fidx (pV y.Name) s.Locals<0
    ·have:¬fidx (pV y.Name) s.Locals=x.N:=by omega
     simp[a,this]
    ·simp[a]
  ·rw[if_neg h0,if_neg h0];rfl
 rw[if_neg h4,if_neg h4]
 by_cases h6:x.Op=6
 ·rw[if_pos h6,if_pos h6]
  by_cases h0:0≤x.N
  ·rw[if_pos h0,if_pos h0]
   cases s.Chans[x.N.toNat]? <;>rfl
  ·rw[if_neg h0,if_neg h0];rfl
 rw[if_neg h6,if_neg h6]
 by_cases h7:x.Op=7
 ·rw[if_pos h7,if_pos h7]
  by_cases h0:0≤w64 (Int.tdiv x.N 16)
  ·rw[if_pos h0,if_pos h0]
   cases s.Procs[(w64 (Int.tdiv x.N 16)).toNat]? <;>rfl
  ·rw[if_neg h0,if_neg h0];rfl
 rw[if_neg h7,if_neg h7]
 by_cases h8:x.Op=8
 ·rw[if_pos h8,if_pos h8]
  by_cases h0:0≤x.N
  ·rw[if_pos h0,if_pos h0]
   cases s.Scalars[x.N.toNat]? <;>rfl
  ·rw[if_neg h0,if_neg h0];rfl
 rw[if_neg h8,if_neg h8]
 rfl
theorem namer_eq(hs:Few s){x:GNode}{g:List UInt8→Bool→Option ρ}:f_r11_name x s g=(nameP [97] x s).bind fun p=>g p.1 p.2:=by
 simp only[f_r11_name,F_r11_name,mkF,varr11_eq hs,localr_eq hs,chanr_eq hs,procr_eq hs,scalr_eq hs,nameP]
 have vr:(if 0≤x.N then(s.Vars[x.N.toNat]?).bind fun z=>if 0≤x.N then(s.Vars[x.N.toNat]?).bind fun z_1=>g z.Name (decide ((if fidx (pV z_1.Name) s.Locals<0 then fidx (pV z_1.Name) s.Vars else -1)=x.N))else none else none)=
   (if 0≤x.N then(s.Vars[x.N.toNat]?).map fun y=>(y.Name,decide (fidx (pV y.Name) s.Locals<0)&&decide (fidx (pV y.Name) s.Vars=x.N))else none).bind fun p=>g p.1 p.2:=by
  by_cases h0:0≤x.N
  ·rw[if_pos h0,if_pos h0]
   cases s.Vars[x.N.toNat]? with
   |none=>rfl
   |some y=>
    simp only[xS,xQ,h0,if_true]
    by_cases a:fidx (pV y.Name) s.Locals<0
    ·simp[a]
    ·have:¬(-1=x.N):=by omega
     simp[a,this]
  ·rw[if_neg h0,if_neg h0];rfl
 by_cases h2:x.Op=2
 ·rw[if_pos h2,if_pos (show x.Op=2∨x.Op=3 from .inl h2)]
  exact vr
 rw[if_neg h2]
 by_cases h3:x.Op=3
 ·rw[if_pos h3,if_pos (show x.Op=2∨x.Op=3 from .inr h3)]
  exact vr
 rw[if_neg h3,if_neg (show¬(x.Op=2∨x.Op=3)from fun q=>q.elim h2 h3)]
 by_cases h4:x.Op=4
 ·rw[if_pos h4,if_pos h4]
  by_cases h0:0≤x.N
  ·simp only[h0,if_true]
   cases s.Locals[x.N.toNat]? <;>rfl
  ·rw[if_neg h0,if_neg h0];rfl
 rw[if_neg h4,if_neg h4]
 by_cases h6:x.Op=6
 ·rw[if_pos h6,if_pos h6]
  by_cases h0:0≤x.N
  ·simp only[h0,if_true]
   cases s.Chans[x.N.toNat]? <;>rfl
  ·rw[if_neg h0,if_neg h0];rfl
 rw[if_neg h6,if_neg h6]
 by_cases h7:x.Op=7
 ·rw[if_pos h7,if_pos h7]
  by_cases h0:0≤w64 (Int.tdiv x.N 16)
  ·simp only[h0,if_true]
   cases s.Procs[(w64 (Int.tdiv x.N 16)).toNat]? <;>rfl
  ·rw[if_neg h0,if_neg h0];rfl
 rw[if_neg h7,if_neg h7]
 by_cases h8:x.Op=8
 ·rw[if_pos h8,if_pos h8]
  by_cases h0:0≤x.N
  ·simp only[h0,if_true]
   cases s.Scalars[x.N.toNat]? <;>rfl
  ·rw[if_neg h0,if_neg h0];rfl
 rw[if_neg h8,if_neg h8]
 rfl
end
end Go.Etx
namespace Go.Etx
open Go Go.Am Go.Proofs
set_option maxRecDepth 20000
def letB(n:Int):Bool:=decide (97≤n∧n≤122) || decide (65≤n∧n≤90)
def digB(n:Int):Bool:=decide (48≤n∧n≤57)
def partB(n:Int):Bool:=letB n || digB n || decide (n=95)
def bI(b:UInt8):Int:=(b.toNat:Int)
def lexN(nm:List UInt8):Bool:= !nm.isEmpty&&decide (nm.length≤16)&&letB (bI (nm.headD 0))&&nm.all (fun b=>partB (bI b))&& !ownL.contains nm
theorem get0{s:List UInt8}{p:Nat}(h:p<s.length):((⟨s.toArray⟩:ByteArray).get! (p+0))=s[p]:=by
 show(s.toArray)[p]! =_
 simp[h]
theorem rune_lo{s:List UInt8}{p:Nat}(h:p<s.length)(hb:s[p].toNat<128):rune s p=(s[p].toNat,1):=by
 unfold rune Utf8.decode
 simp only[get0 h]
 rw[if_pos hb]
theorem rune_hi{s:List UInt8}{p:Nat}(h:p<s.length)(hb:128≤s[p].toNat):128≤(rune s p).1:=by
 unfold rune Utf8.decode
 simp only[get0 h]
 rw[if_neg (by omega)]
 split
 ·split
  ·assumption
  ·simp[Utf8.runeError]
 split
 ·split
  ·rename_i q;simp only[xA,yD]at q;exact Nat.le_trans (by decide) q.1
  ·simp[Utf8.runeError]
 split
 ·split
  ·rename_i q;simp only[xA,yD]at q;exact Nat.le_trans (by decide) q.1
  ·simp[Utf8.runeError]
 simp[Utf8.runeError]
theorem part_rune{s:List UInt8}{p:Nat}(h:p<s.length):partB ((rune s p).1:Int)=partB (bI s[p])∧(partB (bI s[p])=true→(rune s p).2=1):=by
 by_cases hb:s[p].toNat<128
 ·rw[rune_lo h hb];exact⟨rfl,fun _=>rfl⟩
 ·have h1:=rune_hi h (by omega)
  have e1:partB ((rune s p).1:Int)=false:=by
   simp only[partB,letB,digB,Bool.or_eq_false_iff,decide_eq_false_iff_not]
   omega
  have e2:partB (bI s[p])=false:=by
   simp only[partB,letB,digB,bI,Bool.or_eq_false_iff]
   exact⟨⟨⟨decide_eq_false (by omega),decide_eq_false (by omega)⟩,decide_eq_false (by omega)⟩,decide_eq_false (by omega)⟩
  rw[e1,e2]
  exact⟨rfl,fun q=>by cases q⟩
section
variable{ρ:Type}
theorem letx_eq{n:Int}{g:Bool→Option ρ}:f_lex_letter n g=g (letB n):=by
 simp only[f_lex_letter,F_lex_letter,mkF,letB]
 by_cases a:97≤n <;>by_cases b:n≤122 <;>by_cases c:65≤n <;>simp[a,b,c]
theorem letr_eq{n:Int}{g:Bool→Option ρ}:f_r09_letter n g=g (letB n):=by
 simp only[f_r09_letter,F_r09_letter,mkF,letB]
 by_cases a:97≤n <;>by_cases b:n≤122 <;>by_cases c:65≤n <;>simp[a,b,c]
theorem digr_eq{n:Int}{g:Bool→Option ρ}:f_r09_digit n g=g (digB n):=by
 simp only[f_r09_digit,F_r09_digit,mkF,digB]
 by_cases a:48≤n <;>by_cases b:n≤57 <;>simp[a,b]
theorem take_own':List.take 4 ownL=ownL:=rfl
theorem own_loop{nm:List UInt8}{g:Bool→Option ρ}:(iterC (fun(v:Int) k=>if v<4 then if 0≤v∧v<4 then((List.take 4 ownL)[v.toNat]?).bind fun y=>if y=nm then g false else k (IntKind.i64.wrap (v+1))else none else g true) 0)=g (!ownL.contains nm):=by
 refine(iterC_all 4 (fun i:Nat=>(i:Int)) (fun i=>match ownL[i]? with |some y=>decide (y≠nm) |none=>true) (g false) (g true) (fun i k hi=> ?_) (fun k=> ?_)).trans ?_
 ·have hl:i<ownL.length:=hi
  rw[if_pos (by omega),if_pos (by omega),xV,take_own',xG hl,xS,wrapS (by omega)]
  by_cases e:ownL[i]=nm <;>simp[e]
 ·rw[if_neg (by omega)]
 ·by_cases h:ownL.contains nm=true
  ·rw[h,if_neg]
   ·rfl
   ·intro hall
    simp only[List.contains_iff_mem]at h
    obtain⟨i,hi,rfl⟩:=List.mem_iff_getElem.1 h
    have:=hall i hi
    rw[xG hi]at this
    simp at this
  ·have h':ownL.contains nm=false:=by simpa using h
   rw[h',if_pos]
   ·rfl
   ·intro i hi
    have hl:i<ownL.length:=hi
    rw[xG hl]
    simp only[yD]
    intro e
    exact h (by rw[List.contains_iff_mem,←e];exact List.getElem_mem hl)
theorem all_drop{nm:List UInt8}{p:Nat}(h:p<nm.length):(nm.drop p).all (fun b=>partB (bI b))=(partB (bI nm[p])&&(nm.drop (p+1)).all fun b=>partB (bI b)):=by
 rw[xW h,List.all_cons]
theorem wrap32(b:UInt8):IntKind.i32.wrap ((b.toNat:Nat):Int)=(b.toNat:Int):=by
 have h:=b.toNat_lt
 revert h
 generalize b.toNat=n
 intro h
 have:∀n:Fin 256,IntKind.i32.wrap ((n.val:Nat):Int)=((n.val:Nat):Int):=by decide
 exact this ⟨n,h⟩
theorem partB_eq{n:Int}{x y:Option ρ}:(if letB n=true then x else if 48≤n then if n≤57 then x else if n=95 then x else y else if n=95 then x else y)=if partB n=true then x else y:=by
 unfold partB digB
 cases letB n
 ·by_cases a:48≤n
  ·by_cases b:n≤57
   ·simp[a,b]
   ·by_cases c:n=95 <;>simp[a,b,c]
  ·by_cases c:n=95 <;>simp[a,c]
 ·simp
theorem namel_eq{nm:List UInt8}{g:Bool→Option ρ}:f_lex_Name nm g=g (lexN nm):=by
 simp only[f_lex_Name,F_lex_Name,mkF,letx_eq,own_loop,lexN]
 by_cases h0:nm=[]
 ·subst h0;rfl
 rw[if_neg h0]
 by_cases h16:16<nm.length
 ·rw[if_pos (by omega)]
  have:¬nm.length≤16:=by omega
  simp[this]
 rw[if_neg (by omega)]
 have hpos:0<nm.length:=List.length_pos_iff.2 h0
 have hget:nm[0]? =some nm[0]:=xG hpos
 simp only[partB_eq,hget,xS,wrap32]
 have loop:∀p:Nat,p≤nm.length→(iterC (fun(v:Int×Bool×Nat) k=>if v.2.2<nm.length then(if partB ((rune nm v.2.2).1:Int)=true then k ((v.2.2:Int),false,v.2.2+(rune nm v.2.2).2)else if v.2.2<nm.length then g false else g (!ownL.contains nm))else g (!ownL.contains nm)) ((0:Int),false,p))=if((nm.drop p).all fun b=>partB (bI b))=true then g (!ownL.contains nm)else g false:=fun p hp=>by
  refine iterC_is (fun v:Int×Bool×Nat=>v.2.2≤nm.length) (fun v=>if((nm.drop v.2.2).all fun b=>partB (bI b))=true then g (!ownL.contains nm)else g false) (fun v=>nm.length - v.2.2) ?_ (v:=((0:Int),false,p)) hp
  rintro⟨a,b,q⟩ k hq hk
  simp only at hq ⊢
  by_cases hlt:q<nm.length
  ·rw[if_pos hlt,(part_rune hlt).1,all_drop hlt]
   cases hb:partB (bI nm[q])with
   |true=>
    rw[if_pos rfl,(part_rune hlt).2 hb,hk _ (by simp only;omega) (by simp only;omega),Bool.true_and]
   |false=>simp[hlt]
  ·rw[if_neg hlt]
   simp[List.drop_eq_nil_of_le (yC hlt)]
 have hall:nm.all (fun b=>partB (bI b))=(partB (bI nm[0])&&(nm.drop 1).all fun b=>partB (bI b)):=all_drop (p:=0) hpos
 have hfst:nm.headD 0=nm[0]:=by cases nm with |nil=>exact absurd rfl h0 |cons b r=>rfl
 have hne:(!nm.isEmpty)=true:=by simp[h0]
 rw[hne,hfst,hall,show decide (nm.length≤16)=true by simp;omega]
 simp only[Bool.true_and]
 show(if letB (bI nm[0])=false then g false else _)=_
 cases hl:letB (bI nm[0])with
 |false=>simp
 |true=>
  rw[if_neg (by simp),if_pos hpos]
  have hp:partB (bI nm[0])=true:=by simp[partB,hl]
  obtain⟨r1,r2⟩:=part_rune hpos
  rw[r1,hp,if_pos rfl,r2 hp]
  refine(loop 1 hpos).trans ?_
  cases h:(nm.drop 1).all fun b=>partB (bI b) <;>simp
theorem begins_eq{nm:List UInt8}(h0:nm≠[])(h16:nm.length≤16){g:Bool→Option ρ}:(f_r09_begins nm 0 fun y0 y1=>if y1=1 then g (decide (y0=(nm.length:Int)))else g false)=g (letB (bI (nm.headD 0))&&nm.all fun b=>partB (bI b)):=by
 simp only[f_r09_begins,F_r09_begins,mkF,letr_eq,digr_eq,f_r09_signs,F_r09_signs]
 have hpos:0<nm.length:=List.length_pos_iff.2 h0
 have hget:nm[(0:Int).toNat]? =some nm[0]:=xG hpos
 have hfst:nm.headD 0=nm[0]:=by cases nm with |nil=>exact absurd rfl h0 |cons b r=>rfl
 have hall:nm.all (fun b=>partB (bI b))=(partB (bI nm[0])&&(nm.drop 1).all fun b=>partB (bI b)):=all_drop (p:=0) hpos
 have hw1:IntKind.i64.wrap ((0:Int)+1)=((1:Nat):Int):=wrapS (k:=0) (by omega)
 have h00:(0:Int)≤0:=Int.le_refl _
 have hpi:(0:Int)<(nm.length:Int):=by omega
 rw[hfst,hall]
 simp only[h00,hpi,if_true,hget,xS,show¬((2:Int)=1)by decide,show¬((3:Int)=1)by decide,show¬((0:Int)=1)by decide,if_false]
 show(if letB (bI nm[0])=true then _ else _)=_
 cases hl:letB (bI nm[0])with
 |true=>
  rw[if_pos rfl,show letB ((nm[0].toNat:Nat):Int)=true from hl,if_pos rfl,hw1]
  have hp:partB (bI nm[0])=true:=by simp[partB,hl]
  rw[hp,Bool.true_and,Bool.true_and]
  refine(iterC_is (fun v:Int=>∃i:Nat,v=i∧i≤nm.length) (fun v=>g ((nm.drop v.toNat).all fun b=>partB (bI b))) (fun v=>nm.length - v.toNat) ?_ (v:=((1:Nat):Int)) ⟨1,rfl,hpos⟩).trans rfl
  rintro v k ⟨i,rfl,hi⟩ hk
  have hwi:IntKind.i64.wrap ((i:Int) - 0)=(i:Int):=by rw[Int.sub_zero,wrap_i64 (by omega) (by omega)]
  rw[xV,hwi]
  by_cases hlt:i<nm.length
  ·have e1:(i:Int)<(nm.length:Int):=by omega
   have e2:(0:Int)≤(i:Int):=by omega
   have e3:¬((i:Int)=(nm.length:Int)):=by omega
   simp only[e1,e2,if_true,xG hlt,xS,wrapS (show i<4611686018427387904 by omega),e3,decide_false]
   have hk1:k ((i+1:Nat):Int)=g ((nm.drop (i+1)).all fun b=>partB (bI b)):=by
    rw[hk _ ⟨i+1,rfl,hlt⟩ (by simp only[xV];omega),xV]
   rw[all_drop hlt,hk1]
   show(if letB (bI nm[i])=true then _ else if digB (bI nm[i])=true then _ else if bI nm[i]=95 then _ else _)=_
   unfold partB
   cases letB (bI nm[i])
   ·cases digB (bI nm[i])
    ·by_cases h:bI nm[i]=95
     ·rw[h];simp
     ·simp[h]
    ·simp
   ·simp
  ·have e1:¬(i:Int)<(nm.length:Int):=by omega
   have e3:((i:Int)=(nm.length:Int)):=by omega
   rw[if_neg e1,decide_eq_true e3,List.drop_eq_nil_of_le (yC hlt)]
   rfl
 |false=>
  rw[if_neg (by simp),Bool.false_and]
  show(if digB (bI nm[0])=true then _ else _)=_
  cases hd:digB (bI nm[0])with
  |true=>
   rw[if_pos rfl,show digB ((nm[0].toNat:Nat):Int)=true from hd,if_pos rfl,hw1]
   refine iterC_is (fun v:Int=>∃i:Nat,v=i∧i≤nm.length) (fun v=>g false) (fun v=>nm.length - v.toNat) ?_ (v:=((1:Nat):Int)) ⟨1,rfl,hpos⟩
   rintro v k ⟨i,rfl,hi⟩ hk
   by_cases hlt:i<nm.length
   ·have e1:(i:Int)<(nm.length:Int):=by omega
    have e2:(0:Int)≤(i:Int):=by omega
    simp only[e1,e2,if_true,xV,xG hlt,xS,wrapS (show i<4611686018427387904 by omega)]
    split
    ·exact hk _ ⟨i+1,rfl,hlt⟩ (by simp only[xV];omega)
    ·rfl
   ·rw[if_neg (by omega)]
  |false=>
   rw[if_neg (by simp)]
   have hsg:∀y∈sgL,y.length≤2:=by decide
   refine iterC_is (fun v:Int=>∃i:Nat,v=i∧i≤25) (fun v=>g false) (fun v=>25 - v.toNat) ?_ (v:=(0:Int)) ⟨0,rfl,by omega⟩
   rintro v k ⟨i,rfl,hi⟩ hk
   by_cases hlt:i<25
   ·have hli:i<sgL.length:=hlt
    have e1:(i:Int)<25:=by omega
    have e2:(0:Int)≤(i:Int):=by omega
    have hy:=hsg sgL[i] (List.getElem_mem hli)
    have w1:IntKind.i64.wrap ((nm.length:Int) - 0)=(nm.length:Int):=by rw[Int.sub_zero,wrap_i64 (by omega) (by omega)]
    have w2:IntKind.i64.wrap (0+(sgL[i].length:Int))=(sgL[i].length:Int):=by rw[Int.zero_add,wrap_i64 (by omega) (by omega)]
    have e3:(0:Int)≤(sgL[i].length:Int):=by omega
    simp only[e1,e2,if_true,xV,xG hli,xS,wrapS (show i<4611686018427387904 by omega),w1,w2,e3]
    have hk1:=hk ((i+1:Nat):Int) ⟨i+1,rfl,hlt⟩ (by simp only[xV];omega)
    by_cases c:(sgL[i].length:Int)≤(nm.length:Int)
    ·rw[if_pos c,if_pos ⟨by omega,c⟩]
     split
     ·rfl
     ·exact hk1
    ·rw[if_neg c];exact hk1
   ·rw[if_neg (by omega)]
theorem namer9_eq{nm:List UInt8}{g:Bool→Option ρ}:f_r09_Name nm g=g (lexN nm):=by
 simp only[f_r09_Name,F_r09_Name,mkF,lexN]
 by_cases h0:nm=[]
 ·subst h0;rfl
 rw[if_neg h0]
 by_cases h16:16<nm.length
 ·rw[if_pos (by omega)]
  have:¬nm.length≤16:=by omega
  simp[this]
 rw[if_neg (by omega)]
 by_cases a1:nm=[115,101,108,102]
 ·subst a1;rfl
 by_cases a2:nm=[110,111,110,101]
 ·subst a2;rfl
 by_cases a3:nm=[108,101,110]
 ·subst a3;rfl
 by_cases a4:nm=[97,116]
 ·subst a4;rfl
 rw[if_neg a1,if_neg a2,if_neg a3,if_neg a4,begins_eq h0 (by omega)]
 have hno:ownL.contains nm=false:=by
  rw[Bool.eq_false_iff]
  intro h
  rw[List.contains_iff_mem]at h
  simp only[ownL,xY,List.not_mem_nil,or_false]at h
  rcases h with h |h |h |h
  ·exact a1 h
  ·exact a2 h
  ·exact a3 h
  ·exact a4 h
 have hne:nm.isEmpty=false:=by simp[h0]
 have hle:decide (nm.length≤16)=true:=by simp;omega
 rw[hno,hne,hle]
 simp
end
end Go.Etx
namespace Go.Am
open Go
variable{P:Program}{hints:FuncId→Hint}
def callS(P:Program)(hint:FuncId→Hint)(c:CallF)(n:Nat)(f:FuncId)(ds:List D)(H:List Ob):Option (List T×List Ob):=
 if YB≤f then roundN P c hint n (f - YB) ds H else
 match (hint f).ext with
 |some F=>(F ds).bind fun rs=>if isPanT rs=true then none else some (rs,H)
 |none=>
 (P.funcs[f]?).bind fun fn=>fn.body.bind fun cd=>
  if ds.length=fn.params.size+fn.nfree∧codeOk fn.ntmps cd=true∧(fn.name== "runtime.NumGoroutine")=false then
   if(hint f).rcv=true then(recN P c hint n f cd fn.ntmps (enter ds H)).bind (leave P (hint f).own fn H.length)
   else if(decide ((hint f).nilt≠0)&&emptyArg ds)=true then
    bothE H.length (flagE (hint f) ds) ((codeN P c (hint f) n cd (enterE true H)).bind (leave P (hint f).own fn H.length)) ((codeN P c (hint f) n cd (enterE false H)).bind (leave P (hint f).own fn H.length))
   else(codeN P c (hint f) n cd (enter ds H)).bind (leave P (hint f).own fn H.length)
  else if ds.length+1=fn.params.size+fn.nfree∧codeOk fn.ntmps cd=true∧(fn.name== "runtime.NumGoroutine")=false then
   (rowOf H).bind fun es=>(codeN P c (hint f) n cd (enterR es ds)).bind (leave P (hint f).own fn 0)
  else none
theorem callS_mono{c c':CallF}(ih:CallLe c c'){n m:Nat}(hn:n≤m){f:FuncId}{ds:List D}{H:List Ob}{r:List T×List Ob}(e:callS P hints c n f ds H=some r):callS P hints c' m f ds H=some r:=by
 unfold callS at e ⊢
 by_cases hy:YB≤f
 ·rw[if_pos hy]at e ⊢
  exact roundN_mono ih hn e
 rw[if_neg hy]at e ⊢
 split at e
 ·exact e
 simp only[xB]at e ⊢
 obtain⟨fn,h1,cd,h2,e⟩:=e
 refine⟨fn,h1,cd,h2,?_⟩
 split at e
 ·rename_i hh
  rw[if_pos hh]
  by_cases hr:(hints f).rcv=true
  ·rw[if_pos hr]at e ⊢
   simp only[xB]at e ⊢
   obtain⟨x,e1,e2⟩:=e
   exact⟨x,recN_mono ih hn e1,e2⟩
  rw[if_neg hr]at e ⊢
  by_cases hnil:(decide ((hints f).nilt≠0)&&emptyArg ds)=true
  ·rw[if_pos hnil]at e ⊢
   obtain⟨t1,t2,H1,H2,ht,q1,q2,l1,l2,m1,m2,rfl⟩:=bothE_some e
   simp only[xB]at q1 q2
   obtain⟨x,e1,e2⟩:=q1
   obtain⟨y,e3,e4⟩:=q2
   show bothE H.length (flagE (hints f) ds) ((codeN P c' (hints f) m cd (enterE true H)).bind (leave P (hints f).own fn H.length)) ((codeN P c' (hints f) m cd (enterE false H)).bind (leave P (hints f).own fn H.length))=_
   rw[codeN_mono ih hn cd _ _ e1,codeN_mono ih hn cd _ _ e3,xS,xS,e2,e4]
   exact bothE_of ht l1 l2 m1 m2
  rw[if_neg hnil]at e ⊢
  simp only[xB]at e ⊢
  obtain⟨x,e1,e2⟩:=e
  exact⟨x,codeN_mono ih hn cd _ _ e1,e2⟩
 ·rename_i hh
  rw[if_neg hh]
  split at e
  ·rename_i h3
   rw[if_pos h3]
   simp only[xB]at e ⊢
   obtain⟨es,e0,x,e1,e2⟩:=e
   exact⟨es,e0,x,codeN_mono ih hn cd _ _ e1,e2⟩
  ·cases e
abbrev Memo:=List (FuncId×List D×List T)
def memo:Memo→FuncId→List D→Option (List T)
 | [],_,_=>none
 |e::K,f,ds=>if(Nat.beq e.1 f&&D.beqs e.2.1 ds)=true then some e.2.2 else memo K f ds
def callM(P:Program)(hint:FuncId→Hint)(K:Memo):Nat→CallF
 |0,_,_,_=>none
 |n+1,f,ds,H=>match H with
  | []=>match memo K f ds with
   |some rs=>some (rs,[])
   |none=>callS P hint (callM P hint K n) n f ds []
  |o::r=>callS P hint (callM P hint K n) n f ds (o::r)
def Memo.OK(P:Program)(hint:FuncId→Hint):Memo→Prop
 | []=>True
 |e::K=>callX P hint e.1 e.2.1 []=some (e.2.2,[])∧Memo.OK P hint K
theorem memo_ok:∀(K:Memo),K.OK P hints→∃n,∀f ds rs,memo K f ds=some rs→callN P hints n f ds []=some (rs,[])
 | [],_=>⟨0,fun _ _ _ h=>by cases h⟩
 |e::K,h=>by
  obtain⟨n,hn⟩:=memo_ok K h.2
  obtain⟨m,hm⟩:=callX_iff.1 h.1
  refine⟨max n m,fun f ds rs q=> ?_⟩
  unfold memo at q
  split at q
  ·rename_i hh
   simp only[xA,xJ]at hh q
   obtain⟨h1,h2⟩:=hh
   have h1:=Nat.eq_of_beq_eq_true h1
   have h2:=D.beqs_eq _ _ h2
   subst h1
   subst h2
   subst q
   exact callN_mono (Nat.le_max_right _ _) _ _ _ _ hm
  ·exact callN_mono (Nat.le_max_left _ _) _ _ _ _ (hn f ds rs q)
theorem callM_ok{K:Memo}{N:Nat}(h:∀f ds rs,memo K f ds=some rs→callN P hints N f ds []=some (rs,[])):∀n,CallLe (callM P hints K n) (callN P hints (N+n))
 |0=>fun f ds H r e=>by cases e
 |n+1=>fun f ds H r e=>by
  have ih:=callM_ok h n
  have key:∀H,callS P hints (callM P hints K n) n f ds H=some r→callN P hints (N+(n+1)) f ds H=some r:=fun H e=>
   callS_mono (c':=callN P hints (N+n)) ih (Nat.le_add_left n N) e
  cases H with
  |nil=>
   simp only[callM]at e
   split at e
   ·rename_i rs hm
    simp only[xJ]at e
    subst e
    exact callN_mono (Nat.le_add_right N (n+1)) _ _ _ _ (h f ds rs hm)
   ·exact key _ e
  |cons o H=>exact key _ e
theorem callX_memo{f:FuncId}{ds:List D}{H:List Ob}{r:List T×List Ob}(K:Memo)(hK:K.OK P hints)(n:Nat)(e:callM P hints K n f ds H=some r):callX P hints f ds H=some r:=by
 obtain⟨N,hN⟩:=memo_ok K hK
 exact callX_iff.2 ⟨N+n,callM_ok hN n f ds H r e⟩
end Go.Am
namespace Go.Etx
open Go Go.Am Go.Proofs
set_option maxRecDepth 20000
def m0:FuncId×List D×List T:=(18,[.sl true [.agg [.int .i64 (2),.int .i64 (0)],.agg [.int .i64 (1),.int .i64 (1)],.agg [.int .i64 (11),.int .i64 (0)],.agg [.int .i64 (1),.int .i64 (2)],.agg [.int .i64 (13),.int .i64 (0)]],.agg [.sl true [],.sl true [.agg [.str [120],.int .i64 (0),.int .i64 (0),.int .i64 (0),.int .i64 (9),.int .i64 (0)],.agg [.str [121],.int .i64 (0),.int .i64 (0),.int .i64 (0),.int .i64 (9),.int .i64 (0)]],.sl true [],.sl true [],.sl true [],.int .i64 (0)]],[.d (.int .i64 (0)),.d (.int .i64 (0))])
theorem M0:call m0.1 m0.2.1 []=some (m0.2.2,[]):=callX_memo [] trivial 60 (by kernel_rfl)
def m1:FuncId×List D×List T:=(9,[.sl true [.agg [.int .i64 (2),.int .i64 (0)],.agg [.int .i64 (1),.int .i64 (1)],.agg [.int .i64 (11),.int .i64 (0)],.agg [.int .i64 (1),.int .i64 (2)],.agg [.int .i64 (13),.int .i64 (0)]],.agg [.sl true [],.sl true [.agg [.str [120],.int .i64 (0),.int .i64 (0),.int .i64 (0),.int .i64 (9),.int .i64 (0)],.agg [.str [121],.int .i64 (0),.int .i64 (0),.int .i64 (0),.int .i64 (9),.int .i64 (0)]],.sl true [],.sl true [],.sl true [],.int .i64 (0)]],[.d (.str [40,120,32,43,32,49,41,32,42,32,50]),.d (.int .i64 (0))])
theorem M1:call m1.1 m1.2.1 []=some (m1.2.2,[]):=callX_memo [m0] ⟨M0,trivial⟩ 60 (by kernel_rfl)
def m2:FuncId×List D×List T:=(34,[.str [45,32,121,32,45,32,49]],[.d (.agg [.int .i64 (3),.int .i64 (0),.int .i64 (0),.str [45]]),.d (.int .i64 (0))])
theorem M2:call m2.1 m2.2.1 []=some (m2.2.2,[]):=callX_memo [] trivial 60 (by kernel_rfl)
def m3:FuncId×List D×List T:=(34,[.str [45,32,49]],[.d (.agg [.int .i64 (3),.int .i64 (0),.int .i64 (0),.str [45]]),.d (.int .i64 (0))])
theorem M3:call m3.1 m3.2.1 []=some (m3.2.2,[]):=callX_memo [] trivial 60 (by kernel_rfl)
def m4:FuncId×List D×List T:=(9,[.sl true [.agg [.int .i64 (2),.int .i64 (0)],.agg [.int .i64 (2),.int .i64 (1)],.agg [.int .i64 (12),.int .i64 (0)],.agg [.int .i64 (1),.int .i64 (1)],.agg [.int .i64 (12),.int .i64 (0)]],.agg [.sl true [],.sl true [.agg [.str [120],.int .i64 (0),.int .i64 (0),.int .i64 (0),.int .i64 (9),.int .i64 (0)],.agg [.str [121],.int .i64 (0),.int .i64 (0),.int .i64 (0),.int .i64 (9),.int .i64 (0)]],.sl true [],.sl true [],.sl true [],.int .i64 (0)]],[.d (.str [120,32,45,32,121,32,45,32,49]),.d (.int .i64 (0))])
theorem M4:call m4.1 m4.2.1 []=some (m4.2.2,[]):=callX_memo [] trivial 60 (by kernel_rfl)
def m5:FuncId×List D×List T:=(8,[.str [120,32,45,32,121,32,45,32,49],.agg [.sl false [],.sl false [.agg [.str [120],.int .i64 (0),.int .i64 (0),.int .i64 (0),.int .i64 (9),.int .i64 (0)],.agg [.str [121],.int .i64 (0),.int .i64 (0),.int .i64 (0),.int .i64 (9),.int .i64 (0)]],.sl false [],.sl false [],.sl false [],.int .i64 (0)]],[.d (.sl false [.agg [.int .i64 (2),.int .i64 (0)],.agg [.int .i64 (2),.int .i64 (1)],.agg [.int .i64 (12),.int .i64 (0)],.agg [.int .i64 (1),.int .i64 (1)],.agg [.int .i64 (12),.int .i64 (0)]]),.d (.int .i64 (0)),.d (.int .i64 (0))])
theorem M5:call m5.1 m5.2.1 []=some (m5.2.2,[]):=callX_memo [m2,m3,m4] ⟨M2,M3,M4,trivial⟩ 60 (by kernel_rfl)
def m6:FuncId×List D×List T:=(9,[.sl true [.agg [.int .i64 (2),.int .i64 (0)],.agg [.int .i64 (1),.int .i64 (1)],.agg [.int .i64 (14),.int .i64 (0)]],.agg [.sl true [],.sl true [.agg [.str [120],.int .i64 (0),.int .i64 (0),.int .i64 (0),.int .i64 (9),.int .i64 (0)],.agg [.str [121],.int .i64 (0),.int .i64 (0),.int .i64 (0),.int .i64 (9),.int .i64 (0)]],.sl true [],.sl true [],.sl true [],.int .i64 (0)]],[.d (.str [120,32,61,61,32,49]),.d (.int .i64 (0))])
theorem M6:call m6.1 m6.2.1 []=some (m6.2.2,[]):=callX_memo [] trivial 60 (by kernel_rfl)
def m7:FuncId×List D×List T:=(8,[.str [120,32,32,61,61,32,49],.agg [.sl false [],.sl false [.agg [.str [120],.int .i64 (0),.int .i64 (0),.int .i64 (0),.int .i64 (9),.int .i64 (0)],.agg [.str [121],.int .i64 (0),.int .i64 (0),.int .i64 (0),.int .i64 (9),.int .i64 (0)]],.sl false [],.sl false [],.sl false [],.int .i64 (0)]],[.d (.sl false []),.d (.int .i64 (2)),.d (.int .i64 (13))])
theorem M7:call m7.1 m7.2.1 []=some (m7.2.2,[]):=callX_memo [m6] ⟨M6,trivial⟩ 60 (by kernel_rfl)
def m8:FuncId×List D×List T:=(8,[.str [120,32,61,61,32],.agg [.sl false [],.sl false [.agg [.str [120],.int .i64 (0),.int .i64 (0),.int .i64 (0),.int .i64 (9),.int .i64 (0)],.agg [.str [121],.int .i64 (0),.int .i64 (0),.int .i64 (0),.int .i64 (9),.int .i64 (0)]],.sl false [],.sl false [],.sl false [],.int .i64 (0)]],[.d (.sl false []),.d (.int .i64 (5)),.d (.int .i64 (3))])
theorem M8:call m8.1 m8.2.1 []=some (m8.2.2,[]):=callX_memo [] trivial 60 (by kernel_rfl)
def m9:FuncId×List D×List T:=(7,[],[.d (.bool true)])
theorem M9:call m9.1 m9.2.1 []=some (m9.2.2,[]):=callX_memo [m1,m5,m7,m8] ⟨M1,M5,M7,M8,trivial⟩ 60 (by kernel_rfl)
end Go.Etx
namespace Go.Proofs
open Go.Shelf
def Tryz.lays172_ren:Go.Shelf.Ren:=⟨fun |172=>105 |244=>132 |245=>133 |247=>142 |279=>143 |280=>144 |281=>145 |282=>146 |287=>150 |316=>151 |171=>131 |205=>152 |321=>157 |322=>158 |243=>141 |246=>149 |283=>153 |284=>154 |285=>155 |286=>156 |129=>160 |317=>159 |318=>161 |319=>162 |320=>163 |337=>164 |338=>165 |n=>n,fun |9=>9 |3=>3 |75=>155 |76=>156 |4=>4 |5=>5 |167=>176 |37=>171 |0=>0 |85=>177 |2=>2 |168=>179 |53=>185 |175=>186 |46=>188 |210=>191 |127=>199 |145=>202 |143=>200 |21=>21 |171=>193 |173=>196 |212=>203 |51=>204 |20=>20 |213=>205 |232=>208 |233=>209 |80=>210 |n=>n,fun |15=>2 |16=>3 |17=>4 |18=>5 |19=>6 |n=>n⟩
def Tryz.laysM246_ren:Go.Shelf.Ren:=⟨fun |246=>149 |283=>153 |284=>154 |285=>155 |286=>156 |129=>160 |317=>159 |318=>161 |319=>162 |320=>163 |337=>164 |338=>165 |n=>n,fun |2=>2 |3=>3 |9=>9 |4=>4 |171=>193 |0=>0 |53=>185 |37=>171 |5=>5 |173=>196 |212=>203 |51=>204 |20=>20 |213=>205 |46=>188 |232=>208 |233=>209 |n=>n,fun |17=>4 |18=>5 |19=>6 |n=>n⟩
def Tryz.laysM243_ren:Go.Shelf.Ren:=⟨fun |243=>141 |246=>149 |283=>153 |284=>154 |285=>155 |286=>156 |129=>160 |317=>159 |318=>161 |319=>162 |320=>163 |337=>164 |338=>165 |n=>n,fun |3=>3 |9=>9 |2=>2 |4=>4 |171=>193 |0=>0 |53=>185 |37=>171 |5=>5 |173=>196 |212=>203 |51=>204 |20=>20 |213=>205 |46=>188 |232=>208 |233=>209 |n=>n,fun |17=>4 |18=>5 |19=>6 |n=>n⟩
def Tryz.laysM171_ren:Go.Shelf.Ren:=⟨fun |171=>131 |243=>141 |246=>149 |283=>153 |284=>154 |285=>155 |286=>156 |129=>160 |317=>159 |318=>161 |319=>162 |320=>163 |337=>164 |338=>165 |n=>n,fun |3=>3 |9=>9 |2=>2 |4=>4 |171=>193 |0=>0 |53=>185 |37=>171 |5=>5 |173=>196 |212=>203 |51=>204 |20=>20 |213=>205 |46=>188 |232=>208 |233=>209 |n=>n,fun |17=>4 |18=>5 |19=>6 |n=>n⟩
theorem Tryz.laysM171:Go.Proofs.LaysM.n171 Tryz.prog Tryz.laysM171_ren:={
 mixed:=by kernel_rfl
 f129:=Tryz.func160.trans (congrArg some (by kernel_rfl))
 f171:=Tryz.func131.trans (congrArg some (by kernel_rfl))
 f243:=Tryz.func141.trans (congrArg some (by kernel_rfl))
 f246:=Tryz.func149.trans (congrArg some (by kernel_rfl))
 f283:=Tryz.func153.trans (congrArg some (by kernel_rfl))
 f284:=Tryz.func154.trans (congrArg some (by kernel_rfl))
 f285:=Tryz.func155.trans (congrArg some (by kernel_rfl))
 f286:=Tryz.func156.trans (congrArg some (by kernel_rfl))
 f317:=Tryz.func159.trans (congrArg some (by kernel_rfl))
 f318:=Tryz.func161.trans (congrArg some (by kernel_rfl))
 f319:=Tryz.func162.trans (congrArg some (by kernel_rfl))
 f320:=Tryz.func163.trans (congrArg some (by kernel_rfl))
 f337:=Tryz.func164.trans (congrArg some (by kernel_rfl))
 f338:=Tryz.func165.trans (congrArg some (by kernel_rfl))
 t0:=Tryz.underlying0
 a0:=Tryz.isAgg0
 z0:=Tryz.sizeOf0
 v0:=Tryz.zeroValue0
 t2:=Tryz.underlying2
 a2:=Tryz.isAgg2
 z2:=Tryz.sizeOf2
 v2:=Tryz.zeroValue2
 t3:=Tryz.underlying3
 a3:=Tryz.isAgg3
 z3:=Tryz.sizeOf3
 v3:=Tryz.zeroValue3
 t4:=Tryz.underlying4
 a4:=Tryz.isAgg4
 z4:=Tryz.sizeOf4
 v4:=Tryz.zeroValue4
 t5:=Tryz.underlying5
 a5:=Tryz.isAgg5
 z5:=Tryz.sizeOf5
 v5:=Tryz.zeroValue5
 t9:=Tryz.underlying9
 a9:=Tryz.isAgg9
 z9:=Tryz.sizeOf9
 v9:=Tryz.zeroValue9
 t20:=Tryz.underlying20
 a20:=Tryz.isAgg20
 z20:=Tryz.sizeOf20
 v20:=Tryz.zeroValue20
 t37:=Tryz.underlying171
 a37:=Tryz.isAgg171
 z37:=Tryz.sizeOf171
 v37:=Tryz.zeroValue171
 t46:=Tryz.underlying188
 a46:=Tryz.isAgg188
 z46:=Tryz.sizeOf188
 v46:=Tryz.zeroValue188
 t51:=Tryz.underlying204
 a51:=Tryz.isAgg204
 z51:=Tryz.sizeOf204
 v51:=Tryz.zeroValue204
 t53:=Tryz.underlying185
 a53:=Tryz.isAgg185
 z53:=Tryz.sizeOf185
 v53:=Tryz.zeroValue185
 t171:=Tryz.underlying193
 a171:=Tryz.isAgg193
 z171:=Tryz.sizeOf193
 v171:=Tryz.zeroValue193
 t173:=Tryz.underlying196
 a173:=Tryz.isAgg196
 z173:=Tryz.sizeOf196
 v173:=Tryz.zeroValue196
 t212:=Tryz.underlying203
 a212:=Tryz.isAgg203
 z212:=Tryz.sizeOf203
 v212:=Tryz.zeroValue203
 t213:=Tryz.underlying205
 a213:=Tryz.isAgg205
 z213:=Tryz.sizeOf205
 t232:=Tryz.underlying208
 a232:=Tryz.isAgg208
 z232:=Tryz.sizeOf208
 v232:=Tryz.zeroValue208
 t233:=Tryz.underlying209
 a233:=Tryz.isAgg209
 z233:=Tryz.sizeOf209
 v233:=Tryz.zeroValue209
 g17:=by kernel_rfl
 g18:=by kernel_rfl
 g19:=by kernel_rfl
 i0:=by kernel_rfl
 i2:=by kernel_rfl
 i3:=by kernel_rfl
 i4:=by kernel_rfl
 i5:=by kernel_rfl
 i9:=by kernel_rfl
 i20:=by kernel_rfl
 i37:=by kernel_rfl
 i46:=by kernel_rfl
 i51:=by kernel_rfl
 i53:=by kernel_rfl
 i171:=by kernel_rfl
 i173:=by kernel_rfl
 i212:=by kernel_rfl
 i232:=by kernel_rfl
 i233:=by kernel_rfl
 m17:=by kernel_rfl
 m18:=by kernel_rfl
 m19:=by kernel_rfl}
open Go.RowKit Go.Sort Go.Lib in
theorem Tryz.strconv_Itoa(n:Int)(h0:-9223372036854775808≤n)(h1:n≤9223372036854775807)(w:World)(htab:Lib.TabIs Tryz.prog w "internal/strconv.uint64pow10" .u64 Lib.pow10Tab):
  Calls Tryz.prog 131 #[.int .i64 n] w fun e w'=>e=.returned (.string ⟨(Lib.itoa n).toArray⟩)∧∃k os,w'=grow (w.drewN k) os:=Any.strconv_Itoa Tryz.laysM171 n h0 h1 w htab
def Tryz.laysC172_ren:Go.Shelf.Ren:=⟨fun |172=>105 |244=>132 |245=>133 |247=>142 |279=>143 |280=>144 |281=>145 |282=>146 |287=>150 |316=>151 |171=>131 |205=>152 |321=>157 |322=>158 |243=>141 |246=>149 |283=>153 |284=>154 |285=>155 |286=>156 |129=>160 |317=>159 |318=>161 |319=>162 |320=>163 |337=>164 |338=>165 |n=>n,fun |9=>9 |3=>3 |75=>155 |76=>156 |4=>4 |5=>5 |167=>176 |37=>171 |0=>0 |85=>177 |2=>2 |168=>179 |53=>185 |175=>186 |46=>188 |210=>191 |127=>199 |145=>202 |143=>200 |21=>21 |171=>193 |173=>196 |212=>203 |51=>204 |20=>20 |213=>205 |232=>208 |233=>209 |80=>210 |n=>n,fun |15=>2 |16=>3 |17=>4 |18=>5 |19=>6 |n=>n⟩
theorem Tryz.laysC172:Go.Proofs.LaysC.n172 Tryz.prog Tryz.laysC172_ren:={
 mixed:=by kernel_rfl
 f129:=Tryz.func160.trans (congrArg some (by kernel_rfl))
 f171:=Tryz.func131.trans (congrArg some (by kernel_rfl))
 f172:=Tryz.func105.trans (congrArg some (by kernel_rfl))
 f205:=Tryz.func152.trans (congrArg some (by kernel_rfl))
 f243:=Tryz.func141.trans (congrArg some (by kernel_rfl))
 f244:=Tryz.func132.trans (congrArg some (by kernel_rfl))
 f245:=Tryz.func133.trans (congrArg some (by kernel_rfl))
 f246:=Tryz.func149.trans (congrArg some (by kernel_rfl))
 f247:=Tryz.func142.trans (congrArg some (by kernel_rfl))
 f279:=Tryz.func143.trans (congrArg some (by kernel_rfl))
 f280:=Tryz.func144.trans (congrArg some (by kernel_rfl))
 f281:=Tryz.func145.trans (congrArg some (by kernel_rfl))
 f282:=Tryz.func146.trans (congrArg some (by kernel_rfl))
 f283:=Tryz.func153.trans (congrArg some (by kernel_rfl))
 f284:=Tryz.func154.trans (congrArg some (by kernel_rfl))
 f285:=Tryz.func155.trans (congrArg some (by kernel_rfl))
 f286:=Tryz.func156.trans (congrArg some (by kernel_rfl))
 f287:=Tryz.func150.trans (congrArg some (by kernel_rfl))
 f316:=Tryz.func151.trans (congrArg some (by kernel_rfl))
 f317:=Tryz.func159.trans (congrArg some (by kernel_rfl))
 f318:=Tryz.func161.trans (congrArg some (by kernel_rfl))
 f319:=Tryz.func162.trans (congrArg some (by kernel_rfl))
 f320:=Tryz.func163.trans (congrArg some (by kernel_rfl))
 f321:=Tryz.func157.trans (congrArg some (by kernel_rfl))
 f322:=Tryz.func158.trans (congrArg some (by kernel_rfl))
 f337:=Tryz.func164.trans (congrArg some (by kernel_rfl))
 f338:=Tryz.func165.trans (congrArg some (by kernel_rfl))
 t0:=Tryz.underlying0
 a0:=Tryz.isAgg0
 z0:=Tryz.sizeOf0
 v0:=Tryz.zeroValue0
 t2:=Tryz.underlying2
 a2:=Tryz.isAgg2
 z2:=Tryz.sizeOf2
 v2:=Tryz.zeroValue2
 t3:=Tryz.underlying3
 a3:=Tryz.isAgg3
 z3:=Tryz.sizeOf3
 v3:=Tryz.zeroValue3
 t4:=Tryz.underlying4
 a4:=Tryz.isAgg4
 z4:=Tryz.sizeOf4
 v4:=Tryz.zeroValue4
 t5:=Tryz.underlying5
 a5:=Tryz.isAgg5
 z5:=Tryz.sizeOf5
 v5:=Tryz.zeroValue5
 t9:=Tryz.underlying9
 a9:=Tryz.isAgg9
 z9:=Tryz.sizeOf9
 v9:=Tryz.zeroValue9
 t20:=Tryz.underlying20
 a20:=Tryz.isAgg20
 z20:=Tryz.sizeOf20
 v20:=Tryz.zeroValue20
 t21:=Tryz.underlying21
 a21:=Tryz.isAgg21
 z21:=Tryz.sizeOf21
 v21:=Tryz.zeroValue21
 t37:=Tryz.underlying171
 a37:=Tryz.isAgg171
 z37:=Tryz.sizeOf171
 v37:=Tryz.zeroValue171
 t46:=Tryz.underlying188
 a46:=Tryz.isAgg188
 z46:=Tryz.sizeOf188
 v46:=Tryz.zeroValue188
 t51:=Tryz.underlying204
 a51:=Tryz.isAgg204
 z51:=Tryz.sizeOf204
 v51:=Tryz.zeroValue204
 t53:=Tryz.underlying185
 a53:=Tryz.isAgg185
 z53:=Tryz.sizeOf185
 v53:=Tryz.zeroValue185
 t75:=Tryz.underlying155
 a75:=Tryz.isAgg155
 z75:=Tryz.sizeOf155
 v75:=Tryz.zeroValue155
 t76:=Tryz.underlying156
 a76:=Tryz.isAgg156
 z76:=Tryz.sizeOf156
 v76:=Tryz.zeroValue156
 t85:=Tryz.underlying177
 a85:=Tryz.isAgg177
 z85:=Tryz.sizeOf177
 v85:=Tryz.zeroValue177
 t127:=Tryz.underlying199
 a127:=Tryz.isAgg199
 z127:=Tryz.sizeOf199
 v127:=Tryz.zeroValue199
 t143:=Tryz.underlying200
 a143:=Tryz.isAgg200
 z143:=Tryz.sizeOf200
 v143:=Tryz.zeroValue200
 t145:=Tryz.underlying202
 a145:=Tryz.isAgg202
 z145:=Tryz.sizeOf202
 v145:=Tryz.zeroValue202
 t167:=Tryz.underlying176
 a167:=Tryz.isAgg176
 z167:=Tryz.sizeOf176
 v167:=Tryz.zeroValue176
 t168:=Tryz.underlying179
 a168:=Tryz.isAgg179
 z168:=Tryz.sizeOf179
 v168:=Tryz.zeroValue179
 t171:=Tryz.underlying193
 a171:=Tryz.isAgg193
 z171:=Tryz.sizeOf193
 v171:=Tryz.zeroValue193
 t173:=Tryz.underlying196
 a173:=Tryz.isAgg196
 z173:=Tryz.sizeOf196
 v173:=Tryz.zeroValue196
 t175:=Tryz.underlying186
 a175:=Tryz.isAgg186
 z175:=Tryz.sizeOf186
 v175:=Tryz.zeroValue186
 t210:=Tryz.underlying191
 a210:=Tryz.isAgg191
 z210:=Tryz.sizeOf191
 v210:=Tryz.zeroValue191
 t212:=Tryz.underlying203
 a212:=Tryz.isAgg203
 z212:=Tryz.sizeOf203
 v212:=Tryz.zeroValue203
 t213:=Tryz.underlying205
 a213:=Tryz.isAgg205
 z213:=Tryz.sizeOf205
 t232:=Tryz.underlying208
 a232:=Tryz.isAgg208
 z232:=Tryz.sizeOf208
 v232:=Tryz.zeroValue208
 t233:=Tryz.underlying209
 a233:=Tryz.isAgg209
 z233:=Tryz.sizeOf209
 v233:=Tryz.zeroValue209
 g15:=by kernel_rfl
 g16:=by kernel_rfl
 g17:=by kernel_rfl
 g18:=by kernel_rfl
 g19:=by kernel_rfl
 t80:=Tryz.underlying210
 a80:=Tryz.isAgg210
 z80:=Tryz.sizeOf210
 v80:=Tryz.zeroValue210
 i0:=by kernel_rfl
 i2:=by kernel_rfl
 i3:=by kernel_rfl
 i4:=by kernel_rfl
 i5:=by kernel_rfl
 i9:=by kernel_rfl
 i20:=by kernel_rfl
 i21:=by kernel_rfl
 i37:=by kernel_rfl
 i46:=by kernel_rfl
 i51:=by kernel_rfl
 i53:=by kernel_rfl
 i75:=by kernel_rfl
 i76:=by kernel_rfl
 i80:=by kernel_rfl
 i85:=by kernel_rfl
 i127:=by kernel_rfl
 i143:=by kernel_rfl
 i145:=by kernel_rfl
 i167:=by kernel_rfl
 i168:=by kernel_rfl
 i171:=by kernel_rfl
 i173:=by kernel_rfl
 i175:=by kernel_rfl
 i210:=by kernel_rfl
 i212:=by kernel_rfl
 i232:=by kernel_rfl
 i233:=by kernel_rfl
 m15:=by kernel_rfl
 m16:=by kernel_rfl
 m17:=by kernel_rfl
 m18:=by kernel_rfl
 m19:=by kernel_rfl
 c0:=by kernel_rfl
 c2:=by kernel_rfl
 c3:=by kernel_rfl
 c4:=by kernel_rfl
 c5:=by kernel_rfl
 c9:=by kernel_rfl
 c20:=by kernel_rfl
 c21:=by kernel_rfl
 c37:=by kernel_rfl
 c46:=by kernel_rfl
 c51:=by kernel_rfl
 c53:=by kernel_rfl
 c75:=by kernel_rfl
 c76:=by kernel_rfl
 c80:=by kernel_rfl
 c85:=by kernel_rfl
 c127:=by kernel_rfl
 c143:=by kernel_rfl
 c145:=by kernel_rfl
 c167:=by kernel_rfl
 c168:=by kernel_rfl
 c171:=by kernel_rfl
 c173:=by kernel_rfl
 c175:=by kernel_rfl
 c210:=by kernel_rfl
 c212:=by kernel_rfl
 c213:=by kernel_rfl
 c232:=by kernel_rfl
 c233:=by kernel_rfl}
open Go.RowKit in
theorem Tryz.strconv_Atoi_ok(s:ByteArray)(hmax:s.size≤9223372036854775806)(v:Int)(h:Lib.atoiAll s.data.toList=.ok v)(w:World):
  Calls Tryz.prog 105 #[.string s] w fun e w'=>e=.returned (.tuple #[.int .i64 v,.nilIface])∧(w'=w∨∃t,w'=Lib.bytesWorld w 5 t):=Any.strconv_Atoi_ok Tryz.laysC172 s hmax v h w
open Go.RowKit in
theorem Tryz.strconv_Atoi_syntax(s:ByteArray)(hlim:s.size≤281474976710656)(h:Lib.atoiAll s.data.toList=(Lib.atoiAll []))(ev:Value)(w:World)(hv:w.cell? ⟨2,0,none⟩=some ev)(hev:ev=.nilIface∨∃te pe,ev=.iface te pe):
  Calls Tryz.prog 105 #[.string s] w fun e w'=>∃N,e=.returned (.tuple #[.int .i64 (0),.iface 179 (.pointer (some ⟨N,0,none⟩))])∧w.heap.size≤N∧w'.heap[N]? =some (.cells #[.string ⟨#[65,116,111,105]⟩,.string s,ev] 191 (0,0))∧Below w.heap.size w w':=Any.strconv_Atoi_syntax Tryz.laysC172 s hlim h ev w hv hev
open Go.RowKit in
theorem Tryz.strconv_Atoi_range(s:ByteArray)(hlim:s.size≤281474976710656)(h:Lib.atoiAll s.data.toList=.range)(ev:Value)(w:World)(hv:w.cell? ⟨3,0,none⟩=some ev)(hev:ev=.nilIface∨∃te pe,ev=.iface te pe):
  Calls Tryz.prog 105 #[.string s] w fun e w'=>∃N,e=.returned (.tuple #[.int .i64 (Lib.atoiSat s.data.toList),.iface 179 (.pointer (some ⟨N,0,none⟩))])∧w.heap.size≤N∧w'.heap[N]? =some (.cells #[.string ⟨#[65,116,111,105]⟩,.string s,ev] 191 (0,0))∧Below w.heap.size w w':=Any.strconv_Atoi_range Tryz.laysC172 s hlim h ev w hv hev
end Go.Proofs
namespace Go.Proofs
open Go.Shelf Go.RowKit
theorem Tryz.below_grow(w:World)(k:Nat)(os:Array Obj):Below w.heap.size w (Go.Sort.grow (w.drewN k) os):=
 ⟨rfl,rfl,rfl,by simp[Go.Sort.grow,World.drewN],fun i hi=>by
  show(w.heap++os)[i]? =w.heap[i]?
  rw[Array.getElem?_append_left hi]⟩
theorem Tryz.decimal(n:Int)(h0:-9223372036854775808≤n)(h1:n≤9223372036854775807)(w:World)(htab:Lib.TabIs Tryz.prog w "internal/strconv.uint64pow10" .u64 Lib.pow10Tab):
  Calls Tryz.prog 85 #[.int .i64 n] w fun e w'=>e=.returned (.string ⟨(Lib.itoa n).toArray⟩)∧Below w.heap.size w w':=by
 go_enter Tryz.func85,Tryz.ntmps85
 go_wp2_with (go_at_call 131;refine(Tryz.strconv_Itoa n h0 h1 _ htab).mono ?_)
 rintro e w' ⟨rfl,k,os,rfl⟩
 go_wp2
 go_ret
 exact⟨rfl,Tryz.below_grow w k os⟩
def Tryz.inB(n:Int):Bool:=decide (-1048576≤n∧n≤1048576)
set_option maxHeartbeats 1000000 in
set_option maxRecDepth 100000 in
theorem Tryz.within_lo(n:Int)(b cap:Nat)(w:World)(h0:w.cell? ⟨b,0,none⟩=some (.int .i64 n))(hn:n< -1048576):
  Calls Tryz.prog 106 #[.slice (some ⟨b,0,none⟩) 1 cap] w fun e w'=>e=.returned (.bool false)∧w'=w:=by
 go_enter Tryz.func106,Tryz.ntmps106
 go_wp2
 go_loop [7] (fun i=>i=.int .i64 0) (fun _=>0)
 case atStart=>rfl
 case round=>
  subst hrel
  go_wp2
  go_ret
  exact⟨rfl,rfl⟩
set_option maxHeartbeats 1000000 in
set_option maxRecDepth 100000 in
theorem Tryz.within_hi(n:Int)(b cap:Nat)(w:World)(h0:w.cell? ⟨b,0,none⟩=some (.int .i64 n))(hm:¬n< -1048576)(hn:1048576<n):
  Calls Tryz.prog 106 #[.slice (some ⟨b,0,none⟩) 1 cap] w fun e w'=>e=.returned (.bool false)∧w'=w:=by
 go_enter Tryz.func106,Tryz.ntmps106
 go_wp2
 go_loop [7] (fun i=>i=.int .i64 0) (fun _=>0)
 case atStart=>rfl
 case round=>
  subst hrel
  go_wp2
  go_ret
  exact⟨rfl,rfl⟩
set_option maxHeartbeats 1000000 in
set_option maxRecDepth 100000 in
theorem Tryz.within_in(n:Int)(b cap:Nat)(w:World)(h0:w.cell? ⟨b,0,none⟩=some (.int .i64 n))(hm:¬n< -1048576)(hn:¬1048576<n):
  Calls Tryz.prog 106 #[.slice (some ⟨b,0,none⟩) 1 cap] w fun e w'=>e=.returned (.bool true)∧w'=w:=by
 go_enter Tryz.func106,Tryz.ntmps106
 go_wp2
 go_loop [7] (fun i=>i=.int .i64 0∨i=.int .i64 1) (fun i=>1 - (intOf i).toNat)
 case atStart=>exact .inl rfl
 case round=>
  rcases hrel with rfl |rfl
  ·go_wp2
   go_round
   case rel=>exact .inr rfl
   case measure=>simp[intOf]
  ·go_wp2
   go_ret
   exact⟨rfl,rfl⟩
theorem Tryz.within(n:Int)(b cap:Nat)(w:World)(h0:w.cell? ⟨b,0,none⟩=some (.int .i64 n)):
  Calls Tryz.prog 106 #[.slice (some ⟨b,0,none⟩) 1 cap] w fun e w'=>e=.returned (.bool (Tryz.inB n))∧w'=w:=by
 by_cases h1:n< -1048576
 ·rw[show Tryz.inB n=false by simp[Tryz.inB];omega]
  exact Tryz.within_lo n b cap w h0 h1
 ·by_cases h2:1048576<n
  ·rw[show Tryz.inB n=false by simp[Tryz.inB];omega]
   exact Tryz.within_hi n b cap w h0 h1 h2
  ·rw[show Tryz.inB n=true by simp[Tryz.inB];omega]
   exact Tryz.within_in n b cap w h0 h1 h2
end Go.Proofs
namespace Go.Proofs
open Go.Shelf Go.RowKit
theorem Tryz.new_cell(w:World)(v:Value)(t:TypeId):(w.alloc (.cells #[v] t)).cell? ⟨w.heap.size,0,none⟩=some v:=by
 rw[World.cell?_alloc_new]
 rfl
theorem Tryz.below_atoi{w w1:World}{B:Nat}(hB:B≤w.heap.size)(h:w1=w∨∃t,w1=Lib.bytesWorld w 5 t):Below B w w1:=by
 rcases h with rfl |⟨t,rfl⟩
 ·exact Below.refl _ _
 ·exact(Lib.bytesWorld_below w 5 t).mono hB
set_option maxHeartbeats 1000000 in
set_option maxRecDepth 100000 in
theorem Tryz.number_out(s:ByteArray)(v:Int)(hs:s.size≤9223372036854775806)(h:Lib.atoiAll s.data.toList=.ok v)(hv:Tryz.inB v=false)(w:World):
  Calls Tryz.prog 65 #[.string s] w fun e w'=>e=.returned (.tuple #[.int .i64 0,.bool false])∧Below w.heap.size w w':=by
 go_enter Tryz.func65,Tryz.ntmps65
 go_wp2_with (go_at_call 105;refine(Tryz.strconv_Atoi_ok s hs v h _).mono ?_)
 rintro e w1 ⟨rfl,h1⟩
 have hb1:Below w.heap.size w w1:=Tryz.below_atoi (Nat.le_refl _) h1
 clear h1
 go_wp2_with (go_at_call 106;refine(Tryz.within v _ _ _ ?c).mono ?_)
 case c=>exact Tryz.new_cell _ _ _
 rintro e w2 ⟨rfl,rfl⟩
 rw[hv]
 go_wp2_with fail
 go_ret2
 exact⟨rfl,hb1.alloc hb1.size _⟩
set_option maxHeartbeats 1000000 in
set_option maxRecDepth 100000 in
theorem Tryz.number_in(s:ByteArray)(v:Int)(hs:s.size≤9223372036854775806)(h:Lib.atoiAll s.data.toList=.ok v)(hv:Tryz.inB v=true)(w:World)(htab:Lib.TabIs Tryz.prog w "internal/strconv.uint64pow10" .u64 Lib.pow10Tab)(ok:Bool)(hok:decide (Lib.itoa v=s.data.toList)=ok):
  Calls Tryz.prog 65 #[.string s] w fun e w'=>e=.returned (.tuple #[.int .i64 (if ok=true then v else 0),.bool ok])∧Below w.heap.size w w':=by
 have hv':-1048576≤v∧v≤1048576:=of_decide_eq_true hv
 have h4:4<w.heap.size:=by
  unfold Lib.TabIs World.var? at htab
  simp only[show Tryz.prog.globalNamed "internal/strconv.uint64pow10" =some 4 by kernel_rfl,xS]at htab
  split at htab
  ·rename_i hh
   exact(Array.getElem?_eq_some_iff.1 hh).1
  ·cases htab
 go_enter Tryz.func65,Tryz.ntmps65
 go_wp2_with (go_at_call 105;refine(Tryz.strconv_Atoi_ok s hs v h _).mono ?_)
 rintro e w1 ⟨rfl,h1⟩
 have hb1:Below w.heap.size w w1:=Tryz.below_atoi (Nat.le_refl _) h1
 clear h1
 go_wp2_with (go_at_call 106;refine(Tryz.within v _ _ _ ?c).mono ?_)
 case c=>exact Tryz.new_cell _ _ _
 rintro e w2 ⟨rfl,rfl⟩
 rw[hv]
 have hb2:Below w.heap.size w (w1.alloc (.cells #[.int .i64 v] 3)):=hb1.alloc hb1.size _
 have htab2:Lib.TabIs Tryz.prog (w1.alloc (.cells #[.int .i64 v] 3)) "internal/strconv.uint64pow10" .u64 Lib.pow10Tab:=var?_below hb2 (by kernel_rfl) h4 htab
 go_wp2_with (go_at_call 85;refine(Tryz.decimal v (by omega) (by omega) _ htab2).mono ?_)
 rintro e w3 ⟨rfl,hb3⟩
 have hb4:Below w.heap.size w w3:=hb2.trans (hb3.mono hb2.size)
 clear htab2 hb3
 cases ok with
 |true=>
  have e1:Lib.itoa v=s.data.toList:=of_decide_eq_true hok
  have e2:(⟨(Lib.itoa v).toArray⟩:ByteArray)=s:=by rw[e1]
  rw[e2]
  go_wp2_with fail
  go_ret2
  exact⟨rfl,hb4⟩
 |false=>
  have e1:¬Lib.itoa v=s.data.toList:=of_decide_eq_false hok
  have e2:(Lib.itoa v==s.toList)=false:=by
   rw[Lib.toList_data]
   simpa using e1
  go_wp2_with fail
  go_ret2
  exact⟨rfl,hb4⟩
set_option maxHeartbeats 1000000 in
set_option maxRecDepth 100000 in
theorem Tryz.number_syntax(s:ByteArray)(hs:s.size≤281474976710656)(h:Lib.atoiAll s.data.toList=(Lib.atoiAll []))(w:World)(ev:Value)(hv:w.cell? ⟨2,0,none⟩=some ev)(hev:∃te pe,ev=.iface te pe):
  Calls Tryz.prog 65 #[.string s] w fun e w'=>e=.returned (.tuple #[.int .i64 0,.bool false])∧Below w.heap.size w w':=by
 go_enter Tryz.func65,Tryz.ntmps65
 go_wp2_with (go_at_call 105;refine(Tryz.strconv_Atoi_syntax s hs h ev _ hv (.inr hev)).mono ?_)
 rintro e w1 ⟨N,rfl,_,_,hb1⟩
 go_wp2_with fail
 go_ret2
 exact⟨rfl,hb1⟩
set_option maxHeartbeats 1000000 in
set_option maxRecDepth 100000 in
theorem Tryz.number_range(s:ByteArray)(hs:s.size≤281474976710656)(h:Lib.atoiAll s.data.toList=.range)(w:World)(ev:Value)(hv:w.cell? ⟨3,0,none⟩=some ev)(hev:∃te pe,ev=.iface te pe):
  Calls Tryz.prog 65 #[.string s] w fun e w'=>e=.returned (.tuple #[.int .i64 0,.bool false])∧Below w.heap.size w w':=by
 go_enter Tryz.func65,Tryz.ntmps65
 go_wp2_with (go_at_call 105;refine(Tryz.strconv_Atoi_range s hs h ev _ hv (.inr hev)).mono ?_)
 rintro e w1 ⟨N,rfl,_,_,hb1⟩
 go_wp2_with fail
 go_ret2
 exact⟨rfl,hb1⟩
def Tryz.num(s:List UInt8):Int×Bool:=match Lib.atoiAll s with
 | .ok v=>if Tryz.inB v=true∧Lib.itoa v=s then(v,true)else(0,false)
 |_=>(0,false)
theorem Tryz.number(s:ByteArray)(hs:s.size≤281474976710656)(w:World)(htab:Lib.TabIs Tryz.prog w "internal/strconv.uint64pow10" .u64 Lib.pow10Tab)(h2:∃te pe,w.cell? ⟨2,0,none⟩=some (.iface te pe))(h3:∃te pe,w.cell? ⟨3,0,none⟩=some (.iface te pe)):
  Calls Tryz.prog 65 #[.string s] w fun e w'=>e=.returned (.tuple #[.int .i64 (Tryz.num s.data.toList).1,.bool (Tryz.num s.data.toList).2])∧Below w.heap.size w w':=by
 obtain⟨t2,p2,h2⟩:=h2
 obtain⟨t3,p3,h3⟩:=h3
 unfold Tryz.num
 cases h:Lib.atoiAll s.data.toList with
 |ok v=>
  cases hv:Tryz.inB v with
  |false=>
   simp only[hv,xH,false_and,if_false]
   exact Tryz.number_out s v (by omega) h hv w
  |true=>
   by_cases hi:Lib.itoa v=s.data.toList
   ·simp only[hv,hi,and_self,if_true]
    exact Tryz.number_in s v (by omega) h hv w htab true (by simpa using hi)
   ·simp only[hv,hi,and_false,if_false]
    exact Tryz.number_in s v (by omega) h hv w htab false (by simpa using hi)
 |range=>exact Tryz.number_range s hs h w _ h3 ⟨_,_,rfl⟩
 |_=>exact Tryz.number_syntax s hs h w _ h2 ⟨_,_,rfl⟩
end Go.Proofs
namespace Go.Tr7
open Go Go.Am Go.Proofs
theorem decF_eq:∀(k u:Nat),u<10 ^ k→decF k u=Lib.decDigits u∨k=0
 |0,_,_=>.inr rfl
 |k+1,u,h=>by
  refine .inl ?_
  rw[decF,Lib.decDigits]
  by_cases hu:u<10
  ·rw[if_pos hu,dif_pos hu]
  ·rw[if_neg hu,dif_neg hu]
   have h1:u / 10<10 ^ k:=by rw[Nat.pow_succ]at h;omega
   rcases decF_eq k (u / 10) h1 with q |q
   ·rw[q]
   ·subst q
    simp at h1
    omega
theorem decI_eq{n:Int}(h:inR n=true):decI n=Lib.itoa n:=by
 simp only[inR,xA,yD]at h
 unfold decI Lib.itoa
 have e:(10:Nat) ^ 20=100000000000000000000:=by decide
 split
 ·rw[(decF_eq 20 n.natAbs (by rw[e];omega)).resolve_right (by decide)]
 ·rw[(decF_eq 20 n.toNat (by rw[e];omega)).resolve_right (by decide)]
theorem numF_eq(s:List UInt8):numF s=Tryz.num s:=by
 unfold numF Tryz.num
 cases Lib.atoiAll s with
 |ok v=>
  simp only[show inB v=Tryz.inB v from rfl]
  cases hb:Tryz.inB v with
  |false=>simp
  |true=>
   have hr:inR v=true:=by
    have:=of_decide_eq_true hb
    simp only[inR,xA,yD]
    omega
   rw[decI_eq hr]
   by_cases hi:Lib.itoa v=s <;>simp[hi]
 |_=>rfl
structure Vars(G:Nat→Option D):Prop where
 pow:G 4=some (.agg (Lib.pow10Tab.map (D.int .u64)))
 syn:G 2=some .nilf
 rng:G 3=some .nilf
theorem ints_of(c:Cx)(k:IntKind):∀(zs:List Int) (vs:List Value),VCs c (zs.map (D.int k)) vs→vs=zs.map fun z=>Value.int k z
 | [],vs,h=>by simpa [VCs]using h
 |z::zs,vs,h=>by
  simp only[List.map_cons,VCs,VC]at h
  obtain⟨v,r,rfl,h1,h2⟩:=h
  rw[ints_of c k zs r h2]
  simpa using h1
theorem tab_of{G:Nat→Option D}(hv:Vars G){w:World}(c:Cx)(h:GW G w):Lib.TabIs Tryz.prog w "internal/strconv.uint64pow10" .u64 Lib.pow10Tab:=by
 obtain⟨vs,⟨t,fr,h1⟩,h2⟩:=h _ _ hv.pow
 have:=ints_of c .u64 _ _ (h2.1 rfl c)
 subst this
 unfold Lib.TabIs World.var?
 simp only[show Tryz.prog.globalNamed "internal/strconv.uint64pow10" =some 4 by kernel_rfl,xS,h1]
theorem itf_of{G:Nat→Option D}{g:Nat}(hv:G g=some .nilf){w:World}(h:GW G w):∃te pe,w.cell? ⟨g,0,none⟩=some (.iface te pe):=by
 obtain⟨vs,h1,h2⟩:=h _ _ hv
 obtain⟨t,p,rfl⟩:=h2.2 rfl
 have:=h1.cell 0
 exact⟨t,p,by simpa [Addr.add]using this⟩
theorem given_dec{G:Nat→Option D}(hv:Vars G):ExtOK Tryz.prog G 85 extDec:=by
 refine ext_given Tryz.func85 (by kernel_rfl) (by kernel_rfl) (by unfold YB;omega) fun ds rs c args e hG ha=> ?_
 unfold extDec at e
 split at e
 ·rename_i n
  split at e
  ·rename_i hr
   simp only[xJ]at e
   subst e
   simp only[VVs]at ha
   obtain⟨v,r,hargs,h1,h2,rfl⟩:=ha
   have h3:=VV.inv (c:=c) (d:=.int .i64 n) ⟨h1,h2⟩ (by simp)
   simp only[VC,xC,and_true]at h3
   subst h3
   obtain rfl:args= #[.int .i64 n]:=by rw[←Array.toArray_toList (xs:=args),hargs]
   have hr':=hr
   simp only[inR,xA,yD]at hr'
   refine(Tryz.decimal n hr'.1 hr'.2 c.w (tab_of hv c hG)).mono fun en w' he=> ?_
   refine⟨[.str (decI n)],[.string ⟨(Lib.itoa n).toArray⟩],he.1,rfl,fun c=> ?_,he.2⟩
   simp only[VVs]
   exact⟨_,[],rfl,by simp[VC,Value.cells,decI_eq hr],rfl,rfl⟩
  ·cases e
 ·cases e
theorem given_num{G:Nat→Option D}(hv:Vars G):ExtOK Tryz.prog G 65 extNum:=by
 refine ext_given Tryz.func65 (by kernel_rfl) (by kernel_rfl) (by unfold YB;omega) fun ds rs c args e hG ha=> ?_
 unfold extNum at e
 split at e
 ·rename_i s
  split at e
  ·rename_i hr
   simp only[xJ]at e
   subst e
   simp only[VVs]at ha
   obtain⟨v,r,hargs,h1,h2,rfl⟩:=ha
   have h3:=VV.inv (c:=c) (d:=.str s) ⟨h1,h2⟩ (by simp)
   simp only[VC,xC,and_true]at h3
   obtain⟨b,rfl,rfl⟩:=h3
   obtain rfl:args= #[.string b]:=by rw[←Array.toArray_toList (xs:=args),hargs]
   have hsz:b.size≤281474976710656:=by
    have:=of_decide_eq_true hr
    rw[Lib.size_eq b]
    omega
   refine(Tryz.number b hsz c.w (tab_of hv c hG) (itf_of hv.syn hG) (itf_of hv.rng hG)).mono fun en w' he=> ?_
   refine⟨[.int .i64 (numF b.data.toList).1,.bool (numF b.data.toList).2],[.int .i64 (Tryz.num b.data.toList).1,.bool (Tryz.num b.data.toList).2],he.1,rfl,fun c=> ?_,he.2⟩
   simp only[VVs,numF_eq]
   exact⟨_,_,rfl,by simp[VC,Value.cells],rfl,_,[],rfl,by simp[VC,Value.cells],rfl,rfl⟩
  ·cases e
 ·cases e
end Go.Tr7
