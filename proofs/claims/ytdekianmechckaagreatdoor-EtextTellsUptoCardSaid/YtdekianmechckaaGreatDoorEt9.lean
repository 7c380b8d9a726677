/- A part of the proof: texts of mine, merged by a program (wip/dev/merge.py). -/
import Derived.Test.YtdekianmechckaaGreatDoorEt8
import Derived.Shelf.Strconv.Atoi
import Derived.Shelf.Strconv.Itoa0
import Derived.Shelf.Strconv.Itoa1
import Derived.Shelf.LaysM
import Derived.Shelf.Strconv.Itoa2
import Derived.Shelf.Strconv.Itoa3
import Derived.Shelf.Strconv.AtoiErrFast
import Derived.Shelf.Strconv.ParseIntEmpty
import Derived.Shelf.Strconv.AtoiFail
import Derived.Shelf.Strconv.Clone
import Derived.Shelf.Strconv.SyntaxError
import Derived.Shelf.LaysC
import Derived.Shelf.Strconv.ToError
import Derived.Shelf.Strconv.Lower
import Derived.Shelf.Strconv.ParseUint10
import Derived.Shelf.Strconv.ParseUint10Empty
import Derived.Shelf.Strconv.ParseUint10Any
import Derived.Shelf.Strconv.ParseInt10
import Derived.Shelf.Strconv.AtoiLong
import Derived.Shelf.Strconv.AtoiInnerAll
import Derived.Shelf.Strconv.RangeError
import Derived.Shelf.Strconv.ToErrorRange
import Derived.Shelf.Strconv.AtoiAll
import Derived.Shelf.Strconv.ErrVarAll
import Derived.Test.YtdekianmechckaaGreatDoorProg
import Derived.Test.YtdekianmechckaaGreatDoorChecked
import Derived.WalkKit
import Derived.Laws.Externs
import Derived.Deep.Draws
import Derived.Lib.AtoiAll
import Derived.WalkSmall
import Derived.Lib.AtoiErrMem
set_option linter.unusedSimpArgs false
set_option linter.unusedVariables false
namespace Go.Etx
open Go Go.Am Go.Proofs
def strK(x:GNode):Int:=if 11≤x.Op∧x.Op≤19 then sgnB x.Op else if x.Op=9∨x.Op=10 then 6 else leafB x
section
variable{ρ:Type}
theorem strr_eq{x:GNode}{g:Int→Option ρ}:f_r11_strength x g=g (strK x):=by
 simp only[f_r11_strength,F_r11_strength,mkF,strK,leafB]
 by_cases h:11≤x.Op∧x.Op≤19
 ·rw[if_pos h]
  have:x.Op=11∨x.Op=12∨x.Op=13∨x.Op=14∨x.Op=15∨x.Op=16∨x.Op=17∨x.Op=18∨x.Op=19:=by omega
  rcases this with q |q |q |q |q |q |q |q |q <;>simp[q,sgnB]
 ·rw[if_neg h]
  simp only[show¬x.Op=11 by omega,show¬x.Op=12 by omega,show¬x.Op=13 by omega,show¬x.Op=14 by omega,show¬x.Op=15 by omega,show¬x.Op=16 by omega,show¬x.Op=17 by omega,show¬x.Op=18 by omega,show¬x.Op=19 by omega,if_false]
  by_cases h9:x.Op=9
  ·simp[h9]
  by_cases h10:x.Op=10
  ·simp[h10]
  by_cases h1:x.Op=1
  ·by_cases hn:x.N<0 <;>simp[h1,hn]
  ·simp[h9,h10,h1]
theorem signr_eq{op:Int}(h:11≤op∧op≤19){g:List UInt8→Option ρ}:f_r11_sign op g=g (sgnT op):=by
 simp only[f_r11_sign,F_r11_sign,mkF]
 have:op=11∨op=12∨op=13∨op=14∨op=15∨op=16∨op=17∨op=18∨op=19:=by omega
 rcases this with q |q |q |q |q |q |q |q |q <;>subst q <;>simp[sgnT]
theorem aroundr_eq{t:List UInt8}{b:Bool}(h:t.length≤100000){g:List UInt8→Option ρ}:f_r11_around t b g=g (inB t b):=by
 simp only[f_r11_around,F_r11_around,mkF,inB]
 cases b
 ·simp
 ·rw[if_pos rfl,if_pos (by omega),if_pos (by omega),if_pos rfl]
def decs:Nat→List UInt8
 |0=>[]
 |u+1=>decs ((u+1) / 10)++[UInt8.ofNat (48+(u+1) % 10)]
termination_by u=>u
decreasing_by omega
theorem decs_pos{u:Nat}(h:u≠0):decs u=decs (u / 10)++[UInt8.ofNat (48+u % 10)]:=by
 cases u with
 |zero=>exact absurd rfl h
 |succ u=>rw[decs]
theorem decs_F:∀(k u:Nat),u≠0→u<10 ^ k→decs u=Tr7.decF k u
 |0,u,h,hu=>by simp at hu;exact absurd hu h
 |k+1,u,h,hu=>by
  rw[decs_pos h,Tr7.decF]
  by_cases h10:u<10
  ·rw[if_pos h10,show u / 10=0 by omega,show u % 10=u by omega,decs,List.nil_append]
  ·rw[if_neg h10,decs_F k (u / 10) (by omega) (by rw[Nat.pow_succ]at hu;omega)]
theorem decs_I{n:Int}(h:Tr7.inR n=true):Tr7.decI n=if n=0 then [48]else if n<0 then 45::decs n.natAbs else decs n.natAbs:=by
 simp only[Tr7.inR,xA,yD]at h
 have e20:(10:Nat) ^ 20=100000000000000000000:=by decide
 unfold Tr7.decI
 by_cases h0:n=0
 ·subst h0;rfl
 rw[if_neg h0,decs_F 20 n.natAbs (by omega) (by rw[e20];omega)]
 by_cases hn:n<0
 ·rw[if_pos hn,if_pos hn]
 ·rw[if_neg hn,if_neg hn,show n.toNat=n.natAbs by omega]
theorem decs_len:∀(k u:Nat),u<10 ^ k→(decs u).length≤k
 |0,u,hu=>by simp at hu;subst hu;simp[decs]
 |k+1,u,hu=>by
  by_cases h:u=0
  ·subst h;simp[decs]
  ·rw[decs_pos h]
   have:=decs_len k (u / 10) (by rw[Nat.pow_succ]at hu;omega)
   simp only[xP,xZ,yN];omega
theorem dig8{d:Int}(h0:0≤d)(h9:d≤9):UInt8.ofNat (IntKind.u8.wrap (IntKind.i64.wrap (48+d))).toNat=UInt8.ofNat (48+d.toNat):=by
 obtain⟨n,rfl⟩:=Int.eq_ofNat_of_zero_le h0
 have hn:n≤9:=by omega
 have:∀n:Fin 10,UInt8.ofNat (IntKind.u8.wrap (IntKind.i64.wrap (48+((n.val:Nat):Int)))).toNat=UInt8.ofNat (48+((n.val:Nat):Int).toNat):=by decide
 exact this ⟨n,by omega⟩
theorem decr_eq{n:Int}(h:Tr7.inR n=true){g:List UInt8→Option ρ}:f_r01_Decimal n g=g (Tr7.decI n):=by
 simp only[f_r01_Decimal,F_r01_Decimal,mkF]
 rw[decs_I h]
 simp only[Tr7.inR,xA,yD]at h
 have e20:(10:Nat) ^ 20=100000000000000000000:=by decide
 refine(iterC_is (fun v:List UInt8×Int=> -9223372036854775808≤v.2∧v.2≤9223372036854775807∧(decs v.2.natAbs).length+v.1.length≤20)
  (fun v=>if n=0 then g [48]else if n<0 then g (45::(decs v.2.natAbs++v.1))else g (decs v.2.natAbs++v.1)) (fun v=>v.2.natAbs) ?_ (v:=(([]:List UInt8),n)) ⟨h.1,h.2,by simpa using decs_len 20 n.natAbs (by rw[e20];omega)⟩).trans ?_
 ·rintro⟨l,m⟩ k ⟨h1,h2,hl⟩ hk
  simp only at h1 h2 hl ⊢
  by_cases h0:m=0
  ·subst h0
   rw[if_pos rfl]
   simp only[Int.natAbs_zero,decs,List.nil_append,yN,Nat.zero_add]at hl ⊢
   by_cases a:n=0
   ·rw[if_pos a,if_pos a]
   ·rw[if_neg a,if_neg a]
    by_cases b:n<0
    ·rw[if_pos b,if_pos b,if_pos (by omega)]
    ·rw[if_neg b,if_neg b]
  ·rw[if_neg h0]
   have ht:(Int.tmod m 10).natAbs=m.natAbs % 10:=by rw[Int.natAbs_tmod];rfl
   have hd:(Int.tdiv m 10).natAbs=m.natAbs / 10:=by rw[Int.natAbs_tdiv];rfl
   have hwd:IntKind.i64.wrap (Int.tdiv m 10)=Int.tdiv m 10:=wrap_i64 (by omega) (by omega)
   have hp:=decs_pos (u:=m.natAbs) (by omega)
   rw[hp]at hl ⊢
   simp only[xP,xZ,yN]at hl
   rw[hwd]
   have hk':∀c:UInt8,k (c::l,Int.tdiv m 10)=if n=0 then g [48]else if n<0 then g (45::(decs (m.natAbs / 10)++c::l))else g (decs (m.natAbs / 10)++c::l):=fun c=>by
    rw[hk _ ⟨by omega,by omega,by simp only[hd,xZ];omega⟩ (by simp only[hd];omega)]
    simp only[hd]
   by_cases hneg:Int.tmod m 10<0
   ·have hwn:IntKind.i64.wrap (-Int.tmod m 10)=-Int.tmod m 10:=wrap_i64 (by omega) (by omega)
    rw[if_pos hneg,if_pos (by omega),hwn,dig8 (by omega) (by omega),show(-Int.tmod m 10).toNat=m.natAbs % 10 by omega,hk']
    simp
   ·rw[if_neg hneg,if_pos (by omega),dig8 (by omega) (by omega),show(Int.tmod m 10).toNat=m.natAbs % 10 by omega,hk']
    simp
 ·simp only[List.append_nil]
  by_cases a:n=0
  ·rw[if_pos a,if_pos a]
  ·rw[if_neg a,if_neg a]
   by_cases b:n<0
   ·rw[if_pos b,if_pos b]
   ·rw[if_neg b,if_neg b]
end
end Go.Etx
namespace Go.Etx
open Go Go.Am Go.Proofs
inductive Ex where
 |leaf (x:GNode)
 |un (x:GNode) (a:Ex)
 |bin (x:GNode) (a b:Ex)
def Ex.flat:Ex→List GNode
 | .leaf x=>[x]
 | .un x a=>a.flat++[x]
 | .bin x a b=>a.flat++b.flat++[x]
def Ex.top:Ex→GNode
 | .leaf x=>x
 | .un x _=>x
 | .bin x _ _=>x
def Ex.wf:Ex→Prop
 | .leaf x=>takesK x.Op=0
 | .un x a=>takesK x.Op=1∧a.wf
 | .bin x a b=>takesK x.Op=2∧a.wf∧b.wf
def nameN(s:GScope)(x:GNode):List UInt8:=match nameP [] x s with |some p=>p.1 |none=>[]
def partOf(s:GScope):Ex→Gpart
 | .leaf x=>⟨leafT x (nameN s x),x.Op,leafB x⟩
 | .un x a=>if x.Op=3 then⟨nameN s x++91::((partOf s a).text++[93]),3,7⟩
  else if x.Op=9 then⟨33::inB (partOf s a).text (decide ((partOf s a).binds<6)),9,6⟩
  else⟨45::inB (partOf s a).text (decide ((partOf s a).binds<6) || decide ((partOf s a).op=1)),10,6⟩
 | .bin x a b=>⟨joinT x.Op (partOf s a) (partOf s b),x.Op,sgnB x.Op⟩
theorem Ex.flat_pos(t:Ex):0<t.flat.length:=by cases t <;>simp only[Ex.flat,xP,xZ,yN] <;>omega
theorem Ex.flat_last(t:Ex):t.flat[t.flat.length - 1]? =some t.top:=by cases t <;>simp[Ex.flat,Ex.top]
theorem part_op{s:GScope}{t:Ex}(h:t.wf):(partOf s t).op=t.top.Op:=by
 cases t with
 |leaf x=>rfl
 |un x a=>
  obtain⟨h1,h2⟩:=h
  rcases takes_cases x.Op with⟨e,q⟩ |⟨e,q⟩ |⟨e,q⟩ |⟨e,q⟩
  ·omega
  ·omega
  ·rcases q with q |q |q <;>simp[partOf,Ex.top,q]
  ·omega
 |bin x a b=>rfl
theorem part_binds{s:GScope}{t:Ex}(h:t.wf):(partOf s t).binds=strK t.top:=by
 cases t with
 |leaf x=>
  have h:takesK x.Op=0:=h
  rcases takes_cases x.Op with⟨e,q⟩ |⟨e,q⟩ |⟨e,q⟩ |⟨e,q⟩
  ·omega
  ·show leafB x=strK x
   unfold strK
   rw[if_neg (by omega),if_neg (by omega)]
  ·omega
  ·omega
 |un x a=>
  obtain⟨h1,h2⟩:=h
  rcases takes_cases x.Op with⟨e,q⟩ |⟨e,q⟩ |⟨e,q⟩ |⟨e,q⟩
  ·omega
  ·omega
  ·rcases q with q |q |q <;>simp[partOf,Ex.top,q,strK,leafB]
  ·omega
 |bin x a b=>
  obtain⟨h1,h2⟩:=h
  rcases takes_cases x.Op with⟨e,q⟩ |⟨e,q⟩ |⟨e,q⟩ |⟨e,q⟩
  ·omega
  ·omega
  ·omega
  ·show sgnB x.Op=strK x
   unfold strK
   rw[if_pos q]
def layE(x:GNode)(ts:List Ex):List Ex:=
 if takesK x.Op=0 then ts++[.leaf x]
 else if takesK x.Op=1 then(match ts.getLast? with |some a=>ts.take (ts.length - 1)++[.un x a] |none=>ts)
 else(match ts[ts.length - 2]?,ts.getLast? with |some a,some b=>ts.take (ts.length - 2)++[.bin x a b] |_,_=>ts)
def treesL:List GNode→List Ex→List Ex
 | [],ts=>ts
 |x::r,ts=>treesL r (layE x ts)
theorem last_split{α:Type}{l:List α}(h:1≤l.length):∃m a,l=m++[a]:=⟨l.dropLast,l.getLast (by intro e;subst e;simp at h),(List.dropLast_concat_getLast _).symm⟩
theorem last_split2{α:Type}{l:List α}(h:2≤l.length):∃m a b,l=m++[a,b]:=by
 obtain⟨m,b,rfl⟩:=last_split (l:=l) (by omega)
 obtain⟨m',a,rfl⟩:=last_split (l:=m) (by simp at h;omega)
 exact⟨m',a,b,by simp⟩
theorem layE_1{x:GNode}(h:takesK x.Op=1){m:List Ex}{a:Ex}:layE x (m++[a])=m++[.un x a]:=by
 unfold layE
 rw[if_neg (by omega),if_pos h]
 simp
theorem layE_2{x:GNode}(h:takesK x.Op=2){m:List Ex}{a b:Ex}:layE x (m++[a,b])=m++[.bin x a b]:=by
 unfold layE
 rw[if_neg (by omega),if_neg (by omega)]
 have h1:(m++[a,b])[(m++[a,b]).length - 2]? =some a:=by simp
 have h2:(m++[a,b]).getLast? =some b:=by simp
 rw[h1,h2]
 simp
theorem layE_0{x:GNode}(h:takesK x.Op=0){ts:List Ex}:layE x ts=ts++[.leaf x]:=by unfold layE;rw[if_pos h]
theorem layE_all{x:GNode}{ts:List Ex}(h0:0≤takesK x.Op)(h:takesK x.Op≤(ts.length:Int))(hw:∀t∈ts,t.wf):
  (layE x ts).flatMap Ex.flat=ts.flatMap Ex.flat++[x]∧(∀t∈layE x ts,t.wf)∧(layE x ts).length=ts.length - (takesK x.Op).toNat+1∧∀s,layP x (nameN s x) (ts.map (partOf s))=(layE x ts).map (partOf s):=by
 rcases takes_cases x.Op with⟨e,q⟩ |⟨e,q⟩ |⟨e,q⟩ |⟨e,q⟩
 ·omega
 ·rw[layE_0 e,e]
  refine⟨by simp[Ex.flat],fun t ht=> ?_,by simp,fun s=> ?_⟩
  ·rcases List.mem_append.1 ht with ht |ht
   ·exact hw t ht
   ·simp only[yQ]at ht;subst ht;exact e
  ·unfold layP
   rw[if_neg q.2.2,if_neg (by omega),if_neg (by omega),if_neg (by omega)]
   simp[partOf]
 ·obtain⟨m,a,rfl⟩:=last_split (l:=ts) (by omega)
  rw[layE_1 e,e]
  refine⟨by simp[Ex.flat],fun t ht=> ?_,by simp,fun s=> ?_⟩
  ·rcases List.mem_append.1 ht with ht |ht
   ·exact hw t (by simp[ht])
   ·simp only[yQ]at ht;subst ht;exact⟨e,hw a (by simp)⟩
  ·unfold layP
   rcases q with q |q |q
   ·rw[if_pos q];simp[partOf,q]
   ·rw[if_neg (by omega),if_pos q];simp[partOf,q]
   ·rw[if_neg (by omega),if_neg (by omega),if_pos q];simp[partOf,q]
 ·obtain⟨m,a,b,rfl⟩:=last_split2 (l:=ts) (by omega)
  rw[layE_2 e,e]
  refine⟨by simp[Ex.flat],fun t ht=> ?_,by simp,fun s=> ?_⟩
  ·rcases List.mem_append.1 ht with ht |ht
   ·exact hw t (by simp[ht])
   ·simp only[yQ]at ht;subst ht;exact⟨e,hw a (by simp),hw b (by simp)⟩
  ·unfold layP
   rw[if_neg (by omega),if_neg (by omega),if_neg (by omega),if_pos q]
   have h1:(List.map (partOf s) (m++[a,b]))[(List.map (partOf s) (m++[a,b])).length - 2]? =some (partOf s a):=by simp
   have h2:(List.map (partOf s) (m++[a,b])).getLast? =some (partOf s b):=by simp
   rw[h1,h2]
   simp[partOf]
def badE(s:GScope)(x:GNode):Bool:=match nameP [] x s with |some p=>badN x p |none=>true
theorem trees_all{s:GScope}:∀{e:List GNode} {ts:List Ex} {ks:List Int},(∀x∈e,x.N≤9223372036854775807)→ts.length=ks.length→(∀t∈ts,t.wf)→(runK s e ks).1=0→
  (treesL e ts).flatMap Ex.flat=ts.flatMap Ex.flat++e∧(∀t∈treesL e ts,t.wf)∧(treesL e ts).length=(runK s e ks).2.length∧layAll s e (ts.map (partOf s))=if e.any (badE s)=true then none else some ((treesL e ts).map (partOf s))
 | [],ts,ks,_,hl,hw,_=>⟨by simp[treesL],hw,hl,by simp[treesL,layAll]⟩
 |x::r,ts,ks,hN,hl,hw,h0=>by
  rw[runK]at h0 ⊢
  have hx:(stepK x s ks).1=0:=by
   by_cases hx:(stepK x s ks).1=0
   ·exact hx
   ·rw[if_neg hx]at h0;exact absurd h0 hx
  rw[if_pos hx]at h0 ⊢
  obtain⟨f1,f2,f3,f4⟩:=step_facts hx
  obtain⟨g1,g2,g3,g4⟩:=layE_all (x:=x) (ts:=ts) f1 (by rw[hl];exact f2) hw
  obtain⟨p,hp⟩:=name_some (s:=s) (hN x (by simp)) [] f1 f3
  have hnm:nameN s x=p.1:=by unfold nameN;rw[hp]
  have hbe:badE s x=badN x p:=by unfold badE;rw[hp]
  obtain⟨k1,k2,k3,k4⟩:=trees_all (e:=r) (ts:=layE x ts) (ks:=(stepK x s ks).2) (fun y hy=>hN y (by simp[hy])) (by rw[g3,f4,hl]) g2 h0
  refine⟨by rw[treesL,k1,g1];simp,k2,k3,?_⟩
  rw[layAll,hp]
  simp only
  have g4':=g4 s
  rw[hnm]at g4'
  rw[g4',k4,List.any_cons,hbe,treesL]
  cases badN x p <;>simp
theorem tree_of{e:List GNode}{s:GScope}(hN:∀x∈e,x.N≤9223372036854775807)(h:(kindK e s).2=0):∃t:Ex,treesL e []=[t]∧t.flat=e∧t.wf∧textK e s=if e.any (badE s)=true then([],6)else((partOf s t).text,0):=by
 obtain⟨k1,k2,k3,k4⟩:=kind_ok h
 obtain⟨q1,q2,q3,q4⟩:=trees_all (s:=s) (e:=e) (ts:=[]) (ks:=[]) hN rfl (by simp) k3
 rw[k4]at q3
 obtain⟨t,ht⟩:=List.length_eq_one_iff.1 q3
 rw[ht]at q1 q2 q4
 refine⟨t,ht,by simpa using q1,q2 t (by simp),?_⟩
 unfold textK
 rw[if_neg (by simp[h])]
 simp only[List.map_nil]at q4
 rw[q4]
 by_cases hb:e.any (badE s)=true
 ·rw[if_pos hb,if_pos hb]
 ·rw[if_neg hb,if_neg hb]
  rfl
end Go.Etx
namespace Go.Etx
open Go Go.Am Go.Proofs
def bOf:Nat→Ex→List Int
 |p,.leaf _=>[(p:Int)]
 |p,.un _ a=>bOf p a++[(p:Int)]
 |p,.bin _ a b=>bOf p a++bOf (p+a.flat.length) b++[(p:Int)]
def fl(ts:List Ex):Nat:=(ts.flatMap Ex.flat).length
def bAll:Nat→List Ex→List Int
 |_,[]=>[]
 |p,t::r=>bOf p t++bAll (p+t.flat.length) r
theorem bOf_len:∀(t:Ex) (p:Nat),(bOf p t).length=t.flat.length
 | .leaf _,p=>rfl
 | .un _ a,p=>by simp[bOf,Ex.flat,bOf_len a]
 | .bin _ a b,p=>by simp[bOf,Ex.flat,bOf_len a,bOf_len b,Nat.add_assoc]
theorem bOf_last(t:Ex)(p:Nat):(bOf p t)[t.flat.length - 1]? =some (p:Int):=by
 rw[←bOf_len t p]
 cases t with
 |leaf x=>rfl
 |un x a=>simp[bOf]
 |bin x a b=>simp[bOf]
theorem fl_cons{t:Ex}{r:List Ex}:fl (t::r)=t.flat.length+fl r:=by simp[fl]
theorem fl_app{a b:List Ex}:fl (a++b)=fl a+fl b:=by simp[fl]
theorem bAll_app:∀(a b:List Ex) (p:Nat),bAll p (a++b)=bAll p a++bAll (p+fl a) b
 | [],b,p=>by simp[bAll,fl]
 |t::r,b,p=>by simp only[List.cons_append,bAll,bAll_app r b,fl_cons,xK,Nat.add_assoc]
theorem bAll_len:∀(ts:List Ex) (p:Nat),(bAll p ts).length=fl ts
 | [],p=>rfl
 |t::r,p=>by simp only[bAll,xP,bOf_len,bAll_len r,fl_cons]
theorem bAll_at(m:List Ex)(a:Ex)(r:List Ex):(bAll 0 (m++a::r))[fl m+a.flat.length - 1]? =some (fl m:Int):=by
 have hp:=a.flat_pos
 rw[bAll_app,Nat.zero_add,xN (by rw[bAll_len];omega),bAll_len,bAll,xO (by rw[bOf_len];omega),show fl m+a.flat.length - 1 - fl m=a.flat.length - 1 by omega]
 exact bOf_last a (fl m)
theorem bAll_lay{x:GNode}{ts:List Ex}(h0:0≤takesK x.Op)(h:takesK x.Op≤(ts.length:Int)):bAll 0 (layE x ts)=bAll 0 ts++[(fl (ts.take (ts.length - (takesK x.Op).toNat)):Int)]:=by
 rcases takes_cases x.Op with⟨e,q⟩ |⟨e,q⟩ |⟨e,q⟩ |⟨e,q⟩
 ·omega
 ·rw[layE_0 e,e,bAll_app]
  simp[bAll,bOf]
 ·obtain⟨m,a,rfl⟩:=last_split (l:=ts) (by omega)
  rw[layE_1 e,e,bAll_app,bAll_app]
  simp[bAll,bOf]
 ·obtain⟨m,a,b,rfl⟩:=last_split2 (l:=ts) (by omega)
  rw[layE_2 e,e,bAll_app,bAll_app]
  simp[bAll,bOf]
section
variable{ρ:Type}{s:GScope}
set_option maxHeartbeats 1000000 in
theorem spansr_eq{e:List GNode}(hN:∀x∈e,x.N≤9223372036854775807)(h:(kindK e s).2=0){t:Ex}(ht:treesL e []=[t]){g:List Int→Bool→Option ρ}:f_r10_Spans e g=g (bOf 0 t) true:=by
 obtain⟨k1,k2,k3,k4⟩:=kind_ok h
 simp only[f_r10_Spans,F_r10_Spans,mkF,takesr_eq]
 refine iterC_is (fun v:Int×List Int=>∃(i:Nat) (ts:List Ex) (ks:List Int),v.1=i∧i≤e.length∧fl ts=i∧v.2=bAll 0 ts∧ts.length=ks.length∧(∀t∈ts,t.wf)∧(runK s (e.drop i) ks).1=0∧treesL (e.drop i) ts=[t]) (fun _=>g (bOf 0 t) true) (fun v=>e.length - v.1.toNat) ?_ (v:=((0:Int),([]:List Int)))
  ⟨0,[],[],rfl,Nat.zero_le _,rfl,rfl,rfl,by simp,k3,ht⟩
 rintro⟨_,_⟩ k ⟨i,ts,ks,rfl,hi,hfl,rfl,hlen,hw,hr,htr⟩ hk
 simp only
 by_cases hlt:i<e.length
 ·rw[if_pos (by omega),if_pos (by omega),xV,xG hlt,xS]
  rw[xW hlt,runK]at hr
  rw[xW hlt,treesL]at htr
  have hx:(stepK e[i] s ks).1=0:=by
   by_cases hx:(stepK e[i] s ks).1=0
   ·exact hx
   ·rw[if_neg hx]at hr;exact absurd hr hx
  rw[if_pos hx]at hr
  obtain⟨f1,f2,f3,f4⟩:=step_facts hx
  have f2':takesK e[i].Op≤(ts.length:Int):=by rw[hlen];exact f2
  obtain⟨g1,g2,g3,g4⟩:=layE_all (x:=e[i]) (ts:=ts) f1 f2' hw
  have hbl:=bAll_lay (x:=e[i]) (ts:=ts) f1 f2'
  have hfl2:fl (layE e[i] ts)=i+1:=by unfold fl;rw[g1];simp only[xP,xZ,yN];exact congrArg (·+1) hfl
  have hkn:=hk (((i+1:Nat):Int),bAll 0 (layE e[i] ts)) ⟨i+1,layE e[i] ts,(stepK e[i] s ks).2,rfl,hlt,hfl2,rfl,by rw[g3,f4,hlen],g2,hr,htr⟩ (by simp only[xV];omega)
  rw[if_neg (by omega)]
  have hP:∀j,j<ts.length→(bAll 0 ts)[fl (ts.take (ts.length - j)) - 1]? =some (fl (ts.take (ts.length - (j+1))):Int)∧0<fl (ts.take (ts.length - j))∧fl (ts.take (ts.length - j))≤i:=fun j hj=>by
   have e1:ts.take (ts.length - j)=ts.take (ts.length - (j+1))++[ts[ts.length - (j+1)]]:=by
    rw[show ts.length - j=ts.length - (j+1)+1 by omega,List.take_succ_eq_append_getElem (by omega)]
   have e2:ts=ts.take (ts.length - (j+1))++ts[ts.length - (j+1)]::ts.drop (ts.length - (j+1)+1):=by
    rw[←xW (by omega),yP]
   have e3:fl (ts.take (ts.length - j))=fl (ts.take (ts.length - (j+1)))+(ts[ts.length - (j+1)]).flat.length:=by
    rw[e1,fl_app,fl_cons];simp[fl]
   have hpos:=(ts[ts.length - (j+1)]).flat_pos
   have e4:fl (ts.take (ts.length - j))+fl (ts.drop (ts.length - j))=i:=by rw[←fl_app,yP,hfl]
   refine⟨?_,by omega,by omega⟩
   rw[e3]
   have:=bAll_at (ts.take (ts.length - (j+1))) ts[ts.length - (j+1)] (ts.drop (ts.length - (j+1)+1))
   rw[←e2]at this
   exact this
  have hblen:(bAll 0 ts).length=i:=by rw[bAll_len,hfl]
  obtain⟨m,hm⟩:=Int.eq_ofNat_of_zero_le f1
  have hm2:m≤2:=by rcases takes_cases e[i].Op with⟨q,_⟩ |⟨q,_⟩ |⟨q,_⟩ |⟨q,_⟩ <;>omega
  rw[hm]at f2' ⊢
  rw[hm,xV]at hbl
  refine(iterC_is (fun v:Int×Int=>∃j:Nat,v=((fl (ts.take (ts.length - j)):Int),(j:Int))∧j≤m) (fun _=>g (bOf 0 t) true) (fun v=>m - v.2.toNat) ?_ (v:=((i:Int),(0:Int))) ⟨0,by rw[Nat.sub_zero,List.take_length,hfl];rfl,Nat.zero_le _⟩)
  rintro _ k1 ⟨j,rfl,hj⟩ hk1
  simp only
  by_cases hjm:j<m
  ·obtain⟨p1,p2,p3⟩:=hP j (by omega)
   have hw1:IntKind.i64.wrap ((fl (ts.take (ts.length - j)):Int) - 1)=((fl (ts.take (ts.length - j)) - 1:Nat):Int):=wrapP p2 (by omega)
   rw[if_pos (by omega),if_neg (by omega),hw1,hblen,if_pos ⟨by omega,by omega⟩,xV,p1,xS,wrapS (by omega)]
   exact hk1 _ ⟨j+1,rfl,by omega⟩ (by simp only[xV];omega)
  ·have hjm':j=m:=by omega
   subst hjm'
   rw[if_neg (by omega),hblen,if_pos ⟨by omega,by omega⟩,wrapS (by omega),←hbl]
   exact hkn
 ·have hie:i=e.length:=by omega
  subst hie
  rw[List.drop_length,treesL]at htr
  subst htr
  have hfl':t.flat.length=e.length:=by simpa [fl]using hfl
  have hw1:IntKind.i64.wrap ((e.length:Int) - 1)=((e.length - 1:Nat):Int):=wrapP (List.length_pos_iff.2 k2) (by omega)
  have hb:bAll 0 [t]=bOf 0 t:=by simp[bAll]
  have hl:(bOf 0 t)[e.length - 1]? =some (0:Int):=by rw[←hfl'];exact bOf_last t 0
  have hpos:=List.length_pos_iff.2 k2
  have hbl:(bOf 0 t).length=e.length:=by rw[bOf_len,hfl']
  rw[if_neg (by omega),if_neg k2,hw1,hb,hbl,if_pos ⟨by omega,by omega⟩,xV,hl,xS,if_pos rfl]
end
end Go.Etx
namespace Go.Etx
open Go Go.Am Go.Proofs
set_option maxHeartbeats 4000000
set_option maxRecDepth 20000
structure Named(s:GScope)(x:GNode):Prop where
 inr:Tr7.inR x.N=true
 nm:∃p,nameP [97] x s=some p∧(tellsB x.Op=true→p.1=nameN s x)
 len:(nameN s x).length≤16
theorem inR_16{n:Int}(h:Tr7.inR n=true):Tr7.inR (Int.tmod n 16)=true:=by
 have h1:(Int.tmod n 16).natAbs=n.natAbs % 16:=by rw[Int.natAbs_tmod];rfl
 simp only[Tr7.inR,xA,yD]
 omega
theorem part_len{s:GScope}:∀t:Ex,(∀x∈t.flat,Named s x)→(partOf s t).text.length≤64 * t.flat.length
 | .leaf x,h=>by
  have hn:=(h x (by simp[Ex.flat])).len
  have d1:=decI_len x.N
  have d2:=decI_len (Int.tmod x.N 16)
  simp only[partOf,leafT,Ex.flat,xZ,yN]
  repeat' split
  all_goals simp
  all_goals omega
 | .un x a,h=>by
  have hn:=(h x (by simp[Ex.flat])).len
  have ih:=part_len (s:=s) a (fun y hy=>h y (by simp[Ex.flat,hy]))
  have b1:=inB_len (partOf s a).text (decide ((partOf s a).binds<6))
  have b2:=inB_len (partOf s a).text (decide ((partOf s a).binds<6) || decide ((partOf s a).op=1))
  simp only[partOf,Ex.flat,xP,xZ,yN]
  split
  ·simp only[xP,xZ,yN];omega
  split
  ·simp only[xZ];omega
  ·simp only[xZ];omega
 | .bin x a b,h=>by
  have iha:=part_len (s:=s) a (fun y hy=>h y (by simp[Ex.flat,hy]))
  have ihb:=part_len (s:=s) b (fun y hy=>h y (by simp[Ex.flat,hy]))
  have c1:=inB_len (partOf s a).text (joinL x.Op (partOf s a).binds)
  have c2:=inB_len (partOf s b).text (joinR x.Op (partOf s b).binds)
  have c3:=sgnT_len x.Op
  simp only[partOf,joinT,Ex.flat,xP,xZ,yN]
  omega
section
variable{s:GScope}{e:List GNode}{b:List Int}
theorem part_leaf(β:Bool)(hs:Few s)(hsp:∀{ρ:Type} (g:List Int→Bool→Option ρ),f_r10_Spans e g=g b true){x:GNode}(hx:Named s x)(ht:takesK x.Op=0){n:Nat}(he:e[n]? =some x){ρ:Type}(κ:List T×List Ob→Option ρ):
  ((fun κ=>cbK (call 21 [.sl β (List.map eNode e),.agg [.sl β (List.map eScalar s.Scalars),.sl β (List.map eVar s.Vars),.sl β (List.map eChan s.Chans),.sl β (List.map (eProc β) s.Procs),.sl β (List.map eVar s.Locals),.int .i64 s.Self],.int .i64 (n:Int)] []) κ)) κ=κ ([.d (.str (leafT x (nameN s x)))],[]):=by
 refine(ge21 _ _ _ rfl).trans ?_
 obtain⟨p,hp,hnm⟩:=hx.nm
 have hd:=fun g=>decr_eq (ρ:=ρ) hx.inr (g:=g)
 have hd16:=fun g=>decr_eq (ρ:=ρ) (inR_16 hx.inr) (g:=g)
 have hl:=hx.len
 have l16:=decI_len (Int.tmod x.N 16)
 have q1:(nameN s x).length≤9223372036854775801:=by omega
 have q2:(nameN s x).length≤9223372036854775802:=by omega
 have q3:4+(nameN s x).length≤9223372036854775807:=by omega
 have q4:3+(nameN s x).length≤9223372036854775807:=by omega
 have q5:5+(nameN s x).length≤9223372036854775807:=by omega
 have q6:(nameN s x).length+2+1+1+1+(Tr7.decI (Int.tmod x.N 16)).length≤9223372036854775807:=by omega
 have q7:(nameN s x).length+((Tr7.decI (Int.tmod x.N 16)).length+1+1)≤9223372036854775803:=by omega
 rcases takes_cases x.Op with⟨e',q⟩ |⟨e',q⟩ |⟨e',q⟩ |⟨e',q⟩
 ·omega
 ·have:x.Op=1∨x.Op=2∨x.Op=4∨x.Op=5∨x.Op=6∨x.Op=7∨x.Op=8:=by omega
  obtain⟨xo,xn⟩:=x
  simp only at this
  rcases this with h |h |h |h |h |h |h <;>subst h
  ·cases β <;>simp -implicitDefEqProofs (maxSteps:=1000000) [go_sem,he,hsp,namer_eq hs,hp,hd,leafT,-List.map_append,-List.map_take,-List.map_drop,-List.map_set]
  ·have:=hnm rfl
   cases β <;>simp -implicitDefEqProofs (maxSteps:=1000000) [go_sem,he,hsp,namer_eq hs,hp,this,leafT,-List.map_append,-List.map_take,-List.map_drop,-List.map_set]
  ·have:=hnm rfl
   cases β <;>simp -implicitDefEqProofs (maxSteps:=1000000) [go_sem,he,hsp,namer_eq hs,hp,this,leafT,-List.map_append,-List.map_take,-List.map_drop,-List.map_set]
  ·cases β <;>simp -implicitDefEqProofs (maxSteps:=1000000) [go_sem,he,hsp,namer_eq hs,hp,leafT,-List.map_append,-List.map_take,-List.map_drop,-List.map_set]
  ·have:=hnm rfl
   cases β <;>simp -implicitDefEqProofs (maxSteps:=1000000) [go_sem,he,hsp,namer_eq hs,hp,this,q1,q2,q3,leafT,-List.map_append,-List.map_take,-List.map_drop,-List.map_set]
  ·have:=hnm rfl
   cases β <;>simp -implicitDefEqProofs (maxSteps:=1000000) [go_sem,he,hsp,namer_eq hs,hp,this,hd16,q1,q2,q4,q6,q7,leafT,-List.map_append,-List.map_take,-List.map_drop,-List.map_set]
  ·have:=hnm rfl
   cases β <;>simp -implicitDefEqProofs (maxSteps:=1000000) [go_sem,he,hsp,namer_eq hs,hp,this,q1,q2,q5,leafT,-List.map_append,-List.map_take,-List.map_drop,-List.map_set]
 ·omega
 ·omega
theorem part_un(β:Bool)(hs:Few s)(hsp:∀{ρ:Type} (g:List Int→Bool→Option ρ),f_r10_Spans e g=g b true){x:GNode}(hx:Named s x)(ht:takesK x.Op=1){n:Nat}(hn:n<1000000)(he:e[n+1]? =some x){y:GNode}(hy:e[n]? =some y){t:Gpart}(hb:t.binds=strK y)(ho:t.op=y.Op)(hl:t.text.length≤90000)
  (ih:∀{ρ:Type} (κ:List T×List Ob→Option ρ),((fun κ=>cbK (call 21 [.sl β (List.map eNode e),.agg [.sl β (List.map eScalar s.Scalars),.sl β (List.map eVar s.Vars),.sl β (List.map eChan s.Chans),.sl β (List.map (eProc β) s.Procs),.sl β (List.map eVar s.Locals),.int .i64 s.Self],.int .i64 (n:Int)] []) κ)) κ=κ ([.d (.str t.text)],[])) {ρ:Type} (κ:List T×List Ob→Option ρ):
  ((fun κ=>cbK (call 21 [.sl β (List.map eNode e),.agg [.sl β (List.map eScalar s.Scalars),.sl β (List.map eVar s.Vars),.sl β (List.map eChan s.Chans),.sl β (List.map (eProc β) s.Procs),.sl β (List.map eVar s.Locals),.int .i64 s.Self],.int .i64 (((n+1:Nat):Int):Int)] []) κ)) κ=κ ([.d (.str (if x.Op=3 then nameN s x++91::(t.text++[93])else if x.Op=9 then 33::inB t.text (decide (t.binds<6))else 45::inB t.text (decide (t.binds<6) || decide (t.op=1))))],[]):=by
 refine(ge21 _ _ _ rfl).trans ?_
 obtain⟨p,hp,hnm⟩:=hx.nm
 have hw:IntKind.i64.wrap (n:Int)=(n:Int):=wrap_i64 (by omega) (by omega)
 have hn1:(0:Int)≤(n:Int)+1:=by omega
 have hn2:((n:Int)+1).toNat=n+1:=by omega
 have hnl:=hx.len
 have ih':=fun κ=>ih (ρ:=ρ) κ
 simp only at ih'
 have ha:=fun c g=>aroundr_eq (ρ:=ρ) (t:=t.text) (b:=c) (g:=g) (by omega)
 have hst:=fun g=>strr_eq (ρ:=ρ) (x:=y) (g:=g)
 have b1:=fun c=>inB_len t.text c
 have q1:(nameN s x).length≤9223372036854775806:=by omega
 have q2:(nameN s x).length+1+t.text.length≤9223372036854775807:=by omega
 have q3:(nameN s x).length+(t.text.length+1)≤9223372036854775806:=by omega
 have q4:∀c,1+(inB t.text c).length≤9223372036854775807:=fun c=>by have:=b1 c;omega
 rcases takes_cases x.Op with⟨e',q⟩ |⟨e',q⟩ |⟨e',q⟩ |⟨e',q⟩
 ·omega
 ·omega
 ·obtain⟨xo,xn⟩:=x
  simp only at q
  rw[hb,ho]
  rcases q with h |h |h <;>subst h
  ·have:=hnm rfl
   cases β <;>simp -implicitDefEqProofs (maxSteps:=1000000) [go_sem,he,hy,hw,hn1,hn2,hsp,namer_eq hs,hp,this,ih',q1,q2,q3,-List.map_append,-List.map_take,-List.map_drop,-List.map_set]
  ·cases β <;>simp -implicitDefEqProofs (maxSteps:=1000000) [go_sem,he,hy,hw,hn1,hn2,hsp,namer_eq hs,hp,ih',hst,ha,q4,-List.map_append,-List.map_take,-List.map_drop,-List.map_set]
  ·by_cases hb6:strK y<6
   ·cases β <;>simp -implicitDefEqProofs (maxSteps:=1000000) [go_sem,he,hy,hw,hn1,hn2,hsp,namer_eq hs,hp,ih',hst,ha,q4,hb6,-List.map_append,-List.map_take,-List.map_drop,-List.map_set]
   ·cases β <;>simp -implicitDefEqProofs (maxSteps:=1000000) [go_sem,he,hy,hw,hn1,hn2,hsp,namer_eq hs,hp,ih',hst,ha,q4,hb6,-List.map_append,-List.map_take,-List.map_drop,-List.map_set]
 ·omega
end
end Go.Etx
namespace Go.Etx
open Go Go.Am Go.Proofs
set_option maxHeartbeats 4000000
set_option maxRecDepth 20000
section
variable{s:GScope}{e:List GNode}{b:List Int}
theorem part_bin(β:Bool)(hs:Few s)(hsp:∀{ρ:Type} (g:List Int→Bool→Option ρ),f_r10_Spans e g=g b true){x:GNode}(hx:Named s x)(ht:11≤x.Op∧x.Op≤19){n c:Nat}(hn:n<1000000)(hc:c<1000000)(he:e[n+1]? =some x)(hbn:b[n]? =some ((c:Int)+1)){y z:GNode}(hy:e[n]? =some y)(hz:e[c]? =some z){t u:Gpart}(hb:t.binds=strK z)(hub:u.binds=strK y)(hl:t.text.length≤90000)(hul:u.text.length≤90000)
  (ih:∀{ρ:Type} (κ:List T×List Ob→Option ρ),((fun κ=>cbK (call 21 [.sl β (List.map eNode e),.agg [.sl β (List.map eScalar s.Scalars),.sl β (List.map eVar s.Vars),.sl β (List.map eChan s.Chans),.sl β (List.map (eProc β) s.Procs),.sl β (List.map eVar s.Locals),.int .i64 s.Self],.int .i64 (c:Int)] []) κ)) κ=κ ([.d (.str t.text)],[])) (ihu:∀{ρ:Type} (κ:List T×List Ob→Option ρ),((fun κ=>cbK (call 21 [.sl β (List.map eNode e),.agg [.sl β (List.map eScalar s.Scalars),.sl β (List.map eVar s.Vars),.sl β (List.map eChan s.Chans),.sl β (List.map (eProc β) s.Procs),.sl β (List.map eVar s.Locals),.int .i64 s.Self],.int .i64 (n:Int)] []) κ)) κ=κ ([.d (.str u.text)],[])) {ρ:Type} (κ:List T×List Ob→Option ρ):
  ((fun κ=>cbK (call 21 [.sl β (List.map eNode e),.agg [.sl β (List.map eScalar s.Scalars),.sl β (List.map eVar s.Vars),.sl β (List.map eChan s.Chans),.sl β (List.map (eProc β) s.Procs),.sl β (List.map eVar s.Locals),.int .i64 s.Self],.int .i64 (((n+1:Nat):Int):Int)] []) κ)) κ=κ ([.d (.str (joinT x.Op t u))],[]):=by
 refine(ge21 _ _ _ rfl).trans ?_
 obtain⟨p,hp,hnm⟩:=hx.nm
 have hw:IntKind.i64.wrap (n:Int)=(n:Int):=wrap_i64 (by omega) (by omega)
 have hwc:IntKind.i64.wrap (c:Int)=(c:Int):=wrap_i64 (by omega) (by omega)
 have hn1:(0:Int)≤(n:Int)+1:=by omega
 have hn2:((n:Int)+1).toNat=n+1:=by omega
 have ih':=fun κ=>ih (ρ:=ρ) κ
 have ihu':=fun κ=>ihu (ρ:=ρ) κ
 simp only at ih' ihu'
 have ha:=fun c g=>aroundr_eq (ρ:=ρ) (t:=t.text) (b:=c) (g:=g) (by omega)
 have hau:=fun c g=>aroundr_eq (ρ:=ρ) (t:=u.text) (b:=c) (g:=g) (by omega)
 have hst:=fun x g=>strr_eq (ρ:=ρ) (x:=x) (g:=g)
 have hsg:=fun g=>signr_eq (ρ:=ρ) ht (g:=g)
 have b1:=fun c=>inB_len t.text c
 have b2:=fun c=>inB_len u.text c
 have b3:=sgnT_len x.Op
 have hk:strK x=sgnB x.Op:=by unfold strK;rw[if_pos ht]
 have n1:¬x.Op=1:=by omega
 have n2:¬x.Op=2:=by omega
 have n3:¬x.Op=3:=by omega
 have n4:¬x.Op=4:=by omega
 have n5:¬x.Op=5:=by omega
 have n6:¬x.Op=6:=by omega
 have n7:¬x.Op=7:=by omega
 have n8:¬x.Op=8:=by omega
 have n9:¬x.Op=9:=by omega
 have n10:¬x.Op=10:=by omega
 have q1:∀c,(inB t.text c).length≤9223372036854775806:=fun c=>by have:=b1 c;omega
 have q2:∀c,(inB t.text c).length+1+(sgnT x.Op).length≤9223372036854775807:=fun c=>by have:=b1 c;omega
 have q3:∀c,(inB t.text c).length+((sgnT x.Op).length+1)≤9223372036854775806:=fun c=>by have:=b1 c;omega
 have q4:∀c d,(inB t.text c).length+((sgnT x.Op).length+1+1)+(inB u.text d).length≤9223372036854775807:=fun c d=>by have:=b1 c;have:=b2 d;omega
 simp only[joinT,joinL,joinR,hb,hub]
 by_cases h3:sgnB x.Op=3
 ·cases β
  ·simp -implicitDefEqProofs (maxSteps:=1000000) [go_sem,he,hy,hz,hbn,hw,hwc,hn1,hn2,hsp,namer_eq hs,hp,n1,n2,n3,n4,n5,n6,n7,n8,n9,n10,hst,hk,h3,ih',ihu',ha,hau,hsg,q1,q2,q3,q4,-List.map_append,-List.map_take,-List.map_drop,-List.map_set]
  ·simp -implicitDefEqProofs (maxSteps:=1000000) [go_sem,he,hy,hz,hbn,hw,hwc,hn1,hn2,hsp,namer_eq hs,hp,n1,n2,n3,n4,n5,n6,n7,n8,n9,n10,hst,hk,h3,ih',ihu',ha,hau,hsg,q1,q2,q3,q4,-List.map_append,-List.map_take,-List.map_drop,-List.map_set]
 ·cases β
  ·simp -implicitDefEqProofs (maxSteps:=1000000) [go_sem,he,hy,hz,hbn,hw,hwc,hn1,hn2,hsp,namer_eq hs,hp,n1,n2,n3,n4,n5,n6,n7,n8,n9,n10,hst,hk,h3,ih',ihu',ha,hau,hsg,q1,q2,q3,q4,-List.map_append,-List.map_take,-List.map_drop,-List.map_set]
  ·simp -implicitDefEqProofs (maxSteps:=1000000) [go_sem,he,hy,hz,hbn,hw,hwc,hn1,hn2,hsp,namer_eq hs,hp,n1,n2,n3,n4,n5,n6,n7,n8,n9,n10,hst,hk,h3,ih',ihu',ha,hau,hsg,q1,q2,q3,q4,-List.map_append,-List.map_take,-List.map_drop,-List.map_set]
end
end Go.Etx
namespace Go.Etx
open Go Go.Am Go.Proofs
theorem mid_last{α:Type}{pre l post:List α}(h:0<l.length):(pre++l++post)[pre.length+l.length - 1]? =l[l.length - 1]? :=by
 rw[xK,xN (by omega),xO (by omega)]
 congr 1
 omega
section
variable{s:GScope}{e:List GNode}{b:List Int}
theorem part_eq(β:Bool)(hs:Few s)(hlen:e.length≤1000)(hsp:∀{ρ:Type} (g:List Int→Bool→Option ρ),f_r10_Spans e g=g b true):∀(t:Ex) (pre post:List GNode) (bpre bpost:List Int),e=pre++t.flat++post→b=bpre++bOf pre.length t++bpost→bpre.length=pre.length→t.wf→(∀x∈t.flat,Named s x)→
  ∀{ρ:Type} (κ:List T×List Ob→Option ρ),((fun κ=>cbK (call 21 [.sl β (List.map eNode e),.agg [.sl β (List.map eScalar s.Scalars),.sl β (List.map eVar s.Vars),.sl β (List.map eChan s.Chans),.sl β (List.map (eProc β) s.Procs),.sl β (List.map eVar s.Locals),.int .i64 s.Self],.int .i64 (((pre.length+t.flat.length - 1:Nat):Int):Int)] []) κ)) κ=κ ([.d (.str (partOf s t).text)],[])
 | .leaf x,pre,post,bpre,bpost,he,hb,hbl,hw,hn,ρ,κ=>by
  have h0:e[pre.length]? =some x:=by rw[he];simp[Ex.flat]
  exact part_leaf β hs hsp (hn x (by simp[Ex.flat])) hw h0 κ
 | .un x a,pre,post,bpre,bpost,he,hb,hbl,hw,hn,ρ,κ=>by
  have hap:=a.flat_pos
  have he':e=pre++a.flat++([x]++post):=by rw[he];simp[Ex.flat]
  have hb':b=bpre++bOf pre.length a++([(pre.length:Int)]++bpost):=by rw[hb];simp[bOf]
  have hel:e.length=pre.length+(a.flat.length+1)+post.length:=by rw[he];simp[Ex.flat] <;>omega
  obtain⟨n,hn'⟩:∃n,pre.length+a.flat.length=n+1:=⟨pre.length+a.flat.length - 1,by omega⟩
  have i1:pre.length+(Ex.un x a).flat.length - 1=n+1:=by simp only[Ex.flat,xP,xZ,yN];omega
  have i2:pre.length+a.flat.length - 1=n:=by omega
  have h0:e[n+1]? =some x:=by
   have:=mid_last (pre:=pre) (l:=(Ex.un x a).flat) (post:=post) (Ex.flat_pos _)
   rw[i1,←he,Ex.flat_last]at this
   exact this
  have h1:e[n]? =some a.top:=by
   have:=mid_last (pre:=pre) (l:=a.flat) (post:=[x]++post) hap
   rw[i2,←he',Ex.flat_last]at this
   exact this
  have ih:=fun{ρ:Type} (κ:List T×List Ob→Option ρ)=>part_eq β hs hlen hsp a pre ([x]++post) bpre ([(pre.length:Int)]++bpost) he' hb' hbl hw.2 (fun y hy=>hn y (by simp[Ex.flat,hy])) κ
  rw[i2]at ih
  have hl:=part_len (s:=s) a (fun y hy=>hn y (by simp[Ex.flat,hy]))
  rw[i1]
  have key:=part_un β hs hsp (hn x (by simp[Ex.flat])) hw.1 (by omega) h0 h1 (t:=partOf s a) (part_binds hw.2) (part_op hw.2) (by omega) ih κ
  refine key.trans ?_
  congr 3
  simp only[partOf]
  split
  ·rfl
  split <;>rfl
 | .bin x a c,pre,post,bpre,bpost,he,hb,hbl,hw,hn,ρ,κ=>by
  have hap:=a.flat_pos
  have hcp:=c.flat_pos
  have hea:e=pre++a.flat++(c.flat++[x]++post):=by rw[he];simp[Ex.flat]
  have hba:b=bpre++bOf pre.length a++(bOf (pre.length+a.flat.length) c++[(pre.length:Int)]++bpost):=by rw[hb];simp[bOf]
  have hec:e=(pre++a.flat)++c.flat++([x]++post):=by rw[he];simp[Ex.flat]
  have hbc:b=(bpre++bOf pre.length a)++bOf (pre++a.flat).length c++([(pre.length:Int)]++bpost):=by rw[hb];simp[bOf]
  have hblc:(bpre++bOf pre.length a).length=(pre++a.flat).length:=by simp[bOf_len,hbl]
  have hel:e.length=pre.length+(a.flat.length+(c.flat.length+1))+post.length:=by rw[he];simp[Ex.flat] <;>omega
  obtain⟨n,hn'⟩:∃n,pre.length+a.flat.length+c.flat.length=n+1:=⟨pre.length+a.flat.length+c.flat.length - 1,by omega⟩
  obtain⟨m,hm'⟩:∃m,pre.length+a.flat.length=m+1:=⟨pre.length+a.flat.length - 1,by omega⟩
  have i1:pre.length+(Ex.bin x a c).flat.length - 1=n+1:=by simp only[Ex.flat,xP,xZ,yN];omega
  have i2:pre.length+a.flat.length - 1=m:=by omega
  have i3:(pre++a.flat).length+c.flat.length - 1=n:=by simp only[xP];omega
  have h0:e[n+1]? =some x:=by
   have:=mid_last (pre:=pre) (l:=(Ex.bin x a c).flat) (post:=post) (Ex.flat_pos _)
   rw[i1,←he,Ex.flat_last]at this
   exact this
  have h1:e[m]? =some a.top:=by
   have:=mid_last (pre:=pre) (l:=a.flat) (post:=c.flat++[x]++post) hap
   rw[i2,←hea,Ex.flat_last]at this
   exact this
  have h2:e[n]? =some c.top:=by
   have:=mid_last (pre:=pre++a.flat) (l:=c.flat) (post:=[x]++post) hcp
   rw[i3,←hec,Ex.flat_last]at this
   exact this
  have h3:b[n]? =some ((m:Int)+1):=by
   have:=mid_last (pre:=bpre++bOf pre.length a) (l:=bOf (pre++a.flat).length c) (post:=[(pre.length:Int)]++bpost) (by rw[bOf_len];exact hcp)
   rw[hblc,bOf_len,i3,←hbc,bOf_last,xP,hm']at this
   exact this
  have iha:=fun{ρ:Type} (κ:List T×List Ob→Option ρ)=>part_eq β hs hlen hsp a pre _ bpre _ hea hba hbl hw.2.1 (fun y hy=>hn y (by simp[Ex.flat,hy])) κ
  have ihc:=fun{ρ:Type} (κ:List T×List Ob→Option ρ)=>part_eq β hs hlen hsp c (pre++a.flat) _ (bpre++bOf pre.length a) _ hec hbc hblc hw.2.2 (fun y hy=>hn y (by simp[Ex.flat,hy])) κ
  rw[i2]at iha
  rw[i3]at ihc
  have la:=part_len (s:=s) a (fun y hy=>hn y (by simp[Ex.flat,hy]))
  have lc:=part_len (s:=s) c (fun y hy=>hn y (by simp[Ex.flat,hy]))
  have hop:11≤x.Op∧x.Op≤19:=by
   have:=hw.1
   rcases takes_cases x.Op with⟨q,_⟩ |⟨q,_⟩ |⟨q,_⟩ |⟨q,h⟩ <;>omega
  rw[i1]
  exact part_bin β hs hsp (hn x (by simp[Ex.flat])) hop (by omega) (by omega) h0 h3 h2 h1 (t:=partOf s a) (u:=partOf s c) (part_binds hw.2.1) (part_binds hw.2.2) (by omega) (by omega) iha ihc κ
end
end Go.Etx
namespace Go.Etx
open Go Go.Am Go.Proofs
set_option maxHeartbeats 4000000
set_option maxRecDepth 20000
noncomputable section
theorem ker_eq(β:Bool)(e:List GNode)(s:GScope)(hN:∀x∈e,x.N≤9223372036854775807){ρ:Type}(g:Int→Int→Option ρ):f_r10_Kind e s g=g (kindK e s).1 (kindK e s).2:=by
 rw[kindr_eq hN]
 unfold kindK
 split
 ·rfl
 split
 ·rfl
 rename_i h1 h2
 unfold finK
 by_cases h0:(runK s e []).1=0
 ·by_cases h3:1<(runK s e []).2.length
  ·simp[h0,h3]
  ·have:=(run_ok0 (s:=s) (e:=e) (st:=[]) (by simp) h0).2 h2
   obtain⟨a,ha⟩:∃a,(runK s e []).2=[a]:=List.length_eq_one_iff.1 (by omega)
   simp[h0,ha]
 ·simp[h0]
theorem name97{x:GNode}{s:GScope}:nameP [97] x s=if tellsB x.Op=true then nameP [] x s else some ([97],true):=by
 unfold nameP tellsB
 by_cases h2:x.Op=2
 ·simp[h2]
 by_cases h3:x.Op=3
 ·simp[h3]
 by_cases h4:x.Op=4
 ·simp[h4]
 by_cases h6:x.Op=6
 ·simp[h6]
 by_cases h7:x.Op=7
 ·simp[h7]
 by_cases h8:x.Op=8
 ·simp[h8]
 simp[h2,h3,h4,h6,h7,h8]
theorem name00{x:GNode}{s:GScope}(h:tellsB x.Op=false):nameP [] x s=some ([],true):=by
 unfold tellsB at h
 simp only[Bool.or_eq_false_iff,decide_eq_false_iff_not]at h
 obtain⟨⟨⟨⟨⟨h2,h3⟩,h4⟩,h6⟩,h7⟩,h8⟩:=h
 unfold nameP
 rw[if_neg (fun q=>q.elim h2 h3),if_neg h4,if_neg h6,if_neg h7,if_neg h8]
theorem lexN_nil:lexN []=false:=rfl
theorem lexN_a:lexN [97]=true:=by decide
theorem bad97{x:GNode}{s:GScope}{p:List UInt8×Bool}(hp:nameP [97] x s=some p):badE s x=(!p.2 || !lexN p.1):=by
 unfold badE
 rw[name97]at hp
 cases ht:tellsB x.Op with
 |true=>
  rw[ht,if_pos rfl]at hp
  rw[hp]
  unfold badN
  rw[ht]
  obtain⟨nm,bk⟩:=p
  simp only
  by_cases h0:nm=[]
  ·subst h0;rw[lexN_nil];cases bk <;>rfl
  ·have:nm.isEmpty=false:=by simp[h0]
   rw[this];cases bk <;>cases lexN nm <;>rfl
 |false=>
  rw[ht,if_neg (by simp)]at hp
  simp only[xJ]at hp
  subst hp
  rw[name00 ht]
  simp only[badN,ht,lexN_a]
  rfl
theorem named_of{x:GNode}{s:GScope}(hr:Tr7.inR x.N=true){p:List UInt8×Bool}(hp:nameP [97] x s=some p)(hb:badE s x=false):Named s x:=by
 have h97:=bad97 hp
 rw[hb]at h97
 simp only[Bool.false_eq,Bool.or_eq_false_iff,Bool.not_eq_false']at h97
 rw[name97]at hp
 cases ht:tellsB x.Op with
 |true=>
  rw[ht,if_pos rfl]at hp
  have hn:nameN s x=p.1:=by unfold nameN;rw[hp]
  exact⟨hr,⟨p,by rw[name97,ht,if_pos rfl];exact hp,fun _=>hn.symm⟩,by rw[hn];exact lexN_len h97.2⟩
 |false=>
  have hn:nameN s x=[]:=by unfold nameN;rw[name00 ht]
  exact⟨hr,⟨([97],true),by rw[name97,ht,if_neg (by simp)],fun h=>by rw[ht]at h;cases h⟩,by rw[hn];simp⟩
theorem not_own{nm:List UInt8}(h:lexN nm=true):¬nm=[115,101,108,102]∧¬nm=[108,101,110]∧¬nm=[97,116]∧¬nm=[110,111,110,101]:=by
 refine⟨fun q=> ?_,fun q=> ?_,fun q=> ?_,fun q=> ?_⟩ <;>(subst q;revert h;decide)
theorem turn8(β:Bool)(e:List GNode)(s:GScope)(hs:Few s)(i:Nat)(hi:i<e.length)(hlen:e.length≤24)(p:List UInt8×Bool)(hp:nameP [97] e[i] s=some p){ρ:Type}(κ:Am.Ex×St→Option ρ):goLp P hints hint8 b8 0 ((⟨[(0,SV.d (D.sl β (List.map eNode e))),(3,SV.loc (Root.l 3 0) [] 0 0),(8,SV.d (D.int IntKind.i64 (i:Int)))],[((3,0),T.own [T.d (D.agg [D.sl β (List.map eScalar s.Scalars),D.sl β (List.map eVar s.Vars),D.sl β (List.map eChan s.Chans),D.sl β (List.map (eProc β) s.Procs),D.sl β (List.map eVar s.Locals),D.int IntKind.i64 s.Self])])],[]⟩:St)) κ=
  if badE s e[i]=true then κ (Am.Ex.ret,⟨[(4,SV.d (D.str [])),(5,SV.d (D.int IntKind.i64 6))],[],[]⟩)else goLp P hints hint8 b8 0 ((⟨[(0,SV.d (D.sl β (List.map eNode e))),(3,SV.loc (Root.l 3 0) [] 0 0),(8,SV.d (D.int IntKind.i64 ((i+1:Nat):Int)))],[((3,0),T.own [T.d (D.agg [D.sl β (List.map eScalar s.Scalars),D.sl β (List.map eVar s.Vars),D.sl β (List.map eChan s.Chans),D.sl β (List.map (eProc β) s.Procs),D.sl β (List.map eVar s.Locals),D.int IntKind.i64 s.Self])])],[]⟩:St)) κ:=by
 refine(goLp_turn q8_0.2).trans ?_
 have hw:IntKind.i64.wrap ((i:Int)+1)=((i+1:Nat):Int):=wrapS (by omega)
 have h1:(i:Int)<(e.length:Int):=by omega
 have h2:e[i]? =some e[i]:=xG hi
 rw[bad97 hp]
 obtain⟨nm,back⟩:=p
 cases back with
 |false=>cases β <;>simp -implicitDefEqProofs (maxSteps:=1000000) [go_sem,h1,h2,hw,namer_eq hs,hp,-List.map_append,-List.map_take,-List.map_drop,-List.map_set]
 |true=>
  cases hx:lexN nm with
  |false=>cases β <;>simp -implicitDefEqProofs (maxSteps:=1000000) [go_sem,h1,h2,hw,namer_eq hs,hp,namer9_eq,hx,-List.map_append,-List.map_take,-List.map_drop,-List.map_set]
  |true=>
   obtain⟨n1,n2,n3,n4⟩:=not_own hx
   cases β <;>simp -implicitDefEqProofs (maxSteps:=1000000) [go_sem,h1,h2,hw,namer_eq hs,hp,namer9_eq,hx,n1,n2,n3,n4,-List.map_append,-List.map_take,-List.map_drop,-List.map_set]
theorem last8(β:Bool)(e:List GNode)(s:GScope){ρ:Type}(κ:Am.Ex×St→Option ρ):goLp P hints hint8 b8 0 ((⟨[(0,SV.d (D.sl β (List.map eNode e))),(3,SV.loc (Root.l 3 0) [] 0 0),(8,SV.d (D.int IntKind.i64 (e.length:Int)))],[((3,0),T.own [T.d (D.agg [D.sl β (List.map eScalar s.Scalars),D.sl β (List.map eVar s.Vars),D.sl β (List.map eChan s.Chans),D.sl β (List.map (eProc β) s.Procs),D.sl β (List.map eVar s.Locals),D.int IntKind.i64 s.Self])])],[]⟩:St)) κ=κ (Am.Ex.exit 0,(⟨[(0,SV.d (D.sl β (List.map eNode e))),(3,SV.loc (Root.l 3 0) [] 0 0),(8,SV.d (D.int IntKind.i64 (List.length e))),(23,SV.d (D.bool false))],[((3,0),T.own [T.d (D.agg [D.sl β (List.map eScalar s.Scalars),D.sl β (List.map eVar s.Vars),D.sl β (List.map eChan s.Chans),D.sl β (List.map (eProc β) s.Procs),D.sl β (List.map eVar s.Locals),D.int IntKind.i64 s.Self])])],[]⟩:St)):=by
 refine(goLp_turn q8_0.2).trans ?_
 cases β <;>simp -implicitDefEqProofs (maxSteps:=1000000) [go_sem,-List.map_append,-List.map_take,-List.map_drop,-List.map_set]
theorem loop8(β:Bool)(e:List GNode)(s:GScope)(hs:Few s)(hlen:e.length≤24)(hp:∀x∈e,∃p,nameP [97] x s=some p){ρ:Type}(κ:Am.Ex×St→Option ρ):∀(n i:Nat),e.length - i=n→i≤e.length→
  goLp P hints hint8 b8 0 ((⟨[(0,SV.d (D.sl β (List.map eNode e))),(3,SV.loc (Root.l 3 0) [] 0 0),(8,SV.d (D.int IntKind.i64 (i:Int)))],[((3,0),T.own [T.d (D.agg [D.sl β (List.map eScalar s.Scalars),D.sl β (List.map eVar s.Vars),D.sl β (List.map eChan s.Chans),D.sl β (List.map (eProc β) s.Procs),D.sl β (List.map eVar s.Locals),D.int IntKind.i64 s.Self])])],[]⟩:St)) κ=if(e.drop i).any (badE s)=true then κ (Am.Ex.ret,⟨[(4,SV.d (D.str [])),(5,SV.d (D.int IntKind.i64 6))],[],[]⟩)else κ (Am.Ex.exit 0,(⟨[(0,SV.d (D.sl β (List.map eNode e))),(3,SV.loc (Root.l 3 0) [] 0 0),(8,SV.d (D.int IntKind.i64 (List.length e))),(23,SV.d (D.bool false))],[((3,0),T.own [T.d (D.agg [D.sl β (List.map eScalar s.Scalars),D.sl β (List.map eVar s.Vars),D.sl β (List.map eChan s.Chans),D.sl β (List.map (eProc β) s.Procs),D.sl β (List.map eVar s.Locals),D.int IntKind.i64 s.Self])])],[]⟩:St)):=by
 intro n
 induction n with
 |zero=>
  intro i hn hi
  obtain rfl:i=e.length:=by omega
  rw[last8,List.drop_length]
  simp
 |succ n ih=>
  intro i hn hi
  have hlt:i<e.length:=by omega
  obtain⟨p,hp'⟩:=hp _ (List.getElem_mem hlt)
  rw[turn8 β e s hs i hlt hlen p hp',xW hlt,List.any_cons,ih (i+1) (by omega) (by omega)]
  cases badE s e[i] <;>simp
theorem names_some{s:GScope}(d:List UInt8):∀{e:List GNode} {ks:List Int},(∀x∈e,x.N≤9223372036854775807)→(runK s e ks).1=0→∀x∈e,∃p,nameP d x s=some p
 | [],_,_,_,x,hx=>by cases hx
 |y::r,ks,hN,h0,x,hx=>by
  rw[runK]at h0
  have hy:(stepK y s ks).1=0:=by
   by_cases hy:(stepK y s ks).1=0
   ·exact hy
   ·rw[if_neg hy]at h0;exact absurd h0 hy
  rw[if_pos hy]at h0
  rcases List.mem_cons.1 hx with rfl |hx
  ·obtain⟨f1,_,f3,_⟩:=step_facts hy
   exact name_some (hN _ (by simp)) d f1 f3
  ·exact names_some d (fun z hz=>hN z (by simp[hz])) h0 x hx
theorem RText_eq(β:Bool)(e:List GNode)(s:GScope)(hs:Few s)(hN:∀x∈e,Tr7.inR x.N=true){ρ:Type}(κ:List T×List Ob→Option ρ):
  cbK (call 8 [.sl β (List.map eNode e),.agg [.sl β (List.map eScalar s.Scalars),.sl β (List.map eVar s.Vars),.sl β (List.map eChan s.Chans),.sl β (List.map (eProc β) s.Procs),.sl β (List.map eVar s.Locals),.int .i64 s.Self]] []) κ=κ ([.d (.str (textK e s).1),.d (.int .i64 (textK e s).2)],[]):=by
 refine(ge8 _ _ _ rfl).trans ?_
 have hN':∀x∈e,x.N≤9223372036854775807:=fun x hx=>by
  have:=hN x hx
  simp only[Tr7.inR,xA,yD]at this
  exact this.2
 have hk:=fun g=>ker_eq (ρ:=ρ) β e s hN' g
 by_cases h0:(kindK e s).2=0
 ·obtain⟨k1,k2,k3,k4⟩:=kind_ok h0
  obtain⟨t,t1,t2,t3,t4⟩:=tree_of hN' h0
  have hl:=fun κ=>loop8 (ρ:=ρ) β e s hs k1 (names_some [97] hN' k3) κ _ 0 rfl (Nat.zero_le _)
  simp only[Int.natCast_zero,List.drop_zero]at hl
  rw[t4]
  cases hb:e.any (badE s)with
  |true=>
   cases β <;>simp -implicitDefEqProofs (maxSteps:=1000000) [go_sem,hk,h0,hl,hb,-List.map_append,-List.map_take,-List.map_drop,-List.map_set,-List.any_eq_true]
  |false=>
   have hnamed:∀x∈t.flat,Named s x:=fun x hx=>by
    rw[t2]at hx
    obtain⟨p,hp⟩:=names_some [97] hN' k3 x hx
    refine named_of (hN x hx) hp ?_
    rw[yG]at hb
    simpa using hb x hx
   have hpos:=List.length_pos_iff.2 k2
   have hw:IntKind.i64.wrap ((e.length:Int) - 1)=((e.length - 1:Nat):Int):=wrapP hpos (by omega)
   have hpt:=part_eq (e:=e) (b:=bOf 0 t) β hs (by omega) (fun g=>spansr_eq hN' h0 t1) t [] [] [] [] (by simp[t2]) (by simp) rfl t3 hnamed (ρ:=ρ)
   simp only[yN,Nat.zero_add,t2]at hpt
   cases β <;>simp -implicitDefEqProofs (maxSteps:=1000000) [go_sem,hk,h0,hl,hb,hw,hpt,-List.map_append,-List.map_take,-List.map_drop,-List.map_set,-List.any_eq_true]
 ·have ht:textK e s=([],(kindK e s).2):=by unfold textK;rw[if_pos h0]
  rw[ht]
  cases β <;>simp -implicitDefEqProofs (maxSteps:=1000000) [go_sem,hk,h0,-List.map_append,-List.map_take,-List.map_drop,-List.map_set]
end
end Go.Etx
namespace Go.Am
open Go
variable{P:Program}{hints:FuncId→Hint}
def callS(P:Program)(hint:FuncId→Hint)(c:CallF)(n:Nat)(f:FuncId)(ds:List D)(H:List Ob):Option (List T×List Ob):=
 if YB≤f then roundN P c hint n (f - YB) ds H else
 match (hint f).ext with
 |some F=>(F ds).bind fun rs=>if isPanT rs=true then none else some (rs,H)
 |none=>
 (P.funcs[f]?).bind fun fn=>fn.body.bind fun cd=>
  if ds.length=fn.params.size+fn.nfree∧codeOk fn.ntmps cd=true∧(fn.name== "runtime.NumGoroutine")=false then
   if(hint f).rcv=true then(recN P c hint n f cd fn.ntmps (enter ds H)).bind (leave P (hint f).own fn H.length)
   else if(decide ((hint f).nilt≠0)&&emptyArg ds)=true then
    bothE H.length (flagE (hint f) ds) ((codeN P c (hint f) n cd (enterE true H)).bind (leave P (hint f).own fn H.length)) ((codeN P c (hint f) n cd (enterE false H)).bind (leave P (hint f).own fn H.length))
   else(codeN P c (hint f) n cd (enter ds H)).bind (leave P (hint f).own fn H.length)
  else if ds.length+1=fn.params.size+fn.nfree∧codeOk fn.ntmps cd=true∧(fn.name== "runtime.NumGoroutine")=false then
   (rowOf H).bind fun es=>(codeN P c (hint f) n cd (enterR es ds)).bind (leave P (hint f).own fn 0)
  else none
theorem callS_mono{c c':CallF}(ih:CallLe c c'){n m:Nat}(hn:n≤m){f:FuncId}{ds:List D}{H:List Ob}{r:List T×List Ob}(e:callS P hints c n f ds H=some r):callS P hints c' m f ds H=some r:=by
 unfold callS at e ⊢
 by_cases hy:YB≤f
 ·rw[if_pos hy]at e ⊢
  exact roundN_mono ih hn e
 rw[if_neg hy]at e ⊢
 split at e
 ·exact e
 simp only[xB]at e ⊢
 obtain⟨fn,h1,cd,h2,e⟩:=e
 refine⟨fn,h1,cd,h2,?_⟩
 split at e
 ·rename_i hh
  rw[if_pos hh]
  by_cases hr:(hints f).rcv=true
  ·rw[if_pos hr]at e ⊢
   simp only[xB]at e ⊢
   obtain⟨x,e1,e2⟩:=e
   exact⟨x,recN_mono ih hn e1,e2⟩
  rw[if_neg hr]at e ⊢
  by_cases hnil:(decide ((hints f).nilt≠0)&&emptyArg ds)=true
  ·rw[if_pos hnil]at e ⊢
   obtain⟨t1,t2,H1,H2,ht,q1,q2,l1,l2,m1,m2,rfl⟩:=bothE_some e
   simp only[xB]at q1 q2
   obtain⟨x,e1,e2⟩:=q1
   obtain⟨y,e3,e4⟩:=q2
   show bothE H.length (flagE (hints f) ds) ((codeN P c' (hints f) m cd (enterE true H)).bind (leave P (hints f).own fn H.length)) ((codeN P c' (hints f) m cd (enterE false H)).bind (leave P (hints f).own fn H.length))=_
   rw[codeN_mono ih hn cd _ _ e1,codeN_mono ih hn cd _ _ e3,xS,xS,e2,e4]
   exact bothE_of ht l1 l2 m1 m2
  rw[if_neg hnil]at e ⊢
  simp only[xB]at e ⊢
  obtain⟨x,e1,e2⟩:=e
  exact⟨x,codeN_mono ih hn cd _ _ e1,e2⟩
 ·rename_i hh
  rw[if_neg hh]
  split at e
  ·rename_i h3
   rw[if_pos h3]
   simp only[xB]at e ⊢
   obtain⟨es,e0,x,e1,e2⟩:=e
   exact⟨es,e0,x,codeN_mono ih hn cd _ _ e1,e2⟩
  ·cases e
abbrev Memo:=List (FuncId×List D×List T)
def memo:Memo→FuncId→List D→Option (List T)
 | [],_,_=>none
 |e::K,f,ds=>if(Nat.beq e.1 f&&D.beqs e.2.1 ds)=true then some e.2.2 else memo K f ds
def callM(P:Program)(hint:FuncId→Hint)(K:Memo):Nat→CallF
 |0,_,_,_=>none
 |n+1,f,ds,H=>match H with
  | []=>match memo K f ds with
   |some rs=>some (rs,[])
   |none=>callS P hint (callM P hint K n) n f ds []
  |o::r=>callS P hint (callM P hint K n) n f ds (o::r)
def Memo.OK(P:Program)(hint:FuncId→Hint):Memo→Prop
 | []=>True
 |e::K=>callX P hint e.1 e.2.1 []=some (e.2.2,[])∧Memo.OK P hint K
theorem memo_ok:∀(K:Memo),K.OK P hints→∃n,∀f ds rs,memo K f ds=some rs→callN P hints n f ds []=some (rs,[])
 | [],_=>⟨0,fun _ _ _ h=>by cases h⟩
 |e::K,h=>by
  obtain⟨n,hn⟩:=memo_ok K h.2
  obtain⟨m,hm⟩:=callX_iff.1 h.1
  refine⟨max n m,fun f ds rs q=> ?_⟩
  unfold memo at q
  split at q
  ·rename_i hh
   simp only[xA,xJ]at hh q
   obtain⟨h1,h2⟩:=hh
   have h1:=Nat.eq_of_beq_eq_true h1
   have h2:=D.beqs_eq _ _ h2
   subst h1
   subst h2
   subst q
   exact callN_mono (Nat.le_max_right _ _) _ _ _ _ hm
  ·exact callN_mono (Nat.le_max_left _ _) _ _ _ _ (hn f ds rs q)
theorem callM_ok{K:Memo}{N:Nat}(h:∀f ds rs,memo K f ds=some rs→callN P hints N f ds []=some (rs,[])):∀n,CallLe (callM P hints K n) (callN P hints (N+n))
 |0=>fun f ds H r e=>by cases e
 |n+1=>fun f ds H r e=>by
  have ih:=callM_ok h n
  have key:∀H,callS P hints (callM P hints K n) n f ds H=some r→callN P hints (N+(n+1)) f ds H=some r:=fun H e=>
   callS_mono (c':=callN P hints (N+n)) ih (Nat.le_add_left n N) e
  cases H with
  |nil=>
   simp only[callM]at e
   split at e
   ·rename_i rs hm
    simp only[xJ]at e
    subst e
    exact callN_mono (Nat.le_add_right N (n+1)) _ _ _ _ (h f ds rs hm)
   ·exact key _ e
  |cons o H=>exact key _ e
theorem callX_memo{f:FuncId}{ds:List D}{H:List Ob}{r:List T×List Ob}(K:Memo)(hK:K.OK P hints)(n:Nat)(e:callM P hints K n f ds H=some r):callX P hints f ds H=some r:=by
 obtain⟨N,hN⟩:=memo_ok K hK
 exact callX_iff.2 ⟨N+n,callM_ok hN n f ds H r e⟩
end Go.Am
namespace Go.Etx
open Go Go.Am Go.Proofs
set_option maxRecDepth 20000
def m0:FuncId×List D×List T:=(13,[.sl true [.agg [.int .i64 (2),.int .i64 (0)],.agg [.int .i64 (1),.int .i64 (1)],.agg [.int .i64 (11),.int .i64 (0)],.agg [.int .i64 (1),.int .i64 (2)],.agg [.int .i64 (13),.int .i64 (0)]],.agg [.sl true [],.sl true [.agg [.str [120],.int .i64 (0),.int .i64 (0),.int .i64 (0),.int .i64 (9),.int .i64 (0)],.agg [.str [121],.int .i64 (0),.int .i64 (0),.int .i64 (0),.int .i64 (9),.int .i64 (0)]],.sl true [],.sl true [],.sl true [],.int .i64 (0)]],[.d (.int .i64 (0)),.d (.int .i64 (0))])
theorem M0:call m0.1 m0.2.1 []=some (m0.2.2,[]):=callX_memo [] trivial 60 (by kernel_rfl)
def m1:FuncId×List D×List T:=(7,[.sl true [.agg [.int .i64 (2),.int .i64 (0)],.agg [.int .i64 (1),.int .i64 (1)],.agg [.int .i64 (11),.int .i64 (0)],.agg [.int .i64 (1),.int .i64 (2)],.agg [.int .i64 (13),.int .i64 (0)]],.agg [.sl true [],.sl true [.agg [.str [120],.int .i64 (0),.int .i64 (0),.int .i64 (0),.int .i64 (9),.int .i64 (0)],.agg [.str [121],.int .i64 (0),.int .i64 (0),.int .i64 (0),.int .i64 (9),.int .i64 (0)]],.sl true [],.sl true [],.sl true [],.int .i64 (0)]],[.d (.str [40,120,32,43,32,49,41,32,42,32,50]),.d (.int .i64 (0))])
theorem M1:call m1.1 m1.2.1 []=some (m1.2.2,[]):=callX_memo [m0] ⟨M0,trivial⟩ 60 (by kernel_rfl)
def m2:FuncId×List D×List T:=(57,[.str [45,32,121,32,45,32,49]],[.d (.agg [.int .i64 (3),.int .i64 (0),.int .i64 (0),.str [45]]),.d (.int .i64 (0))])
theorem M2:call m2.1 m2.2.1 []=some (m2.2.2,[]):=callX_memo [] trivial 60 (by kernel_rfl)
def m3:FuncId×List D×List T:=(57,[.str [45,32,49]],[.d (.agg [.int .i64 (3),.int .i64 (0),.int .i64 (0),.str [45]]),.d (.int .i64 (0))])
theorem M3:call m3.1 m3.2.1 []=some (m3.2.2,[]):=callX_memo [] trivial 60 (by kernel_rfl)
def m4:FuncId×List D×List T:=(7,[.sl true [.agg [.int .i64 (2),.int .i64 (0)],.agg [.int .i64 (2),.int .i64 (1)],.agg [.int .i64 (12),.int .i64 (0)],.agg [.int .i64 (1),.int .i64 (1)],.agg [.int .i64 (12),.int .i64 (0)]],.agg [.sl true [],.sl true [.agg [.str [120],.int .i64 (0),.int .i64 (0),.int .i64 (0),.int .i64 (9),.int .i64 (0)],.agg [.str [121],.int .i64 (0),.int .i64 (0),.int .i64 (0),.int .i64 (9),.int .i64 (0)]],.sl true [],.sl true [],.sl true [],.int .i64 (0)]],[.d (.str [120,32,45,32,121,32,45,32,49]),.d (.int .i64 (0))])
theorem M4:call m4.1 m4.2.1 []=some (m4.2.2,[]):=callX_memo [] trivial 60 (by kernel_rfl)
def m5:FuncId×List D×List T:=(12,[.str [120,32,45,32,121,32,45,32,49],.agg [.sl false [],.sl false [.agg [.str [120],.int .i64 (0),.int .i64 (0),.int .i64 (0),.int .i64 (9),.int .i64 (0)],.agg [.str [121],.int .i64 (0),.int .i64 (0),.int .i64 (0),.int .i64 (9),.int .i64 (0)]],.sl false [],.sl false [],.sl false [],.int .i64 (0)]],[.d (.sl false [.agg [.int .i64 (2),.int .i64 (0)],.agg [.int .i64 (2),.int .i64 (1)],.agg [.int .i64 (12),.int .i64 (0)],.agg [.int .i64 (1),.int .i64 (1)],.agg [.int .i64 (12),.int .i64 (0)]]),.d (.int .i64 (0)),.d (.int .i64 (0))])
theorem M5:call m5.1 m5.2.1 []=some (m5.2.2,[]):=callX_memo [m2,m3,m4] ⟨M2,M3,M4,trivial⟩ 60 (by kernel_rfl)
def m6:FuncId×List D×List T:=(7,[.sl true [.agg [.int .i64 (2),.int .i64 (0)],.agg [.int .i64 (1),.int .i64 (1)],.agg [.int .i64 (14),.int .i64 (0)]],.agg [.sl true [],.sl true [.agg [.str [120],.int .i64 (0),.int .i64 (0),.int .i64 (0),.int .i64 (9),.int .i64 (0)],.agg [.str [121],.int .i64 (0),.int .i64 (0),.int .i64 (0),.int .i64 (9),.int .i64 (0)]],.sl true [],.sl true [],.sl true [],.int .i64 (0)]],[.d (.str [120,32,61,61,32,49]),.d (.int .i64 (0))])
theorem M6:call m6.1 m6.2.1 []=some (m6.2.2,[]):=callX_memo [] trivial 60 (by kernel_rfl)
def m7:FuncId×List D×List T:=(12,[.str [120,32,32,61,61,32,49],.agg [.sl false [],.sl false [.agg [.str [120],.int .i64 (0),.int .i64 (0),.int .i64 (0),.int .i64 (9),.int .i64 (0)],.agg [.str [121],.int .i64 (0),.int .i64 (0),.int .i64 (0),.int .i64 (9),.int .i64 (0)]],.sl false [],.sl false [],.sl false [],.int .i64 (0)]],[.d (.sl false []),.d (.int .i64 (2)),.d (.int .i64 (13))])
theorem M7:call m7.1 m7.2.1 []=some (m7.2.2,[]):=callX_memo [m6] ⟨M6,trivial⟩ 60 (by kernel_rfl)
def m8:FuncId×List D×List T:=(12,[.str [120,32,61,61,32],.agg [.sl false [],.sl false [.agg [.str [120],.int .i64 (0),.int .i64 (0),.int .i64 (0),.int .i64 (9),.int .i64 (0)],.agg [.str [121],.int .i64 (0),.int .i64 (0),.int .i64 (0),.int .i64 (9),.int .i64 (0)]],.sl false [],.sl false [],.sl false [],.int .i64 (0)]],[.d (.sl false []),.d (.int .i64 (5)),.d (.int .i64 (3))])
theorem M8:call m8.1 m8.2.1 []=some (m8.2.2,[]):=callX_memo [] trivial 60 (by kernel_rfl)
def m9:FuncId×List D×List T:=(6,[],[.d (.bool true)])
theorem M9:call m9.1 m9.2.1 []=some (m9.2.2,[]):=callX_memo [m1,m5,m7,m8] ⟨M1,M5,M7,M8,trivial⟩ 60 (by kernel_rfl)
end Go.Etx
namespace Go.Proofs
open Go.Shelf
def Tryz.lays172_ren:Go.Shelf.Ren:=⟨fun |172=>107 |244=>120 |245=>121 |247=>127 |279=>128 |280=>129 |281=>130 |282=>131 |287=>138 |316=>139 |171=>105 |205=>140 |321=>146 |322=>147 |243=>119 |246=>126 |283=>134 |284=>135 |285=>136 |286=>137 |129=>142 |317=>141 |318=>143 |319=>144 |320=>145 |337=>148 |338=>149 |n=>n,fun |9=>9 |3=>3 |75=>150 |76=>151 |4=>4 |5=>5 |167=>164 |37=>134 |0=>0 |85=>165 |2=>2 |168=>167 |53=>173 |175=>178 |46=>180 |210=>183 |127=>190 |145=>193 |143=>191 |21=>21 |171=>172 |173=>176 |212=>185 |51=>186 |20=>20 |213=>187 |232=>195 |233=>196 |80=>197 |n=>n,fun |15=>2 |16=>3 |17=>4 |18=>5 |19=>6 |n=>n⟩
def Tryz.laysM246_ren:Go.Shelf.Ren:=⟨fun |246=>126 |283=>134 |284=>135 |285=>136 |286=>137 |129=>142 |317=>141 |318=>143 |319=>144 |320=>145 |337=>148 |338=>149 |n=>n,fun |2=>2 |3=>3 |9=>9 |4=>4 |171=>172 |0=>0 |53=>173 |37=>134 |5=>5 |173=>176 |212=>185 |51=>186 |20=>20 |213=>187 |46=>180 |232=>195 |233=>196 |n=>n,fun |17=>4 |18=>5 |19=>6 |n=>n⟩
def Tryz.laysM243_ren:Go.Shelf.Ren:=⟨fun |243=>119 |246=>126 |283=>134 |284=>135 |285=>136 |286=>137 |129=>142 |317=>141 |318=>143 |319=>144 |320=>145 |337=>148 |338=>149 |n=>n,fun |3=>3 |9=>9 |2=>2 |4=>4 |171=>172 |0=>0 |53=>173 |37=>134 |5=>5 |173=>176 |212=>185 |51=>186 |20=>20 |213=>187 |46=>180 |232=>195 |233=>196 |n=>n,fun |17=>4 |18=>5 |19=>6 |n=>n⟩
def Tryz.laysM171_ren:Go.Shelf.Ren:=⟨fun |171=>105 |243=>119 |246=>126 |283=>134 |284=>135 |285=>136 |286=>137 |129=>142 |317=>141 |318=>143 |319=>144 |320=>145 |337=>148 |338=>149 |n=>n,fun |3=>3 |9=>9 |2=>2 |4=>4 |171=>172 |0=>0 |53=>173 |37=>134 |5=>5 |173=>176 |212=>185 |51=>186 |20=>20 |213=>187 |46=>180 |232=>195 |233=>196 |n=>n,fun |17=>4 |18=>5 |19=>6 |n=>n⟩
theorem Tryz.laysM171:Go.Proofs.LaysM.n171 Tryz.prog Tryz.laysM171_ren:={
 mixed:=by kernel_rfl
 f129:=Tryz.func142.trans (congrArg some (by kernel_rfl))
 f171:=Tryz.func105.trans (congrArg some (by kernel_rfl))
 f243:=Tryz.func119.trans (congrArg some (by kernel_rfl))
 f246:=Tryz.func126.trans (congrArg some (by kernel_rfl))
 f283:=Tryz.func134.trans (congrArg some (by kernel_rfl))
 f284:=Tryz.func135.trans (congrArg some (by kernel_rfl))
 f285:=Tryz.func136.trans (congrArg some (by kernel_rfl))
 f286:=Tryz.func137.trans (congrArg some (by kernel_rfl))
 f317:=Tryz.func141.trans (congrArg some (by kernel_rfl))
 f318:=Tryz.func143.trans (congrArg some (by kernel_rfl))
 f319:=Tryz.func144.trans (congrArg some (by kernel_rfl))
 f320:=Tryz.func145.trans (congrArg some (by kernel_rfl))
 f337:=Tryz.func148.trans (congrArg some (by kernel_rfl))
 f338:=Tryz.func149.trans (congrArg some (by kernel_rfl))
 t0:=Tryz.underlying0
 a0:=Tryz.isAgg0
 z0:=Tryz.sizeOf0
 v0:=Tryz.zeroValue0
 t2:=Tryz.underlying2
 a2:=Tryz.isAgg2
 z2:=Tryz.sizeOf2
 v2:=Tryz.zeroValue2
 t3:=Tryz.underlying3
 a3:=Tryz.isAgg3
 z3:=Tryz.sizeOf3
 v3:=Tryz.zeroValue3
 t4:=Tryz.underlying4
 a4:=Tryz.isAgg4
 z4:=Tryz.sizeOf4
 v4:=Tryz.zeroValue4
 t5:=Tryz.underlying5
 a5:=Tryz.isAgg5
 z5:=Tryz.sizeOf5
 v5:=Tryz.zeroValue5
 t9:=Tryz.underlying9
 a9:=Tryz.isAgg9
 z9:=Tryz.sizeOf9
 v9:=Tryz.zeroValue9
 t20:=Tryz.underlying20
 a20:=Tryz.isAgg20
 z20:=Tryz.sizeOf20
 v20:=Tryz.zeroValue20
 t37:=Tryz.underlying134
 a37:=Tryz.isAgg134
 z37:=Tryz.sizeOf134
 v37:=Tryz.zeroValue134
 t46:=Tryz.underlying180
 a46:=Tryz.isAgg180
 z46:=Tryz.sizeOf180
 v46:=Tryz.zeroValue180
 t51:=Tryz.underlying186
 a51:=Tryz.isAgg186
 z51:=Tryz.sizeOf186
 v51:=Tryz.zeroValue186
 t53:=Tryz.underlying173
 a53:=Tryz.isAgg173
 z53:=Tryz.sizeOf173
 v53:=Tryz.zeroValue173
 t171:=Tryz.underlying172
 a171:=Tryz.isAgg172
 z171:=Tryz.sizeOf172
 v171:=Tryz.zeroValue172
 t173:=Tryz.underlying176
 a173:=Tryz.isAgg176
 z173:=Tryz.sizeOf176
 v173:=Tryz.zeroValue176
 t212:=Tryz.underlying185
 a212:=Tryz.isAgg185
 z212:=Tryz.sizeOf185
 v212:=Tryz.zeroValue185
 t213:=Tryz.underlying187
 a213:=Tryz.isAgg187
 z213:=Tryz.sizeOf187
 t232:=Tryz.underlying195
 a232:=Tryz.isAgg195
 z232:=Tryz.sizeOf195
 v232:=Tryz.zeroValue195
 t233:=Tryz.underlying196
 a233:=Tryz.isAgg196
 z233:=Tryz.sizeOf196
 v233:=Tryz.zeroValue196
 g17:=by kernel_rfl
 g18:=by kernel_rfl
 g19:=by kernel_rfl
 i0:=by kernel_rfl
 i2:=by kernel_rfl
 i3:=by kernel_rfl
 i4:=by kernel_rfl
 i5:=by kernel_rfl
 i9:=by kernel_rfl
 i20:=by kernel_rfl
 i37:=by kernel_rfl
 i46:=by kernel_rfl
 i51:=by kernel_rfl
 i53:=by kernel_rfl
 i171:=by kernel_rfl
 i173:=by kernel_rfl
 i212:=by kernel_rfl
 i232:=by kernel_rfl
 i233:=by kernel_rfl
 m17:=by kernel_rfl
 m18:=by kernel_rfl
 m19:=by kernel_rfl}
open Go.RowKit Go.Sort Go.Lib in
theorem Tryz.strconv_Itoa(n:Int)(h0:-9223372036854775808≤n)(h1:n≤9223372036854775807)(w:World)(htab:Lib.TabIs Tryz.prog w "internal/strconv.uint64pow10" .u64 Lib.pow10Tab):
  Calls Tryz.prog 105 #[.int .i64 n] w fun e w'=>e=.returned (.string ⟨(Lib.itoa n).toArray⟩)∧∃k os,w'=grow (w.drewN k) os:=Any.strconv_Itoa Tryz.laysM171 n h0 h1 w htab
def Tryz.laysC172_ren:Go.Shelf.Ren:=⟨fun |172=>107 |244=>120 |245=>121 |247=>127 |279=>128 |280=>129 |281=>130 |282=>131 |287=>138 |316=>139 |171=>105 |205=>140 |321=>146 |322=>147 |243=>119 |246=>126 |283=>134 |284=>135 |285=>136 |286=>137 |129=>142 |317=>141 |318=>143 |319=>144 |320=>145 |337=>148 |338=>149 |n=>n,fun |9=>9 |3=>3 |75=>150 |76=>151 |4=>4 |5=>5 |167=>164 |37=>134 |0=>0 |85=>165 |2=>2 |168=>167 |53=>173 |175=>178 |46=>180 |210=>183 |127=>190 |145=>193 |143=>191 |21=>21 |171=>172 |173=>176 |212=>185 |51=>186 |20=>20 |213=>187 |232=>195 |233=>196 |80=>197 |n=>n,fun |15=>2 |16=>3 |17=>4 |18=>5 |19=>6 |n=>n⟩
theorem Tryz.laysC172:Go.Proofs.LaysC.n172 Tryz.prog Tryz.laysC172_ren:={
 mixed:=by kernel_rfl
 f129:=Tryz.func142.trans (congrArg some (by kernel_rfl))
 f171:=Tryz.func105.trans (congrArg some (by kernel_rfl))
 f172:=Tryz.func107.trans (congrArg some (by kernel_rfl))
 f205:=Tryz.func140.trans (congrArg some (by kernel_rfl))
 f243:=Tryz.func119.trans (congrArg some (by kernel_rfl))
 f244:=Tryz.func120.trans (congrArg some (by kernel_rfl))
 f245:=Tryz.func121.trans (congrArg some (by kernel_rfl))
 f246:=Tryz.func126.trans (congrArg some (by kernel_rfl))
 f247:=Tryz.func127.trans (congrArg some (by kernel_rfl))
 f279:=Tryz.func128.trans (congrArg some (by kernel_rfl))
 f280:=Tryz.func129.trans (congrArg some (by kernel_rfl))
 f281:=Tryz.func130.trans (congrArg some (by kernel_rfl))
 f282:=Tryz.func131.trans (congrArg some (by kernel_rfl))
 f283:=Tryz.func134.trans (congrArg some (by kernel_rfl))
 f284:=Tryz.func135.trans (congrArg some (by kernel_rfl))
 f285:=Tryz.func136.trans (congrArg some (by kernel_rfl))
 f286:=Tryz.func137.trans (congrArg some (by kernel_rfl))
 f287:=Tryz.func138.trans (congrArg some (by kernel_rfl))
 f316:=Tryz.func139.trans (congrArg some (by kernel_rfl))
 f317:=Tryz.func141.trans (congrArg some (by kernel_rfl))
 f318:=Tryz.func143.trans (congrArg some (by kernel_rfl))
 f319:=Tryz.func144.trans (congrArg some (by kernel_rfl))
 f320:=Tryz.func145.trans (congrArg some (by kernel_rfl))
 f321:=Tryz.func146.trans (congrArg some (by kernel_rfl))
 f322:=Tryz.func147.trans (congrArg some (by kernel_rfl))
 f337:=Tryz.func148.trans (congrArg some (by kernel_rfl))
 f338:=Tryz.func149.trans (congrArg some (by kernel_rfl))
 t0:=Tryz.underlying0
 a0:=Tryz.isAgg0
 z0:=Tryz.sizeOf0
 v0:=Tryz.zeroValue0
 t2:=Tryz.underlying2
 a2:=Tryz.isAgg2
 z2:=Tryz.sizeOf2
 v2:=Tryz.zeroValue2
 t3:=Tryz.underlying3
 a3:=Tryz.isAgg3
 z3:=Tryz.sizeOf3
 v3:=Tryz.zeroValue3
 t4:=Tryz.underlying4
 a4:=Tryz.isAgg4
 z4:=Tryz.sizeOf4
 v4:=Tryz.zeroValue4
 t5:=Tryz.underlying5
 a5:=Tryz.isAgg5
 z5:=Tryz.sizeOf5
 v5:=Tryz.zeroValue5
 t9:=Tryz.underlying9
 a9:=Tryz.isAgg9
 z9:=Tryz.sizeOf9
 v9:=Tryz.zeroValue9
 t20:=Tryz.underlying20
 a20:=Tryz.isAgg20
 z20:=Tryz.sizeOf20
 v20:=Tryz.zeroValue20
 t21:=Tryz.underlying21
 a21:=Tryz.isAgg21
 z21:=Tryz.sizeOf21
 v21:=Tryz.zeroValue21
 t37:=Tryz.underlying134
 a37:=Tryz.isAgg134
 z37:=Tryz.sizeOf134
 v37:=Tryz.zeroValue134
 t46:=Tryz.underlying180
 a46:=Tryz.isAgg180
 z46:=Tryz.sizeOf180
 v46:=Tryz.zeroValue180
 t51:=Tryz.underlying186
 a51:=Tryz.isAgg186
 z51:=Tryz.sizeOf186
 v51:=Tryz.zeroValue186
 t53:=Tryz.underlying173
 a53:=Tryz.isAgg173
 z53:=Tryz.sizeOf173
 v53:=Tryz.zeroValue173
 t75:=Tryz.underlying150
 a75:=Tryz.isAgg150
 z75:=Tryz.sizeOf150
 v75:=Tryz.zeroValue150
 t76:=Tryz.underlying151
 a76:=Tryz.isAgg151
 z76:=Tryz.sizeOf151
 v76:=Tryz.zeroValue151
 t85:=Tryz.underlying165
 a85:=Tryz.isAgg165
 z85:=Tryz.sizeOf165
 v85:=Tryz.zeroValue165
 t127:=Tryz.underlying190
 a127:=Tryz.isAgg190
 z127:=Tryz.sizeOf190
 v127:=Tryz.zeroValue190
 t143:=Tryz.underlying191
 a143:=Tryz.isAgg191
 z143:=Tryz.sizeOf191
 v143:=Tryz.zeroValue191
 t145:=Tryz.underlying193
 a145:=Tryz.isAgg193
 z145:=Tryz.sizeOf193
 v145:=Tryz.zeroValue193
 t167:=Tryz.underlying164
 a167:=Tryz.isAgg164
 z167:=Tryz.sizeOf164
 v167:=Tryz.zeroValue164
 t168:=Tryz.underlying167
 a168:=Tryz.isAgg167
 z168:=Tryz.sizeOf167
 v168:=Tryz.zeroValue167
 t171:=Tryz.underlying172
 a171:=Tryz.isAgg172
 z171:=Tryz.sizeOf172
 v171:=Tryz.zeroValue172
 t173:=Tryz.underlying176
 a173:=Tryz.isAgg176
 z173:=Tryz.sizeOf176
 v173:=Tryz.zeroValue176
 t175:=Tryz.underlying178
 a175:=Tryz.isAgg178
 z175:=Tryz.sizeOf178
 v175:=Tryz.zeroValue178
 t210:=Tryz.underlying183
 a210:=Tryz.isAgg183
 z210:=Tryz.sizeOf183
 v210:=Tryz.zeroValue183
 t212:=Tryz.underlying185
 a212:=Tryz.isAgg185
 z212:=Tryz.sizeOf185
 v212:=Tryz.zeroValue185
 t213:=Tryz.underlying187
 a213:=Tryz.isAgg187
 z213:=Tryz.sizeOf187
 t232:=Tryz.underlying195
 a232:=Tryz.isAgg195
 z232:=Tryz.sizeOf195
 v232:=Tryz.zeroValue195
 t233:=Tryz.underlying196
 a233:=Tryz.isAgg196
 z233:=Tryz.sizeOf196
 v233:=Tryz.zeroValue196
 g15:=by kernel_rfl
 g16:=by kernel_rfl
 g17:=by kernel_rfl
 g18:=by kernel_rfl
 g19:=by kernel_rfl
 t80:=Tryz.underlying197
 a80:=Tryz.isAgg197
 z80:=Tryz.sizeOf197
 v80:=Tryz.zeroValue197
 i0:=by kernel_rfl
 i2:=by kernel_rfl
 i3:=by kernel_rfl
 i4:=by kernel_rfl
 i5:=by kernel_rfl
 i9:=by kernel_rfl
 i20:=by kernel_rfl
 i21:=by kernel_rfl
 i37:=by kernel_rfl
 i46:=by kernel_rfl
 i51:=by kernel_rfl
 i53:=by kernel_rfl
 i75:=by kernel_rfl
 i76:=by kernel_rfl
 i80:=by kernel_rfl
 i85:=by kernel_rfl
 i127:=by kernel_rfl
 i143:=by kernel_rfl
 i145:=by kernel_rfl
 i167:=by kernel_rfl
 i168:=by kernel_rfl
 i171:=by kernel_rfl
 i173:=by kernel_rfl
 i175:=by kernel_rfl
 i210:=by kernel_rfl
 i212:=by kernel_rfl
 i232:=by kernel_rfl
 i233:=by kernel_rfl
 m15:=by kernel_rfl
 m16:=by kernel_rfl
 m17:=by kernel_rfl
 m18:=by kernel_rfl
 m19:=by kernel_rfl
 c0:=by kernel_rfl
 c2:=by kernel_rfl
 c3:=by kernel_rfl
 c4:=by kernel_rfl
 c5:=by kernel_rfl
 c9:=by kernel_rfl
 c20:=by kernel_rfl
 c21:=by kernel_rfl
 c37:=by kernel_rfl
 c46:=by kernel_rfl
 c51:=by kernel_rfl
 c53:=by kernel_rfl
 c75:=by kernel_rfl
 c76:=by kernel_rfl
 c80:=by kernel_rfl
 c85:=by kernel_rfl
 c127:=by kernel_rfl
 c143:=by kernel_rfl
 c145:=by kernel_rfl
 c167:=by kernel_rfl
 c168:=by kernel_rfl
 c171:=by kernel_rfl
 c173:=by kernel_rfl
 c175:=by kernel_rfl
 c210:=by kernel_rfl
 c212:=by kernel_rfl
 c213:=by kernel_rfl
 c232:=by kernel_rfl
 c233:=by kernel_rfl}
open Go.RowKit in
theorem Tryz.strconv_Atoi_ok(s:ByteArray)(hmax:s.size≤9223372036854775806)(v:Int)(h:Lib.atoiAll s.data.toList=.ok v)(w:World):
  Calls Tryz.prog 107 #[.string s] w fun e w'=>e=.returned (.tuple #[.int .i64 v,.nilIface])∧(w'=w∨∃t,w'=Lib.bytesWorld w 5 t):=Any.strconv_Atoi_ok Tryz.laysC172 s hmax v h w
open Go.RowKit in
theorem Tryz.strconv_Atoi_syntax(s:ByteArray)(hlim:s.size≤281474976710656)(h:Lib.atoiAll s.data.toList=(Lib.atoiAll []))(ev:Value)(w:World)(hv:w.cell? ⟨2,0,none⟩=some ev)(hev:ev=.nilIface∨∃te pe,ev=.iface te pe):
  Calls Tryz.prog 107 #[.string s] w fun e w'=>∃N,e=.returned (.tuple #[.int .i64 (0),.iface 167 (.pointer (some ⟨N,0,none⟩))])∧w.heap.size≤N∧w'.heap[N]? =some (.cells #[.string ⟨#[65,116,111,105]⟩,.string s,ev] 183 (0,0))∧Below w.heap.size w w':=Any.strconv_Atoi_syntax Tryz.laysC172 s hlim h ev w hv hev
open Go.RowKit in
theorem Tryz.strconv_Atoi_range(s:ByteArray)(hlim:s.size≤281474976710656)(h:Lib.atoiAll s.data.toList=.range)(ev:Value)(w:World)(hv:w.cell? ⟨3,0,none⟩=some ev)(hev:ev=.nilIface∨∃te pe,ev=.iface te pe):
  Calls Tryz.prog 107 #[.string s] w fun e w'=>∃N,e=.returned (.tuple #[.int .i64 (Lib.atoiSat s.data.toList),.iface 167 (.pointer (some ⟨N,0,none⟩))])∧w.heap.size≤N∧w'.heap[N]? =some (.cells #[.string ⟨#[65,116,111,105]⟩,.string s,ev] 183 (0,0))∧Below w.heap.size w w':=Any.strconv_Atoi_range Tryz.laysC172 s hlim h ev w hv hev
end Go.Proofs
namespace Go.Proofs
open Go.Shelf Go.RowKit
theorem Tryz.below_grow(w:World)(k:Nat)(os:Array Obj):Below w.heap.size w (Go.Sort.grow (w.drewN k) os):=
 ⟨rfl,rfl,rfl,by simp[Go.Sort.grow,World.drewN],fun i hi=>by
  show(w.heap++os)[i]? =w.heap[i]?
  rw[Array.getElem?_append_left hi]⟩
theorem Tryz.decimal(n:Int)(h0:-9223372036854775808≤n)(h1:n≤9223372036854775807)(w:World)(htab:Lib.TabIs Tryz.prog w "internal/strconv.uint64pow10" .u64 Lib.pow10Tab):
  Calls Tryz.prog 74 #[.int .i64 n] w fun e w'=>e=.returned (.string ⟨(Lib.itoa n).toArray⟩)∧Below w.heap.size w w':=by
 go_enter Tryz.func74,Tryz.ntmps74
 go_wp2_with (go_at_call 105;refine(Tryz.strconv_Itoa n h0 h1 _ htab).mono ?_)
 rintro e w' ⟨rfl,k,os,rfl⟩
 go_wp2
 go_ret
 exact⟨rfl,Tryz.below_grow w k os⟩
def Tryz.inB(n:Int):Bool:=decide (-1048576≤n∧n≤1048576)
set_option maxHeartbeats 1000000 in
set_option maxRecDepth 100000 in
theorem Tryz.within_lo(n:Int)(b cap:Nat)(w:World)(h0:w.cell? ⟨b,0,none⟩=some (.int .i64 n))(hn:n< -1048576):
  Calls Tryz.prog 108 #[.slice (some ⟨b,0,none⟩) 1 cap] w fun e w'=>e=.returned (.bool false)∧w'=w:=by
 go_enter Tryz.func108,Tryz.ntmps108
 go_wp2
 go_loop [7] (fun i=>i=.int .i64 0) (fun _=>0)
 case atStart=>rfl
 case round=>
  subst hrel
  go_wp2
  go_ret
  exact⟨rfl,rfl⟩
set_option maxHeartbeats 1000000 in
set_option maxRecDepth 100000 in
theorem Tryz.within_hi(n:Int)(b cap:Nat)(w:World)(h0:w.cell? ⟨b,0,none⟩=some (.int .i64 n))(hm:¬n< -1048576)(hn:1048576<n):
  Calls Tryz.prog 108 #[.slice (some ⟨b,0,none⟩) 1 cap] w fun e w'=>e=.returned (.bool false)∧w'=w:=by
 go_enter Tryz.func108,Tryz.ntmps108
 go_wp2
 go_loop [7] (fun i=>i=.int .i64 0) (fun _=>0)
 case atStart=>rfl
 case round=>
  subst hrel
  go_wp2
  go_ret
  exact⟨rfl,rfl⟩
set_option maxHeartbeats 1000000 in
set_option maxRecDepth 100000 in
theorem Tryz.within_in(n:Int)(b cap:Nat)(w:World)(h0:w.cell? ⟨b,0,none⟩=some (.int .i64 n))(hm:¬n< -1048576)(hn:¬1048576<n):
  Calls Tryz.prog 108 #[.slice (some ⟨b,0,none⟩) 1 cap] w fun e w'=>e=.returned (.bool true)∧w'=w:=by
 go_enter Tryz.func108,Tryz.ntmps108
 go_wp2
 go_loop [7] (fun i=>i=.int .i64 0∨i=.int .i64 1) (fun i=>1 - (intOf i).toNat)
 case atStart=>exact .inl rfl
 case round=>
  rcases hrel with rfl |rfl
  ·go_wp2
   go_round
   case rel=>exact .inr rfl
   case measure=>simp[intOf]
  ·go_wp2
   go_ret
   exact⟨rfl,rfl⟩
theorem Tryz.within(n:Int)(b cap:Nat)(w:World)(h0:w.cell? ⟨b,0,none⟩=some (.int .i64 n)):
  Calls Tryz.prog 108 #[.slice (some ⟨b,0,none⟩) 1 cap] w fun e w'=>e=.returned (.bool (Tryz.inB n))∧w'=w:=by
 by_cases h1:n< -1048576
 ·rw[show Tryz.inB n=false by simp[Tryz.inB];omega]
  exact Tryz.within_lo n b cap w h0 h1
 ·by_cases h2:1048576<n
  ·rw[show Tryz.inB n=false by simp[Tryz.inB];omega]
   exact Tryz.within_hi n b cap w h0 h1 h2
  ·rw[show Tryz.inB n=true by simp[Tryz.inB];omega]
   exact Tryz.within_in n b cap w h0 h1 h2
end Go.Proofs
namespace Go.Proofs
open Go.Shelf Go.RowKit
theorem Tryz.new_cell(w:World)(v:Value)(t:TypeId):(w.alloc (.cells #[v] t)).cell? ⟨w.heap.size,0,none⟩=some v:=by
 rw[World.cell?_alloc_new]
 rfl
theorem Tryz.below_atoi{w w1:World}{B:Nat}(hB:B≤w.heap.size)(h:w1=w∨∃t,w1=Lib.bytesWorld w 5 t):Below B w w1:=by
 rcases h with rfl |⟨t,rfl⟩
 ·exact Below.refl _ _
 ·exact(Lib.bytesWorld_below w 5 t).mono hB
set_option maxHeartbeats 1000000 in
set_option maxRecDepth 100000 in
theorem Tryz.number_out(s:ByteArray)(v:Int)(hs:s.size≤9223372036854775806)(h:Lib.atoiAll s.data.toList=.ok v)(hv:Tryz.inB v=false)(w:World):
  Calls Tryz.prog 82 #[.string s] w fun e w'=>e=.returned (.tuple #[.int .i64 0,.bool false])∧Below w.heap.size w w':=by
 go_enter Tryz.func82,Tryz.ntmps82
 go_wp2_with (go_at_call 107;refine(Tryz.strconv_Atoi_ok s hs v h _).mono ?_)
 rintro e w1 ⟨rfl,h1⟩
 have hb1:Below w.heap.size w w1:=Tryz.below_atoi (Nat.le_refl _) h1
 clear h1
 go_wp2_with (go_at_call 108;refine(Tryz.within v _ _ _ ?c).mono ?_)
 case c=>exact Tryz.new_cell _ _ _
 rintro e w2 ⟨rfl,rfl⟩
 rw[hv]
 go_wp2_with fail
 go_ret2
 exact⟨rfl,hb1.alloc hb1.size _⟩
set_option maxHeartbeats 1000000 in
set_option maxRecDepth 100000 in
theorem Tryz.number_in(s:ByteArray)(v:Int)(hs:s.size≤9223372036854775806)(h:Lib.atoiAll s.data.toList=.ok v)(hv:Tryz.inB v=true)(w:World)(htab:Lib.TabIs Tryz.prog w "internal/strconv.uint64pow10" .u64 Lib.pow10Tab)(ok:Bool)(hok:decide (Lib.itoa v=s.data.toList)=ok):
  Calls Tryz.prog 82 #[.string s] w fun e w'=>e=.returned (.tuple #[.int .i64 (if ok=true then v else 0),.bool ok])∧Below w.heap.size w w':=by
 have hv':-1048576≤v∧v≤1048576:=of_decide_eq_true hv
 have h4:4<w.heap.size:=by
  unfold Lib.TabIs World.var? at htab
  simp only[show Tryz.prog.globalNamed "internal/strconv.uint64pow10" =some 4 by kernel_rfl,xS]at htab
  split at htab
  ·rename_i hh
   exact(Array.getElem?_eq_some_iff.1 hh).1
  ·cases htab
 go_enter Tryz.func82,Tryz.ntmps82
 go_wp2_with (go_at_call 107;refine(Tryz.strconv_Atoi_ok s hs v h _).mono ?_)
 rintro e w1 ⟨rfl,h1⟩
 have hb1:Below w.heap.size w w1:=Tryz.below_atoi (Nat.le_refl _) h1
 clear h1
 go_wp2_with (go_at_call 108;refine(Tryz.within v _ _ _ ?c).mono ?_)
 case c=>exact Tryz.new_cell _ _ _
 rintro e w2 ⟨rfl,rfl⟩
 rw[hv]
 have hb2:Below w.heap.size w (w1.alloc (.cells #[.int .i64 v] 3)):=hb1.alloc hb1.size _
 have htab2:Lib.TabIs Tryz.prog (w1.alloc (.cells #[.int .i64 v] 3)) "internal/strconv.uint64pow10" .u64 Lib.pow10Tab:=var?_below hb2 (by kernel_rfl) h4 htab
 go_wp2_with (go_at_call 74;refine(Tryz.decimal v (by omega) (by omega) _ htab2).mono ?_)
 rintro e w3 ⟨rfl,hb3⟩
 have hb4:Below w.heap.size w w3:=hb2.trans (hb3.mono hb2.size)
 clear htab2 hb3
 cases ok with
 |true=>
  have e1:Lib.itoa v=s.data.toList:=of_decide_eq_true hok
  have e2:(⟨(Lib.itoa v).toArray⟩:ByteArray)=s:=by rw[e1]
  rw[e2]
  go_wp2_with fail
  go_ret2
  exact⟨rfl,hb4⟩
 |false=>
  have e1:¬Lib.itoa v=s.data.toList:=of_decide_eq_false hok
  have e2:(Lib.itoa v==s.toList)=false:=by
   rw[Lib.toList_data]
   simpa using e1
  go_wp2_with fail
  go_ret2
  exact⟨rfl,hb4⟩
set_option maxHeartbeats 1000000 in
set_option maxRecDepth 100000 in
theorem Tryz.number_syntax(s:ByteArray)(hs:s.size≤281474976710656)(h:Lib.atoiAll s.data.toList=(Lib.atoiAll []))(w:World)(ev:Value)(hv:w.cell? ⟨2,0,none⟩=some ev)(hev:∃te pe,ev=.iface te pe):
  Calls Tryz.prog 82 #[.string s] w fun e w'=>e=.returned (.tuple #[.int .i64 0,.bool false])∧Below w.heap.size w w':=by
 go_enter Tryz.func82,Tryz.ntmps82
 go_wp2_with (go_at_call 107;refine(Tryz.strconv_Atoi_syntax s hs h ev _ hv (.inr hev)).mono ?_)
 rintro e w1 ⟨N,rfl,_,_,hb1⟩
 go_wp2_with fail
 go_ret2
 exact⟨rfl,hb1⟩
set_option maxHeartbeats 1000000 in
set_option maxRecDepth 100000 in
theorem Tryz.number_range(s:ByteArray)(hs:s.size≤281474976710656)(h:Lib.atoiAll s.data.toList=.range)(w:World)(ev:Value)(hv:w.cell? ⟨3,0,none⟩=some ev)(hev:∃te pe,ev=.iface te pe):
  Calls Tryz.prog 82 #[.string s] w fun e w'=>e=.returned (.tuple #[.int .i64 0,.bool false])∧Below w.heap.size w w':=by
 go_enter Tryz.func82,Tryz.ntmps82
 go_wp2_with (go_at_call 107;refine(Tryz.strconv_Atoi_range s hs h ev _ hv (.inr hev)).mono ?_)
 rintro e w1 ⟨N,rfl,_,_,hb1⟩
 go_wp2_with fail
 go_ret2
 exact⟨rfl,hb1⟩
def Tryz.num(s:List UInt8):Int×Bool:=match Lib.atoiAll s with
 | .ok v=>if Tryz.inB v=true∧Lib.itoa v=s then(v,true)else(0,false)
 |_=>(0,false)
theorem Tryz.number(s:ByteArray)(hs:s.size≤281474976710656)(w:World)(htab:Lib.TabIs Tryz.prog w "internal/strconv.uint64pow10" .u64 Lib.pow10Tab)(h2:∃te pe,w.cell? ⟨2,0,none⟩=some (.iface te pe))(h3:∃te pe,w.cell? ⟨3,0,none⟩=some (.iface te pe)):
  Calls Tryz.prog 82 #[.string s] w fun e w'=>e=.returned (.tuple #[.int .i64 (Tryz.num s.data.toList).1,.bool (Tryz.num s.data.toList).2])∧Below w.heap.size w w':=by
 obtain⟨t2,p2,h2⟩:=h2
 obtain⟨t3,p3,h3⟩:=h3
 unfold Tryz.num
 cases h:Lib.atoiAll s.data.toList with
 |ok v=>
  cases hv:Tryz.inB v with
  |false=>
   simp only[hv,xH,false_and,if_false]
   exact Tryz.number_out s v (by omega) h hv w
  |true=>
   by_cases hi:Lib.itoa v=s.data.toList
   ·simp only[hv,hi,and_self,if_true]
    exact Tryz.number_in s v (by omega) h hv w htab true (by simpa using hi)
   ·simp only[hv,hi,and_false,if_false]
    exact Tryz.number_in s v (by omega) h hv w htab false (by simpa using hi)
 |range=>exact Tryz.number_range s hs h w _ h3 ⟨_,_,rfl⟩
 |_=>exact Tryz.number_syntax s hs h w _ h2 ⟨_,_,rfl⟩
end Go.Proofs
namespace Go.Tr7
open Go Go.Am Go.Proofs
theorem decF_eq:∀(k u:Nat),u<10 ^ k→decF k u=Lib.decDigits u∨k=0
 |0,_,_=>.inr rfl
 |k+1,u,h=>by
  refine .inl ?_
  rw[decF,Lib.decDigits]
  by_cases hu:u<10
  ·rw[if_pos hu,dif_pos hu]
  ·rw[if_neg hu,dif_neg hu]
   have h1:u / 10<10 ^ k:=by rw[Nat.pow_succ]at h;omega
   rcases decF_eq k (u / 10) h1 with q |q
   ·rw[q]
   ·subst q
    simp at h1
    omega
theorem decI_eq{n:Int}(h:inR n=true):decI n=Lib.itoa n:=by
 simp only[inR,xA,yD]at h
 unfold decI Lib.itoa
 have e:(10:Nat) ^ 20=100000000000000000000:=by decide
 split
 ·rw[(decF_eq 20 n.natAbs (by rw[e];omega)).resolve_right (by decide)]
 ·rw[(decF_eq 20 n.toNat (by rw[e];omega)).resolve_right (by decide)]
theorem numF_eq(s:List UInt8):numF s=Tryz.num s:=by
 unfold numF Tryz.num
 cases Lib.atoiAll s with
 |ok v=>
  simp only[show inB v=Tryz.inB v from rfl]
  cases hb:Tryz.inB v with
  |false=>simp
  |true=>
   have hr:inR v=true:=by
    have:=of_decide_eq_true hb
    simp only[inR,xA,yD]
    omega
   rw[decI_eq hr]
   by_cases hi:Lib.itoa v=s <;>simp[hi]
 |_=>rfl
structure Vars(G:Nat→Option D):Prop where
 pow:G 4=some (.agg (Lib.pow10Tab.map (D.int .u64)))
 syn:G 2=some .nilf
 rng:G 3=some .nilf
theorem ints_of(c:Cx)(k:IntKind):∀(zs:List Int) (vs:List Value),VCs c (zs.map (D.int k)) vs→vs=zs.map fun z=>Value.int k z
 | [],vs,h=>by simpa [VCs]using h
 |z::zs,vs,h=>by
  simp only[List.map_cons,VCs,VC]at h
  obtain⟨v,r,rfl,h1,h2⟩:=h
  rw[ints_of c k zs r h2]
  simpa using h1
theorem tab_of{G:Nat→Option D}(hv:Vars G){w:World}(c:Cx)(h:GW G w):Lib.TabIs Tryz.prog w "internal/strconv.uint64pow10" .u64 Lib.pow10Tab:=by
 obtain⟨vs,⟨t,fr,h1⟩,h2⟩:=h _ _ hv.pow
 have:=ints_of c .u64 _ _ (h2.1 rfl c)
 subst this
 unfold Lib.TabIs World.var?
 simp only[show Tryz.prog.globalNamed "internal/strconv.uint64pow10" =some 4 by kernel_rfl,xS,h1]
theorem itf_of{G:Nat→Option D}{g:Nat}(hv:G g=some .nilf){w:World}(h:GW G w):∃te pe,w.cell? ⟨g,0,none⟩=some (.iface te pe):=by
 obtain⟨vs,h1,h2⟩:=h _ _ hv
 obtain⟨t,p,rfl⟩:=h2.2 rfl
 have:=h1.cell 0
 exact⟨t,p,by simpa [Addr.add]using this⟩
theorem given_dec{G:Nat→Option D}(hv:Vars G):ExtOK Tryz.prog G 74 extDec:=by
 refine ext_given Tryz.func74 (by kernel_rfl) (by kernel_rfl) (by unfold YB;omega) fun ds rs c args e hG ha=> ?_
 unfold extDec at e
 split at e
 ·rename_i n
  split at e
  ·rename_i hr
   simp only[xJ]at e
   subst e
   simp only[VVs]at ha
   obtain⟨v,r,hargs,h1,h2,rfl⟩:=ha
   have h3:=VV.inv (c:=c) (d:=.int .i64 n) ⟨h1,h2⟩ (by simp)
   simp only[VC,xC,and_true]at h3
   subst h3
   obtain rfl:args= #[.int .i64 n]:=by rw[←Array.toArray_toList (xs:=args),hargs]
   have hr':=hr
   simp only[inR,xA,yD]at hr'
   refine(Tryz.decimal n hr'.1 hr'.2 c.w (tab_of hv c hG)).mono fun en w' he=> ?_
   refine⟨[.str (decI n)],[.string ⟨(Lib.itoa n).toArray⟩],he.1,rfl,fun c=> ?_,he.2⟩
   simp only[VVs]
   exact⟨_,[],rfl,by simp[VC,Value.cells,decI_eq hr],rfl,rfl⟩
  ·cases e
 ·cases e
theorem given_num{G:Nat→Option D}(hv:Vars G):ExtOK Tryz.prog G 82 extNum:=by
 refine ext_given Tryz.func82 (by kernel_rfl) (by kernel_rfl) (by unfold YB;omega) fun ds rs c args e hG ha=> ?_
 unfold extNum at e
 split at e
 ·rename_i s
  split at e
  ·rename_i hr
   simp only[xJ]at e
   subst e
   simp only[VVs]at ha
   obtain⟨v,r,hargs,h1,h2,rfl⟩:=ha
   have h3:=VV.inv (c:=c) (d:=.str s) ⟨h1,h2⟩ (by simp)
   simp only[VC,xC,and_true]at h3
   obtain⟨b,rfl,rfl⟩:=h3
   obtain rfl:args= #[.string b]:=by rw[←Array.toArray_toList (xs:=args),hargs]
   have hsz:b.size≤281474976710656:=by
    have:=of_decide_eq_true hr
    rw[Lib.size_eq b]
    omega
   refine(Tryz.number b hsz c.w (tab_of hv c hG) (itf_of hv.syn hG) (itf_of hv.rng hG)).mono fun en w' he=> ?_
   refine⟨[.int .i64 (numF b.data.toList).1,.bool (numF b.data.toList).2],[.int .i64 (Tryz.num b.data.toList).1,.bool (Tryz.num b.data.toList).2],he.1,rfl,fun c=> ?_,he.2⟩
   simp only[VVs,numF_eq]
   exact⟨_,_,rfl,by simp[VC,Value.cells],rfl,_,[],rfl,by simp[VC,Value.cells],rfl,rfl⟩
  ·cases e
 ·cases e
end Go.Tr7
