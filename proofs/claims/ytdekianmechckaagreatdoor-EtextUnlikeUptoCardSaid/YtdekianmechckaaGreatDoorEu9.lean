/- A part of the proof: texts of mine, merged by a program (wip/dev/merge.py). -/
import Derived.Test.YtdekianmechckaaGreatDoorEu8
import Derived.Shelf.Strconv.Atoi
import Derived.Shelf.Strconv.Itoa0
import Derived.Shelf.Strconv.Itoa1
import Derived.Shelf.LaysM
import Derived.Shelf.Strconv.Itoa2
import Derived.Shelf.Strconv.Itoa3
import Derived.Shelf.Strconv.AtoiErrFast
import Derived.Shelf.Strconv.ParseIntEmpty
import Derived.Shelf.Strconv.AtoiFail
import Derived.Shelf.Strconv.Clone
import Derived.Shelf.Strconv.SyntaxError
import Derived.Shelf.LaysC
import Derived.Shelf.Strconv.ToError
import Derived.Shelf.Strconv.Lower
import Derived.Shelf.Strconv.ParseUint10
import Derived.Shelf.Strconv.ParseUint10Empty
import Derived.Shelf.Strconv.ParseUint10Any
import Derived.Shelf.Strconv.ParseInt10
import Derived.Shelf.Strconv.AtoiLong
import Derived.Shelf.Strconv.AtoiInnerAll
import Derived.Shelf.Strconv.RangeError
import Derived.Shelf.Strconv.ToErrorRange
import Derived.Shelf.Strconv.AtoiAll
import Derived.Shelf.Strconv.ErrVarAll
import Derived.Test.YtdekianmechckaaGreatDoorProg
import Derived.Test.YtdekianmechckaaGreatDoorChecked
import Derived.WalkKit
import Derived.Laws.Externs
import Derived.Deep.Draws
import Derived.Lib.AtoiAll
import Derived.WalkSmall
import Derived.Lib.AtoiErrMem
set_option linter.unusedSimpArgs false
set_option linter.unusedVariables false
namespace Go.Etx
open Go Go.Am Go.Proofs
def strK(x:GNode):Int:=if 11≤x.Op∧x.Op≤19 then sgnB x.Op else if x.Op=9∨x.Op=10 then 6 else leafB x
section
variable{ρ:Type}
def decs:Nat→List UInt8
 |0=>[]
 |u+1=>decs ((u+1) / 10)++[UInt8.ofNat (48+(u+1) % 10)]
termination_by u=>u
decreasing_by omega
theorem decs_pos{u:Nat}(h:u≠0):decs u=decs (u / 10)++[UInt8.ofNat (48+u % 10)]:=by
 cases u with
 |zero=>exact absurd rfl h
 |succ u=>rw[decs]
theorem decs_F:∀(k u:Nat),u≠0→u<10 ^ k→decs u=Tr7.decF k u
 |0,u,h,hu=>by simp at hu;exact absurd hu h
 |k+1,u,h,hu=>by
  rw[decs_pos h,Tr7.decF]
  by_cases h10:u<10
  ·rw[if_pos h10,show u / 10=0 by omega,show u % 10=u by omega,decs,List.nil_append]
  ·rw[if_neg h10,decs_F k (u / 10) (by omega) (by rw[Nat.pow_succ]at hu;omega)]
theorem decs_I{n:Int}(h:Tr7.inR n=true):Tr7.decI n=if n=0 then [48]else if n<0 then 45::decs n.natAbs else decs n.natAbs:=by
 simp only[Tr7.inR,xA,yD]at h
 have e20:(10:Nat) ^ 20=100000000000000000000:=by decide
 unfold Tr7.decI
 by_cases h0:n=0
 ·subst h0;rfl
 rw[if_neg h0,decs_F 20 n.natAbs (by omega) (by rw[e20];omega)]
 by_cases hn:n<0
 ·rw[if_pos hn,if_pos hn]
 ·rw[if_neg hn,if_neg hn,show n.toNat=n.natAbs by omega]
end
end Go.Etx
namespace Go.Etx
open Go Go.Am Go.Proofs
inductive Ex where
 |leaf (x:GNode)
 |un (x:GNode) (a:Ex)
 |bin (x:GNode) (a b:Ex)
def Ex.flat:Ex→List GNode
 | .leaf x=>[x]
 | .un x a=>a.flat++[x]
 | .bin x a b=>a.flat++b.flat++[x]
def Ex.top:Ex→GNode
 | .leaf x=>x
 | .un x _=>x
 | .bin x _ _=>x
def Ex.wf:Ex→Prop
 | .leaf x=>takesK x.Op=0
 | .un x a=>takesK x.Op=1∧a.wf
 | .bin x a b=>takesK x.Op=2∧a.wf∧b.wf
def nameN(s:GScope)(x:GNode):List UInt8:=match nameP [] x s with |some p=>p.1 |none=>[]
def partOf(s:GScope):Ex→Gpart
 | .leaf x=>⟨leafT x (nameN s x),x.Op,leafB x⟩
 | .un x a=>if x.Op=3 then⟨nameN s x++91::((partOf s a).text++[93]),3,7⟩
  else if x.Op=9 then⟨33::inB (partOf s a).text (decide ((partOf s a).binds<6)),9,6⟩
  else⟨45::inB (partOf s a).text (decide ((partOf s a).binds<6) || decide ((partOf s a).op=1)),10,6⟩
 | .bin x a b=>⟨joinT x.Op (partOf s a) (partOf s b),x.Op,sgnB x.Op⟩
theorem part_op{s:GScope}{t:Ex}(h:t.wf):(partOf s t).op=t.top.Op:=by
 cases t with
 |leaf x=>rfl
 |un x a=>
  obtain⟨h1,h2⟩:=h
  rcases takes_cases x.Op with⟨e,q⟩ |⟨e,q⟩ |⟨e,q⟩ |⟨e,q⟩
  ·omega
  ·omega
  ·rcases q with q |q |q <;>simp[partOf,Ex.top,q]
  ·omega
 |bin x a b=>rfl
theorem part_binds{s:GScope}{t:Ex}(h:t.wf):(partOf s t).binds=strK t.top:=by
 cases t with
 |leaf x=>
  have h:takesK x.Op=0:=h
  rcases takes_cases x.Op with⟨e,q⟩ |⟨e,q⟩ |⟨e,q⟩ |⟨e,q⟩
  ·omega
  ·show leafB x=strK x
   unfold strK
   rw[if_neg (by omega),if_neg (by omega)]
  ·omega
  ·omega
 |un x a=>
  obtain⟨h1,h2⟩:=h
  rcases takes_cases x.Op with⟨e,q⟩ |⟨e,q⟩ |⟨e,q⟩ |⟨e,q⟩
  ·omega
  ·omega
  ·rcases q with q |q |q <;>simp[partOf,Ex.top,q,strK,leafB]
  ·omega
 |bin x a b=>
  obtain⟨h1,h2⟩:=h
  rcases takes_cases x.Op with⟨e,q⟩ |⟨e,q⟩ |⟨e,q⟩ |⟨e,q⟩
  ·omega
  ·omega
  ·omega
  ·show sgnB x.Op=strK x
   unfold strK
   rw[if_pos q]
def layE(x:GNode)(ts:List Ex):List Ex:=
 if takesK x.Op=0 then ts++[.leaf x]
 else if takesK x.Op=1 then(match ts.getLast? with |some a=>ts.take (ts.length - 1)++[.un x a] |none=>ts)
 else(match ts[ts.length - 2]?,ts.getLast? with |some a,some b=>ts.take (ts.length - 2)++[.bin x a b] |_,_=>ts)
def treesL:List GNode→List Ex→List Ex
 | [],ts=>ts
 |x::r,ts=>treesL r (layE x ts)
theorem last_split{α:Type}{l:List α}(h:1≤l.length):∃m a,l=m++[a]:=⟨l.dropLast,l.getLast (by intro e;subst e;simp at h),(List.dropLast_concat_getLast _).symm⟩
theorem last_split2{α:Type}{l:List α}(h:2≤l.length):∃m a b,l=m++[a,b]:=by
 obtain⟨m,b,rfl⟩:=last_split (l:=l) (by omega)
 obtain⟨m',a,rfl⟩:=last_split (l:=m) (by simp at h;omega)
 exact⟨m',a,b,by simp⟩
theorem layE_1{x:GNode}(h:takesK x.Op=1){m:List Ex}{a:Ex}:layE x (m++[a])=m++[.un x a]:=by
 unfold layE
 rw[if_neg (by omega),if_pos h]
 simp
theorem layE_2{x:GNode}(h:takesK x.Op=2){m:List Ex}{a b:Ex}:layE x (m++[a,b])=m++[.bin x a b]:=by
 unfold layE
 rw[if_neg (by omega),if_neg (by omega)]
 have h1:(m++[a,b])[(m++[a,b]).length - 2]? =some a:=by simp
 have h2:(m++[a,b]).getLast? =some b:=by simp
 rw[h1,h2]
 simp
theorem layE_0{x:GNode}(h:takesK x.Op=0){ts:List Ex}:layE x ts=ts++[.leaf x]:=by unfold layE;rw[if_pos h]
theorem layE_all{x:GNode}{ts:List Ex}(h0:0≤takesK x.Op)(h:takesK x.Op≤(ts.length:Int))(hw:∀t∈ts,t.wf):
  (layE x ts).flatMap Ex.flat=ts.flatMap Ex.flat++[x]∧(∀t∈layE x ts,t.wf)∧(layE x ts).length=ts.length - (takesK x.Op).toNat+1∧∀s,layP x (nameN s x) (ts.map (partOf s))=(layE x ts).map (partOf s):=by
 rcases takes_cases x.Op with⟨e,q⟩ |⟨e,q⟩ |⟨e,q⟩ |⟨e,q⟩
 ·omega
 ·rw[layE_0 e,e]
  refine⟨by simp[Ex.flat],fun t ht=> ?_,by simp,fun s=> ?_⟩
  ·rcases List.mem_append.1 ht with ht |ht
   ·exact hw t ht
   ·simp only[yQ]at ht;subst ht;exact e
  ·unfold layP
   rw[if_neg q.2.2,if_neg (by omega),if_neg (by omega),if_neg (by omega)]
   simp[partOf]
 ·obtain⟨m,a,rfl⟩:=last_split (l:=ts) (by omega)
  rw[layE_1 e,e]
  refine⟨by simp[Ex.flat],fun t ht=> ?_,by simp,fun s=> ?_⟩
  ·rcases List.mem_append.1 ht with ht |ht
   ·exact hw t (by simp[ht])
   ·simp only[yQ]at ht;subst ht;exact⟨e,hw a (by simp)⟩
  ·unfold layP
   rcases q with q |q |q
   ·rw[if_pos q];simp[partOf,q]
   ·rw[if_neg (by omega),if_pos q];simp[partOf,q]
   ·rw[if_neg (by omega),if_neg (by omega),if_pos q];simp[partOf,q]
 ·obtain⟨m,a,b,rfl⟩:=last_split2 (l:=ts) (by omega)
  rw[layE_2 e,e]
  refine⟨by simp[Ex.flat],fun t ht=> ?_,by simp,fun s=> ?_⟩
  ·rcases List.mem_append.1 ht with ht |ht
   ·exact hw t (by simp[ht])
   ·simp only[yQ]at ht;subst ht;exact⟨e,hw a (by simp),hw b (by simp)⟩
  ·unfold layP
   rw[if_neg (by omega),if_neg (by omega),if_neg (by omega),if_pos q]
   have h1:(List.map (partOf s) (m++[a,b]))[(List.map (partOf s) (m++[a,b])).length - 2]? =some (partOf s a):=by simp
   have h2:(List.map (partOf s) (m++[a,b])).getLast? =some (partOf s b):=by simp
   rw[h1,h2]
   simp[partOf]
def badE(s:GScope)(x:GNode):Bool:=match nameP [] x s with |some p=>badN x p |none=>true
theorem trees_all{s:GScope}:∀{e:List GNode} {ts:List Ex} {ks:List Int},(∀x∈e,x.N≤9223372036854775807)→ts.length=ks.length→(∀t∈ts,t.wf)→(runK s e ks).1=0→
  (treesL e ts).flatMap Ex.flat=ts.flatMap Ex.flat++e∧(∀t∈treesL e ts,t.wf)∧(treesL e ts).length=(runK s e ks).2.length∧layAll s e (ts.map (partOf s))=if e.any (badE s)=true then none else some ((treesL e ts).map (partOf s))
 | [],ts,ks,_,hl,hw,_=>⟨by simp[treesL],hw,hl,by simp[treesL,layAll]⟩
 |x::r,ts,ks,hN,hl,hw,h0=>by
  rw[runK]at h0 ⊢
  have hx:(stepK x s ks).1=0:=by
   by_cases hx:(stepK x s ks).1=0
   ·exact hx
   ·rw[if_neg hx]at h0;exact absurd h0 hx
  rw[if_pos hx]at h0 ⊢
  obtain⟨f1,f2,f3,f4⟩:=step_facts hx
  obtain⟨g1,g2,g3,g4⟩:=layE_all (x:=x) (ts:=ts) f1 (by rw[hl];exact f2) hw
  obtain⟨p,hp⟩:=name_some (s:=s) (hN x (by simp)) [] f1 f3
  have hnm:nameN s x=p.1:=by unfold nameN;rw[hp]
  have hbe:badE s x=badN x p:=by unfold badE;rw[hp]
  obtain⟨k1,k2,k3,k4⟩:=trees_all (e:=r) (ts:=layE x ts) (ks:=(stepK x s ks).2) (fun y hy=>hN y (by simp[hy])) (by rw[g3,f4,hl]) g2 h0
  refine⟨by rw[treesL,k1,g1];simp,k2,k3,?_⟩
  rw[layAll,hp]
  simp only
  have g4':=g4 s
  rw[hnm]at g4'
  rw[g4',k4,List.any_cons,hbe,treesL]
  cases badN x p <;>simp
theorem tree_of{e:List GNode}{s:GScope}(hN:∀x∈e,x.N≤9223372036854775807)(h:(kindK e s).2=0):∃t:Ex,treesL e []=[t]∧t.flat=e∧t.wf∧textK e s=if e.any (badE s)=true then([],6)else((partOf s t).text,0):=by
 obtain⟨k1,k2,k3,k4⟩:=kind_ok h
 obtain⟨q1,q2,q3,q4⟩:=trees_all (s:=s) (e:=e) (ts:=[]) (ks:=[]) hN rfl (by simp) k3
 rw[k4]at q3
 obtain⟨t,ht⟩:=List.length_eq_one_iff.1 q3
 rw[ht]at q1 q2 q4
 refine⟨t,ht,by simpa using q1,q2 t (by simp),?_⟩
 unfold textK
 rw[if_neg (by simp[h])]
 simp only[List.map_nil]at q4
 rw[q4]
 by_cases hb:e.any (badE s)=true
 ·rw[if_pos hb,if_pos hb]
 ·rw[if_neg hb,if_neg hb]
  rfl
end Go.Etx
namespace Go.Etx
open Go Go.Am Go.Proofs
def fl(ts:List Ex):Nat:=(ts.flatMap Ex.flat).length
end Go.Etx
namespace Go.Etx
open Go Go.Am Go.Proofs
abbrev dg(b:UInt8):Bool:=digB (bI b)
abbrev pt(b:UInt8):Bool:=partB (bI b)
abbrev K:=Int×List UInt8
def unC(c:UInt8)(r:List UInt8):Option (List K×Option (Int×Nat)×List UInt8):=
 if c=33 then some ([(9,[])],some (6,0),r)
 else if c=40 then some ([],some (1,1),r)
 else if c=45 then(if(r.head?.map dg)=some true then some ([(1,45::r.takeWhile dg)],none,r.dropWhile dg)else some ([(10,[])],some (6,0),r))
 else if dg c=true then some ([(1,(c::r).takeWhile dg)],none,(c::r).dropWhile dg)
 else if((c::r).dropWhile pt).head? =some 91 then some ([(3,(c::r).takeWhile pt)],some (1,1),((c::r).dropWhile pt).tail)
 else if((c::r).dropWhile pt).head? =some 40 then some ([(6,(c::r).takeWhile (fun b=>decide (b≠41)))],none,((c::r).dropWhile (fun b=>decide (b≠41))).tail)
 else some ([(2,(c::r).takeWhile pt)],none,(c::r).dropWhile pt)
def unT:List UInt8→Option (List K×Option (Int×Nat)×List UInt8)
 | []=>none
 |c::r=>unC c r
def opR(r:List UInt8):Option (Int×List UInt8):=(([11,12,13,14,15,16,17,18,19]:List Int).find? fun o=>decide (sgnT o=r.takeWhile (fun b=>decide (b≠32)))).map fun o=>(o,(r.dropWhile (fun b=>decide (b≠32))).tail)
def opAt:List UInt8→Option (Int×List UInt8)
 | []=>none
 |c::r=>if c=32 then opR r else none
def nx(r:List UInt8):Int:=match opAt r with |some p=>sgnB p.1 |none=>0
def rd:Nat→Int→Option (List K)→List UInt8→Option (List K×List UInt8)
 |0,_,_,_=>none
 |n+1,p,none,s=>(unT s).bind fun u=>match u.2.1 with
  |none=>rd n p (some u.1) u.2.2
  |some q=>(rd n q.1 none u.2.2).bind fun y=>rd n p (some (y.1++u.1)) (y.2.drop q.2)
 |n+1,p,some x,r=>match opAt r with
  |some o=>if p≤sgnB o.1 then(rd n (sgnB o.1+1) none o.2).bind fun y=>rd n p (some (x++y.1++[(o.1,[])])) y.2 else some (x,r)
  |none=>some (x,r)
theorem rd_succ:∀{n:Nat} {p:Int} {m:Option (List K)} {s:List UInt8} {v:List K×List UInt8},rd n p m s=some v→rd (n+1) p m s=some v
 |0,_,_,_,_,h=>by simp[rd]at h
 |n+1,p,none,s,v,h=>by
  rw[rd]at h ⊢
  cases hu:unT s with
  |none=>rw[hu]at h;cases h
  |some u=>
   obtain⟨l,o,r⟩:=u
   rw[hu]at h
   simp only[xS]at h ⊢
   cases o with
   |none=>exact rd_succ h
   |some q=>
    simp only[xB]at h ⊢
    obtain⟨y,h1,h2⟩:=h
    exact⟨y,rd_succ h1,rd_succ h2⟩
 |n+1,p,some x,r,v,h=>by
  rw[rd]at h ⊢
  cases ho:opAt r with
  |none=>rw[ho]at h;exact h
  |some o=>
   rw[ho]at h
   simp only at h ⊢
   by_cases hp:p≤sgnB o.1
   ·rw[if_pos hp]at h ⊢
    simp only[xB]at h ⊢
    obtain⟨y,h1,h2⟩:=h
    exact⟨y,rd_succ h1,rd_succ h2⟩
   ·rw[if_neg hp]at h ⊢
    exact h
theorem rd_le{p:Int}{m:Option (List K)}{s:List UInt8}{v:List K×List UInt8}{n n':Nat}(hn:n≤n')(h:rd n p m s=some v):rd n' p m s=some v:=by
 induction hn with
 |refl=>exact h
 |step _ ih=>exact rd_succ ih
def Rd(p:Int)(m:Option (List K))(s:List UInt8)(v:List K×List UInt8):Prop:=∃n,rd n p m s=some v
theorem Rd.uniq{p:Int}{m:Option (List K)}{s:List UInt8}{v v':List K×List UInt8}(h:Rd p m s v)(h':Rd p m s v'):v=v':=by
 obtain⟨n,h⟩:=h
 obtain⟨n',h'⟩:=h'
 have e:=rd_le (Nat.le_max_left n n') h
 rw[rd_le (Nat.le_max_right n n') h']at e
 exact(Option.some.inj e).symm
theorem Rd.leaf{p:Int}{s r:List UInt8}{l:List K}{v:List K×List UInt8}(hu:unT s=some (l,none,r))(h:Rd p (some l) r v):Rd p none s v:=by
 obtain⟨n,h⟩:=h
 exact⟨n+1,by rw[rd,hu];exact h⟩
theorem Rd.sub{p q:Int}{c:Nat}{s r r':List UInt8}{l y:List K}{v:List K×List UInt8}(hu:unT s=some (l,some (q,c),r))(h1:Rd q none r (y,r'))(h2:Rd p (some (y++l)) (r'.drop c) v):Rd p none s v:=by
 obtain⟨n,h1⟩:=h1
 obtain⟨n',h2⟩:=h2
 refine⟨max n n'+1,?_⟩
 rw[rd,hu]
 simp only[xS]
 rw[rd_le (Nat.le_max_left n n') h1,xS]
 exact rd_le (Nat.le_max_right n n') h2
theorem Rd.op{p o:Int}{r r' r2:List UInt8}{x y:List K}{v:List K×List UInt8}(ho:opAt r=some (o,r'))(hp:p≤sgnB o)(h1:Rd (sgnB o+1) none r' (y,r2))(h2:Rd p (some (x++y++[(o,[])])) r2 v):Rd p (some x) r v:=by
 obtain⟨n,h1⟩:=h1
 obtain⟨n',h2⟩:=h2
 refine⟨max n n'+1,?_⟩
 rw[rd,ho]
 simp only
 rw[if_pos hp,rd_le (Nat.le_max_left n n') h1,xS]
 exact rd_le (Nat.le_max_right n n') h2
theorem Rd.done{p:Int}{r:List UInt8}{x:List K}(h:nx r<p):Rd p (some x) r (x,r):=by
 refine⟨1,?_⟩
 rw[rd]
 unfold nx at h
 cases ho:opAt r with
 |none=>rfl
 |some o=>rw[ho]at h;simp only at h ⊢;rw[if_neg (by omega)]
theorem tw{p:UInt8→Bool}{l r:List UInt8}(h:∀b∈l,p b=true)(hr:∀c,r.head? =some c→p c=false):(l++r).takeWhile p=l∧(l++r).dropWhile p=r:=by
 rw[List.takeWhile_append_of_pos h,List.dropWhile_append_of_pos h]
 cases r with
 |nil=>simp
 |cons c r=>have:=hr c rfl;simp[this]
def tok(r:List UInt8):Prop:=∀c,r.head? =some c→c=32∨c=41∨c=93
theorem tok_dg{r:List UInt8}(h:tok r):∀c,r.head? =some c→dg c=false:=fun c hc=>by rcases h c hc with q |q |q <;>(subst q;decide)
theorem tok_pt{r:List UInt8}(h:tok r):∀c,r.head? =some c→pt c=false:=fun c hc=>by rcases h c hc with q |q |q <;>(subst q;decide)
theorem dg_ne{c:UInt8}(h:dg c=true):c≠33∧c≠40∧c≠45:=by refine⟨?_,?_,?_⟩ <;>(intro e;subst e;revert h;decide)
theorem let_ne{c:UInt8}(h:letB (bI c)=true):c≠33∧c≠40∧c≠45∧dg c=false:=by
 refine⟨?_,?_,?_,?_⟩
 ·intro e;subst e;revert h;decide
 ·intro e;subst e;revert h;decide
 ·intro e;subst e;revert h;decide
 ·simp only[letB,Bool.or_eq_true,yD]at h
  simp only[dg,digB,decide_eq_false_iff_not]
  omega
theorem decs_dg:∀(u:Nat),∀b∈decs u,dg b=true:=fun u=>by
 induction u using Nat.strongRecOn with
 |_ u ih=>
  by_cases h0:u=0
  ·subst h0;rw[decs];intro b hb;cases hb
  ·rw[decs_pos h0]
   intro b hb
   rcases List.mem_append.1 hb with hb |hb
   ·exact ih _ (by omega) b hb
   ·simp only[yQ]at hb
    subst hb
    have hm:u % 10<10:=by omega
    have:∀d:Nat,d<10→dg (UInt8.ofNat (48+d))=true:=by decide
    exact this _ hm
def dv(l:List UInt8):Nat:=l.foldl (fun a b=>10 * a+(b.toNat - 48)) 0
theorem dv_decs(u:Nat):dv (decs u)=u:=by
 induction u using Nat.strongRecOn with
 |_ u ih=>
  by_cases h0:u=0
  ·subst h0;rw[decs];rfl
  ·rw[decs_pos h0]
   unfold dv at ih ⊢
   rw[List.foldl_append,ih _ (by omega)]
   have hm:u % 10<10:=by omega
   have:∀d:Nat,d<10→(UInt8.ofNat (48+d)).toNat - 48=d:=by decide
   simp only[List.foldl_cons,List.foldl_nil,this _ hm]
   omega
theorem decs_ne{u:Nat}(h:u≠0):decs u≠[]:=by rw[decs_pos h];simp
theorem decI_cases{n:Int}(h:Tr7.inR n=true):(0≤n∧(∀b∈Tr7.decI n,dg b=true)∧Tr7.decI n≠[]∧dv (Tr7.decI n)=n.natAbs)∨(n<0∧∃l,Tr7.decI n=45::l∧(∀b∈l,dg b=true)∧l≠[]∧dv l=n.natAbs):=by
 rw[decs_I h]
 by_cases h0:n=0
 ·rw[if_pos h0]
  subst h0
  exact .inl ⟨by omega,by decide,by simp,rfl⟩
 rw[if_neg h0]
 by_cases hn:n<0
 ·rw[if_pos hn]
  exact .inr ⟨hn,_,rfl,decs_dg _,decs_ne (by omega),dv_decs _⟩
 ·rw[if_neg hn]
  exact .inl ⟨by omega,decs_dg _,decs_ne (by omega),dv_decs _⟩
theorem decI_inj{n m:Int}(h:Tr7.inR n=true)(h':Tr7.inR m=true)(e:Tr7.decI n=Tr7.decI m):n=m:=by
 rcases decI_cases h with⟨a1,a2,a3,a4⟩ |⟨a1,l,a2,a3,a4,a5⟩ <;>rcases decI_cases h' with⟨b1,b2,b3,b4⟩ |⟨b1,l',b2,b3,b4,b5⟩
 ·rw[e]at a4;omega
 ·rw[e,b2]at a2
  exact absurd (a2 45 (by simp)) (by decide)
 ·rw[←e,a2]at b2
  exact absurd (b2 45 (by simp)) (by decide)
 ·rw[e,b2]at a2
  obtain rfl:=(List.cons.inj a2).2
  omega
def key(s:GScope)(x:GNode):K:=
 if 9≤x.Op then(x.Op,[])else if x.Op=1 then(1,Tr7.decI x.N)else if x.Op=3 then(3,nameN s x)else if 6≤x.Op then(6,(leafT x (nameN s x)).dropLast)else(2,leafT x (nameN s x))
structure Fine(s:GScope)(x:GNode):Prop where
 r:Tr7.inR x.N=true
 n:tellsB x.Op=true→lexN (nameN s x)=true
theorem lexN_parts{nm:List UInt8}(h:lexN nm=true):(∃c l,nm=c::l∧letB (bI c)=true)∧(∀b∈nm,pt b=true)∧nm∉ownL:=by
 simp only[lexN,xA,Bool.not_eq_true',List.all_eq_true,List.contains_eq_mem,decide_eq_false_iff_not]at h
 obtain⟨⟨⟨⟨h1,_⟩,h3⟩,h4⟩,h5⟩:=h
 refine⟨?_,h4,h5⟩
 cases nm with
 |nil=>simp at h1
 |cons c l=>exact⟨c,l,rfl,h3⟩
theorem unT_word{w r:List UInt8}(hc:∃c l,w=c::l∧letB (bI c)=true)(hp:∀b∈w,pt b=true)(hr:∀c,r.head? =some c→pt c=false):
  unT (w++r)=if r.head? =some 91 then some ([(3,w)],some (1,1),r.tail)else if r.head? =some 40 then some ([(6,(w++r).takeWhile (fun b=>decide (b≠41)))],none,((w++r).dropWhile (fun b=>decide (b≠41))).tail)else some ([(2,w)],none,r):=by
 obtain⟨t1,t2⟩:=tw hp hr
 obtain⟨c,l,rfl,hl⟩:=hc
 obtain⟨n1,n2,n3,n4⟩:=let_ne hl
 rw[List.cons_append]at t1 t2 ⊢
 show unC c (l++r)=_
 unfold unC
 rw[if_neg n1,if_neg n2,if_neg n3,if_neg (by simp[n4]),t1,t2]
theorem unT_word0{w r:List UInt8}(hc:∃c l,w=c::l∧letB (bI c)=true)(hp:∀b∈w,pt b=true)(hr:tok r):unT (w++r)=some ([(2,w)],none,r):=by
 rw[unT_word hc hp (tok_pt hr),if_neg,if_neg]
 ·intro q;rcases hr _ q with e |e |e <;>(revert e;decide)
 ·intro q;rcases hr _ q with e |e |e <;>(revert e;decide)
theorem unT_of{w i r:List UInt8}(hc:∃c l,w=c::l∧letB (bI c)=true)(hp:∀b∈w,pt b=true)(hi:∀b∈i,b≠41):unT (w++40::(i++[41])++r)=some ([(6,w++40::i)],none,r):=by
 have e:w++40::(i++[41])++r=w++(40::(i++41::r)):=by simp
 have e2:w++(40::(i++41::r))=(w++40::i)++41::r:=by simp
 rw[e,unT_word hc hp (fun c h=>by simp at h;subst h;decide),if_neg (by simp),if_pos (show(40::(i++41::r)).head? =some 40 from rfl),e2]
 obtain⟨t1,t2⟩:=tw (p:=fun b=>decide (b≠41)) (l:=w++40::i) (r:=41::r) (fun b hb=>by
  rcases List.mem_append.1 hb with hb |hb
  ·have:=hp b hb
   simp only[yD];intro e;subst e;revert this;decide
  ·rcases List.mem_cons.1 hb with rfl |hb
   ·decide
   ·simp[hi b hb]) (fun c h=>by simp at h;subst h;decide)
 rw[t1,t2];rfl
theorem pt_ne{l:List UInt8}(h:∀b∈l,pt b=true):∀b∈l,b≠41:=fun b hb e=>by have:=h b hb;subst e;revert this;decide
theorem dg_ne41{l:List UInt8}(h:∀b∈l,dg b=true):∀b∈l,b≠41:=fun b hb e=>by have:=h b hb;subst e;revert this;decide
theorem decI_41{n:Int}(h:Tr7.inR n=true):∀b∈Tr7.decI n,b≠41:=by
 rcases decI_cases h with⟨_,a2,_,_⟩ |⟨_,l,a2,a3,_,_⟩
 ·exact dg_ne41 a2
 ·rw[a2]
  intro b hb
  rcases List.mem_cons.1 hb with rfl |hb
  ·decide
  ·exact dg_ne41 a3 b hb
theorem tmod_inr{n:Int}:Tr7.inR (Int.tmod n 16)=true:=by
 have h1:=Int.tmod_lt_of_pos n (show(0:Int)<16 by decide)
 have h2:-16<Int.tmod n 16:=Int.lt_tmod_of_pos n (by decide)
 simp only[Tr7.inR,xA,yD]
 omega
theorem unT_leaf{s:GScope}{x:GNode}(ht:takesK x.Op=0)(hf:Fine s x){r:List UInt8}(hr:tok r):unT (leafT x (nameN s x)++r)=some ([key s x],none,r):=by
 have hop:1≤x.Op∧x.Op≤8∧x.Op≠3:=by rcases takes_cases x.Op with⟨q,_⟩ |⟨q,h⟩ |⟨q,_⟩ |⟨q,_⟩ <;>omega
 unfold key leafT
 rw[if_neg (show¬9≤x.Op by omega),if_neg hop.2.2]
 by_cases h1:x.Op=1
 ·rw[if_pos h1,if_pos h1]
  rcases decI_cases hf.r with⟨_,a2,a3,_⟩ |⟨_,l,a2,a3,a4,_⟩
  ·obtain⟨t1,t2⟩:=tw a2 (tok_dg hr)
   cases hd:Tr7.decI x.N with
   |nil=>exact absurd hd a3
   |cons c l=>
    rw[hd]at a2 t1 t2
    have hc:=a2 c (by simp)
    obtain⟨n1,n2,n3⟩:=dg_ne hc
    rw[List.cons_append]at t1 t2 ⊢
    show unC c (l++r)=_
    unfold unC
    rw[if_neg n1,if_neg n2,if_neg n3,if_pos hc,t1,t2]
  ·obtain⟨t1,t2⟩:=tw a3 (tok_dg hr)
   rw[a2,List.cons_append]
   show unC 45 (l++r)=_
   unfold unC
   rw[if_neg (by decide),if_neg (by decide),if_pos rfl]
   cases l with
   |nil=>exact absurd rfl a4
   |cons c l=>
    rw[if_pos (by simp[a3 c (by simp)]),t1,t2]
 rw[if_neg h1,if_neg h1]
 by_cases h2:x.Op=2
 ·have:=lexN_parts (hf.n (by rw[h2];rfl))
  rw[if_pos h2,if_neg (by omega)]
  exact unT_word0 this.1 this.2.1 hr
 by_cases h4:x.Op=4
 ·have:=lexN_parts (hf.n (by rw[h4];rfl))
  rw[if_neg h2,if_pos h4,if_neg (by omega)]
  exact unT_word0 this.1 this.2.1 hr
 by_cases h5:x.Op=5
 ·rw[if_neg h2,if_neg h4,if_pos h5,if_neg (by omega)]
  exact unT_word0 ⟨115,[101,108,102],rfl,by decide⟩ (by decide) hr
 rw[if_neg h2,if_neg h4,if_neg h5,if_pos (show 6≤x.Op by omega)]
 by_cases h6:x.Op=6
 ·have:=lexN_parts (hf.n (by rw[h6];rfl))
  rw[if_pos h6]
  refine(unT_of (w:=[108,101,110]) ⟨108,[101,110],rfl,by decide⟩ (by decide) (pt_ne this.2.1)).trans ?_
  congr 5
  exact(List.dropLast_concat (l₁:=108::101::110::40::nameN s x) (b:=41)).symm
 by_cases h7:x.Op=7
 ·have:=lexN_parts (hf.n (by rw[h7];rfl))
  rw[if_neg h6,if_pos h7]
  have hi:∀b∈nameN s x++44::32::Tr7.decI (Int.tmod x.N 16),b≠41:=fun b hb=>by
   rcases List.mem_append.1 hb with hb |hb
   ·exact pt_ne this.2.1 b hb
   ·rcases List.mem_cons.1 hb with rfl |hb
    ·decide
    ·rcases List.mem_cons.1 hb with rfl |hb
     ·decide
     ·exact decI_41 tmod_inr b hb
  have k:=unT_of (w:=[97,116]) (r:=r) ⟨97,[116],rfl,by decide⟩ (by decide) hi
  have e:(97::116::40::(nameN s x++44::32::(Tr7.decI (Int.tmod x.N 16)++[41])))=[97,116]++40::((nameN s x++44::32::Tr7.decI (Int.tmod x.N 16))++[41]):=by simp
  rw[e]
  refine k.trans ?_
  congr 5
  have:=(List.dropLast_concat (l₁:=[97,116]++40::(nameN s x++44::32::Tr7.decI (Int.tmod x.N 16))) (b:=(41:UInt8))).symm
  simpa using this
 have h8:x.Op=8:=by omega
 have:=lexN_parts (hf.n (by rw[h8];rfl))
 rw[if_neg h6,if_neg h7,if_pos h8]
 refine(unT_of (w:=[110,111,110,101]) ⟨110,[111,110,101],rfl,by decide⟩ (by decide) (pt_ne this.2.1)).trans ?_
 congr 5
 exact(List.dropLast_concat (l₁:=110::111::110::101::40::nameN s x) (b:=41)).symm
end Go.Etx
namespace Go.Etx
open Go Go.Am Go.Proofs
theorem sgnB_le(o:Int):sgnB o≤5:=by unfold sgnB;repeat' split <;>try omega
theorem sgnB_pos{o:Int}(h:11≤o∧o≤19):1≤sgnB o:=by
 have:o=11∨o=12∨o=13∨o=14∨o=15∨o=16∨o=17∨o=18∨o=19:=by omega
 rcases this with q |q |q |q |q |q |q |q |q <;>(subst q;decide)
theorem nx_le(r:List UInt8):nx r≤5:=by unfold nx;split;exact sgnB_le _;decide
theorem opAt_sign{o:Int}(h:11≤o∧o≤19)(r:List UInt8):opAt (32::(sgnT o++32::r))=some (o,r):=by
 have:o=11∨o=12∨o=13∨o=14∨o=15∨o=16∨o=17∨o=18∨o=19:=by omega
 obtain⟨t1,t2⟩:=tw (p:=fun b=>decide (b≠32)) (l:=sgnT o) (r:=32::r) (by rcases this with q |q |q |q |q |q |q |q |q <;>(subst q;decide)) (fun c h=>by simp at h;subst h;decide)
 show opR (sgnT o++32::r)=_
 unfold opR
 rw[t1,t2]
 rcases this with q |q |q |q |q |q |q |q |q <;>(subst q;rfl)
theorem nx_sign{o:Int}(h:11≤o∧o≤19)(r:List UInt8):nx (32::(sgnT o++32::r))=sgnB o:=by unfold nx;rw[opAt_sign h]
theorem strK_pos{t:Ex}(h:t.wf):1≤strK t.top:=by
 have leaf:∀x,1≤leafB x:=fun x=>by unfold leafB;split;split <;>decide;decide
 unfold strK
 split
 ·rename_i q;exact sgnB_pos q
 split
 ·decide
 ·exact leaf _
theorem strK_bin{x:GNode}(h:11≤x.Op∧x.Op≤19):strK x=sgnB x.Op:=by unfold strK;rw[if_pos h]
theorem read_in{ks:List K}{ta:List UInt8}{k:Int}(hk:1≤k)(ih:∀p r v,p≤k→tok r→nx r≤k→Rd p (some ks) r v→Rd p none (ta++r) v){b:Bool}{p:Int}{r:List UInt8}{v:List K×List UInt8}
  (hb:b=false→p≤k∧nx r≤k) (ht:tok r) (h:Rd p (some ks) r v):Rd p none (inB ta b++r) v:=by
 cases b with
 |false=>
  obtain⟨h1,h2⟩:=hb rfl
  exact ih p r v h1 ht h2 h
 |true=>
  have e:inB ta true++r=40::(ta++41::r):=by simp[inB]
  rw[e]
  have n0:nx (41::r)=0:=rfl
  refine Rd.sub (q:=1) (c:=1) (l:=[]) (y:=ks) (r:=ta++41::r) (r':=41::r) rfl (ih 1 _ _ hk ?_ (by omega) (Rd.done (by omega))) ?_
  ·intro c hc;simp at hc;subst hc;exact .inr (.inl rfl)
  ·rw[List.append_nil];exact h
theorem tok_sp{r:List UInt8}:tok (32::r):=fun c hc=>by simp at hc;subst hc;exact .inl rfl
theorem text_first{s:GScope}{t:Ex}(hw:t.wf)(hf:∀x∈t.flat,Fine s x)(h6:6≤strK t.top)(h1:t.top.Op≠1):∃c l,(partOf s t).text=c::l∧dg c=false:=by
 have nm:∀x,Fine s x→tellsB x.Op=true→∃c l,nameN s x=c::l∧dg c=false:=fun x f h=>by
  obtain⟨c,l,e,q⟩:=(lexN_parts (f.n h)).1
  exact⟨c,l,e,(let_ne q).2.2.2⟩
 cases t with
 |leaf x=>
  have hx:=hf x (by simp[Ex.flat])
  have hop:1≤x.Op∧x.Op≤8∧x.Op≠3:=by
   have:takesK x.Op=0:=hw
   rcases takes_cases x.Op with⟨q,_⟩ |⟨q,h⟩ |⟨q,_⟩ |⟨q,_⟩ <;>omega
  have h1:x.Op≠1:=h1
  simp only[partOf,leafT]
  rw[if_neg h1]
  by_cases h2:x.Op=2
  ·rw[if_pos h2];exact nm x hx (by rw[h2];rfl)
  by_cases h4:x.Op=4
  ·rw[if_neg h2,if_pos h4];exact nm x hx (by rw[h4];rfl)
  by_cases h5:x.Op=5
  ·rw[if_neg h2,if_neg h4,if_pos h5];exact⟨_,_,rfl,by decide⟩
  by_cases h6:x.Op=6
  ·rw[if_neg h2,if_neg h4,if_neg h5,if_pos h6];exact⟨_,_,rfl,by decide⟩
  by_cases h7:x.Op=7
  ·rw[if_neg h2,if_neg h4,if_neg h5,if_neg h6,if_pos h7];exact⟨_,_,rfl,by decide⟩
  rw[if_neg h2,if_neg h4,if_neg h5,if_neg h6,if_neg h7,if_pos (show x.Op=8 by omega)];exact⟨_,_,rfl,by decide⟩
 |un x a=>
  simp only[partOf]
  split
  ·rename_i h3
   obtain⟨c,l,e,q⟩:=nm x (hf x (by simp[Ex.flat])) (by rw[h3];rfl)
   exact⟨c,_,by rw[e];rfl,q⟩
  split
  ·exact⟨_,_,rfl,by decide⟩
  ·exact⟨_,_,rfl,by decide⟩
 |bin x a b=>
  exfalso
  have hop:11≤x.Op∧x.Op≤19:=by
   have:=hw.1
   rcases takes_cases x.Op with⟨q,_⟩ |⟨q,h⟩ |⟨q,_⟩ |⟨q,_⟩ <;>omega
  have h6:6≤strK x:=h6
  rw[strK_bin hop]at h6
  have:=sgnB_le x.Op
  omega
theorem key_op{s:GScope}{x:GNode}(h:9≤x.Op):key s x=(x.Op,[]):=by unfold key;rw[if_pos h]
theorem read_text{s:GScope}:∀(t:Ex),t.wf→(∀x∈t.flat,Fine s x)→∀(p:Int) (r:List UInt8) (v:List K×List UInt8),p≤strK t.top→tok r→nx r≤strK t.top→Rd p (some (t.flat.map (key s))) r v→Rd p none ((partOf s t).text++r) v
 | .leaf x,hw,hf,p,r,v,hp,ht,hn,h=>Rd.leaf (unT_leaf hw (hf x (by simp[Ex.flat])) ht) h
 | .un x a,hw,hf,p,r,v,hp,ht,hn,h=>by
  have ih:=read_text a hw.2 (fun y hy=>hf y (by simp[Ex.flat,hy]))
  have ha:=strK_pos hw.2
  have hx:=hf x (by simp[Ex.flat])
  have e5:=nx_le r
  simp only[Ex.flat,List.map_append,List.map_cons,List.map_nil]at h
  have hop:x.Op=3∨x.Op=9∨x.Op=10:=by
   have:=hw.1
   rcases takes_cases x.Op with⟨q,_⟩ |⟨q,_⟩ |⟨q,h⟩ |⟨q,_⟩ <;>omega
  rcases hop with h3 |h9 |h10
  ·have hl:=lexN_parts (hx.n (by rw[h3];rfl))
   have hk:key s x=(3,nameN s x):=by unfold key;rw[if_neg (by omega),if_neg (by omega),if_pos h3]
   rw[hk]at h
   have e:(partOf s (.un x a)).text++r=nameN s x++91::((partOf s a).text++93::r):=by simp[partOf,h3]
   rw[e]
   have n0:nx (93::r)=0:=rfl
   refine Rd.sub (q:=1) (c:=1) (l:=[(3,nameN s x)]) (y:=a.flat.map (key s)) (r:=(partOf s a).text++93::r) (r':=93::r) ?_ (ih 1 _ _ ha ?_ (by omega) (Rd.done (by omega))) h
   ·rw[unT_word hl.1 hl.2.1 (fun c h=>by simp at h;subst h;decide),if_pos (show(91::((partOf s a).text++93::r)).head? =some 91 from rfl)];rfl
   ·intro c hc;simp at hc;subst hc;exact .inr (.inr rfl)
  ·rw[key_op (by omega),h9]at h
   have e:(partOf s (.un x a)).text++r=33::(inB (partOf s a).text (decide ((partOf s a).binds<6))++r):=by simp[partOf,h9]
   rw[e,part_binds hw.2]
   refine Rd.sub (q:=6) (c:=0) (l:=[(9,[])]) (y:=a.flat.map (key s)) (r':=r) rfl (read_in ha ih (fun hb=> ?_) ht (Rd.done (by omega))) h
   simp only[decide_eq_false_iff_not]at hb
   omega
  ·rw[key_op (by omega),h10]at h
   have e:(partOf s (.un x a)).text++r=45::(inB (partOf s a).text (decide ((partOf s a).binds<6) || decide ((partOf s a).op=1))++r):=by simp[partOf,h10]
   rw[e,part_binds hw.2,part_op hw.2]
   have hq:unT (45::(inB (partOf s a).text (decide (strK a.top<6) || decide (a.top.Op=1))++r))=some ([(10,[])],some (6,0),inB (partOf s a).text (decide (strK a.top<6) || decide (a.top.Op=1))++r):=by
    have hd:∃c l,inB (partOf s a).text (decide (strK a.top<6) || decide (a.top.Op=1))++r=c::l∧dg c=false:=by
     cases hb:(decide (strK a.top<6) || decide (a.top.Op=1))with
     |true=>exact⟨40,_,rfl,by decide⟩
     |false=>
      simp only[Bool.or_eq_false_iff,decide_eq_false_iff_not]at hb
      obtain⟨c,l,e,q⟩:=text_first hw.2 (fun y hy=>hf y (by simp[Ex.flat,hy])) (by omega) hb.2
      exact⟨c,_,by rw[inB,if_neg (by simp),e];rfl,q⟩
    obtain⟨c,l,e,q⟩:=hd
    rw[e]
    show unC 45 (c::l)=_
    unfold unC
    rw[if_neg (by decide),if_neg (by decide),if_pos rfl,if_neg (by simp[q])]
   refine Rd.sub (y:=a.flat.map (key s)) (r':=r) hq (read_in ha ih (fun hb=> ?_) ht (Rd.done (by omega))) h
   simp only[Bool.or_eq_false_iff,decide_eq_false_iff_not]at hb
   omega
 | .bin x a b,hw,hf,p,r,v,hp,ht,hn,h=>by
  have iha:=read_text a hw.2.1 (fun y hy=>hf y (by simp[Ex.flat,hy]))
  have ihb:=read_text b hw.2.2 (fun y hy=>hf y (by simp[Ex.flat,hy]))
  have ha:=strK_pos hw.2.1
  have hb:=strK_pos hw.2.2
  have hop:11≤x.Op∧x.Op≤19:=by
   have:=hw.1
   rcases takes_cases x.Op with⟨q,_⟩ |⟨q,h⟩ |⟨q,_⟩ |⟨q,_⟩ <;>omega
  have hk:strK (Ex.bin x a b).top=sgnB x.Op:=strK_bin hop
  rw[hk]at hp hn
  simp only[Ex.flat,List.map_append,List.map_cons,List.map_nil]at h
  rw[key_op (by omega)]at h
  have e:(partOf s (.bin x a b)).text++r=inB (partOf s a).text (joinL x.Op (strK a.top))++32::(sgnT x.Op++32::(inB (partOf s b).text (joinR x.Op (strK b.top))++r)):=by
   simp[partOf,joinT,part_binds hw.2.1,part_binds hw.2.2]
  rw[e]
  refine read_in ha iha (fun q=> ?_) tok_sp (Rd.op (opAt_sign hop _) hp (read_in hb ihb (fun q=> ?_) ht (Rd.done (by omega))) h)
  ·rw[nx_sign hop]
   unfold joinL at q
   split at q <;>simp only[decide_eq_false_iff_not]at q <;>omega
  ·unfold joinR at q
   split at q <;>simp only[decide_eq_false_iff_not]at q <;>omega
theorem texts_keys{s:GScope}{t u:Ex}(ht:t.wf)(hu:u.wf)(ft:∀x∈t.flat,Fine s x)(fu:∀x∈u.flat,Fine s x)(e:(partOf s t).text=(partOf s u).text):t.flat.map (key s)=u.flat.map (key s):=by
 have n0:nx []=0:=rfl
 have h1:=read_text t ht ft 1 [] _ (strK_pos ht) (fun c h=>by simp at h) (by have:=strK_pos ht;omega) (Rd.done (by omega))
 have h2:=read_text u hu fu 1 [] _ (strK_pos hu) (fun c h=>by simp at h) (by have:=strK_pos hu;omega) (Rd.done (by omega))
 rw[e]at h1
 exact congrArg Prod.fst (h1.uniq h2)
def bareN(x:GNode):GNode:=⟨x.Op,if x.Op≤4∨(6≤x.Op∧x.Op≤8)then x.N else 0⟩
theorem fine_of{s:GScope}{x:GNode}(hr:Tr7.inR x.N=true)(hb:badE s x=false):Fine s x∧∃p,nameP [] x s=some p∧(tellsB x.Op=true→p.2=true∧nameN s x=p.1):=by
 unfold badE at hb
 cases hp:nameP [] x s with
 |none=>rw[hp]at hb;simp at hb
 |some p=>
  rw[hp]at hb
  have hn:nameN s x=p.1:=by unfold nameN;rw[hp]
  simp only[badN,Bool.or_eq_false_iff,Bool.not_eq_false',Bool.and_eq_false_iff,Bool.not_eq_false']at hb
  obtain⟨⟨h1,h2⟩,h3⟩:=hb
  refine⟨⟨hr,fun h=> ?_⟩,p,rfl,fun h=>⟨h1,hn⟩⟩
  rw[hn]
  rcases h3 with h3 |h3
  ·rcases h2 with h2 |h2
   ·rw[h3]at h2;cases h2
   ·exact h2
  ·rw[h]at h3;cases h3
theorem name_num{s:GScope}{x y:GNode}{p q:List UInt8×Bool}(hp:nameP [] x s=some p)(hq:nameP [] y s=some q)(p2:p.2=true)(q2:q.2=true)(e:p.1=q.1):
  (x.Op=2→y.Op=2→x.N=y.N)∧(x.Op=3→y.Op=3→x.N=y.N)∧(x.Op=4→y.Op=4→x.N=y.N)∧(x.Op=6→y.Op=6→x.N=y.N)∧(x.Op=7→y.Op=7→w64 (Int.tdiv x.N 16)=w64 (Int.tdiv y.N 16))∧(x.Op=8→y.Op=8→x.N=y.N)∧(x.Op=2→y.Op=4→False):=by
 have two:∀{z:GNode} {p:List UInt8×Bool},nameP [] z s=some p→p.2=true→(z.Op=2∨z.Op=3→fidx (pV p.1) s.Locals<0∧fidx (pV p.1) s.Vars=z.N)∧(z.Op=4→0≤z.N∧fidx (pV p.1) s.Locals=z.N)∧(z.Op=6→fidx (pC p.1) s.Chans=z.N)∧(z.Op=7→fidx (pP p.1) s.Procs=w64 (Int.tdiv z.N 16))∧(z.Op=8→fidx (pS p.1) s.Scalars=z.N):=by
  intro z p hp p2
  refine⟨fun h=> ?_,fun h=> ?_,fun h=> ?_,fun h=> ?_,fun h=> ?_⟩
  ·unfold nameP at hp
   rw[if_pos h]at hp
   split at hp
   ·simp only[xM]at hp
    obtain⟨w,_,rfl⟩:=hp
    simpa using p2
   ·cases hp
  all_goals
   unfold nameP at hp
   simp only[h,show¬((4:Int)=2∨(4:Int)=3)by decide,show¬((6:Int)=2∨(6:Int)=3)by decide,show¬((7:Int)=2∨(7:Int)=3)by decide,show¬((8:Int)=2∨(8:Int)=3)by decide,show¬((6:Int)=4)by decide,show¬((7:Int)=4)by decide,show¬((8:Int)=4)by decide,show¬((7:Int)=6)by decide,show¬((8:Int)=6)by decide,show¬((8:Int)=7)by decide,if_false,if_true]at hp
   split at hp
   ·rename_i h0
    simp only[xM]at hp
    obtain⟨w,_,rfl⟩:=hp
    first |exact⟨h0,by simpa using p2⟩ |simpa using p2
   ·cases hp
 obtain⟨a1,a2,a3,a4,a5⟩:=two hp p2
 obtain⟨b1,b2,b3,b4,b5⟩:=two hq q2
 rw[e]at a1 a2 a3 a4 a5
 refine⟨fun h h'=> ?_,fun h h'=> ?_,fun h h'=> ?_,fun h h'=> ?_,fun h h'=> ?_,fun h h'=> ?_,fun h h'=> ?_⟩
 ·rw[←(a1 (.inl h)).2,←(b1 (.inl h')).2]
 ·rw[←(a1 (.inr h)).2,←(b1 (.inr h')).2]
 ·rw[←(a2 h).2,←(b2 h').2]
 ·rw[←a3 h,←b3 h']
 ·rw[←a4 h,←b4 h']
 ·rw[←a5 h,←b5 h']
 ·have h1:=(a1 (.inl h)).1
  have h2:=b2 h'
  omega
end Go.Etx
namespace Go.Etx
open Go Go.Am Go.Proofs
theorem bare_eq{x:GNode}(h:x.Op≤4∨(6≤x.Op∧x.Op≤8)):bareN x=x:=by unfold bareN;rw[if_pos h]
theorem at_split{a b:List UInt8}{i j:List UInt8}(ha:∀c∈a,pt c=true)(hb:∀c∈b,pt c=true)(e:a++44::i=b++44::j):a=b∧i=j:=by
 have h1:=tw (p:=pt) (r:=44::i) ha (fun c h=>by simp at h;subst h;decide)
 have h2:=tw (p:=pt) (r:=44::j) hb (fun c h=>by simp at h;subst h;decide)
 rw[e]at h1
 exact⟨h1.1.symm.trans h2.1,(List.cons.inj (h1.2.symm.trans h2.2)).2⟩
theorem w64_id{n:Int}(h:Tr7.inR n=true):w64 (Int.tdiv n 16)=Int.tdiv n 16:=by
 simp only[Tr7.inR,xA,yD]at h
 have h0:(Int.tdiv n 16).natAbs=n.natAbs / 16:=Int.natAbs_tdiv n 16
 exact wrap_i64 (by omega) (by omega)
theorem key_bare{s:GScope}{x y:GNode}(hx:1≤x.Op)(hy:1≤y.Op)(rx:Tr7.inR x.N=true)(ry:Tr7.inR y.N=true)(bx:badE s x=false)(by':badE s y=false)(e:key s x=key s y):bareN x=bareN y:=by
 obtain⟨fx,p,hp,px⟩:=fine_of rx bx
 obtain⟨fy,q,hq,qy⟩:=fine_of ry by'
 have nx:tellsB x.Op=true→∀b∈nameN s x,pt b=true:=fun h=>(lexN_parts (fx.n h)).2.1
 have ny:tellsB y.Op=true→∀b∈nameN s y,pt b=true:=fun h=>(lexN_parts (fy.n h)).2.1
 have num:tellsB x.Op=true→tellsB y.Op=true→nameN s x=nameN s y→_:=fun h h' e=>name_num hp hq (px h).1 (qy h').1 (by rw[←(px h).2,←(qy h').2,e])
 have same:x.Op=y.Op→x.N=y.N→bareN x=bareN y:=fun h h'=>by
  obtain⟨o,n⟩:=x
  obtain⟨o',n'⟩:=y
  simp only at h h'
  subst h;subst h';rfl
 unfold key at e
 by_cases x9:9≤x.Op
 ·rw[if_pos x9]at e
  by_cases y9:9≤y.Op
  ·rw[if_pos y9]at e
   have e:=(Prod.mk.inj e).1
   unfold bareN
   rw[if_neg (by omega),if_neg (by omega),e]
  ·rw[if_neg y9]at e
   split at e
   ·have:=(Prod.mk.inj e).1;omega
   split at e
   ·have:=(Prod.mk.inj e).1;omega
   split at e <;>(have:=(Prod.mk.inj e).1;omega)
 rw[if_neg x9]at e
 by_cases y9:9≤y.Op
 ·rw[if_pos y9]at e
  split at e
  ·have:=(Prod.mk.inj e).1;omega
  split at e
  ·have:=(Prod.mk.inj e).1;omega
  split at e <;>(have:=(Prod.mk.inj e).1;omega)
 rw[if_neg y9]at e
 by_cases x1:x.Op=1
 ·rw[if_pos x1]at e
  by_cases y1:y.Op=1
  ·rw[if_pos y1]at e
   exact same (by omega) (decI_inj rx ry (Prod.mk.inj e).2)
  rw[if_neg y1]at e
  split at e
  ·have:=(Prod.mk.inj e).1;omega
  split at e <;>(have:=(Prod.mk.inj e).1;omega)
 rw[if_neg x1]at e
 by_cases y1:y.Op=1
 ·rw[if_pos y1]at e
  split at e
  ·have:=(Prod.mk.inj e).1;omega
  split at e <;>(have:=(Prod.mk.inj e).1;omega)
 rw[if_neg y1]at e
 by_cases x3:x.Op=3
 ·rw[if_pos x3]at e
  by_cases y3:y.Op=3
  ·rw[if_pos y3]at e
   exact same (by omega) ((num (by rw[x3];rfl) (by rw[y3];rfl) (Prod.mk.inj e).2).2.1 x3 y3)
  rw[if_neg y3]at e
  split at e <;>(have:=(Prod.mk.inj e).1;omega)
 rw[if_neg x3]at e
 by_cases y3:y.Op=3
 ·rw[if_pos y3]at e
  split at e <;>(have:=(Prod.mk.inj e).1;omega)
 rw[if_neg y3]at e
 have cl:∀{z:GNode},1≤z.Op→¬9≤z.Op→¬z.Op=1→¬z.Op=3→z.Op=2∨z.Op=4∨z.Op=5∨z.Op=6∨z.Op=7∨z.Op=8:=fun _ _ _ _=>by omega
 have l2:∀{z:GNode},z.Op=2→leafT z (nameN s z)=nameN s z:=fun h=>by simp[leafT,h]
 have l4:∀{z:GNode},z.Op=4→leafT z (nameN s z)=nameN s z:=fun h=>by simp[leafT,h]
 have l5:∀{z:GNode},z.Op=5→leafT z (nameN s z)=[115,101,108,102]:=fun h=>by simp[leafT,h]
 have l6:∀{z:GNode},z.Op=6→(leafT z (nameN s z)).dropLast=108::101::110::40::nameN s z:=fun{z} h=>by
  have:leafT z (nameN s z)=(108::101::110::40::nameN s z)++[41]:=by simp[leafT,h]
  rw[this,List.dropLast_concat]
 have l7:∀{z:GNode},z.Op=7→(leafT z (nameN s z)).dropLast=97::116::40::(nameN s z++44::32::Tr7.decI (Int.tmod z.N 16)):=fun{z} h=>by
  have:leafT z (nameN s z)=(97::116::40::(nameN s z++44::32::Tr7.decI (Int.tmod z.N 16)))++[41]:=by simp[leafT,h]
  rw[this,List.dropLast_concat]
 have l8:∀{z:GNode},z.Op=8→(leafT z (nameN s z)).dropLast=110::111::110::101::40::nameN s z:=fun{z} h=>by
  have:leafT z (nameN s z)=(110::111::110::101::40::nameN s z)++[41]:=by simp[leafT,h]
  rw[this,List.dropLast_concat]
 have self:∀{z:GNode},Fine s z→tellsB z.Op=true→nameN s z=[115,101,108,102]→False:=fun f h e=>by
  have:=f.n h
  rw[e]at this
  revert this;decide
 by_cases x6:6≤x.Op
 ·rw[if_pos x6]at e
  by_cases y6:6≤y.Op
  ·rw[if_pos y6]at e
   have e:=(Prod.mk.inj e).2
   have cx:x.Op=6∨x.Op=7∨x.Op=8:=by omega
   have cy:y.Op=6∨y.Op=7∨y.Op=8:=by omega
   rcases cx with hx |hx |hx <;>rcases cy with hy |hy |hy
   ·rw[l6 hx,l6 hy]at e
    simp only[xC,true_and]at e
    exact same (by omega) ((num (by rw[hx];rfl) (by rw[hy];rfl) e).2.2.2.1 hx hy)
   ·rw[l6 hx,l7 hy]at e;simp at e
   ·rw[l6 hx,l8 hy]at e;simp at e
   ·rw[l7 hx,l6 hy]at e;simp at e
   ·rw[l7 hx,l7 hy]at e
    simp only[xC,true_and]at e
    obtain⟨e1,e2⟩:=at_split (nx (by rw[hx];rfl)) (ny (by rw[hy];rfl)) e
    simp only[xC,true_and]at e2
    have m:=decI_inj tmod_inr tmod_inr e2
    have d:=(num (by rw[hx];rfl) (by rw[hy];rfl) e1).2.2.2.2.1 hx hy
    rw[w64_id rx,w64_id ry]at d
    refine same (by omega) ?_
    rw[←Int.tmod_add_mul_tdiv x.N 16,←Int.tmod_add_mul_tdiv y.N 16,m,d]
   ·rw[l7 hx,l8 hy]at e;simp at e
   ·rw[l8 hx,l6 hy]at e;simp at e
   ·rw[l8 hx,l7 hy]at e;simp at e
   ·rw[l8 hx,l8 hy]at e
    simp only[xC,true_and]at e
    exact same (by omega) ((num (by rw[hx];rfl) (by rw[hy];rfl) e).2.2.2.2.2.1 hx hy)
  ·rw[if_neg y6]at e
   have:=(Prod.mk.inj e).1;omega
 rw[if_neg x6]at e
 by_cases y6:6≤y.Op
 ·rw[if_pos y6]at e
  have:=(Prod.mk.inj e).1;omega
 rw[if_neg y6]at e
 have e:=(Prod.mk.inj e).2
 have cx:x.Op=2∨x.Op=4∨x.Op=5:=by omega
 have cy:y.Op=2∨y.Op=4∨y.Op=5:=by omega
 rcases cx with hx |hx |hx <;>rcases cy with hy |hy |hy
 ·rw[l2 hx,l2 hy]at e
  exact same (by omega) ((num (by rw[hx];rfl) (by rw[hy];rfl) e).1 hx hy)
 ·rw[l2 hx,l4 hy]at e
  exact((num (by rw[hx];rfl) (by rw[hy];rfl) e).2.2.2.2.2.2 hx hy).elim
 ·rw[l2 hx,l5 hy]at e
  exact(self fx (by rw[hx];rfl) e).elim
 ·rw[l4 hx,l2 hy]at e
  exact((name_num hq hp (qy (by rw[hy];rfl)).1 (px (by rw[hx];rfl)).1 (by rw[←(px (by rw[hx];rfl)).2,←(qy (by rw[hy];rfl)).2,e])).2.2.2.2.2.2 hy hx).elim
 ·rw[l4 hx,l4 hy]at e
  exact same (by omega) ((num (by rw[hx];rfl) (by rw[hy];rfl) e).2.2.1 hx hy)
 ·rw[l4 hx,l5 hy]at e
  exact(self fx (by rw[hx];rfl) e).elim
 ·rw[l5 hx,l2 hy]at e
  exact(self fy (by rw[hy];rfl) e.symm).elim
 ·rw[l5 hx,l4 hy]at e
  exact(self fy (by rw[hy];rfl) e.symm).elim
 ·unfold bareN
  rw[if_neg (by omega),if_neg (by omega),hx,hy]
theorem keys_bare{s:GScope}:∀{a b:List GNode},(∀x∈a,1≤x.Op∧Tr7.inR x.N=true∧badE s x=false)→(∀x∈b,1≤x.Op∧Tr7.inR x.N=true∧badE s x=false)→a.map (key s)=b.map (key s)→a.map bareN=b.map bareN
 | [],[],_,_,_=>rfl
 | [],_::_,_,_,e=>by simp at e
 |_::_,[],_,_,e=>by simp at e
 |x::a,y::b,ha,hb,e=>by
  simp only[List.map_cons,xC]at e ⊢
  obtain⟨x1,x2,x3⟩:=ha x (by simp)
  obtain⟨y1,y2,y3⟩:=hb y (by simp)
  exact⟨key_bare x1 y1 x2 y2 x3 y3 e.1,keys_bare (fun z hz=>ha z (by simp[hz])) (fun z hz=>hb z (by simp[hz])) e.2⟩
def Ex.bare:Ex→Ex
 | .leaf x=>.leaf (bareN x)
 | .un x a=>.un (bareN x) a.bare
 | .bin x a b=>.bin (bareN x) a.bare b.bare
theorem layE_bare(x:GNode)(ts:List Ex):layE (bareN x) (ts.map Ex.bare)=(layE x ts).map Ex.bare:=by
 unfold layE
 show(if takesK x.Op=0 then _ else if takesK x.Op=1 then _ else _)=_
 split
 ·simp[Ex.bare]
 split
 ·rw[List.getLast?_map]
  cases ts.getLast? with
  |none=>rfl
  |some a=>simp[Ex.bare,List.map_take]
 ·rw[List.getLast?_map,List.length_map,List.getElem?_map]
  cases ts[ts.length - 2]? with
  |none=>rfl
  |some a=>
   cases ts.getLast? with
   |none=>rfl
   |some b=>simp[Ex.bare,List.map_take]
theorem trees_bare:∀(e:List GNode) (ts:List Ex),treesL (e.map bareN) (ts.map Ex.bare)=(treesL e ts).map Ex.bare
 | [],ts=>rfl
 |x::r,ts=>by rw[List.map_cons,treesL,layE_bare,trees_bare r,treesL]
theorem part_bare{s:GScope}:∀(t:Ex),partOf s t.bare=partOf s t:=by
 have hb:∀x:GNode,(bareN x).Op=x.Op:=fun _=>rfl
 have hn:∀x:GNode,x.Op≠5→¬9≤x.Op→bareN x=x:=fun x h h'=>bare_eq (by omega)
 intro t
 induction t with
 |leaf x=>
  by_cases h:x.Op=5∨9≤x.Op
  ·have:x.Op≠1∧x.Op≠2∧x.Op≠4∧x.Op≠6∧x.Op≠7∧x.Op≠8:=by omega
   obtain⟨h1,h2,h4,h6,h7,h8⟩:=this
   simp only[Ex.bare,partOf,leafT,leafB,hb,h1,h2,h4,h6,h7,h8,if_false]
  ·rw[Ex.bare,hn x (by omega) (by omega)]
 |un x a ih=>
  by_cases h3:x.Op=3
  ·rw[Ex.bare,hn x (by omega) (by omega)];simp only[partOf,ih]
  ·simp only[Ex.bare,partOf,hb,h3,if_false,ih]
 |bin x a b iha ihb=>simp only[Ex.bare,partOf,hb,iha,ihb,joinT]
theorem flat_ops:∀(t:Ex),t.wf→∀x∈t.flat,1≤x.Op
 | .leaf y,h,x,hx=>by
  simp only[Ex.flat,yQ]at hx;subst hx
  have:takesK x.Op=0:=h
  rcases takes_cases x.Op with⟨q,_⟩ |⟨q,h⟩ |⟨q,_⟩ |⟨q,_⟩ <;>omega
 | .un y a,h,x,hx=>by
  simp only[Ex.flat,xD,yQ]at hx
  rcases hx with hx |hx
  ·exact flat_ops a h.2 x hx
  ·subst hx
   have:=h.1
   rcases takes_cases x.Op with⟨q,_⟩ |⟨q,h⟩ |⟨q,_⟩ |⟨q,_⟩ <;>omega
 | .bin y a b,h,x,hx=>by
  simp only[Ex.flat,xD,yQ]at hx
  rcases hx with(hx |hx) |hx
  ·exact flat_ops a h.2.1 x hx
  ·exact flat_ops b h.2.2 x hx
  ·subst hx
   have:=h.1
   rcases takes_cases x.Op with⟨q,_⟩ |⟨q,h⟩ |⟨q,_⟩ |⟨q,_⟩ <;>omega
theorem unlike{a b:List GNode}{s:GScope}(ha:∀x∈a,Tr7.inR x.N=true)(hb:∀x∈b,Tr7.inR x.N=true)(fa:(textK a s).2=0)(fb:(textK b s).2=0):(textK a s).1=(textK b s).1↔a.map bareN=b.map bareN:=by
 have le:∀{e:List GNode},(∀x∈e,Tr7.inR x.N=true)→∀x∈e,x.N≤9223372036854775807:=fun h x hx=>by
  have:=h x hx
  simp only[Tr7.inR,xA,yD]at this
  exact this.2
 have kd:∀{e:List GNode},(textK e s).2=0→(kindK e s).2=0:=fun{e} h=>by
  by_cases k:(kindK e s).2=0
  ·exact k
  ·unfold textK at h;rw[if_pos k]at h;exact h
 have bd:∀{e:List GNode} {t:Ex},(textK e s).2=0→(textK e s=if e.any (badE s)=true then([],6)else((partOf s t).text,0))→e.any (badE s)=false∧(textK e s).1=(partOf s t).text:=fun{e t} h q=>by
  cases hb:e.any (badE s)with
  |true=>rw[q,hb]at h;cases h
  |false=>rw[q,hb];exact⟨rfl,rfl⟩
 obtain⟨t,t1,t2,t3,t4⟩:=tree_of (le ha) (kd fa)
 obtain⟨u,u1,u2,u3,u4⟩:=tree_of (le hb) (kd fb)
 obtain⟨t5,t6⟩:=bd fa t4
 obtain⟨u5,u6⟩:=bd fb u4
 rw[t6,u6]
 constructor
 ·intro e
  have ft:∀x∈t.flat,1≤x.Op∧Tr7.inR x.N=true∧badE s x=false:=fun x hx=>by
   refine⟨flat_ops t t3 x hx,ha x (t2▸hx),?_⟩
   rw[yG]at t5
   simpa using t5 x (t2▸hx)
  have fu:∀x∈u.flat,1≤x.Op∧Tr7.inR x.N=true∧badE s x=false:=fun x hx=>by
   refine⟨flat_ops u u3 x hx,hb x (u2▸hx),?_⟩
   rw[yG]at u5
   simpa using u5 x (u2▸hx)
  rw[←t2,←u2]
  exact keys_bare ft fu (texts_keys t3 u3 (fun x hx=>(fine_of (ft x hx).2.1 (ft x hx).2.2).1) (fun x hx=>(fine_of (fu x hx).2.1 (fu x hx).2.2).1) e)
 ·intro e
  have h1:=trees_bare a []
  have h2:=trees_bare b []
  rw[e,t1]at h1
  rw[u1]at h2
  have h3:=h1.symm.trans h2
  simp only[List.map_cons,List.map_nil,xC,and_true]at h3
  rw[←part_bare t,h3,part_bare u]
end Go.Etx
namespace Go.Am
open Go
variable{P:Program}{hints:FuncId→Hint}
def callS(P:Program)(hint:FuncId→Hint)(c:CallF)(n:Nat)(f:FuncId)(ds:List D)(H:List Ob):Option (List T×List Ob):=
 if YB≤f then roundN P c hint n (f - YB) ds H else
 match (hint f).ext with
 |some F=>(F ds).bind fun rs=>if isPanT rs=true then none else some (rs,H)
 |none=>
 (P.funcs[f]?).bind fun fn=>fn.body.bind fun cd=>
  if ds.length=fn.params.size+fn.nfree∧codeOk fn.ntmps cd=true∧(fn.name== "runtime.NumGoroutine")=false then
   if(hint f).rcv=true then(recN P c hint n f cd fn.ntmps (enter ds H)).bind (leave P (hint f).own fn H.length)
   else if(decide ((hint f).nilt≠0)&&emptyArg ds)=true then
    bothE H.length (flagE (hint f) ds) ((codeN P c (hint f) n cd (enterE true H)).bind (leave P (hint f).own fn H.length)) ((codeN P c (hint f) n cd (enterE false H)).bind (leave P (hint f).own fn H.length))
   else(codeN P c (hint f) n cd (enter ds H)).bind (leave P (hint f).own fn H.length)
  else if ds.length+1=fn.params.size+fn.nfree∧codeOk fn.ntmps cd=true∧(fn.name== "runtime.NumGoroutine")=false then
   (rowOf H).bind fun es=>(codeN P c (hint f) n cd (enterR es ds)).bind (leave P (hint f).own fn 0)
  else none
theorem callS_mono{c c':CallF}(ih:CallLe c c'){n m:Nat}(hn:n≤m){f:FuncId}{ds:List D}{H:List Ob}{r:List T×List Ob}(e:callS P hints c n f ds H=some r):callS P hints c' m f ds H=some r:=by
 unfold callS at e ⊢
 by_cases hy:YB≤f
 ·rw[if_pos hy]at e ⊢
  exact roundN_mono ih hn e
 rw[if_neg hy]at e ⊢
 split at e
 ·exact e
 simp only[xB]at e ⊢
 obtain⟨fn,h1,cd,h2,e⟩:=e
 refine⟨fn,h1,cd,h2,?_⟩
 split at e
 ·rename_i hh
  rw[if_pos hh]
  by_cases hr:(hints f).rcv=true
  ·rw[if_pos hr]at e ⊢
   simp only[xB]at e ⊢
   obtain⟨x,e1,e2⟩:=e
   exact⟨x,recN_mono ih hn e1,e2⟩
  rw[if_neg hr]at e ⊢
  by_cases hnil:(decide ((hints f).nilt≠0)&&emptyArg ds)=true
  ·rw[if_pos hnil]at e ⊢
   obtain⟨t1,t2,H1,H2,ht,q1,q2,l1,l2,m1,m2,rfl⟩:=bothE_some e
   simp only[xB]at q1 q2
   obtain⟨x,e1,e2⟩:=q1
   obtain⟨y,e3,e4⟩:=q2
   show bothE H.length (flagE (hints f) ds) ((codeN P c' (hints f) m cd (enterE true H)).bind (leave P (hints f).own fn H.length)) ((codeN P c' (hints f) m cd (enterE false H)).bind (leave P (hints f).own fn H.length))=_
   rw[codeN_mono ih hn cd _ _ e1,codeN_mono ih hn cd _ _ e3,xS,xS,e2,e4]
   exact bothE_of ht l1 l2 m1 m2
  rw[if_neg hnil]at e ⊢
  simp only[xB]at e ⊢
  obtain⟨x,e1,e2⟩:=e
  exact⟨x,codeN_mono ih hn cd _ _ e1,e2⟩
 ·rename_i hh
  rw[if_neg hh]
  split at e
  ·rename_i h3
   rw[if_pos h3]
   simp only[xB]at e ⊢
   obtain⟨es,e0,x,e1,e2⟩:=e
   exact⟨es,e0,x,codeN_mono ih hn cd _ _ e1,e2⟩
  ·cases e
abbrev Memo:=List (FuncId×List D×List T)
def memo:Memo→FuncId→List D→Option (List T)
 | [],_,_=>none
 |e::K,f,ds=>if(Nat.beq e.1 f&&D.beqs e.2.1 ds)=true then some e.2.2 else memo K f ds
def callM(P:Program)(hint:FuncId→Hint)(K:Memo):Nat→CallF
 |0,_,_,_=>none
 |n+1,f,ds,H=>match H with
  | []=>match memo K f ds with
   |some rs=>some (rs,[])
   |none=>callS P hint (callM P hint K n) n f ds []
  |o::r=>callS P hint (callM P hint K n) n f ds (o::r)
def Memo.OK(P:Program)(hint:FuncId→Hint):Memo→Prop
 | []=>True
 |e::K=>callX P hint e.1 e.2.1 []=some (e.2.2,[])∧Memo.OK P hint K
theorem memo_ok:∀(K:Memo),K.OK P hints→∃n,∀f ds rs,memo K f ds=some rs→callN P hints n f ds []=some (rs,[])
 | [],_=>⟨0,fun _ _ _ h=>by cases h⟩
 |e::K,h=>by
  obtain⟨n,hn⟩:=memo_ok K h.2
  obtain⟨m,hm⟩:=callX_iff.1 h.1
  refine⟨max n m,fun f ds rs q=> ?_⟩
  unfold memo at q
  split at q
  ·rename_i hh
   simp only[xA,xJ]at hh q
   obtain⟨h1,h2⟩:=hh
   have h1:=Nat.eq_of_beq_eq_true h1
   have h2:=D.beqs_eq _ _ h2
   subst h1
   subst h2
   subst q
   exact callN_mono (Nat.le_max_right _ _) _ _ _ _ hm
  ·exact callN_mono (Nat.le_max_left _ _) _ _ _ _ (hn f ds rs q)
theorem callM_ok{K:Memo}{N:Nat}(h:∀f ds rs,memo K f ds=some rs→callN P hints N f ds []=some (rs,[])):∀n,CallLe (callM P hints K n) (callN P hints (N+n))
 |0=>fun f ds H r e=>by cases e
 |n+1=>fun f ds H r e=>by
  have ih:=callM_ok h n
  have key:∀H,callS P hints (callM P hints K n) n f ds H=some r→callN P hints (N+(n+1)) f ds H=some r:=fun H e=>
   callS_mono (c':=callN P hints (N+n)) ih (Nat.le_add_left n N) e
  cases H with
  |nil=>
   simp only[callM]at e
   split at e
   ·rename_i rs hm
    simp only[xJ]at e
    subst e
    exact callN_mono (Nat.le_add_right N (n+1)) _ _ _ _ (h f ds rs hm)
   ·exact key _ e
  |cons o H=>exact key _ e
theorem callX_memo{f:FuncId}{ds:List D}{H:List Ob}{r:List T×List Ob}(K:Memo)(hK:K.OK P hints)(n:Nat)(e:callM P hints K n f ds H=some r):callX P hints f ds H=some r:=by
 obtain⟨N,hN⟩:=memo_ok K hK
 exact callX_iff.2 ⟨N+n,callM_ok hN n f ds H r e⟩
end Go.Am
namespace Go.Etx
open Go Go.Am Go.Proofs
set_option maxRecDepth 20000
def m0:FuncId×List D×List T:=(13,[.sl true [.agg [.int .i64 (2),.int .i64 (0)],.agg [.int .i64 (1),.int .i64 (1)],.agg [.int .i64 (11),.int .i64 (0)],.agg [.int .i64 (1),.int .i64 (2)],.agg [.int .i64 (13),.int .i64 (0)]],.agg [.sl true [],.sl true [.agg [.str [120],.int .i64 (0),.int .i64 (0),.int .i64 (0),.int .i64 (9),.int .i64 (0)],.agg [.str [121],.int .i64 (0),.int .i64 (0),.int .i64 (0),.int .i64 (9),.int .i64 (0)]],.sl true [],.sl true [],.sl true [],.int .i64 (0)]],[.d (.int .i64 (0)),.d (.int .i64 (0))])
theorem M0:call m0.1 m0.2.1 []=some (m0.2.2,[]):=callX_memo [] trivial 60 (by kernel_rfl)
def m1:FuncId×List D×List T:=(7,[.sl true [.agg [.int .i64 (2),.int .i64 (0)],.agg [.int .i64 (1),.int .i64 (1)],.agg [.int .i64 (11),.int .i64 (0)],.agg [.int .i64 (1),.int .i64 (2)],.agg [.int .i64 (13),.int .i64 (0)]],.agg [.sl true [],.sl true [.agg [.str [120],.int .i64 (0),.int .i64 (0),.int .i64 (0),.int .i64 (9),.int .i64 (0)],.agg [.str [121],.int .i64 (0),.int .i64 (0),.int .i64 (0),.int .i64 (9),.int .i64 (0)]],.sl true [],.sl true [],.sl true [],.int .i64 (0)]],[.d (.str [40,120,32,43,32,49,41,32,42,32,50]),.d (.int .i64 (0))])
theorem M1:call m1.1 m1.2.1 []=some (m1.2.2,[]):=callX_memo [m0] ⟨M0,trivial⟩ 60 (by kernel_rfl)
def m2:FuncId×List D×List T:=(57,[.str [45,32,121,32,45,32,49]],[.d (.agg [.int .i64 (3),.int .i64 (0),.int .i64 (0),.str [45]]),.d (.int .i64 (0))])
theorem M2:call m2.1 m2.2.1 []=some (m2.2.2,[]):=callX_memo [] trivial 60 (by kernel_rfl)
def m3:FuncId×List D×List T:=(57,[.str [45,32,49]],[.d (.agg [.int .i64 (3),.int .i64 (0),.int .i64 (0),.str [45]]),.d (.int .i64 (0))])
theorem M3:call m3.1 m3.2.1 []=some (m3.2.2,[]):=callX_memo [] trivial 60 (by kernel_rfl)
def m4:FuncId×List D×List T:=(7,[.sl true [.agg [.int .i64 (2),.int .i64 (0)],.agg [.int .i64 (2),.int .i64 (1)],.agg [.int .i64 (12),.int .i64 (0)],.agg [.int .i64 (1),.int .i64 (1)],.agg [.int .i64 (12),.int .i64 (0)]],.agg [.sl true [],.sl true [.agg [.str [120],.int .i64 (0),.int .i64 (0),.int .i64 (0),.int .i64 (9),.int .i64 (0)],.agg [.str [121],.int .i64 (0),.int .i64 (0),.int .i64 (0),.int .i64 (9),.int .i64 (0)]],.sl true [],.sl true [],.sl true [],.int .i64 (0)]],[.d (.str [120,32,45,32,121,32,45,32,49]),.d (.int .i64 (0))])
theorem M4:call m4.1 m4.2.1 []=some (m4.2.2,[]):=callX_memo [] trivial 60 (by kernel_rfl)
def m5:FuncId×List D×List T:=(12,[.str [120,32,45,32,121,32,45,32,49],.agg [.sl false [],.sl false [.agg [.str [120],.int .i64 (0),.int .i64 (0),.int .i64 (0),.int .i64 (9),.int .i64 (0)],.agg [.str [121],.int .i64 (0),.int .i64 (0),.int .i64 (0),.int .i64 (9),.int .i64 (0)]],.sl false [],.sl false [],.sl false [],.int .i64 (0)]],[.d (.sl false [.agg [.int .i64 (2),.int .i64 (0)],.agg [.int .i64 (2),.int .i64 (1)],.agg [.int .i64 (12),.int .i64 (0)],.agg [.int .i64 (1),.int .i64 (1)],.agg [.int .i64 (12),.int .i64 (0)]]),.d (.int .i64 (0)),.d (.int .i64 (0))])
theorem M5:call m5.1 m5.2.1 []=some (m5.2.2,[]):=callX_memo [m2,m3,m4] ⟨M2,M3,M4,trivial⟩ 60 (by kernel_rfl)
def m6:FuncId×List D×List T:=(7,[.sl true [.agg [.int .i64 (2),.int .i64 (0)],.agg [.int .i64 (1),.int .i64 (1)],.agg [.int .i64 (14),.int .i64 (0)]],.agg [.sl true [],.sl true [.agg [.str [120],.int .i64 (0),.int .i64 (0),.int .i64 (0),.int .i64 (9),.int .i64 (0)],.agg [.str [121],.int .i64 (0),.int .i64 (0),.int .i64 (0),.int .i64 (9),.int .i64 (0)]],.sl true [],.sl true [],.sl true [],.int .i64 (0)]],[.d (.str [120,32,61,61,32,49]),.d (.int .i64 (0))])
theorem M6:call m6.1 m6.2.1 []=some (m6.2.2,[]):=callX_memo [] trivial 60 (by kernel_rfl)
def m7:FuncId×List D×List T:=(12,[.str [120,32,32,61,61,32,49],.agg [.sl false [],.sl false [.agg [.str [120],.int .i64 (0),.int .i64 (0),.int .i64 (0),.int .i64 (9),.int .i64 (0)],.agg [.str [121],.int .i64 (0),.int .i64 (0),.int .i64 (0),.int .i64 (9),.int .i64 (0)]],.sl false [],.sl false [],.sl false [],.int .i64 (0)]],[.d (.sl false []),.d (.int .i64 (2)),.d (.int .i64 (13))])
theorem M7:call m7.1 m7.2.1 []=some (m7.2.2,[]):=callX_memo [m6] ⟨M6,trivial⟩ 60 (by kernel_rfl)
def m8:FuncId×List D×List T:=(12,[.str [120,32,61,61,32],.agg [.sl false [],.sl false [.agg [.str [120],.int .i64 (0),.int .i64 (0),.int .i64 (0),.int .i64 (9),.int .i64 (0)],.agg [.str [121],.int .i64 (0),.int .i64 (0),.int .i64 (0),.int .i64 (9),.int .i64 (0)]],.sl false [],.sl false [],.sl false [],.int .i64 (0)]],[.d (.sl false []),.d (.int .i64 (5)),.d (.int .i64 (3))])
theorem M8:call m8.1 m8.2.1 []=some (m8.2.2,[]):=callX_memo [] trivial 60 (by kernel_rfl)
def m9:FuncId×List D×List T:=(6,[],[.d (.bool true)])
theorem M9:call m9.1 m9.2.1 []=some (m9.2.2,[]):=callX_memo [m1,m5,m7,m8] ⟨M1,M5,M7,M8,trivial⟩ 60 (by kernel_rfl)
end Go.Etx
namespace Go.Proofs
open Go.Shelf
def Tryz.lays172_ren:Go.Shelf.Ren:=⟨fun |172=>107 |244=>120 |245=>121 |247=>127 |279=>128 |280=>129 |281=>130 |282=>131 |287=>138 |316=>139 |171=>105 |205=>140 |321=>146 |322=>147 |243=>119 |246=>126 |283=>134 |284=>135 |285=>136 |286=>137 |129=>142 |317=>141 |318=>143 |319=>144 |320=>145 |337=>148 |338=>149 |n=>n,fun |9=>9 |3=>3 |75=>150 |76=>151 |4=>4 |5=>5 |167=>164 |37=>134 |0=>0 |85=>165 |2=>2 |168=>167 |53=>173 |175=>178 |46=>180 |210=>183 |127=>190 |145=>193 |143=>191 |21=>21 |171=>172 |173=>176 |212=>185 |51=>186 |20=>20 |213=>187 |232=>195 |233=>196 |80=>197 |n=>n,fun |15=>2 |16=>3 |17=>4 |18=>5 |19=>6 |n=>n⟩
def Tryz.laysM246_ren:Go.Shelf.Ren:=⟨fun |246=>126 |283=>134 |284=>135 |285=>136 |286=>137 |129=>142 |317=>141 |318=>143 |319=>144 |320=>145 |337=>148 |338=>149 |n=>n,fun |2=>2 |3=>3 |9=>9 |4=>4 |171=>172 |0=>0 |53=>173 |37=>134 |5=>5 |173=>176 |212=>185 |51=>186 |20=>20 |213=>187 |46=>180 |232=>195 |233=>196 |n=>n,fun |17=>4 |18=>5 |19=>6 |n=>n⟩
def Tryz.laysM243_ren:Go.Shelf.Ren:=⟨fun |243=>119 |246=>126 |283=>134 |284=>135 |285=>136 |286=>137 |129=>142 |317=>141 |318=>143 |319=>144 |320=>145 |337=>148 |338=>149 |n=>n,fun |3=>3 |9=>9 |2=>2 |4=>4 |171=>172 |0=>0 |53=>173 |37=>134 |5=>5 |173=>176 |212=>185 |51=>186 |20=>20 |213=>187 |46=>180 |232=>195 |233=>196 |n=>n,fun |17=>4 |18=>5 |19=>6 |n=>n⟩
def Tryz.laysM171_ren:Go.Shelf.Ren:=⟨fun |171=>105 |243=>119 |246=>126 |283=>134 |284=>135 |285=>136 |286=>137 |129=>142 |317=>141 |318=>143 |319=>144 |320=>145 |337=>148 |338=>149 |n=>n,fun |3=>3 |9=>9 |2=>2 |4=>4 |171=>172 |0=>0 |53=>173 |37=>134 |5=>5 |173=>176 |212=>185 |51=>186 |20=>20 |213=>187 |46=>180 |232=>195 |233=>196 |n=>n,fun |17=>4 |18=>5 |19=>6 |n=>n⟩
theorem Tryz.laysM171:Go.Proofs.LaysM.n171 Tryz.prog Tryz.laysM171_ren:={
 mixed:=by kernel_rfl
 f129:=Tryz.func142.trans (congrArg some (by kernel_rfl))
 f171:=Tryz.func105.trans (congrArg some (by kernel_rfl))
 f243:=Tryz.func119.trans (congrArg some (by kernel_rfl))
 f246:=Tryz.func126.trans (congrArg some (by kernel_rfl))
 f283:=Tryz.func134.trans (congrArg some (by kernel_rfl))
 f284:=Tryz.func135.trans (congrArg some (by kernel_rfl))
 f285:=Tryz.func136.trans (congrArg some (by kernel_rfl))
 f286:=Tryz.func137.trans (congrArg some (by kernel_rfl))
 f317:=Tryz.func141.trans (congrArg some (by kernel_rfl))
 f318:=Tryz.func143.trans (congrArg some (by kernel_rfl))
 f319:=Tryz.func144.trans (congrArg some (by kernel_rfl))
 f320:=Tryz.func145.trans (congrArg some (by kernel_rfl))
 f337:=Tryz.func148.trans (congrArg some (by kernel_rfl))
 f338:=Tryz.func149.trans (congrArg some (by kernel_rfl))
 t0:=Tryz.underlying0
 a0:=Tryz.isAgg0
 z0:=Tryz.sizeOf0
 v0:=Tryz.zeroValue0
 t2:=Tryz.underlying2
 a2:=Tryz.isAgg2
 z2:=Tryz.sizeOf2
 v2:=Tryz.zeroValue2
 t3:=Tryz.underlying3
 a3:=Tryz.isAgg3
 z3:=Tryz.sizeOf3
 v3:=Tryz.zeroValue3
 t4:=Tryz.underlying4
 a4:=Tryz.isAgg4
 z4:=Tryz.sizeOf4
 v4:=Tryz.zeroValue4
 t5:=Tryz.underlying5
 a5:=Tryz.isAgg5
 z5:=Tryz.sizeOf5
 v5:=Tryz.zeroValue5
 t9:=Tryz.underlying9
 a9:=Tryz.isAgg9
 z9:=Tryz.sizeOf9
 v9:=Tryz.zeroValue9
 t20:=Tryz.underlying20
 a20:=Tryz.isAgg20
 z20:=Tryz.sizeOf20
 v20:=Tryz.zeroValue20
 t37:=Tryz.underlying134
 a37:=Tryz.isAgg134
 z37:=Tryz.sizeOf134
 v37:=Tryz.zeroValue134
 t46:=Tryz.underlying180
 a46:=Tryz.isAgg180
 z46:=Tryz.sizeOf180
 v46:=Tryz.zeroValue180
 t51:=Tryz.underlying186
 a51:=Tryz.isAgg186
 z51:=Tryz.sizeOf186
 v51:=Tryz.zeroValue186
 t53:=Tryz.underlying173
 a53:=Tryz.isAgg173
 z53:=Tryz.sizeOf173
 v53:=Tryz.zeroValue173
 t171:=Tryz.underlying172
 a171:=Tryz.isAgg172
 z171:=Tryz.sizeOf172
 v171:=Tryz.zeroValue172
 t173:=Tryz.underlying176
 a173:=Tryz.isAgg176
 z173:=Tryz.sizeOf176
 v173:=Tryz.zeroValue176
 t212:=Tryz.underlying185
 a212:=Tryz.isAgg185
 z212:=Tryz.sizeOf185
 v212:=Tryz.zeroValue185
 t213:=Tryz.underlying187
 a213:=Tryz.isAgg187
 z213:=Tryz.sizeOf187
 t232:=Tryz.underlying195
 a232:=Tryz.isAgg195
 z232:=Tryz.sizeOf195
 v232:=Tryz.zeroValue195
 t233:=Tryz.underlying196
 a233:=Tryz.isAgg196
 z233:=Tryz.sizeOf196
 v233:=Tryz.zeroValue196
 g17:=by kernel_rfl
 g18:=by kernel_rfl
 g19:=by kernel_rfl
 i0:=by kernel_rfl
 i2:=by kernel_rfl
 i3:=by kernel_rfl
 i4:=by kernel_rfl
 i5:=by kernel_rfl
 i9:=by kernel_rfl
 i20:=by kernel_rfl
 i37:=by kernel_rfl
 i46:=by kernel_rfl
 i51:=by kernel_rfl
 i53:=by kernel_rfl
 i171:=by kernel_rfl
 i173:=by kernel_rfl
 i212:=by kernel_rfl
 i232:=by kernel_rfl
 i233:=by kernel_rfl
 m17:=by kernel_rfl
 m18:=by kernel_rfl
 m19:=by kernel_rfl}
open Go.RowKit Go.Sort Go.Lib in
theorem Tryz.strconv_Itoa(n:Int)(h0:-9223372036854775808≤n)(h1:n≤9223372036854775807)(w:World)(htab:Lib.TabIs Tryz.prog w "internal/strconv.uint64pow10" .u64 Lib.pow10Tab):
  Calls Tryz.prog 105 #[.int .i64 n] w fun e w'=>e=.returned (.string ⟨(Lib.itoa n).toArray⟩)∧∃k os,w'=grow (w.drewN k) os:=Any.strconv_Itoa Tryz.laysM171 n h0 h1 w htab
def Tryz.laysC172_ren:Go.Shelf.Ren:=⟨fun |172=>107 |244=>120 |245=>121 |247=>127 |279=>128 |280=>129 |281=>130 |282=>131 |287=>138 |316=>139 |171=>105 |205=>140 |321=>146 |322=>147 |243=>119 |246=>126 |283=>134 |284=>135 |285=>136 |286=>137 |129=>142 |317=>141 |318=>143 |319=>144 |320=>145 |337=>148 |338=>149 |n=>n,fun |9=>9 |3=>3 |75=>150 |76=>151 |4=>4 |5=>5 |167=>164 |37=>134 |0=>0 |85=>165 |2=>2 |168=>167 |53=>173 |175=>178 |46=>180 |210=>183 |127=>190 |145=>193 |143=>191 |21=>21 |171=>172 |173=>176 |212=>185 |51=>186 |20=>20 |213=>187 |232=>195 |233=>196 |80=>197 |n=>n,fun |15=>2 |16=>3 |17=>4 |18=>5 |19=>6 |n=>n⟩
theorem Tryz.laysC172:Go.Proofs.LaysC.n172 Tryz.prog Tryz.laysC172_ren:={
 mixed:=by kernel_rfl
 f129:=Tryz.func142.trans (congrArg some (by kernel_rfl))
 f171:=Tryz.func105.trans (congrArg some (by kernel_rfl))
 f172:=Tryz.func107.trans (congrArg some (by kernel_rfl))
 f205:=Tryz.func140.trans (congrArg some (by kernel_rfl))
 f243:=Tryz.func119.trans (congrArg some (by kernel_rfl))
 f244:=Tryz.func120.trans (congrArg some (by kernel_rfl))
 f245:=Tryz.func121.trans (congrArg some (by kernel_rfl))
 f246:=Tryz.func126.trans (congrArg some (by kernel_rfl))
 f247:=Tryz.func127.trans (congrArg some (by kernel_rfl))
 f279:=Tryz.func128.trans (congrArg some (by kernel_rfl))
 f280:=Tryz.func129.trans (congrArg some (by kernel_rfl))
 f281:=Tryz.func130.trans (congrArg some (by kernel_rfl))
 f282:=Tryz.func131.trans (congrArg some (by kernel_rfl))
 f283:=Tryz.func134.trans (congrArg some (by kernel_rfl))
 f284:=Tryz.func135.trans (congrArg some (by kernel_rfl))
 f285:=Tryz.func136.trans (congrArg some (by kernel_rfl))
 f286:=Tryz.func137.trans (congrArg some (by kernel_rfl))
 f287:=Tryz.func138.trans (congrArg some (by kernel_rfl))
 f316:=Tryz.func139.trans (congrArg some (by kernel_rfl))
 f317:=Tryz.func141.trans (congrArg some (by kernel_rfl))
 f318:=Tryz.func143.trans (congrArg some (by kernel_rfl))
 f319:=Tryz.func144.trans (congrArg some (by kernel_rfl))
 f320:=Tryz.func145.trans (congrArg some (by kernel_rfl))
 f321:=Tryz.func146.trans (congrArg some (by kernel_rfl))
 f322:=Tryz.func147.trans (congrArg some (by kernel_rfl))
 f337:=Tryz.func148.trans (congrArg some (by kernel_rfl))
 f338:=Tryz.func149.trans (congrArg some (by kernel_rfl))
 t0:=Tryz.underlying0
 a0:=Tryz.isAgg0
 z0:=Tryz.sizeOf0
 v0:=Tryz.zeroValue0
 t2:=Tryz.underlying2
 a2:=Tryz.isAgg2
 z2:=Tryz.sizeOf2
 v2:=Tryz.zeroValue2
 t3:=Tryz.underlying3
 a3:=Tryz.isAgg3
 z3:=Tryz.sizeOf3
 v3:=Tryz.zeroValue3
 t4:=Tryz.underlying4
 a4:=Tryz.isAgg4
 z4:=Tryz.sizeOf4
 v4:=Tryz.zeroValue4
 t5:=Tryz.underlying5
 a5:=Tryz.isAgg5
 z5:=Tryz.sizeOf5
 v5:=Tryz.zeroValue5
 t9:=Tryz.underlying9
 a9:=Tryz.isAgg9
 z9:=Tryz.sizeOf9
 v9:=Tryz.zeroValue9
 t20:=Tryz.underlying20
 a20:=Tryz.isAgg20
 z20:=Tryz.sizeOf20
 v20:=Tryz.zeroValue20
 t21:=Tryz.underlying21
 a21:=Tryz.isAgg21
 z21:=Tryz.sizeOf21
 v21:=Tryz.zeroValue21
 t37:=Tryz.underlying134
 a37:=Tryz.isAgg134
 z37:=Tryz.sizeOf134
 v37:=Tryz.zeroValue134
 t46:=Tryz.underlying180
 a46:=Tryz.isAgg180
 z46:=Tryz.sizeOf180
 v46:=Tryz.zeroValue180
 t51:=Tryz.underlying186
 a51:=Tryz.isAgg186
 z51:=Tryz.sizeOf186
 v51:=Tryz.zeroValue186
 t53:=Tryz.underlying173
 a53:=Tryz.isAgg173
 z53:=Tryz.sizeOf173
 v53:=Tryz.zeroValue173
 t75:=Tryz.underlying150
 a75:=Tryz.isAgg150
 z75:=Tryz.sizeOf150
 v75:=Tryz.zeroValue150
 t76:=Tryz.underlying151
 a76:=Tryz.isAgg151
 z76:=Tryz.sizeOf151
 v76:=Tryz.zeroValue151
 t85:=Tryz.underlying165
 a85:=Tryz.isAgg165
 z85:=Tryz.sizeOf165
 v85:=Tryz.zeroValue165
 t127:=Tryz.underlying190
 a127:=Tryz.isAgg190
 z127:=Tryz.sizeOf190
 v127:=Tryz.zeroValue190
 t143:=Tryz.underlying191
 a143:=Tryz.isAgg191
 z143:=Tryz.sizeOf191
 v143:=Tryz.zeroValue191
 t145:=Tryz.underlying193
 a145:=Tryz.isAgg193
 z145:=Tryz.sizeOf193
 v145:=Tryz.zeroValue193
 t167:=Tryz.underlying164
 a167:=Tryz.isAgg164
 z167:=Tryz.sizeOf164
 v167:=Tryz.zeroValue164
 t168:=Tryz.underlying167
 a168:=Tryz.isAgg167
 z168:=Tryz.sizeOf167
 v168:=Tryz.zeroValue167
 t171:=Tryz.underlying172
 a171:=Tryz.isAgg172
 z171:=Tryz.sizeOf172
 v171:=Tryz.zeroValue172
 t173:=Tryz.underlying176
 a173:=Tryz.isAgg176
 z173:=Tryz.sizeOf176
 v173:=Tryz.zeroValue176
 t175:=Tryz.underlying178
 a175:=Tryz.isAgg178
 z175:=Tryz.sizeOf178
 v175:=Tryz.zeroValue178
 t210:=Tryz.underlying183
 a210:=Tryz.isAgg183
 z210:=Tryz.sizeOf183
 v210:=Tryz.zeroValue183
 t212:=Tryz.underlying185
 a212:=Tryz.isAgg185
 z212:=Tryz.sizeOf185
 v212:=Tryz.zeroValue185
 t213:=Tryz.underlying187
 a213:=Tryz.isAgg187
 z213:=Tryz.sizeOf187
 t232:=Tryz.underlying195
 a232:=Tryz.isAgg195
 z232:=Tryz.sizeOf195
 v232:=Tryz.zeroValue195
 t233:=Tryz.underlying196
 a233:=Tryz.isAgg196
 z233:=Tryz.sizeOf196
 v233:=Tryz.zeroValue196
 g15:=by kernel_rfl
 g16:=by kernel_rfl
 g17:=by kernel_rfl
 g18:=by kernel_rfl
 g19:=by kernel_rfl
 t80:=Tryz.underlying197
 a80:=Tryz.isAgg197
 z80:=Tryz.sizeOf197
 v80:=Tryz.zeroValue197
 i0:=by kernel_rfl
 i2:=by kernel_rfl
 i3:=by kernel_rfl
 i4:=by kernel_rfl
 i5:=by kernel_rfl
 i9:=by kernel_rfl
 i20:=by kernel_rfl
 i21:=by kernel_rfl
 i37:=by kernel_rfl
 i46:=by kernel_rfl
 i51:=by kernel_rfl
 i53:=by kernel_rfl
 i75:=by kernel_rfl
 i76:=by kernel_rfl
 i80:=by kernel_rfl
 i85:=by kernel_rfl
 i127:=by kernel_rfl
 i143:=by kernel_rfl
 i145:=by kernel_rfl
 i167:=by kernel_rfl
 i168:=by kernel_rfl
 i171:=by kernel_rfl
 i173:=by kernel_rfl
 i175:=by kernel_rfl
 i210:=by kernel_rfl
 i212:=by kernel_rfl
 i232:=by kernel_rfl
 i233:=by kernel_rfl
 m15:=by kernel_rfl
 m16:=by kernel_rfl
 m17:=by kernel_rfl
 m18:=by kernel_rfl
 m19:=by kernel_rfl
 c0:=by kernel_rfl
 c2:=by kernel_rfl
 c3:=by kernel_rfl
 c4:=by kernel_rfl
 c5:=by kernel_rfl
 c9:=by kernel_rfl
 c20:=by kernel_rfl
 c21:=by kernel_rfl
 c37:=by kernel_rfl
 c46:=by kernel_rfl
 c51:=by kernel_rfl
 c53:=by kernel_rfl
 c75:=by kernel_rfl
 c76:=by kernel_rfl
 c80:=by kernel_rfl
 c85:=by kernel_rfl
 c127:=by kernel_rfl
 c143:=by kernel_rfl
 c145:=by kernel_rfl
 c167:=by kernel_rfl
 c168:=by kernel_rfl
 c171:=by kernel_rfl
 c173:=by kernel_rfl
 c175:=by kernel_rfl
 c210:=by kernel_rfl
 c212:=by kernel_rfl
 c213:=by kernel_rfl
 c232:=by kernel_rfl
 c233:=by kernel_rfl}
open Go.RowKit in
theorem Tryz.strconv_Atoi_ok(s:ByteArray)(hmax:s.size≤9223372036854775806)(v:Int)(h:Lib.atoiAll s.data.toList=.ok v)(w:World):
  Calls Tryz.prog 107 #[.string s] w fun e w'=>e=.returned (.tuple #[.int .i64 v,.nilIface])∧(w'=w∨∃t,w'=Lib.bytesWorld w 5 t):=Any.strconv_Atoi_ok Tryz.laysC172 s hmax v h w
open Go.RowKit in
theorem Tryz.strconv_Atoi_syntax(s:ByteArray)(hlim:s.size≤281474976710656)(h:Lib.atoiAll s.data.toList=(Lib.atoiAll []))(ev:Value)(w:World)(hv:w.cell? ⟨2,0,none⟩=some ev)(hev:ev=.nilIface∨∃te pe,ev=.iface te pe):
  Calls Tryz.prog 107 #[.string s] w fun e w'=>∃N,e=.returned (.tuple #[.int .i64 (0),.iface 167 (.pointer (some ⟨N,0,none⟩))])∧w.heap.size≤N∧w'.heap[N]? =some (.cells #[.string ⟨#[65,116,111,105]⟩,.string s,ev] 183 (0,0))∧Below w.heap.size w w':=Any.strconv_Atoi_syntax Tryz.laysC172 s hlim h ev w hv hev
open Go.RowKit in
theorem Tryz.strconv_Atoi_range(s:ByteArray)(hlim:s.size≤281474976710656)(h:Lib.atoiAll s.data.toList=.range)(ev:Value)(w:World)(hv:w.cell? ⟨3,0,none⟩=some ev)(hev:ev=.nilIface∨∃te pe,ev=.iface te pe):
  Calls Tryz.prog 107 #[.string s] w fun e w'=>∃N,e=.returned (.tuple #[.int .i64 (Lib.atoiSat s.data.toList),.iface 167 (.pointer (some ⟨N,0,none⟩))])∧w.heap.size≤N∧w'.heap[N]? =some (.cells #[.string ⟨#[65,116,111,105]⟩,.string s,ev] 183 (0,0))∧Below w.heap.size w w':=Any.strconv_Atoi_range Tryz.laysC172 s hlim h ev w hv hev
end Go.Proofs
namespace Go.Proofs
open Go.Shelf Go.RowKit
theorem Tryz.below_grow(w:World)(k:Nat)(os:Array Obj):Below w.heap.size w (Go.Sort.grow (w.drewN k) os):=
 ⟨rfl,rfl,rfl,by simp[Go.Sort.grow,World.drewN],fun i hi=>by
  show(w.heap++os)[i]? =w.heap[i]?
  rw[Array.getElem?_append_left hi]⟩
theorem Tryz.decimal(n:Int)(h0:-9223372036854775808≤n)(h1:n≤9223372036854775807)(w:World)(htab:Lib.TabIs Tryz.prog w "internal/strconv.uint64pow10" .u64 Lib.pow10Tab):
  Calls Tryz.prog 74 #[.int .i64 n] w fun e w'=>e=.returned (.string ⟨(Lib.itoa n).toArray⟩)∧Below w.heap.size w w':=by
 go_enter Tryz.func74,Tryz.ntmps74
 go_wp2_with (go_at_call 105;refine(Tryz.strconv_Itoa n h0 h1 _ htab).mono ?_)
 rintro e w' ⟨rfl,k,os,rfl⟩
 go_wp2
 go_ret
 exact⟨rfl,Tryz.below_grow w k os⟩
def Tryz.inB(n:Int):Bool:=decide (-1048576≤n∧n≤1048576)
set_option maxHeartbeats 1000000 in
set_option maxRecDepth 100000 in
theorem Tryz.within_lo(n:Int)(b cap:Nat)(w:World)(h0:w.cell? ⟨b,0,none⟩=some (.int .i64 n))(hn:n< -1048576):
  Calls Tryz.prog 108 #[.slice (some ⟨b,0,none⟩) 1 cap] w fun e w'=>e=.returned (.bool false)∧w'=w:=by
 go_enter Tryz.func108,Tryz.ntmps108
 go_wp2
 go_loop [7] (fun i=>i=.int .i64 0) (fun _=>0)
 case atStart=>rfl
 case round=>
  subst hrel
  go_wp2
  go_ret
  exact⟨rfl,rfl⟩
set_option maxHeartbeats 1000000 in
set_option maxRecDepth 100000 in
theorem Tryz.within_hi(n:Int)(b cap:Nat)(w:World)(h0:w.cell? ⟨b,0,none⟩=some (.int .i64 n))(hm:¬n< -1048576)(hn:1048576<n):
  Calls Tryz.prog 108 #[.slice (some ⟨b,0,none⟩) 1 cap] w fun e w'=>e=.returned (.bool false)∧w'=w:=by
 go_enter Tryz.func108,Tryz.ntmps108
 go_wp2
 go_loop [7] (fun i=>i=.int .i64 0) (fun _=>0)
 case atStart=>rfl
 case round=>
  subst hrel
  go_wp2
  go_ret
  exact⟨rfl,rfl⟩
set_option maxHeartbeats 1000000 in
set_option maxRecDepth 100000 in
theorem Tryz.within_in(n:Int)(b cap:Nat)(w:World)(h0:w.cell? ⟨b,0,none⟩=some (.int .i64 n))(hm:¬n< -1048576)(hn:¬1048576<n):
  Calls Tryz.prog 108 #[.slice (some ⟨b,0,none⟩) 1 cap] w fun e w'=>e=.returned (.bool true)∧w'=w:=by
 go_enter Tryz.func108,Tryz.ntmps108
 go_wp2
 go_loop [7] (fun i=>i=.int .i64 0∨i=.int .i64 1) (fun i=>1 - (intOf i).toNat)
 case atStart=>exact .inl rfl
 case round=>
  rcases hrel with rfl |rfl
  ·go_wp2
   go_round
   case rel=>exact .inr rfl
   case measure=>simp[intOf]
  ·go_wp2
   go_ret
   exact⟨rfl,rfl⟩
theorem Tryz.within(n:Int)(b cap:Nat)(w:World)(h0:w.cell? ⟨b,0,none⟩=some (.int .i64 n)):
  Calls Tryz.prog 108 #[.slice (some ⟨b,0,none⟩) 1 cap] w fun e w'=>e=.returned (.bool (Tryz.inB n))∧w'=w:=by
 by_cases h1:n< -1048576
 ·rw[show Tryz.inB n=false by simp[Tryz.inB];omega]
  exact Tryz.within_lo n b cap w h0 h1
 ·by_cases h2:1048576<n
  ·rw[show Tryz.inB n=false by simp[Tryz.inB];omega]
   exact Tryz.within_hi n b cap w h0 h1 h2
  ·rw[show Tryz.inB n=true by simp[Tryz.inB];omega]
   exact Tryz.within_in n b cap w h0 h1 h2
end Go.Proofs
namespace Go.Proofs
open Go.Shelf Go.RowKit
theorem Tryz.new_cell(w:World)(v:Value)(t:TypeId):(w.alloc (.cells #[v] t)).cell? ⟨w.heap.size,0,none⟩=some v:=by
 rw[World.cell?_alloc_new]
 rfl
theorem Tryz.below_atoi{w w1:World}{B:Nat}(hB:B≤w.heap.size)(h:w1=w∨∃t,w1=Lib.bytesWorld w 5 t):Below B w w1:=by
 rcases h with rfl |⟨t,rfl⟩
 ·exact Below.refl _ _
 ·exact(Lib.bytesWorld_below w 5 t).mono hB
set_option maxHeartbeats 1000000 in
set_option maxRecDepth 100000 in
theorem Tryz.number_out(s:ByteArray)(v:Int)(hs:s.size≤9223372036854775806)(h:Lib.atoiAll s.data.toList=.ok v)(hv:Tryz.inB v=false)(w:World):
  Calls Tryz.prog 82 #[.string s] w fun e w'=>e=.returned (.tuple #[.int .i64 0,.bool false])∧Below w.heap.size w w':=by
 go_enter Tryz.func82,Tryz.ntmps82
 go_wp2_with (go_at_call 107;refine(Tryz.strconv_Atoi_ok s hs v h _).mono ?_)
 rintro e w1 ⟨rfl,h1⟩
 have hb1:Below w.heap.size w w1:=Tryz.below_atoi (Nat.le_refl _) h1
 clear h1
 go_wp2_with (go_at_call 108;refine(Tryz.within v _ _ _ ?c).mono ?_)
 case c=>exact Tryz.new_cell _ _ _
 rintro e w2 ⟨rfl,rfl⟩
 rw[hv]
 go_wp2_with fail
 go_ret2
 exact⟨rfl,hb1.alloc hb1.size _⟩
set_option maxHeartbeats 1000000 in
set_option maxRecDepth 100000 in
theorem Tryz.number_in(s:ByteArray)(v:Int)(hs:s.size≤9223372036854775806)(h:Lib.atoiAll s.data.toList=.ok v)(hv:Tryz.inB v=true)(w:World)(htab:Lib.TabIs Tryz.prog w "internal/strconv.uint64pow10" .u64 Lib.pow10Tab)(ok:Bool)(hok:decide (Lib.itoa v=s.data.toList)=ok):
  Calls Tryz.prog 82 #[.string s] w fun e w'=>e=.returned (.tuple #[.int .i64 (if ok=true then v else 0),.bool ok])∧Below w.heap.size w w':=by
 have hv':-1048576≤v∧v≤1048576:=of_decide_eq_true hv
 have h4:4<w.heap.size:=by
  unfold Lib.TabIs World.var? at htab
  simp only[show Tryz.prog.globalNamed "internal/strconv.uint64pow10" =some 4 by kernel_rfl,xS]at htab
  split at htab
  ·rename_i hh
   exact(Array.getElem?_eq_some_iff.1 hh).1
  ·cases htab
 go_enter Tryz.func82,Tryz.ntmps82
 go_wp2_with (go_at_call 107;refine(Tryz.strconv_Atoi_ok s hs v h _).mono ?_)
 rintro e w1 ⟨rfl,h1⟩
 have hb1:Below w.heap.size w w1:=Tryz.below_atoi (Nat.le_refl _) h1
 clear h1
 go_wp2_with (go_at_call 108;refine(Tryz.within v _ _ _ ?c).mono ?_)
 case c=>exact Tryz.new_cell _ _ _
 rintro e w2 ⟨rfl,rfl⟩
 rw[hv]
 have hb2:Below w.heap.size w (w1.alloc (.cells #[.int .i64 v] 3)):=hb1.alloc hb1.size _
 have htab2:Lib.TabIs Tryz.prog (w1.alloc (.cells #[.int .i64 v] 3)) "internal/strconv.uint64pow10" .u64 Lib.pow10Tab:=var?_below hb2 (by kernel_rfl) h4 htab
 go_wp2_with (go_at_call 74;refine(Tryz.decimal v (by omega) (by omega) _ htab2).mono ?_)
 rintro e w3 ⟨rfl,hb3⟩
 have hb4:Below w.heap.size w w3:=hb2.trans (hb3.mono hb2.size)
 clear htab2 hb3
 cases ok with
 |true=>
  have e1:Lib.itoa v=s.data.toList:=of_decide_eq_true hok
  have e2:(⟨(Lib.itoa v).toArray⟩:ByteArray)=s:=by rw[e1]
  rw[e2]
  go_wp2_with fail
  go_ret2
  exact⟨rfl,hb4⟩
 |false=>
  have e1:¬Lib.itoa v=s.data.toList:=of_decide_eq_false hok
  have e2:(Lib.itoa v==s.toList)=false:=by
   rw[Lib.toList_data]
   simpa using e1
  go_wp2_with fail
  go_ret2
  exact⟨rfl,hb4⟩
set_option maxHeartbeats 1000000 in
set_option maxRecDepth 100000 in
theorem Tryz.number_syntax(s:ByteArray)(hs:s.size≤281474976710656)(h:Lib.atoiAll s.data.toList=(Lib.atoiAll []))(w:World)(ev:Value)(hv:w.cell? ⟨2,0,none⟩=some ev)(hev:∃te pe,ev=.iface te pe):
  Calls Tryz.prog 82 #[.string s] w fun e w'=>e=.returned (.tuple #[.int .i64 0,.bool false])∧Below w.heap.size w w':=by
 go_enter Tryz.func82,Tryz.ntmps82
 go_wp2_with (go_at_call 107;refine(Tryz.strconv_Atoi_syntax s hs h ev _ hv (.inr hev)).mono ?_)
 rintro e w1 ⟨N,rfl,_,_,hb1⟩
 go_wp2_with fail
 go_ret2
 exact⟨rfl,hb1⟩
set_option maxHeartbeats 1000000 in
set_option maxRecDepth 100000 in
theorem Tryz.number_range(s:ByteArray)(hs:s.size≤281474976710656)(h:Lib.atoiAll s.data.toList=.range)(w:World)(ev:Value)(hv:w.cell? ⟨3,0,none⟩=some ev)(hev:∃te pe,ev=.iface te pe):
  Calls Tryz.prog 82 #[.string s] w fun e w'=>e=.returned (.tuple #[.int .i64 0,.bool false])∧Below w.heap.size w w':=by
 go_enter Tryz.func82,Tryz.ntmps82
 go_wp2_with (go_at_call 107;refine(Tryz.strconv_Atoi_range s hs h ev _ hv (.inr hev)).mono ?_)
 rintro e w1 ⟨N,rfl,_,_,hb1⟩
 go_wp2_with fail
 go_ret2
 exact⟨rfl,hb1⟩
def Tryz.num(s:List UInt8):Int×Bool:=match Lib.atoiAll s with
 | .ok v=>if Tryz.inB v=true∧Lib.itoa v=s then(v,true)else(0,false)
 |_=>(0,false)
theorem Tryz.number(s:ByteArray)(hs:s.size≤281474976710656)(w:World)(htab:Lib.TabIs Tryz.prog w "internal/strconv.uint64pow10" .u64 Lib.pow10Tab)(h2:∃te pe,w.cell? ⟨2,0,none⟩=some (.iface te pe))(h3:∃te pe,w.cell? ⟨3,0,none⟩=some (.iface te pe)):
  Calls Tryz.prog 82 #[.string s] w fun e w'=>e=.returned (.tuple #[.int .i64 (Tryz.num s.data.toList).1,.bool (Tryz.num s.data.toList).2])∧Below w.heap.size w w':=by
 obtain⟨t2,p2,h2⟩:=h2
 obtain⟨t3,p3,h3⟩:=h3
 unfold Tryz.num
 cases h:Lib.atoiAll s.data.toList with
 |ok v=>
  cases hv:Tryz.inB v with
  |false=>
   simp only[hv,xH,false_and,if_false]
   exact Tryz.number_out s v (by omega) h hv w
  |true=>
   by_cases hi:Lib.itoa v=s.data.toList
   ·simp only[hv,hi,and_self,if_true]
    exact Tryz.number_in s v (by omega) h hv w htab true (by simpa using hi)
   ·simp only[hv,hi,and_false,if_false]
    exact Tryz.number_in s v (by omega) h hv w htab false (by simpa using hi)
 |range=>exact Tryz.number_range s hs h w _ h3 ⟨_,_,rfl⟩
 |_=>exact Tryz.number_syntax s hs h w _ h2 ⟨_,_,rfl⟩
end Go.Proofs
namespace Go.Tr7
open Go Go.Am Go.Proofs
theorem decF_eq:∀(k u:Nat),u<10 ^ k→decF k u=Lib.decDigits u∨k=0
 |0,_,_=>.inr rfl
 |k+1,u,h=>by
  refine .inl ?_
  rw[decF,Lib.decDigits]
  by_cases hu:u<10
  ·rw[if_pos hu,dif_pos hu]
  ·rw[if_neg hu,dif_neg hu]
   have h1:u / 10<10 ^ k:=by rw[Nat.pow_succ]at h;omega
   rcases decF_eq k (u / 10) h1 with q |q
   ·rw[q]
   ·subst q
    simp at h1
    omega
theorem decI_eq{n:Int}(h:inR n=true):decI n=Lib.itoa n:=by
 simp only[inR,xA,yD]at h
 unfold decI Lib.itoa
 have e:(10:Nat) ^ 20=100000000000000000000:=by decide
 split
 ·rw[(decF_eq 20 n.natAbs (by rw[e];omega)).resolve_right (by decide)]
 ·rw[(decF_eq 20 n.toNat (by rw[e];omega)).resolve_right (by decide)]
theorem numF_eq(s:List UInt8):numF s=Tryz.num s:=by
 unfold numF Tryz.num
 cases Lib.atoiAll s with
 |ok v=>
  simp only[show inB v=Tryz.inB v from rfl]
  cases hb:Tryz.inB v with
  |false=>simp
  |true=>
   have hr:inR v=true:=by
    have:=of_decide_eq_true hb
    simp only[inR,xA,yD]
    omega
   rw[decI_eq hr]
   by_cases hi:Lib.itoa v=s <;>simp[hi]
 |_=>rfl
structure Vars(G:Nat→Option D):Prop where
 pow:G 4=some (.agg (Lib.pow10Tab.map (D.int .u64)))
 syn:G 2=some .nilf
 rng:G 3=some .nilf
theorem ints_of(c:Cx)(k:IntKind):∀(zs:List Int) (vs:List Value),VCs c (zs.map (D.int k)) vs→vs=zs.map fun z=>Value.int k z
 | [],vs,h=>by simpa [VCs]using h
 |z::zs,vs,h=>by
  simp only[List.map_cons,VCs,VC]at h
  obtain⟨v,r,rfl,h1,h2⟩:=h
  rw[ints_of c k zs r h2]
  simpa using h1
theorem tab_of{G:Nat→Option D}(hv:Vars G){w:World}(c:Cx)(h:GW G w):Lib.TabIs Tryz.prog w "internal/strconv.uint64pow10" .u64 Lib.pow10Tab:=by
 obtain⟨vs,⟨t,fr,h1⟩,h2⟩:=h _ _ hv.pow
 have:=ints_of c .u64 _ _ (h2.1 rfl c)
 subst this
 unfold Lib.TabIs World.var?
 simp only[show Tryz.prog.globalNamed "internal/strconv.uint64pow10" =some 4 by kernel_rfl,xS,h1]
theorem itf_of{G:Nat→Option D}{g:Nat}(hv:G g=some .nilf){w:World}(h:GW G w):∃te pe,w.cell? ⟨g,0,none⟩=some (.iface te pe):=by
 obtain⟨vs,h1,h2⟩:=h _ _ hv
 obtain⟨t,p,rfl⟩:=h2.2 rfl
 have:=h1.cell 0
 exact⟨t,p,by simpa [Addr.add]using this⟩
theorem given_dec{G:Nat→Option D}(hv:Vars G):ExtOK Tryz.prog G 74 extDec:=by
 refine ext_given Tryz.func74 (by kernel_rfl) (by kernel_rfl) (by unfold YB;omega) fun ds rs c args e hG ha=> ?_
 unfold extDec at e
 split at e
 ·rename_i n
  split at e
  ·rename_i hr
   simp only[xJ]at e
   subst e
   simp only[VVs]at ha
   obtain⟨v,r,hargs,h1,h2,rfl⟩:=ha
   have h3:=VV.inv (c:=c) (d:=.int .i64 n) ⟨h1,h2⟩ (by simp)
   simp only[VC,xC,and_true]at h3
   subst h3
   obtain rfl:args= #[.int .i64 n]:=by rw[←Array.toArray_toList (xs:=args),hargs]
   have hr':=hr
   simp only[inR,xA,yD]at hr'
   refine(Tryz.decimal n hr'.1 hr'.2 c.w (tab_of hv c hG)).mono fun en w' he=> ?_
   refine⟨[.str (decI n)],[.string ⟨(Lib.itoa n).toArray⟩],he.1,rfl,fun c=> ?_,he.2⟩
   simp only[VVs]
   exact⟨_,[],rfl,by simp[VC,Value.cells,decI_eq hr],rfl,rfl⟩
  ·cases e
 ·cases e
theorem given_num{G:Nat→Option D}(hv:Vars G):ExtOK Tryz.prog G 82 extNum:=by
 refine ext_given Tryz.func82 (by kernel_rfl) (by kernel_rfl) (by unfold YB;omega) fun ds rs c args e hG ha=> ?_
 unfold extNum at e
 split at e
 ·rename_i s
  split at e
  ·rename_i hr
   simp only[xJ]at e
   subst e
   simp only[VVs]at ha
   obtain⟨v,r,hargs,h1,h2,rfl⟩:=ha
   have h3:=VV.inv (c:=c) (d:=.str s) ⟨h1,h2⟩ (by simp)
   simp only[VC,xC,and_true]at h3
   obtain⟨b,rfl,rfl⟩:=h3
   obtain rfl:args= #[.string b]:=by rw[←Array.toArray_toList (xs:=args),hargs]
   have hsz:b.size≤281474976710656:=by
    have:=of_decide_eq_true hr
    rw[Lib.size_eq b]
    omega
   refine(Tryz.number b hsz c.w (tab_of hv c hG) (itf_of hv.syn hG) (itf_of hv.rng hG)).mono fun en w' he=> ?_
   refine⟨[.int .i64 (numF b.data.toList).1,.bool (numF b.data.toList).2],[.int .i64 (Tryz.num b.data.toList).1,.bool (Tryz.num b.data.toList).2],he.1,rfl,fun c=> ?_,he.2⟩
   simp only[VVs,numF_eq]
   exact⟨_,_,rfl,by simp[VC,Value.cells],rfl,_,[],rfl,by simp[VC,Value.cells],rfl,rfl⟩
  ·cases e
 ·cases e
end Go.Tr7
