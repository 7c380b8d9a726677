/- A part of the proof: texts of mine, merged by a program (wip/dev/merge.py). -/
import Derived.Test.YteeabnledfmpjaaGreatDoorFn9
set_option linter.unusedSimpArgs false
set_option linter.unusedVariables false
namespace Go.Etx
open Go Go.Am Go.Proofs
set_option maxHeartbeats 4000000
set_option maxRecDepth 20000
section
attribute [-simp] List.map_append List.map_take List.map_drop List.map_set
section
variable{ρ:Type}
abbrev Aj(v:cw)(κ:KT ρ)(p:Int×J Int):U ρ:=κ ([.d (.int .i64 p.1)],HV v p.2)
abbrev stp(b a:Int):J D:=[.ptr 1,.agg [.int .i64 b,.int .i64 a],.fn (.func 155) [] [.ptr 2,.ptr 0],.fn (.func 157) [] []]
def UV(m:Nat)(st:J Int)(r:Int×Int):Int×J Int:=if r.2≠0 then(r.2,st)else(if 12<st.length - m+1 then 12 else 0,st.take (st.length - m)++[r.1])
theorem H9(x:Int):D.bl (uG x)=uG x:=by
 unfold uG
 repeat (first |rfl |split)
theorem vop(d x:Int)(v:cw)(st:J Int)(y:st.length<=12)(m:Nat)(A:1<=m)(z:m<=2)(hP:opP d=(m:Int))(hx:9<=d/\d<=19)(hl:m<=st.length)(a b:Int)(h0:(List.drop (st.length - m) st)[0]? =some a)(h1:(List.drop (st.length - m) st)[(List.drop (st.length - m) st).length - 1]? =some b)(κ:KT ρ):
   cbK (call 187 (stp d x) (HV v st)) κ=Aj v κ (UV m st (s6 d a b)):=by
 refine(xh _ _ _ rfl).trans ?_
 have i:opH d=true:=ld.2 hx;have k:¬d=3:=by omega
 have w:¬d<=8:=by omega
 have p:¬(m:Int)<0:=by omega
 have l:¬(st.length:Int)<(m:Int):=by omega
 have q:IntKind.i64.wrap ((st.length:Int) - (m:Int))=((st.length - m:Nat):Int):=HD hl (by omega)
 have s:(0:Int)<=((st.length - m:Nat):Int):=by omega
 have t:((st.length - m:Nat):Int)<=(st.length:Int):=by omega
 have q3:st.length<=1000+(st.length - m):=by omega
 have j:(st.length - m+1) * 8<=140737488355328:=by omega
 have u:st.length<=9223372036854775806+m:=by omega
 have o:st.length - (st.length - m)=m:=by omega
 have q4:m<=1000:=by omega
 have g:List.take m (List.drop (st.length - m) st)=List.drop (st.length - m) st:=gr (by simp;omega)
 have h:¬12<st.length - m+1:=by omega
 have f:¬(12:Int)<((st.length - m:Nat):Int)+1:=by omega
 have e:=λc κ=>ara (ρ:=ρ) c d hx a b _ h0 h1 (by simp;omega) .lock .lock κ
 simp only[HO,hP]at e
 generalize s6 d a b=r at e |-
 unfold UV
 by_cases n:r.2=0
 .simp -implicitDefEqProofs (maxSteps:=1000000) [go_sem,HV,jb,i,hP,k,w,p,l,q,s,t,q3,j,u,o,g,q4,H9,e,n,h,f,jg,Aj]
 .simp -implicitDefEqProofs (maxSteps:=1000000) [go_sem,HV,jb,i,hP,k,w,p,l,q,s,t,q3,j,u,o,g,q4,H9,e,n,h,f,jg,Aj]
theorem Qq{x:aF}{v:cw}{st:J Int}(h:eW x.Op=0):qP x v st=qO x v:=by
 grind [qP,eW]
theorem Ia{x:aF}{v:cw}{st:J Int}{n:Nat}(ht:eW x.Op=(n:Int))(hn:n<=st.length):stepV x v st=UV n st (qP x v st):=by
 grind [stepV,UV]
theorem agF(d j:Int)(M:j<=9223372036854775807)(v:cw)(st:J Int)(F:st.length<=12)(N:∀k∈st,okI k)(κ:KT ρ):cbK (call 187 (stp d j) (HV v st)) κ=Aj v κ (stepV ⟨d,j⟩ v st):=by
 have B:∀n:Nat,n<=st.length->n<=2->IntKind.i64.wrap ((st.length:Int) - (n:Int))=((st.length - n:Nat):Int):=λn G S=>HD G (by omega)
 obtain⟨h,q⟩ |⟨h,q⟩ |⟨h,q⟩ |⟨h,q⟩:=mA d
 ·-- none
  refine(xh _ _ _ rfl).trans ?_
  have m:¬opH d=true:=λO=>by grind [ld]
  have o:¬d=3:=by omega
  have f:stepV ⟨d,j⟩ v st=(3,st):=by unfold stepV;rw[h,if_pos (by omega)]
  rw[f]
  by_cases x:1<=d
  .have s:¬d<=8:=by omega
   simp -implicitDefEqProofs (maxSteps:=1000000) [go_sem,HV,jb,m,o,x,s,Aj]
  .simp -implicitDefEqProofs (maxSteps:=1000000) [go_sem,HV,jb,m,o,x,Aj]
 ·-- a leaf
  refine(xh _ _ _ rfl).trans ?_
  have m:¬opH d=true:=λO=>by grind [ld]
  have l:opH d=false:=by simpa using m
  have o:¬d=3:=by omega
  have x:1<=d:=q.1;have s:d<=8:=q.2.1;have C:=B 0 (eD _) (by omega)
  have u:IntKind.i64.wrap ((st.length:Int))=(st.length:Int):=by simpa using C
  have c:=λκ=>agD (ρ:=ρ) d j M v st h κ
  simp only[HV,D8]at c
  have z:¬(st.length:Int)<0:=by omega
  have w:(st.length+1) * 8<=140737488355328:=by omega
  have A:st.length<=9223372036854775806:=by omega
  rw[Ia (n:=0) h (eD _),Qq h];generalize qO ⟨d,j⟩ v=r at c |-
  unfold UV
  by_cases y:r.2=0
  .by_cases p:12<st.length+1
   .have g:(12:Int)<(st.length:Int)+1:=by omega
    simp -implicitDefEqProofs (maxSteps:=1000000) [go_sem,HV,jb,m,l,o,x,s,u,c,jg,z,w,A,y,p,g,Aj]
   .have g:¬(12:Int)<(st.length:Int)+1:=by omega
    simp -implicitDefEqProofs (maxSteps:=1000000) [go_sem,HV,jb,m,l,o,x,s,u,c,jg,z,w,A,y,p,g,Aj]
  .simp -implicitDefEqProofs (maxSteps:=1000000) [go_sem,HV,jb,m,l,o,x,s,u,c,jg,z,w,A,y,Aj]
 .by_cases D:st.length<1
  .refine(xh _ _ _ rfl).trans ?_
   have f:stepV ⟨d,j⟩ v st=(4,st):=by unfold stepV;rw[h,if_neg (by omega),if_pos (by omega)]
   have i:(st.length:Int)<1:=by omega
   rw[f]
   obtain q |q:=q
   .simp -implicitDefEqProofs (maxSteps:=1000000) [go_sem,HV,jb,q,i,Aj]
   .have m:opH d=true:=ld.2 (by omega)
    have o:¬d=3:=by omega
    have s:¬d<=8:=by omega
    have hP:opP d=1:=by rw[vC (by omega),if_pos (by omega)]
    simp -implicitDefEqProofs (maxSteps:=1000000) [go_sem,HV,jb,m,hP,o,s,i,Aj]
  have L:st≠[]:=λe=>by grind
  obtain⟨k,hk⟩:∃k,st.getLast? =some k:=by cases e:st.getLast? with |none=>grind |some k=>exact⟨k,rfl⟩
  rw[Ia (n:=1) h (by omega)]
  obtain q |q:=q
  .refine(xh _ _ _ rfl).trans ?_
   subst q;have z:¬(st.length:Int)<1:=by omega
   have C:IntKind.i64.wrap ((st.length:Int) - 1)=((st.length - 1:Nat):Int):=B 1 (by omega) (by omega)
   have I:(0:Int)<=((st.length - 1:Nat):Int):=by omega
   have K:((st.length - 1:Nat):Int)<=(st.length:Int):=by omega
   have q3:st.length<=1000+(st.length - 1):=by omega
   have w:(st.length - 1+1) * 8<=140737488355328:=by omega
   have A:st.length<=9223372036854775806+1:=by omega
   have b3:st.length<=9223372036854775807:=by omega
   have H:st.length - (st.length - 1)=1:=by omega
   have l:opH 3=false:=rfl;have t:qP ⟨3,j⟩ v st=HS ⟨3,j⟩ k v:=by unfold qP;rw[if_pos rfl,hk]
   have c:=λκ=>agE (ρ:=ρ) j k v st F hk (N k (List.mem_of_getLast? hk)) κ
   simp only[HV,D8]at c
   rw[t];generalize HS ⟨3,j⟩ k v=r at c |-
   unfold UV;have p:¬12<st.length - 1+1:=by omega
   have g:¬(12:Int)<((st.length - 1:Nat):Int)+1:=by omega
   by_cases y:r.2=0
   .simp -implicitDefEqProofs (maxSteps:=1000000) [go_sem,HV,jb,l,C,I,K,q3,c,jg,z,w,A,b3,H,y,p,g,Aj]
   .simp -implicitDefEqProofs (maxSteps:=1000000) [go_sem,HV,jb,l,C,I,K,q3,c,jg,z,w,A,b3,H,y,Aj]
  .have E:List.drop (st.length - 1) st=[k]:=by
    obtain⟨R,e⟩:=List.getLast?_eq_some_iff.1 hk;rw[e];simp
   have G:qP ⟨d,j⟩ v st=s6 d k k:=by
    unfold qP;rw[if_neg (by grind),if_neg (by grind),show(eW d).toNat=1 by rw[h];rfl,E]
    rfl
   grind [vop,vC]
 .have m:opH d=true:=ld.2 (by omega)
  have o:¬d=3:=by omega
  have s:¬d<=8:=by omega
  have hP:opP d=2:=by rw[vC (by omega),if_neg (by omega)]
  by_cases D:st.length<2
  .refine(xh _ _ _ rfl).trans ?_
   have f:stepV ⟨d,j⟩ v st=(4,st):=by unfold stepV;rw[h,if_neg (by omega),if_pos (by omega)]
   have i:(st.length:Int)<2:=by omega
   rw[f]
   simp -implicitDefEqProofs (maxSteps:=1000000) [go_sem,HV,jb,m,hP,o,s,i,Aj]
  rw[Ia (n:=2) h (by omega)]
  obtain⟨a,b,Q⟩:∃a b,List.drop (st.length - 2) st=[a,b]:=by
   have P:(List.drop (st.length - 2) st).length=2:=by simp;omega
   exact match List.drop (st.length - 2) st,P with | [a,b],_=>⟨a,b,rfl⟩
  grind [qP,vop]
end
structure EnvOK(v:cw):Prop where
 vars:∀l∈v.aq,∀y∈l,okI y
 lens:∀y∈v.Lens,okI y
 locs:∀y∈v.bB,okI y
 cu:∀l∈v.At,∀y∈l,okI y
 self:okI v.Self
theorem CV:okI 0:=⟨by decide,by decide⟩
theorem RX{n:Int}(h:qM n=true):okI n:=by have:=oD.1 h;exact⟨by omega,by omega⟩
theorem LW{l:J Int}(h:∀y∈l,okI y)(n:Int):okI (atK l n).1:=by
 grind [atK,CV]
theorem Ot{l:J (J Int)}{n:Int}{r:J Int}(h:Oh l n=some r):r∈l:=by
 grind [Oh]
theorem ZJ{v:cw}(hv:EnvOK v)(x:aF):okI (qO x v).1:=by
 unfold qO;split
 .grind [RX,CV]
 split
 .cases e:Oh v.aq x.N with
  |none=>exact CV
  |some l=>exact LW (hv.vars l (Ot e)) 0
 split
 .exact LW hv.locs _
 split
 .exact hv.self
 split
 .exact LW hv.lens _
 split
 .split
  .cases e:v.At[(Int.tdiv x.N 16).toNat]? with
   |none=>exact CV
   |some l=>exact LW (hv.cu l (yS e)) _
  .exact CV
 .exact CV
theorem ZK{v:cw}(hv:EnvOK v)(x:aF)(k:Int):okI (HS x k v).1:=by
 unfold HS
 cases e:Oh v.aq x.N with
 |none=>exact CV
 |some l=>
  simp only
  split
  .cases a:l[(k - 1).toNat]? with
   |none=>exact CV
   |some y=>exact hv.vars l (Ot e) y (yS a)
  .exact CV
theorem abm(a b n:Int):okI (tU a b n).1:=by
 grind [tU,RX,CV]
theorem abn(b:Bool):okI (Ag b).1:=by cases b <;>exact⟨by decide,by decide⟩
theorem abo(op a b:Int):okI (s6 op a b).1:=by
 unfold s6
 repeat (first |exact abn _ |exact abm _ _ _ |split)
theorem ZL{v:cw}(hv:EnvOK v)(x:aF)(st:J Int):okI (qP x v st).1:=by
 grind [qP,CV,ZK,ZJ,abo]
theorem ZM{v:cw}(hv:EnvOK v)(x:aF){st:J Int}(h:∀k∈st,okI k):∀k∈(stepV x v st).2,okI k:=by
 grind [stepV,ZL]
theorem JJ{x:aF}{v:cw}{st:J Int}(h:st.length<=12)(h0:(stepV x v st).1=0):(stepV x v st).2.length<=12/\0<(stepV x v st).2.length:=by
 grind [stepV]
theorem Ou{v:cw}:∀{e:J aF} {st:J Int},st.length<=12->(qQ v e st).1=0->(qQ v e st).2.length<=12/\(e≠[]->0<(qQ v e st).2.length)
 | [],st,h,_=>⟨h,λq=>absurd rfl q⟩
 |x::r,st,h,a=>by
  unfold qQ at a |-
  by_cases b:(stepV x v st).1=0
  .rw[if_pos b]at a |-
   have c:=JJ h b
   have:=Ou c.1 a
   refine⟨this.1,λ_=> ?_⟩
   cases r with
   |cons y r=>grind
   |nil=>grind [qQ]
  grind
section
variable{ρ:Type}
def ES(e:J aF)(v:cw)(i:Nat)(st:J Int):St:=⟨[(0,.d (.ptr (1))),(2,.d (.fn (Fn.func 155) [] [.ptr (2),.ptr (0)])),(3,.d (.fn (Fn.func 157) [] [])),(25,.d (.sl true (List.map eH e))),(26,.d (.int .i64 e.length)),(27,.d (.int .i64 i))],[],HV v st⟩
def EX(e:J aF)(v:cw)(st:J Int):St:=⟨[(0,.d (.ptr (1))),(2,.d (.fn (Fn.func 155) [] [.ptr (2),.ptr (0)])),(3,.d (.fn (Fn.func 157) [] [])),(25,.d (.sl true (List.map eH e))),(26,.d (.int .i64 e.length)),(27,.d (.int .i64 e.length)),(28,.d (.bool false))],[],HV v st⟩
def ER(v:cw)(p:Int×J Int):Ex×St:=(.ret,⟨[(8,.d (.int .i64 0)),(9,.d (.int .i64 p.1))],[],HV v p.2⟩)
theorem abp(e:J aF)(v:cw)(st:J Int)(a:st.length<=12)(g:∀k∈st,okI k)(i:Nat)(hi:i<e.length)(f:e[i].N<=9223372036854775807)(d:e.length<=24)(κ:Ex×St->U ρ):dG P hints jx Hu 0 (ES e v i st) κ=
  if(stepV e[i] v st).1=0 then dG P hints jx Hu 0 (ES e v (i+1) (stepV e[i] v st).2) κ else κ (ER v (stepV e[i] v st)):=by
 refine(ap Lt.2).trans ?_
 have b:IntKind.i64.wrap ((i:Int)+1)=(i:Int)+1:=dC (by omega) (by omega)
 have K!:=λκ=>agF (ρ:=ρ) e[i].Op e[i].N f v st a g κ
 simp only[stp,Aj,HV]at K!
 by_cases c:(stepV e[i] v st).1=0
 .simp -implicitDefEqProofs (maxSteps:=1000000) [go_sem,ES,HV,ER,hi,b,K!,c]
 .simp -implicitDefEqProofs (maxSteps:=1000000) [go_sem,ES,HV,ER,hi,b,K!,c]
theorem abq(e:J aF)(v:cw)(st:J Int)(κ:Ex×St->U ρ):dG P hints jx Hu 0 (ES e v e.length st) κ=κ (.exit 1,EX e v st):=by
 refine(ap Lt.2).trans ?_
 simp -implicitDefEqProofs (maxSteps:=1000000) [go_sem,ES,EX,HV]
theorem abr(e:J aF)(v:cw)(hv:EnvOK v)(b:∀x∈e,x.N<=9223372036854775807)(a:e.length<=24)(κ:Ex×St->U ρ):∀(n i:Nat) (st:J Int),i+n=e.length->st.length<=12->(∀k∈st,okI k)->dG P hints jx Hu 0 (ES e v i st) κ=
  if(qQ v (e.drop i) st).1=0 then κ (.exit 1,EX e v (qQ v (e.drop i) st).2)else κ (ER v (qQ v (e.drop i) st)):=by
 intro n
 induction n with
 |zero=>
  grind [abq,qQ]
 |succ n c=>
  grind [abp,xW,qQ,JJ,ZM]
set_option maxHeartbeats 8000000 in
theorem agG(e:J aF)(v:cw)(hv:EnvOK v)(l:∀x∈e,x.N<=9223372036854775807)(κ:KT ρ):
  cbK (call 118 [.sl true (List.map eH e),.agg [.sl true (List.map (fH true) v.aq),.sl true (List.map eI v.Lens),.sl true (List.map eI v.bB),.sl true (List.map (fH true) v.At),.int .i64 v.Self]] []) κ=κ ([.d (.int .i64 (iM e v).1),.d (.int .i64 (iM e v).2)],[]):=by
 refine(ak7 _ _ _ rfl).trans ?_
 unfold iM
 by_cases h24:24<e.length
 .have b:(24:Int)<(e.length:Int):=by omega
  rw[if_pos h24]
  simp -implicitDefEqProofs (maxSteps:=1000000) [go_sem,xf,xg,xi,b]
 rw[if_neg h24];have b:¬(24:Int)<(e.length:Int):=by omega
 by_cases c:e=[]
 .rw[if_pos c]
  subst c
  simp -implicitDefEqProofs (maxSteps:=1000000) [go_sem,xf,xg,xi]
 rw[if_neg c];have g:=λκ=>abr (ρ:=ρ) e v hv l (by omega) κ _ 0 [] (fp _) (by simp) (by simp)
 simp only[ez,i6,iY,ES,EX,ER,HV]at g
 by_cases f:(qQ v e []).1=0
 .have h:=Ou (v:=v) (e:=e) (st:=[]) (by simp) f
  have j:=h.2 c
  by_cases i:1<(qQ v e []).2.length
  .have d:(1:Int)<((qQ v e []).2.length:Int):=by omega
   simp -implicitDefEqProofs (maxSteps:=1000000) [go_sem,xf,xg,xi,b,c,g,f,i,d]
  .have d:¬(1:Int)<((qQ v e []).2.length:Int):=by omega
   obtain⟨a,k⟩:∃a,(qQ v e []).2=[a]:=List.length_eq_one_iff.1 (by omega)
   simp -implicitDefEqProofs (maxSteps:=1000000) [go_sem,xf,xg,xi,b,c,g,f,i,d,k]
 .simp -implicitDefEqProofs (maxSteps:=1000000) [go_sem,xf,xg,xi,b,c,g,f]
end
@[go_sem] theorem arb{l:J D}:D.sv1 (.bQ l)=some (.d (.bQ l)):=rfl
def tt(A:J (J Int)):J T:=A.map λl=>.own (tl eI l)
theorem LY:tt []=[]:=rfl
theorem arc{A:J (J Int)}:dW 1 (tt A)=true:=by simp[tt,dW,T.nc]
theorem abs{A:J (J Int)}:List.take A.length (tt A)=tt A:=gr (by simp[tt])
theorem abt{A:J (J Int)}{l:J Int}:tt A++[.own (tl eI l)]=tt (A++[l]):=by grind [tt]
theorem agH{A:J (J Int)}:(tt A).length=A.length:=by simp[tt]
theorem ard{A:J (J Int)}{p:Nat}(h:p<(tt A).length):(tt A)[p]=.own (tl eI (A[p]'(by simpa [tt]using h))):=by simp[tt]
theorem agI{A:J (J Int)}{i:Nat}{l:J Int}:(tt A).set i (.own (tl eI l))=tt (A.set i l):=by simp[tt,BR]
theorem agJ{A:J (J Int)}{b:Bool}:T.aY b (tt A)=some (List.map (fH b) A):=by
 induction A with
 |nil=>rfl
 |cons a A c=>
  have h:T.cP b (.own (tl eI a))=some (fH b a):=by simp -implicitDefEqProofs [go_sem]
  grind [tt,T.aY]
attribute [go_sem] agJ arc abs ard abt agH agI
section
variable{ρ:Type}(m:ae)(x:bO)(is:J aE)(rs:J bc)(i:Nat)(s:J Int)
def WD:J D:=[.sl true (List.map dz m.aa),.sl true (List.map dH m.aq),.sl true (List.map dM m.ah),.sl true (List.map (dI true) m.ak),.sl true (List.map (e9 true) m.aL),.sl true (List.map eI x.aq),.sl true (List.map eI x.ah),.sl true (List.map eI x.Insts),.int .i64 x.Cells,.sl true (List.map eI x.Lo),.sl true (List.map eI x.Hi),.sl true (List.map gU is),.sl true (List.map uF rs)]
def TD:D:=.bQ [.bQ (WD m x is rs),.int .i64 i,.sl true (List.map eI s)]
def qR(V:J (J Int))(L:J Int)(A:J (J Int)):(Nat×Nat)×T:=((3,0),.own [.agg [.own (tl (fH true) V),.own (tl eI L),.own [],.own (tt A),.d (.int .i64 0)]])
def qS:(Nat×Nat)×T:=((2,0),.own [.agg [.own [],.own [],.own [],.own [],.d (.int .i64 0)]])
def qT(r:J (Nat×SV)):J (Nat×SV):=(0,.d (TD m x is rs i s))::(2,.loc (.l 2 0) [] 0 0)::(3,.loc (.l 3 0) [] 0 0)::r
def LZ(k:Nat)(V:J (J Int)):St:=⟨qT m x is rs i s [(22,.d (.sl true (List.map dH m.aq))),(23,.d (.int .i64 m.aq.length)),(24,.d (.int .i64 k))],[qS,qR V [] []],[]⟩
def L4(k:Nat)(V:J (J Int))(L:J Int):St:=⟨qT m x is rs i s [(71,.d (.sl true (List.map eI x.ah))),(72,.d (.int .i64 x.ah.length)),(73,.d (.int .i64 k))],[qS,qR V L []],[]⟩
def L5(k:Nat)(V:J (J Int))(L:J Int)(A:J (J Int)):St:=⟨qT m x is rs i s [(97,.d (.sl true (List.map (dI true) m.ak))),(98,.d (.int .i64 m.ak.length)),(99,.d (.int .i64 k))],[qS,qR V L A],[]⟩
def L6(k:Nat)(V:J (J Int))(L:J Int)(A:J (J Int)):St:=⟨qT m x is rs i s [(118,.d (.sl true (List.map gU is))),(119,.d (.int .i64 is.length)),(120,.d (.int .i64 k))],[qS,qR V L A],[]⟩
theorem ZN(V:J (J Int))(L:J Int)(k:Nat)(hk:k<x.ah.length)(hl:x.ah.length<=1000)(a:Nat)(ha:x.ah[k]=(a:Int))(c:a<s.length)(f:L.length<=1000)(κ:Ex×St->U ρ):
  dG P hints eA kD 1 (L4 m x is rs i s k V L) κ=dG P hints eA kD 1 (L4 m x is rs i s (k+1) V (L++[s[a]])) κ:=by
 refine(ap Xv.2).trans ?_
 have b:IntKind.i64.wrap ((k:Int)+1)=(k:Int)+1:=dC (by omega) (by omega)
 have e:(L.length+1) * 8<=140737488355328:=by omega
 have d:L.length<=9223372036854775806:=by omega
 simp -implicitDefEqProofs (maxSteps:=1000000) [go_sem,L4,qT,qR,qS,TD,WD,hk,b,ha,c,e,d]
theorem ZO(V:J (J Int))(L:J Int)(A:J (J Int))(k:Nat)(hk:k<m.ak.length)(hl:m.ak.length<=1000)(h0:0<=m.ak[k].bE)(h1:m.ak[k].bE<=1000)(d:A.length<=1000)(κ:Ex×St->U ρ):
  dG P hints eA kD 2 (L5 m x is rs i s k V L A) κ=dG P hints eA kD 2 (L5 m x is rs i s (k+1) V L (A++[List.replicate m.ak[k].bE.toNat 0])) κ:=by
 refine(ap Xw.2).trans ?_
 have a:IntKind.i64.wrap ((k:Int)+1)=(k:Int)+1:=dC (by omega) (by omega)
 have c:(A.length+1) * 24<=140737488355328:=by omega
 have b:A.length<=9223372036854775806:=by omega
 have b3:8 * m.ak[k].bE<=281474976710656:=by omega
 have b4:m.ak[k].bE<=9223372036854775807:=by omega
 simp -implicitDefEqProofs (maxSteps:=1000000) [go_sem,L5,qT,qR,qS,TD,WD,hk,a,h0,h1,c,b,b3,b4]
theorem ZP(V:J (J Int))(L:J Int)(A:J (J Int))(k:Nat)(hk:k<is.length)(hl:is.length<=1000)(p:Nat)(hp:is[k].cr=(p:Int))(b:p<A.length)(e:k<x.Insts.length)(a:Nat)(ha:x.Insts[k]=(a:Int))(f:a<s.length)(q:Nat)(g:s[a]=(q:Int))(d:q<A[p].length)(l:0<=A[p][q])(j:A[p][q]<=1000)(κ:Ex×St->U ρ):
  dG P hints eA kD 3 (L6 m x is rs i s k V L A) κ=dG P hints eA kD 3 (L6 m x is rs i s (k+1) V L (A.set p (A[p].set q (A[p][q]+1)))) κ:=by
 refine(ap Xx.2).trans ?_
 have h:IntKind.i64.wrap ((k:Int)+1)=(k:Int)+1:=dC (by omega) (by omega)
 have c:IntKind.i64.wrap (A[p][q]+1)=A[p][q]+1:=dC (by omega) (by omega)
 simp -implicitDefEqProofs (maxSteps:=1000000) [go_sem,L6,qT,qR,qS,TD,WD,hk,h,hp,b,e,ha,f,g,d,c]
theorem ZQ(c:m.aa.length<=1000)(V:J (J Int))(k:Nat)(hk:k<m.aq.length)(hl:m.aq.length<=1000)(hx:k<x.aq.length)(a:Nat)(ha:x.aq[k]=(a:Int))(n:Nat)(hn:dO m m.aq[k]=(n:Int))(q:a+n<=s.length)(o:s.length<=1000)(p:V.length<=1000)(κ:Ex×St->U ρ):
  dG P hints eA kD 0 (LZ m x is rs i s k V) κ=dG P hints eA kD 0 (LZ m x is rs i s (k+1) (V++[lK s a n])) κ:=by
 refine(ap Xu.2).trans ?_
 have f:IntKind.i64.wrap ((k:Int)+1)=(k:Int)+1:=dC (by omega) (by omega)
 have d:(V.length+1) * 24<=140737488355328:=by omega
 have l:V.length<=9223372036854775806:=by omega
 have b:∀g:Int->U ρ,jz m.aq[k] m.aa g=g (n:Int):=λg=>by rw[By c,<-hn];rfl
 have e:IntKind.i64.wrap ((a:Int)+(n:Int))=(a:Int)+(n:Int):=dC (by omega) (by omega)
 have h:(0:Int)<=(a:Int)+(n:Int):=by omega
 have j:a<=((a:Int)+(n:Int)).toNat:=by omega
 have q3:(a:Int)+(n:Int)<=(s.length:Int):=by omega
 have q4:((a:Int)+(n:Int)).toNat - a=n:=by omega
 have q5:¬((a:Int)+(n:Int)<(a:Int)):=by omega
 simp -implicitDefEqProofs (maxSteps:=1000000) [go_sem,LZ,qT,qR,qS,TD,WD,hk,f,hx,ha,b,e,h,j,q3,q4,q5,d,l,lK]
def Ov(V:J (J Int)):St:=⟨qT m x is rs i s [(22,.d (.sl true (List.map dH m.aq))),(23,.d (.int .i64 m.aq.length)),(24,.d (.int .i64 m.aq.length)),(25,.d (.bool false))],[qS,qR V [] []],[]⟩
def Ow(V:J (J Int))(L:J Int):St:=⟨qT m x is rs i s [(71,.d (.sl true (List.map eI x.ah))),(72,.d (.int .i64 x.ah.length)),(73,.d (.int .i64 x.ah.length)),(74,.d (.bool false))],[qS,qR V L []],[]⟩
def Ox(V:J (J Int))(L:J Int)(A:J (J Int)):St:=⟨qT m x is rs i s [(97,.d (.sl true (List.map (dI true) m.ak))),(98,.d (.int .i64 m.ak.length)),(99,.d (.int .i64 m.ak.length)),(100,.d (.bool false))],[qS,qR V L A],[]⟩
def Oy(V:J (J Int))(L:J Int)(A:J (J Int)):St:=⟨qT m x is rs i s [(118,.d (.sl true (List.map gU is))),(119,.d (.int .i64 is.length)),(120,.d (.int .i64 is.length)),(121,.d (.bool false))],[qS,qR V L A],[]⟩
theorem ZR(V:J (J Int))(κ:Ex×St->U ρ):dG P hints eA kD 0 (LZ m x is rs i s m.aq.length V) κ=κ (.exit 0,Ov m x is rs i s V):=by
 refine(ap Xu.2).trans ?_
 simp -implicitDefEqProofs (maxSteps:=1000000) [go_sem,LZ,Ov,qT,qR,qS,TD]
theorem ZS(V:J (J Int))(L:J Int)(κ:Ex×St->U ρ):dG P hints eA kD 1 (L4 m x is rs i s x.ah.length V L) κ=κ (.exit 2,Ow m x is rs i s V L):=by
 refine(ap Xv.2).trans ?_
 simp -implicitDefEqProofs (maxSteps:=1000000) [go_sem,L4,Ow,qT,qR,qS,TD]
theorem ZT(V:J (J Int))(L:J Int)(A:J (J Int))(κ:Ex×St->U ρ):dG P hints eA kD 2 (L5 m x is rs i s m.ak.length V L A) κ=κ (.exit 4,Ox m x is rs i s V L A):=by
 refine(ap Xw.2).trans ?_
 simp -implicitDefEqProofs (maxSteps:=1000000) [go_sem,L5,Ox,qT,qR,qS,TD]
theorem ZU(V:J (J Int))(L:J Int)(A:J (J Int))(κ:Ex×St->U ρ):dG P hints eA kD 3 (L6 m x is rs i s is.length V L A) κ=κ (.exit 6,Oy m x is rs i s V L A):=by
 refine(ap Xx.2).trans ?_
 simp -implicitDefEqProofs (maxSteps:=1000000) [go_sem,L6,Oy,qT,qR,qS,TD]
theorem arf(V:J (J Int))(L:J Int)(A e:J (J Int))
  (h0:∀κ:Ex×St->U ρ,dG P hints eA kD 0 (LZ m x is rs i s 0 []) κ=κ (.exit 0,Ov m x is rs i s V))
  (h1:∀κ:Ex×St->U ρ,dG P hints eA kD 1 (L4 m x is rs i s 0 V []) κ=κ (.exit 2,Ow m x is rs i s V L))
  (h2:∀κ:Ex×St->U ρ,dG P hints eA kD 2 (L5 m x is rs i s 0 V L []) κ=κ (.exit 4,Ox m x is rs i s V L A))
  (h3:∀κ:Ex×St->U ρ,dG P hints eA kD 3 (L6 m x is rs i s 0 V L A) κ=κ (.exit 6,Oy m x is rs i s V L e)) 
  (hi:i<is.length) (p:Nat) (hp:is[i].cr=(p:Int)) (b:p<m.ak.length) (c:i<x.Insts.length) (a:Nat) (ha:x.Insts[i]=(a:Int)) (g:a+1+m.ak[p].aq.length<=s.length) (d:s.length<=1000) (κ:KT ρ):
  cbK (call 119 [TD m x is rs i s] []) κ=κ ([.d (afq true ⟨V,L,lK s (a+1) m.ak[p].aq.length,e,is[i].Elem⟩)],[]):=by
 simp only[LZ,Ov,qT,qR,qS,TD,WD,iY,LY,ez]at h0
 simp only[L4,Ow,qT,qR,qS,TD,WD,iY,LY,ez]at h1
 simp only[L5,Ox,qT,qR,qS,TD,WD,iY,LY,ez]at h2
 simp only[L6,Oy,qT,qR,qS,TD,WD,iY,LY,ez]at h3
 simp only[TD,WD]
 refine(ak9 _ _ _ rfl).trans ?_
 have f:IntKind.i64.wrap ((a:Int)+1)=(a:Int)+1:=dC (by omega) (by omega)
 have h:IntKind.i64.wrap ((a:Int)+1+(m.ak[p].aq.length:Int))=(a:Int)+1+(m.ak[p].aq.length:Int):=dC (by omega) (by omega)
 have l:(0:Int)<=(a:Int)+1:=by omega
 have j:(0:Int)<=(a:Int)+1+(m.ak[p].aq.length:Int):=by omega
 have k:a+1<=((a:Int)+1+(m.ak[p].aq.length:Int)).toNat:=by omega
 have q3:(a:Int)+1+(m.ak[p].aq.length:Int)<=(s.length:Int):=by omega
 have q4:((a:Int)+1+(m.ak[p].aq.length:Int)).toNat - (a+1)=m.ak[p].aq.length:=by omega
 have q5:¬((a:Int)+1+(m.ak[p].aq.length:Int)<(a:Int)+1):=by omega
 simp -implicitDefEqProofs (maxSteps:=1000000) [go_sem,h0,h1,h2,h3,hi,hp,b,c,ha,g,d,f,h,l,j,k,q3,q4,q5,lK]
end
end
section
theorem DT{a:Type}{F:Nat->a}{n:Nat}{z:a}(h:∀k,k<n->F k=F (k+1))(hn:F n=z):F 0=z:=by
 have:∀d k,k+d=n->F k=z:=λd=>by
  induction d with
  |zero=>grind
  |succ d b=>grind
 simp_all
theorem take_snoc{a:Type}{l:J a}{k:Nat}(h:k<l.length):l.take (k+1)=l.take k++[l[k]]:=by grind [List.take_add_one]
variable{m:ae}{s:J Int}
def mE(m:ae)(s:J Int)(k:Nat):J (J Int):=m.ak.zipIdx.map λ(p,j)=>(List.range p.bE.toNat).map λ(l:Nat)=>(((((dy m).zip (iAt m)).take k).countP λ(x,a)=>decide (x.cr=(j:Int))&&decide (s.getD a 0=(l:Int)):Nat):Int)
theorem agK:mE m s 0=m.ak.map λp=>List.replicate p.bE.toNat 0:=by
 refine List.ext_getElem (by simp[mE]) λj a b=> ?_
 simp only[mE,List.getElem_map,List.getElem_zipIdx];refine List.ext_getElem (by simp) λl h3 h4=> ?_
 simp
theorem ZV{n:Nat}(h:((dy m).zip (iAt m)).length<=n):mE m s n=(m.ak.zipIdx).map λ(p,i)=>aa3 m s i p:=by
 simp only[mE,gr h];rfl
theorem ZW{k:Nat}:(mE m s k).length=m.ak.length:=by simp[mE]
theorem L7{k j:Nat}(h:j<(mE m s k).length)(b:j<m.ak.length):(mE m s k)[j]=(List.range m.ak[j].bE.toNat).map λ(l:Nat)=>(((((dy m).zip (iAt m)).take k).countP λ(x,a)=>decide (x.cr=(j:Int))&&decide (s.getD a 0=(l:Int)):Nat):Int):=by
 simp[mE]
theorem UW{k:Nat}(hk:k<((dy m).zip (iAt m)).length){p:Nat}(hp:((dy m).zip (iAt m))[k].1.cr=(p:Int))(c:p<m.ak.length){q:Nat}(i:s.getD ((dy m).zip (iAt m))[k].2 0=(q:Int))(b:p<(mE m s k).length)(g:q<(mE m s k)[p].length):
  mE m s (k+1)=(mE m s k).set p ((mE m s k)[p].set q ((mE m s k)[p][q]+1)):=by
 refine List.ext_getElem (by simp[mE]) λj d n=> ?_
 have h:j<m.ak.length:=by simpa [mE]using d
 rw[L7 d h,List.getElem_set]
 have f:∀l:Nat,(((dy m).zip (iAt m)).take (k+1)).countP (λ(x,a)=>decide (x.cr=(j:Int))&&decide (s.getD a 0=(l:Int)))=(((dy m).zip (iAt m)).take k).countP (λ(x,a)=>decide (x.cr=(j:Int))&&decide (s.getD a 0=(l:Int)))+if p=j/\q=l then 1 else 0:=λl=>by
  grind [take_snoc]
 split
 .rename_i e
  subst e;refine List.ext_getElem (by simp[mE]) λl h3 h4=> ?_
  simp only[List.getElem_map,List.getElem_range,List.getElem_set,f,L7 b c]
  grind
 simp_all [mE]
section
variable{ρ:Type}
theorem arh(h:bn m)(T:inB m s)(rs:J bc)(i:Nat)(hi:i<(dy m).length)(κ:KT ρ):cbK (call 119 [TD m (dU m) (dy m) rs i s] []) κ=κ ([.d (afq true (jY m s i))],[]):=by
 have r:=h.may;have X:=T.1;have hb:=iG r;have ac:=oC r;have N:(iAt m).length=(dy m).length:=by simp[iAt,jo,kg]
 have x:(vAt m).length=m.aq.length:=by simp[vAt,jo,fc]
 have ag:(cAt m).length=m.ah.length:=by simp[cAt,jo,fD]
 have hv:=r.vn;have hc:=r.cn;have K:=r.pn
 -- the instances
 have g:∀k (hk:k<(dy m).length),∃p a q:Nat,(dy m)[k].cr=(p:Int)/\(iAt m)[k]? =some a/\a<s.length/\s.getD a 0=(q:Int)/\∃K:p<m.ak.length,q<m.ak[p].bE.toNat/\eF m (dy m)[k]=m.ak[p]/\a+1+m.ak[p].aq.length<=s.length:=λk hk=>by
  have B:(dy m)[k]? =some (dy m)[k]:=xG hk;obtain⟨a,t,_,ad,C,_⟩:=abc B;obtain⟨j,p,hj,H,u,_⟩:=jA (eO hk);have O:=List.getElem?_eq_some_iff.1 hj;obtain⟨S,Q⟩:=O;have b:a<s.length:=by omega
  have f:s[a]? =some s[a]:=xG b;have I:=T.2 a _ _ f C;have R:s.getD a 0=s[a]:=by simp[List.getD,f]
  simp only at I
  refine⟨j,a,s[a].toNat,H,t,b,by rw[R];omega,S,?_,?_,?_⟩
  .grind
  .rw[u,Q]
  grind
 have zl:((dy m).zip (iAt m)).length=(dy m).length:=by simp[N]
 have h0:∀κ:Ex×St->U ρ,dG P hints eA kD 0 (LZ m (dU m) (dy m) rs i s 0 []) κ=κ (.exit 0,Ov m (dU m) (dy m) rs i s ((m.aq.zip (vAt m)).map λ(v,a)=>lK s a (dO m v).toNat)):=λκ=>by
  refine DT (F:=λk=>dG P hints eA kD 0 (LZ m (dU m) (dy m) rs i s k (((m.aq.zip (vAt m)).take k).map λ(v,a)=>lK s a (dO m v).toNat)) κ) (n:=m.aq.length) (λk hk=> ?_) ?_
  .have B:m.aq[k]? =some m.aq[k]:=xG hk
   obtain⟨a,t,Z,_⟩:=agy B;have M:=List.getElem?_eq_some_iff.1 t;obtain⟨o,y⟩:=M;have aa:(fc m).flatten.length<=(eR m).length:=by simp only[eR,xP];omega
   have E:dO m m.aq[k]=((dO m m.aq[k]).toNat:Int):=by have:= @iF m m.aq[k];omega
   simp only
   rw[take_snoc (by simp;omega),pE,List.map_singleton]
   have e:=ZQ (ρ:=ρ) m (dU m) (dy m) rs i s (by have:=r.sn;omega) (((m.aq.zip (vAt m)).take k).map λ(v,a)=>lK s a (dO m v).toNat) k hk (by omega) (by grind [dU]) a (by grind [dU]) _ E (by omega) (by omega) (by simp;omega) κ
   grind
  grind [gr,ZR]
 have h1:∀κ:Ex×St->U ρ,dG P hints eA kD 1 (L4 m (dU m) (dy m) rs i s 0 ((m.aq.zip (vAt m)).map λ(v,a)=>lK s a (dO m v).toNat) []) κ=κ (.exit 2,Ow m (dU m) (dy m) rs i s ((m.aq.zip (vAt m)).map λ(v,a)=>lK s a (dO m v).toNat) ((cAt m).map λa=>s.getD a 0)):=λκ=>by
  generalize ((m.aq.zip (vAt m)).map λ(v,a)=>lK s a (dO m v).toNat)=V
  refine DT (F:=λk=>dG P hints eA kD 1 (L4 m (dU m) (dy m) rs i s k V (((cAt m).take k).map λa=>s.getD a 0)) κ) (n:=(dU m).ah.length) (λk hk=> ?_) ?_
  .have ab:k<(cAt m).length:=by simpa [dU,ofN]using hk
   have B:m.ah[k]? =some (m.ah[k]'(by omega)):=xG _
   grind [UR,take_snoc,ZN,dU]
  grind [dU,ZS]
 have h2:∀(V:J (J Int)) (L:J Int) (κ:Ex×St->U ρ),dG P hints eA kD 2 (L5 m (dU m) (dy m) rs i s 0 V L []) κ=κ (.exit 4,Ox m (dU m) (dy m) rs i s V L (mE m s 0)):=λV L κ=>by
  refine DT (F:=λk=>dG P hints eA kD 2 (L5 m (dU m) (dy m) rs i s k V L ((m.ak.take k).map λp=>List.replicate p.bE.toNat 0)) κ) (n:=m.ak.length) (λk hk=> ?_) ?_
  .have hl:=(r.p k _ (xG hk)).l
   grind [take_snoc,ZO]
  grind [agK,ZT]
 have h3:∀(V:J (J Int)) (L:J Int) (κ:Ex×St->U ρ),dG P hints eA kD 3 (L6 m (dU m) (dy m) rs i s 0 V L (mE m s 0)) κ=κ (.exit 6,Oy m (dU m) (dy m) rs i s V L ((m.ak.zipIdx).map λ(p,i)=>aa3 m s i p)):=λV L κ=>by
  refine DT (F:=λk=>dG P hints eA kD 3 (L6 m (dU m) (dy m) rs i s k V L (mE m s k)) κ) (n:=(dy m).length) (λk hk=> ?_) ?_
  .obtain⟨p,a,q,K,t,b,W,d,A,u,_⟩:=g k hk
   obtain⟨o,y⟩:=List.getElem?_eq_some_iff.1 t;have hz:k<((dy m).zip (iAt m)).length:=by omega
   have w:p<(mE m s k).length:=by rw[ZW];exact d
   have l:=L7 (s:=s) (k:=k) w d;have G:q<(mE m s k)[p].length:=by rw[l];simpa using A
   have f:s[a]=(q:Int):=by rw[<-W];simp[List.getD,xG b]
   have z:∃c:Nat,(mE m s k)[p][q]=(c:Int)/\c<=30:=by
    refine⟨_,by simp only[l,List.getElem_map,List.getElem_range];rfl,?_⟩
    exact ff List.countP_le_length (by grind)
   obtain⟨c,af,Y⟩:=z;rw[ZP (ρ:=ρ) m (dU m) (dy m) rs i s V L _ k hk (by omega) p K w (by grind [dU]) a (by grind [dU]) b q f G (by omega) (by omega) κ]
   grind [UW]
  grind [ZV,ZU]
 obtain⟨p,a,q,D,t,b,W,d,A,u,x⟩:=g i hi;obtain⟨o,y⟩:=List.getElem?_eq_some_iff.1 t;rw[arf (ρ:=ρ) m (dU m) (dy m) rs i s _ _ _ _ h0 h1 (h2 _ _) (h3 _ _) hi p D d (by grind [dU]) a (by grind [dU]) x (by omega) κ]
 grind [jY]
end
end
section
attribute [-simp] List.map_append List.map_take List.map_drop List.map_set
@[go_sem] theorem ZX{A B:J Ob}:∀R:J Ob,ec (R++A) (R++B)=ec A B
 | []=>rfl
 |o::R=>by cases o <;>simp[ec,ZX R]
section
variable{ρ:Type}(m:ae)(x:bO)(is:J aE)(rs:J bc)(i:Nat)(s:J Int)(R:J Ob)
def WF:D:=.agg [.sl false (List.map dz m.aa),.sl false (List.map dH m.aq),.sl false (List.map dM m.ah),.sl false (List.map (dI false) m.ak),.sl false (List.map (e9 false) m.aL),.sl false (List.map eI x.aq),.sl false (List.map eI x.ah),.sl false (List.map eI x.Insts),.int .i64 x.Cells,.sl false (List.map eI x.Lo),.sl false (List.map eI x.Hi),.sl false (List.map gU is),.sl false (List.map uF rs)]
def HT:J Ob:=.box (.d (WF m x is rs))::(R++[.box (.agg [.d (.ptr 0),.d (.int .i64 i),.own (tl eI s)])])
theorem ari(c:Nat)(n:Int)(h1:c<x.Lo.length)(h2:c<x.Hi.length)(h3:c<s.length)(κ:KT ρ):cbK (call 251 [.ptr (R.length+1),.int .i64 c,.int .i64 n] (HT m x is rs i s R)) κ=if x.Lo[c]<=n/\n<=x.Hi[c]then κ ([.d (.bool true)],HT m x is rs i (s.set c n) R)else κ ([.d (.bool false)],HT m x is rs i s R):=by
 refine(apM _ _ _ rfl).trans ?_
 simp -implicitDefEqProofs (maxSteps:=1000000) [go_sem,HT,WF,h1,h2,h3]
 by_cases a:n<x.Lo[c]
 .grind
 grind
theorem BL(b:Bool)(e:J aF):BW (roD (HT m x is rs i s R) 4) [.ptr (R.length+1),.sl b (List.map eH e)]=some [.bQ [.bQ (WF m x is rs).cells,.int .i64 i,.sl true (List.map eI s)],.sl b (List.map eH e)]:=by
 simp -implicitDefEqProofs [go_sem,HT,WF,BW,roD,D.norm,D.br,D.cells]
theorem BM(b:Bool)(e:J aF):D.bl [.bQ [.bQ (WF m x is rs).cells,.int .i64 i,.sl true (List.map eI s)],.sl b (List.map eH e)]=[TD m x is rs i s,.sl true (List.map eH e)]:=by
 simp -implicitDefEqProofs [go_sem,WF,TD,WD,D.bl,D.bX,D.cells]
theorem Ib(e:J aF):D.aQ 0 [TD m x is rs i s,.sl true (List.map eH e)]=true:=by
 simp -implicitDefEqProofs [go_sem,WF,TD,WD,D.aQ,D.low,D.cells]
end
end
theorem tg{l:J aB}{n:Int}{s:au}{v:aB}(h:iU l n s=some v):0<=n/\l[n.toNat]? =some v:=by
 grind [iU]
theorem OA{n:Int}{s:au}{c:aD}(h:vF n s=some c):0<=n/\s.ah[n.toNat]? =some c:=by
 grind [vF]
inductive ActIs(a:aP)(s:au):Prop
 |set (k:a.Kind=1) (p:0<=a.To) (v:aB) (h:s.aq[a.To.toNat]? =some v) (o:v.aH=0)
 |item (k:a.Kind=2) (p:0<=a.To) (v:aB) (h:s.aq[a.To.toNat]? =some v) (o:v.aH≠0)
 |own (k:a.Kind=3) (p:0<=a.To) (v:aB) (h:s.bB[a.To.toNat]? =some v)
 |send (k:a.Kind=4) (p:0<=a.To) (c:aD) (h:s.ah[a.To.toNat]? =some c)
 |recv (k:a.Kind=5) (p:0<=a.To) (c:aD) (h:s.ah[a.To.toNat]? =some c) (p':0<=a.Local) (v:aB) (h':s.bB[a.Local.toNat]? =some v)
theorem Qr{a:aP}{s:au}(h:D5 a s=0):ActIs a s:=by
 unfold D5 at h
 split at h
 .rename_i hk
  split at h
  .cases h
  .rename_i v b
   split at h
   .rename_i g
    split at h
    .cases h
    .rename_i f
     rw[if_neg (by omega)]at b
     obtain⟨e,d⟩:=tg b;exact .item g e v d f
   .rename_i g
    split at h
    .rename_i f
     by_cases h3:a.Kind=3
     .rw[if_pos h3]at b
      obtain⟨e,d⟩:=tg b;exact .own h3 e v d
     .rw[if_neg h3]at b
      obtain⟨e,d⟩:=tg b;exact .set (by omega) e v d f
    .cases h
 .split at h
  .rename_i hk
   split at h
   .cases h
   .rename_i c i
    obtain⟨e,d⟩:=OA i
    split at h
    .rename_i h5
     split at h
     .cases h
     .rename_i v b
      obtain⟨q3,q4⟩:=tg b;exact .recv h5 e c d q3 v q4
    .exact .send (by omega) e c d
  .cases h
structure RefAt(m:ae)(r:bc)(x:aE)(p:az)(c:aK)(i k j:Nat):Prop where
 hi:r.Inst=(i:Int)
 hj:r.Cmd=(j:Int)
 hx:(dy m)[i]? =some x
 hk:x.cr=(k:Int)
 hp:m.ak[k]? =some p
 o:eF m x=p
 hc:p.aO[j]? =some c
 cm:pz m r=c
 ok:CMay c p (eQ m k)
theorem OB{m:ae}:∀{l:J aE} {n:Nat} {r:bc},r∈eY m n l->∃(i:Nat) (x:aE) (j:Nat),l[i]? =some x/\r.Inst=((n+i:Nat):Int)/\r.Cmd=(j:Int)/\j<(eF m x).aO.length
 | [],n,r,h=>by simp[eY]at h
 |y::l,n,r,h=>by
  simp only[eY,xD,j0,List.mem_range]at h
  obtain⟨j,c,rfl⟩ |h:=h
  .grind
  .obtain⟨i,x,j,a,b,h3,h4⟩:=OB h
   exact⟨i+1,x,j,by simpa using a,by grind,h3,h4⟩
theorem L8{m:ae}(n:May m){r:bc}(h:r∈dJ m):∃x p c i k j,RefAt m r x p c i k j:=by
 obtain⟨i,x,j,e,f,h3,h4⟩:=OB h;rw[fp]at f
 obtain⟨k,p,b,l,g,_⟩:=jA (yS e);rw[g]at h4
 have d:=xG h4;have q:=n.p k p b;have o:innerP p (eQ m k)=eQ m k:=by unfold eQ innerP;rw[b]
 have a:=q.c _ (yS d);rw[o]at a
 refine⟨x,p,p.aO[j],i,k,j,f,h3,e,l,b,g,d,?_,a⟩
 grind [pz]
theorem th{m:ae}{k:Nat}{p:az}(h:m.ak[k]? =some p):(eQ m k).aq=m.aq/\(eQ m k).ah=m.ah/\(eQ m k).bB=p.aq/\(eQ m k).aa=m.aa:=by
 grind [eQ]
section
attribute [-simp] List.map_append List.map_take List.map_drop List.map_set
variable{m:ae}{s:J Int}
theorem JK{lo hi:Int}(h:pq lo hi=true):-1048576<=lo/\hi<=1048576:=by
 grind [pq]
theorem ZY{l:J aw}{v:aB}(h:Bw l v=0):-1048576<=(fu l v).1/\(fu l v).2<=1048576:=by
 unfold Bw at h;unfold fu fX
 split at h;· cases h
 split at h
 .rename_i a
  rw[if_pos a]
  split at h
  .rename_i b;exact JK b.1
  .cases h
 .rename_i a
  rw[if_neg a]
  have:= @jX l v.aC
  grind
theorem arj(d:May m){b:Bd}(h:b∈eR m):-1048576<=b.1/\b.2<=1048576:=by
 simp only[eR,xD,List.mem_flatten,fc,fD,kg,j0]at h
 obtain⟨_,⟨v,e,rfl⟩,h⟩ |⟨_,⟨c,hc,rfl⟩,h⟩ |⟨_,⟨x,hx,rfl⟩,h⟩:=h
 .rw[(List.mem_replicate.1 h).2];exact ZY (d.v v e)
 .have a:=d.c c hc
  unfold tO at a
  split at a;· cases a
  split at a
  .rename_i i
   obtain rfl |h:=List.mem_cons.1 h
   .simp only;omega
   .rw[(List.mem_replicate.1 h).2]
    unfold fX;split
    .rename_i j
     have:=JK (i.2.2 j)
     grind
    .have:= @jX m.aa c.aC
     simp only;omega
  grind
 .obtain⟨k,p,hk,_,f,_⟩:=jA hx
  have g:=d.p k p hk;unfold ko at h;rw[f]at h
  obtain rfl |h:=List.mem_cons.1 h
  .have:=g.l;simp only;omega
  .obtain⟨v,e,rfl⟩:=List.mem_map.1 h
   have:=(g.v v e).1
   simp_all [th,ZY]
theorem Qs(c:May m)(a:inB m s){y:Int}(h:y∈s):okI y:=by
 obtain⟨i,b⟩:=List.getElem?_of_mem h;have g:=(List.getElem?_eq_some_iff.1 b).1;have d:(eR m)[i]? =some ((eR m)[i]'(by have:=a.1;omega)):=xG _
 have e:=a.2 i y _ b d;have f:=arj c (eO (l:=eR m) (n:=i) (by have:=a.1;omega))
 exact⟨by omega,by omega⟩
theorem OC{s:J Int}{a n:Nat}{y:Int}(h:y∈lK s a n):y∈s:=List.mem_of_mem_drop (Ao h)
theorem CW(d:May m)(e:inB m s)(i:Nat):EnvOK (jY m s i):=by
 have k:∀a,okI (s.getD a 0):=λa=>by
  grind [CV,Qs]
 refine⟨λl c y b=> ?_,λy b=> ?_,λy b=> ?_,λl c y b=> ?_,?_⟩
 .grind [jY,Qs,OC]
 .grind [jY]
 .exact Qs d e (OC b)
 .simp only[jY,j0]at c
  obtain⟨⟨p,j⟩,_,rfl⟩:=c;simp only[aa3,j0]at b
  obtain⟨l,_,rfl⟩:=b;have f:((dy m).zip (iAt m)).length<=30:=by have:=oC d;rw[List.length_zip];omega
  have g:=List.countP_le_length (p:=λ(x:aE×Nat)=>decide (x.1.cr=(j:Int))&&decide (s.getD x.2 0=(l:Int))) (l:=(dy m).zip (iAt m))
  exact⟨by omega,by omega⟩
 .show okI ((dy m)[i]?.getD ⟨0,0⟩).Elem
  cases h:(dy m)[i]? with
  |none=>exact CV
  |some x=>
   obtain⟨_,_,_,_,_,f,g⟩:=jA (yS h)
   exact⟨by grind,by grind⟩
section
variable{ρ:Type}
theorem wH{i:Nat}(d:bn m)(c:inB m s)(hv:EnvOK (jY m s i))(rs:J bc)(hi:i<(dy m).length)(e:J aF)(f:∀x∈e,x.N<=9223372036854775807)(κ:KT ρ):cbK (call 88 [TD m (dU m) (dy m) rs i s,.sl true (List.map eH e)] []) κ=κ ([.d (.int .i64 (iM e (jY m s i)).1),.d (.bool (decide ((iM e (jY m s i)).2=0)))],[]):=by
 refine(avf _ _ _ rfl).trans ?_
 have a:=λκ=>arh (ρ:=ρ) d c rs i hi κ
 have b:=λκ=>agG (ρ:=ρ) e (jY m s i) hv f κ
 generalize jY m s i=v at a b |-
 simp only[TD,WD,afq,P3,fH,eI,eK]at a
 simp -implicitDefEqProofs (maxSteps:=1000000) [go_sem,TD,WD,a,b]
end
end
section
attribute [-simp] List.map_append List.map_take List.map_drop List.map_set
variable{m:ae}{s:J Int}{R:J Ob}
section
variable{ρ:Type}
abbrev HM(m:ae)(R:J Ob)(i:Nat)(s:J Int):J Ob:=HT m (dU m) (dy m) (dJ m) i s R
abbrev tV(b:Bool)(a:aP):D:=.agg [.int .i64 a.Kind,.int .i64 a.To,.int .i64 a.Local,.sl b (List.map eH a.Index),.sl b (List.map eH a.Value)]
theorem RY{s:J Int}(a:s.length=(eR m).length)(i p:Nat)(b:Bd)(hb:(eR m)[p]? =some b)(n:Int)(κ:KT ρ):cbK (call 251 [.ptr (R.length+1),.int .i64 p,.int .i64 n] (HM m R i s)) κ=κ ([.d (.bool (BH m s p n).isSome)],HM m R i ((BH m s p n).getD s)):=by
 grind [ari,dU,BH]
theorem ark(u:bn m)(l:inB m s){i:Nat}(hi:i<(dy m).length)(b:Bool)(a:aP)(y:∀x∈a.Value,x.N<=9223372036854775807)(hk:a.Kind=1)(t:Nat)(ht:a.To=(t:Int))(o:t<m.aq.length)(h1:1<=(dO m (m.aq[t])).toNat)(κ:KT ρ):
  cbK (call 250 [tV b a,.ptr (R.length+1)] (HM m R i s)) κ=κ ([.d (.bool (g9 m i s a).isSome)],HM m R i ((g9 m i s a).getD s)):=by
 refine(apJ _ _ _ rfl).trans ?_
 obtain⟨p,w,A,q⟩:=agy (xG o);have v:=q 0 (by omega)
 rw[kH]at v
 have f:=BL m (dU m) (dy m) (dJ m) i s R b a.Value;have h:=BM m (dU m) (dy m) (dJ m) i s b a.Value;have j:=Ib m (dU m) (dy m) (dJ m) i s a.Value;have c:=λκ=>wH (ρ:=ρ) u l (CW u.may l i) (dJ m) hi a.Value y κ
 have d:(dU m).aq[t]? =some (p:Int):=by simp[dU,ofN,w]
 have k:g9 m i s a=(vP m s i a.Value).bind λn=>BH m s p n:=by
  simp only[g9,hk,if_true,ht,xV,List.getD,w,gC]
 have g:vP m s i a.Value=if(iM a.Value (jY m s i)).2=0 then some (iM a.Value (jY m s i)).1 else none:=rfl
 generalize iM a.Value (jY m s i)=r at c g;have e:=λκ=>RY (ρ:=ρ) (R:=R) l.1 i p _ v r.1 κ
 simp only[HM,HT,WF,D.cells,TD,WD]at f h j c e
 rw[k,g]
 cases b <;>by_cases z:r.2=0 <;>simp -implicitDefEqProofs (maxSteps:=1000000) [go_sem,HT,WF,f,h,j,c,e,ht,d,z]
theorem arl(l:bn m)(o:inB m s){i:Nat}(hi:i<(dy m).length)(b:Bool)(a:aP)(z:∀x∈a.Value,x.N<=9223372036854775807)(hk:a.Kind=3)(t:Nat)(ht:a.To=(t:Int))(x:aE)(hx:(dy m)[i]? =some x)(u:t<(eF m x).aq.length)(κ:KT ρ):
  cbK (call 253 [tV b a,.ptr (R.length+1)] (HM m R i s)) κ=κ ([.d (.bool (g9 m i s a).isSome)],HM m R i ((g9 m i s a).getD s)):=by
 refine(apS _ _ _ rfl).trans ?_
 obtain⟨p,v,G,F,w,q⟩:=abc hx;have y:=q t _ (xG u);have f:=BL m (dU m) (dy m) (dJ m) i s R b a.Value;have h:=BM m (dU m) (dy m) (dJ m) i s b a.Value;have j:=Ib m (dU m) (dy m) (dJ m) i s a.Value;have c:=λκ=>wH (ρ:=ρ) l o (CW l.may o i) (dJ m) hi a.Value z κ
 have d:(dU m).Insts[i]? =some (p:Int):=by simp[dU,ofN,v]
 have A:=iG l.may;have B:IntKind.i64.wrap ((p:Int)+1)=(p:Int)+1:=dC (by omega) (by omega)
 have C:IntKind.i64.wrap ((p:Int)+1+(t:Int))=(p:Int)+1+(t:Int):=dC (by omega) (by omega)
 have k:g9 m i s a=(vP m s i a.Value).bind λn=>BH m s (p+1+t) n:=by
  simp only[g9,hk,if_true,ht,xV,FY,List.getD,v,gC];rfl
 have g:vP m s i a.Value=if(iM a.Value (jY m s i)).2=0 then some (iM a.Value (jY m s i)).1 else none:=rfl
 generalize iM a.Value (jY m s i)=r at c g;have e:=λκ=>RY (ρ:=ρ) (R:=R) o.1 i (p+1+t) _ y r.1 κ
 simp only[HM,HT,WF,D.cells,TD,WD,Int.natCast_add,Int.natCast_one]at f h j c e
 rw[k,g]
 cases b <;>by_cases E:r.2=0 <;>simp -implicitDefEqProofs (maxSteps:=1000000) [go_sem,HT,WF,f,h,j,c,e,ht,d,B,C,E]
end
end
section
attribute [-simp] List.map_append List.map_take List.map_drop List.map_set
variable{m:ae}{s:J Int}{R:J Ob}
section
variable{ρ:Type}
theorem abu(z:bn m)(C:inB m s){i:Nat}(hi:i<(dy m).length)(b:Bool)(a:aP)(H:∀x∈a.Index,x.N<=9223372036854775807)(P:∀x∈a.Value,x.N<=9223372036854775807)(hk:a.Kind=2)(t:Nat)(ht:a.To=(t:Int))(h:t<m.aq.length)(κ:KT ρ):
  cbK (call 252 [tV b a,.ptr (R.length+1)] (HM m R i s)) κ=κ ([.d (.bool (g9 m i s a).isSome)],HM m R i ((g9 m i s a).getD s)):=by
 refine(apP _ _ _ rfl).trans ?_
 obtain⟨p,M,W,J⟩:=agy (xG h);have j:=λe=>BL m (dU m) (dy m) (dJ m) i s R b e
 have l:=λe=>BM m (dU m) (dy m) (dJ m) i s b e
 have o:=λe=>Ib m (dU m) (dy m) (dJ m) i s e
 have c:=λκ=>wH (ρ:=ρ) z C (CW z.may C i) (dJ m) hi a.Index H κ
 have f:=λκ=>wH (ρ:=ρ) z C (CW z.may C i) (dJ m) hi a.Value P κ
 have B:(dU m).aq[t]? =some (p:Int):=by simp[dU,ofN,M]
 have G:m.aa.length<=1000:=by have:=z.may.sn;omega
 have d:∀g:Int->U ρ,jz m.aq[t] m.aa g=g (dO m m.aq[t]):=λg=>by rw[By G];rfl
 have V:= @iF m m.aq[t];have Q:=iG z.may;have N:(fc m).flatten.length<=(eR m).length:=by simp only[eR,xP];omega
 have A:g9 m i s a=(vP m s i a.Index).bind λk=>(vP m s i a.Value).bind λn=>if 1<=k/\k<=dO m m.aq[t]then BH m s (p+(k - 1).toNat) n else none:=by
  simp only[g9,hk,if_true,ht,xV,List.getD,M,gC,xG h,xS,show¬((2:Int)=1)by decide,if_false]
 have y:vP m s i a.Index=if(iM a.Index (jY m s i)).2=0 then some (iM a.Index (jY m s i)).1 else none:=rfl
 have E:vP m s i a.Value=if(iM a.Value (jY m s i)).2=0 then some (iM a.Value (jY m s i)).1 else none:=rfl
 rw[A,E,y];clear A E y;generalize iM a.Value (jY m s i)=r at f |-
 generalize iM a.Index (jY m s i)=r1 at c |-
 simp only[HM,HT,WF,D.cells,TD,WD]at j l o f c
 by_cases u:r1.2=0
 .by_cases F:r.2=0
  .by_cases I:r1.1<1
   .have v:¬(1<=r1.1/\r1.1<=dO m m.aq[t]):=by omega
    cases b <;>simp -implicitDefEqProofs (maxSteps:=1000000) [go_sem,HT,WF,j,l,o,f,c,ht,h,u,F,I,v,d]
   .by_cases L:dO m m.aq[t]<r1.1
    .have v:¬(1<=r1.1/\r1.1<=dO m m.aq[t]):=by omega
     cases b <;>simp -implicitDefEqProofs (maxSteps:=1000000) [go_sem,HT,WF,j,l,o,f,c,ht,h,u,F,I,L,v,d]
    .have v:1<=r1.1/\r1.1<=dO m m.aq[t]:=by omega
     have O:=J (r1.1 - 1).toNat (by omega)
     have w:=λκ=>RY (ρ:=ρ) (R:=R) C.1 i (p+(r1.1 - 1).toNat) _ O r.1 κ
     have e:((p+(r1.1 - 1).toNat:Nat):Int)=(p:Int)+r1.1 - 1:=by omega
     have S:IntKind.i64.wrap ((p:Int)+r1.1)=(p:Int)+r1.1:=dC (by omega) (by omega)
     have T:IntKind.i64.wrap ((p:Int)+r1.1 - 1)=(p:Int)+r1.1 - 1:=dC (by omega) (by omega)
     rw[e]at w
     generalize X:p+(r1.1 - 1).toNat=q at w;have K:p+(r1.1.toNat - 1)=q:=by omega
     simp only[HM,HT,WF]at w
     cases b <;>simp -implicitDefEqProofs (maxSteps:=1000000) [go_sem,HT,WF,j,l,o,f,c,w,ht,h,B,u,F,I,L,v,d,S,T,K]
  .cases b <;>simp -implicitDefEqProofs (maxSteps:=1000000) [go_sem,HT,WF,j,l,o,f,c,ht,h,u,F,d]
 .cases b <;>simp -implicitDefEqProofs (maxSteps:=1000000) [go_sem,HT,WF,j,l,o,f,c,ht,h,u,d]
theorem L9(c:Nat)(hc:c<m.ah.length)(H:J Ob)(h:H[0]? =some (.box (.d (WF m (dU m) (dy m) (dJ m)))))(p:Nat)(hp:(cAt m)[c]? =some p)(h0:0<=m.ah[c].bm/\m.ah[c].bm<=4)(e:p<=1000)(κ:KT ρ):cbK (call 90 [.ptr 0,.int .i64 c] H) κ=κ ([.d (.int .i64 p),.d (.int .i64 ((p:Int)+1+m.ah[c].bm))],H):=by
 refine(avh _ _ _ rfl).trans ?_
 have a:(dU m).ah[c]? =some (p:Int):=by simp[dU,ofN,hp]
 have b:IntKind.i64.wrap ((p:Int)+1)=(p:Int)+1:=dC (by omega) (by omega)
 have d:IntKind.i64.wrap ((p:Int)+1+m.ah[c].bm)=(p:Int)+1+m.ah[c].bm:=dC (by omega) (by omega)
 simp only[WF]at h
 simp -implicitDefEqProofs (maxSteps:=1000000) [go_sem,h,a,hc,b,d]
theorem ZZ{off len:Nat}{xs es:J Int}{W:Ob}{d1 d2:D}{t:J Tr}{ct:J ((Nat×Nat)×T)}{b:Bool}(hl:xs.length=len)(hn:xs≠[])(h:off+len<=es.length):nP P 29 (.aG (.o (R.length+1)) [(0,2)] off len) (.d (.sl b (List.map eI xs))) ⟨ct,W::(R++[.box (.agg [.d d1,.d d2,.own (tl eI es)])]),t⟩=some (.d (.int .i64 (len:Int)),⟨ct,W::(R++[.box (.agg [.d d1,.d d2,.own (tl eI (jF es off xs))])]),t⟩):=by
 have a:Nat.min len len=len:=Nat.min_self len
 have:=BD (P:=P) (t:=29) (u:=3) (by rfl) (by rfl) (r:=.o (R.length+1)) (p:=[(0,2)]) (off:=off) (len:=len) (xs:=xs) (es:=es) (b:=.d (.sl b (List.map eI xs))) (k:=⟨ct,W::(R++[.box (.agg [.d d1,.d d2,.own (tl eI es)])]),t⟩) (c:=.own [.agg [.d d1,.d d2,.own (tl eI es)]]) FX (by simp[go_sem]) (by simp[go_sem]) (by grind)
 rw[this,hl,a,gr (by omega)]
 simp[go_sem,T.put,hn,jF,hl]
theorem RZ{off len:Nat}{es:J Int}{W:Ob}{d1 d2:D}{t:J Tr}{ct:J ((Nat×Nat)×T)}{b:Bool}(h:off<=es.length):nP P 29 (.aG (.o (R.length+1)) [(0,2)] off len) (.d (.sl b [])) ⟨ct,W::(R++[.box (.agg [.d d1,.d d2,.own (tl eI es)])]),t⟩=some (.d (.int .i64 0),⟨ct,W::(R++[.box (.agg [.d d1,.d d2,.own (tl eI es)])]),t⟩):=by
 have:=BD (P:=P) (t:=29) (u:=3) (by rfl) (by rfl) (r:=.o (R.length+1)) (p:=[(0,2)]) (off:=off) (len:=len) (xs:=[]) (es:=es) (b:=.d (.sl b (List.map eI ([]:J Int)))) (k:=⟨ct,W::(R++[.box (.agg [.d d1,.d d2,.own (tl eI es)])]),t⟩) (c:=.own [.agg [.d d1,.d d2,.own (tl eI es)]]) FX (by simp[go_sem]) (by simp[go_sem]) (by simpa using h)
 refine this.trans ?_
 simp
theorem abv(B:bn m)(C:inB m s){i:Nat}(hi:i<(dy m).length)(b:Bool)(a:aP)(Q:∀x∈a.Value,x.N<=9223372036854775807)(hk:a.Kind=4)(t:Nat)(ht:a.To=(t:Int))(f:t<m.ah.length)(κ:KT ρ):
  cbK (call 254 [tV b a,.ptr (R.length+1)] (HM m R i s)) κ=κ ([.d (.bool (g9 m i s a).isSome)],HM m R i ((g9 m i s a).getD s)):=by
 refine(apV _ _ _ rfl).trans ?_
 obtain⟨p,k⟩:=pB B.may (xG f);have S:=iG B.may;have hf:=k.f;have Z:=k.cap
 have X:(cAt m)[t]? =some p:=by
  have V:(cAt m).length=m.ah.length:=by simp[cAt,jo,fD]
  have M:=k.at0;rw[Ec,xG (by omega),gC]at M
  rw[xG (by omega),M]
 have d:=λκ=>L9 (ρ:=ρ) t f (HM m R i s) rfl p X ⟨by omega,by omega⟩ (by omega) κ
 have o:=λe=>BL m (dU m) (dy m) (dJ m) i s R b e
 have u:=λe=>BM m (dU m) (dy m) (dJ m) i s b e
 have w:=λe=>Ib m (dU m) (dy m) (dJ m) i s e
 have h:=λκ=>wH (ρ:=ρ) B C (CW B.may C i) (dJ m) hi a.Value Q κ
 have T:m.aa.length<=1000:=by have:=B.may.sn;omega
 have c:∀g:Int->Int->U ρ,jW ⟨[],m.ah[t].aC,0,m.ah[t].Lo,m.ah[t].Hi,0⟩ m.aa g=g (fM m.aa m.ah[t]).1 (fM m.aa m.ah[t]).2:=λg=>by
  grind [wE,fM,fX]
 have z:g9 m i s a=(vP m s i a.Value).bind λn=>if(fM m.aa m.ah[t]).1<=n/\n<=(fM m.aa m.ah[t]).2 then(CR (fy m s t) n).map (jF s p)else none:=by
  simp only[g9,hk,if_true,ht,xV,k.at0,xG f,xS,show¬((4:Int)=1)by decide,show¬((4:Int)=2)by decide,show¬((4:Int)=3)by decide,if_false]
 have F:vP m s i a.Value=if(iM a.Value (jY m s i)).2=0 then some (iM a.Value (jY m s i)).1 else none:=rfl
 rw[z,F];clear z F;generalize iM a.Value (jY m s i)=r at h |-
 generalize fM m.aa m.ah[t]=bd at c |-
 simp only[HM,HT,WF,D.cells,TD,WD]at o u w h d
 have N:(0:Int)<=(p:Int)+1+m.ah[t].bm:=by omega
 have O:p<=((p:Int)+1+m.ah[t].bm).toNat:=by omega
 have q3:(p:Int)+1+m.ah[t].bm<=(s.length:Int):=by have:=C.1;omega
 have q4:((p:Int)+1+m.ah[t].bm).toNat - p=m.ah[t].bm.toNat+1:=by omega
 have q5:¬((p:Int)+1+m.ah[t].bm<(p:Int)):=by omega
 by_cases E:r.2=0
 .by_cases G:r.1<bd.1
  .have v:¬(bd.1<=r.1/\r.1<=bd.2):=by omega
   cases b <;>simp -implicitDefEqProofs (maxSteps:=1000000) [go_sem,HT,WF,o,u,w,h,ht,f,E,c,G,v]
  by_cases K:bd.2<r.1
  .have v:¬(bd.1<=r.1/\r.1<=bd.2):=by omega
   cases b <;>simp -implicitDefEqProofs (maxSteps:=1000000) [go_sem,HT,WF,o,u,w,h,ht,f,E,c,G,K,v]
  have Y:(fy m s t).length=m.ah[t].bm.toNat+1:=(nL k C.1).1
  have A:List.take (m.ah[t].bm.toNat+1) (List.drop p s)=fy m s t:=by
   simp only[fy,k.at0,yU,xG f,lK]
  have l:=λP κ=>Qo (ρ:=ρ) P (fy m s t) r.1 (by omega) κ
  have q6:(p:Int)<=(p:Int)+1+m.ah[t].bm:=by omega
  have v:bd.1<=r.1/\r.1<=bd.2:=by omega
  have q7:p<=s.length:=by omega
  cases j:CR (fy m s t) r.1 with
  |none=>
   rw[j]at l
   have y:=λ(b:Bool) (L:J Tr) (W:Ob) d1 d2 ct=>RZ (R:=R) (off:=p) (len:=m.ah[t].bm.toNat+1) (es:=s) (W:=W) (d1:=d1) (d2:=d2) (t:=L) (ct:=ct) (b:=b) q7
   cases b <;>simp -implicitDefEqProofs (maxSteps:=1000000) [go_sem,HT,WF,o,u,w,h,ht,f,E,c,G,K,d,N,O,q3,q4,q5,q6,A,l,y,j,v]
  |some q=>
   rw[j]at l
   have H:q.length=m.ah[t].bm.toNat+1:=by
    unfold CR at j
    split at j
    .grind [oB,ta]
    .cases j
   have I:q≠[]:=λe=>by grind
   have y:=λ(b:Bool) (L:J Tr) (W:Ob) d1 d2 ct=>ZZ (R:=R) (off:=p) (len:=m.ah[t].bm.toNat+1) (xs:=q) (es:=s) (W:=W) (d1:=d1) (d2:=d2) (t:=L) (ct:=ct) (b:=b) H I (by have:=C.1;omega)
   cases b <;>simp -implicitDefEqProofs (maxSteps:=1000000) [go_sem,HT,WF,o,u,w,h,ht,f,E,c,G,K,d,N,O,q3,q4,q5,q6,A,l,y,j,v,k.at0]
 .cases b <;>simp -implicitDefEqProofs (maxSteps:=1000000) [go_sem,HT,WF,o,u,w,h,ht,f,E,c]
theorem abw(L:bn m)(D:inB m s){i:Nat}(b:Bool)(a:aP)(hk:a.Kind=5)(t:Nat)(ht:a.To=(t:Int))(f:t<m.ah.length)(j:Nat)(G:a.Local=(j:Int))(x:aE)(hx:(dy m)[i]? =some x)(H:j<(eF m x).aq.length):
  ∃s2,(∀κ:KT ρ,cbK (call 263 [tV b a,.ptr (R.length+1)] (HM m R i s)) κ=κ ([.d (.bool (g9 m i s a).isSome)],HM m R i s2))/\∀u,g9 m i s a=some u->s2=u:=by
 obtain⟨p,d⟩:=pB L.may (xG f);have S:=iG L.may;have hf:=d.f;have cU:=d.cap
 have Y:(cAt m)[t]? =some p:=by
  have X:(cAt m).length=m.ah.length:=by simp[cAt,jo,fD]
  have K:=d.at0;rw[Ec,xG (by omega),gC]at K
  rw[xG (by omega),K]
 obtain⟨h,z,_,V,_,E⟩:=abc hx;have Q:=E j _ (xG H);have v:(dU m).Insts[i]? =some (h:Int):=by simp[dU,ofN,z]
 have T:IntKind.i64.wrap ((h:Int)+1)=(h:Int)+1:=dC (by omega) (by omega)
 have U:IntKind.i64.wrap ((h:Int)+1+(j:Int))=(h:Int)+1+(j:Int):=dC (by omega) (by omega)
 have n:g9 m i s a=(tQ (fy m s t)).bind λq=>BH m (jF s p q.1) (h+1+j) q.2:=by
  simp only[g9,hk,if_true,ht,G,xV,d.at0,FY,List.getD,z,gC,show¬((5:Int)=1)by decide,show¬((5:Int)=2)by decide,show¬((5:Int)=3)by decide,show¬((5:Int)=4)by decide,if_false]
  congr 1;funext q
  rw[<-d.at0];rfl
 have c:=λκ=>L9 (ρ:=ρ) t f (HM m R i s) rfl p Y ⟨by omega,by omega⟩ (by omega) κ
 simp only[HM,HT,WF]at c
 have M:(0:Int)<=(p:Int)+1+m.ah[t].bm:=by omega
 have N:p<=((p:Int)+1+m.ah[t].bm).toNat:=by omega
 have q3:(p:Int)+1+m.ah[t].bm<=(s.length:Int):=by have:=D.1;omega
 have q4:((p:Int)+1+m.ah[t].bm).toNat - p=m.ah[t].bm.toNat+1:=by omega
 have q5:¬((p:Int)+1+m.ah[t].bm<(p:Int)):=by omega
 have q6:(p:Int)<=(p:Int)+1+m.ah[t].bm:=by omega
 have q7:p<=s.length:=by omega
 have Z:(fy m s t).length=m.ah[t].bm.toNat+1:=(nL d D.1).1
 have o:List.take (m.ah[t].bm.toNat+1) (List.drop p s)=fy m s t:=by
  simp only[fy,d.at0,yU,xG f,lK]
 have g:=λP κ=>Oq (ρ:=ρ) P (fy m s t) (by omega) κ
 rw[n];clear n
 cases k:tQ (fy m s t)with
 |none=>
  rw[k]at g
  refine⟨s,λκ=>(adk _ _ _ rfl).trans ?_,λu O=>by cases O⟩
  have l:=λ(b:Bool) (I:J Tr) (W:Ob) d1 d2 ct=>RZ (R:=R) (off:=p) (len:=m.ah[t].bm.toNat+1) (es:=s) (W:=W) (d1:=d1) (d2:=d2) (t:=I) (ct:=ct) (b:=b) q7
  cases b <;>simp -implicitDefEqProofs (maxSteps:=1000000) [go_sem,HT,WF,ht,f,G,c,M,N,q3,q4,q5,q6,o,g,l]
 |some q=>
  rw[k]at g
  have C:q.1.length=m.ah[t].bm.toNat+1:=by
   unfold tQ at k
   cases hi:gx (fy m s t)with
   |nil=>grind
   |cons y r=>
    grind [gx,xZ,ta]
  have F:q.1≠[]:=λe=>by grind
  have A:=D.1;have l:=λ(b:Bool) (I:J Tr) (W:Ob) d1 d2 ct=>ZZ (R:=R) (off:=p) (len:=m.ah[t].bm.toNat+1) (xs:=q.1) (es:=s) (W:=W) (d1:=d1) (d2:=d2) (t:=I) (ct:=ct) (b:=b) C F (by omega)
  have B:(jF s p q.1).length=(eR m).length:=by rw[CT (by omega),A]
  have w:=λκ=>RY (ρ:=ρ) (R:=R) B i (h+1+j) _ Q q.2 κ
  simp only[HM,HT,WF,Int.natCast_add,Int.natCast_one]at w
  refine⟨(BH m (jF s p q.1) (h+1+j) q.2).getD (jF s p q.1),λκ=>(adk _ _ _ rfl).trans ?_,λu O=>by grind⟩
  cases b <;>simp -implicitDefEqProofs (maxSteps:=1000000) [go_sem,HT,WF,ht,f,G,c,M,N,q3,q4,q5,q6,o,g,l,w,v,T,U]
end
end
section
attribute [-simp] List.map_append List.map_take List.map_drop List.map_set
variable{m:ae}{s:J Int}{R:J Ob}
section
variable{ρ:Type}
def kTy(k:Int):TypeId:=if k=1 then 197 else if k=2 then 198 else if k=3 then 199 else if k=4 then 200 else 201
def eDo(a:aP):D:=.iface (kTy a.Kind) (tV false a)
def DS(l:J aP)(H:J Ob)(k:Nat):St:=⟨[(3,.aG (.l 3 0) [] 0 k),(6,.d (.sl false (List.map (jL false) l))),(7,.d (.int .i64 l.length)),(8,.d (.int .i64 k))],[((3,0),.own (tl eDo (l.take k)))],H⟩
def DX(l:J aP)(H:J Ob):St:=⟨[(3,.aG (.l 3 0) [] 0 l.length),(6,.d (.sl false (List.map (jL false) l))),(7,.d (.int .i64 l.length)),(8,.d (.int .i64 l.length)),(9,.d (.bool false))],[((3,0),.own (tl eDo l))],H⟩
theorem arm{x:D}:mH P 197 (.d x)=some (.d (.iface 197 x)):=qH (by kernel_rfl)
theorem arn{x:D}:mH P 198 (.d x)=some (.d (.iface 198 x)):=qH (by kernel_rfl)
theorem aro{x:D}:mH P 199 (.d x)=some (.d (.iface 199 x)):=qH (by kernel_rfl)
theorem arp{x:D}:mH P 200 (.d x)=some (.d (.iface 200 x)):=qH (by kernel_rfl)
theorem arq{x:D}:mH P 201 (.d x)=some (.d (.iface 201 x)):=qH (by kernel_rfl)
theorem OD{l:J aP}:dW 1 (tl eDo l)=true:=eP λx=>rfl
theorem agL(H:J Ob)(l:J aP)(hl:l.length<=1000)(k:Nat)(hk:k<l.length)(h:1<=l[k].Kind/\l[k].Kind<=5)(κ:Ex×St->U ρ):dG P hints rT b89 0 (DS l H k) κ=dG P hints rT b89 0 (DS l H (k+1)) κ:=by
 refine(ap ac7.2).trans ?_
 have g:IntKind.i64.wrap ((k:Int)+1)=(k:Int)+1:=dC (by omega) (by omega)
 have f:(k+1) * 16<=140737488355328:=by omega
 have j:k<=9223372036854775806:=by omega
 have a:min k l.length=k:=by omega
 have m:l[k].Kind=1\/l[k].Kind=2\/l[k].Kind=3\/l[k].Kind=4\/l[k].Kind=5:=by omega
 have n:l.take (k+1)=l.take k++[l[k]]:=by rw[List.take_add_one,xG hk];rfl
 have c:tl eDo (l.take (k+1))=tl eDo (l.take k)++[.d (.iface (kTy l[k].Kind) (tV false l[k]))]:=by rw[n,tl,pE];rfl
 have b:List.take k (List.take k l)=List.take k l:=by rw[List.take_take,Nat.min_self]
 have i:∀t x,(D.iface t x).nc=1:=λ_ _=>rfl
 have e:D.bW.nc=1:=rfl
 obtain d |d |d |d |d:=m
 .simp -implicitDefEqProofs (maxSteps:=1000000) [go_sem,DS,hk,g,d,f,j,arm,OD,a,c,kTy,tV,b,i,e]
 .simp -implicitDefEqProofs (maxSteps:=1000000) [go_sem,DS,hk,g,d,f,j,arn,OD,a,c,kTy,tV,b,i,e]
 .simp -implicitDefEqProofs (maxSteps:=1000000) [go_sem,DS,hk,g,d,f,j,aro,OD,a,c,kTy,tV,b,i,e]
 .simp -implicitDefEqProofs (maxSteps:=1000000) [go_sem,DS,hk,g,d,f,j,arp,OD,a,c,kTy,tV,b,i,e]
 .simp -implicitDefEqProofs (maxSteps:=1000000) [go_sem,DS,hk,g,d,f,j,arq,OD,a,c,kTy,tV,b,i,e]
theorem agM(H:J Ob)(l:J aP)(κ:Ex×St->U ρ):dG P hints rT b89 0 (DS l H l.length) κ=κ (.exit 0,DX l H):=by
 refine(ap ac7.2).trans ?_
 simp -implicitDefEqProofs (maxSteps:=1000000) [go_sem,DS,DX]
theorem abx(H:J Ob)(l:J aP)(hl:l.length<=1000)(h:∀a∈l,1<=a.Kind/\a.Kind<=5)(κ:KT ρ):cbK (call 89 [.sl false (List.map (jL false) l)] H) κ=κ ([.d (.sl false (List.map eDo l))],H):=by
 refine(avg _ _ _ rfl).trans ?_
 have b:=λκ:Ex×St->U ρ=>DT (F:=λk=>dG P hints rT b89 0 (DS l H k) κ) (n:=l.length) (λk hk=>agL H l hl k hk (h _ (eO hk)) κ) (agM H l κ)
 simp only[DS,DX,jr,ez,iY]at b
 have d:T.aY false (tl eDo l)=some (List.map eDo l):=hZ λx=>by grind [eDo,D.norm,D.br]
 have c:D.aZ (List.map eDo l)=true:=fO λx=>by simp[go_sem,eDo,D.cW]
 simp -implicitDefEqProofs (maxSteps:=1000000) [go_sem,b,d,c]
theorem Ma(b:Bool)(l:J Int)(h:l≠[])(hl:l.length<=1000)(κ:KT ρ):cbK (call 53 [.sl b (List.map eI l)] []) κ=κ ([.own (tl eI l)],[]):=by
 have c:l.length * 8<=140737488355328:=by omega
 have a:l.length<=9223372036854775807:=by omega
 cases b <;>simp -implicitDefEqProofs (maxSteps:=1000000) [go_sem,auP,h,c,a]
def doF(k:Int):FuncId:=if k=1 then 250 else if k=2 then 252 else if k=3 then 253 else if k=4 then 254 else 263
theorem Z0(n:bn m)(o:inB m s){r:bc}{x:aE}{p:az}{c:aK}{i k j:Nat}(h:RefAt m r x p c i k j)(b:Bool)(a:aP)(ha:a∈c.aM):
  (1<=a.Kind/\a.Kind<=5)/\∃s2,(∀κ:KT ρ,cbK (call (doF a.Kind) [tV b a,.ptr (R.length+1)] (HM m R i s)) κ=κ ([.d (.bool (g9 m i s a).isSome)],HM m R i s2))/\∀u,g9 m i s a=some u->s2=u:=by
 have w:i<(dy m).length:=(List.getElem?_eq_some_iff.1 h.hx).1;have g:=(((n.e.p p (yS h.hp)).c c (yS h.hc)).1.a a ha);obtain⟨A,B,C,_⟩:=th h.hp;have done:∀f,f=doF a.Kind->(∀κ:KT ρ,cbK (call f [tV b a,.ptr (R.length+1)] (HM m R i s)) κ=κ ([.d (.bool (g9 m i s a).isSome)],HM m R i ((g9 m i s a).getD s)))->∃s2,(∀κ:KT ρ,cbK (call (doF a.Kind) [tV b a,.ptr (R.length+1)] (HM m R i s)) κ=κ ([.d (.bool (g9 m i s a).isSome)],HM m R i s2))/\∀u,g9 m i s a=some u->s2=u:=λf e G=>⟨_,e▸G,λu I=>by rw[I];rfl⟩
 cases Qr (h.ok.a a ha)with
 |set hk t v d H=>
  rw[A]at d
  obtain⟨l,y⟩:=List.getElem?_eq_some_iff.1 d
  refine⟨by omega,done 250 (by rw[hk];rfl) λκ=>ark n o w b a g.v hk a.To.toNat (by omega) l ?_ κ⟩
  grind [dO]
 |item hk t v d H=>
  rw[A]at d
  obtain⟨l,y⟩:=List.getElem?_eq_some_iff.1 d
  exact⟨by omega,done 252 (by rw[hk];rfl) λκ=>abu n o w b a g.i g.v hk a.To.toNat (by omega) l κ⟩
 |own hk t v d=>
  rw[C]at d
  obtain⟨l,y⟩:=List.getElem?_eq_some_iff.1 d
  exact⟨by omega,done 253 (by rw[hk];rfl) λκ=>arl n o w b a g.v hk a.To.toNat (by omega) x h.hx (by rw[h.o];exact l) κ⟩
 |send hk t E d=>
  rw[B]at d
  obtain⟨l,y⟩:=List.getElem?_eq_some_iff.1 d
  exact⟨by omega,done 254 (by rw[hk];rfl) λκ=>abv n o w b a g.v hk a.To.toNat (by omega) l κ⟩
 |recv hk t E d F v q=>
  rw[B]at d
  rw[C]at q
  obtain⟨l,y⟩:=List.getElem?_eq_some_iff.1 d;obtain⟨z,D⟩:=List.getElem?_eq_some_iff.1 q
  refine⟨by omega,?_⟩
  rw[show doF a.Kind=263 by rw[hk];rfl]
  exact abw n o b a hk a.To.toNat (by omega) l a.Local.toNat (by omega) x h.hx (by rw[h.o];exact z)
end
end
section
variable{ρ:Type}
theorem R4{c:aK}(h:c.aM.length<=1000){g:Int->Int->U ρ}:zO c g=g (lj c).1 (lj c).2:=by
 simp only[zO,sP,mkF,N3];refine qy (λv:Int=>∃i:Nat,v=i/\i<=c.aM.length) (λv=>match (c.aM.drop v.toNat).find? talksP with |some a=>g a.Kind a.To |none=>g 0 0) (λv=>c.aM.length - v.toNat) ?_ (v:=(0:Int)) ⟨0,rfl,eD _⟩ |>.trans ?_
 .rintro v k ⟨i,rfl,f⟩ hk
  by_cases b:i<c.aM.length
  .have d:IntKind.i64.wrap ((i:Int)+1)=((i+1:Nat):Int):=eM (by omega)
   rw[if_pos (by omega),if_pos (by omega),xV,xG b,xS,xW b,List.find?_cons]
   cases e:talksP c.aM[i]
   .rw[if_neg (by simp),d,hk _ ⟨i+1,rfl,by omega⟩ (by simp only[xV];omega)]
    rfl
   .rfl
  grind [List.drop_eq_nil_of_le]
 grind [lj]
theorem aby{m:ae}{c:aK}(h:c.aM.length<=1000)(h0:(lj c).1=4->∃q:Nat,(lj c).2=(q:Int)/\q<m.ah.length){g:Int->U ρ}:HB c m.ah g=g (if s8 m c=true then 2 else 1):=by
 grind [HB,zP,mkF,R4,s8]
def abz(c:aK):Bool:=decide (c.aM.length<=20)&&decide (c.Guard.length<=60)
def R5(p:az):Bool:=decide (p.aq.length<=20)&&(decide (p.aO.length<=30)&&p.aO.all abz)
def mX(m:ae):Bool:=decide (m.aa.length<=10)&&(decide (m.aq.length<=30)&&(decide (m.ah.length<=20)&&(decide (m.ak.length<=20)&&(decide (m.aL.length<=20)&&m.ak.all R5))))
theorem Z1{a:Type}{l:J a}{f:a->Bool}:(∀i,i<l.length->(l[i]?).all f=true)↔l.all f=true:=by
 grind [List.getElem?_of_mem]
theorem qU{m:ae}{g:Int->U ρ}:qj m g=g (if mX m=true then 0 else 1):=by
 simp only[qj,qi,mkF];unfold mX
 rcases gF 10 (m.aa.length)with a |a
 .grind
 rcases gF 30 (m.aq.length)with b |b
 .grind
 rcases gF 20 (m.ah.length)with h3 |h3
 .grind
 rcases gF 20 (m.ak.length)with h4 |h4
 .grind
 rcases gF 20 (m.aL.length)with h5 |h5
 .grind
 rw[if_neg (by omega),if_neg (by omega),if_neg (by omega),if_neg (by omega),if_neg (by omega)]
 simp only[show m.aa.length<=10 from a,show m.aq.length<=30 from b,show m.ah.length<=20 from h3,show m.ak.length<=20 from h4,show m.aL.length<=20 from h5,decide_true,m9]
 refine(Am.iterC_all (τ:=Int) m.ak.length (λi:Nat=>(i:Int)) (λi=>(m.ak[i]?).all R5) (g 1) (g 0) (λi k e=> ?_) (λk=>by grind)).trans ?_
 .have f:IntKind.i64.wrap ((i:Int)+1)=((i+1:Nat):Int):=eM (by omega)
  rw[if_pos (by omega),if_pos (by omega),xV,xG e,xS,f,Option.all_some]
  generalize m.ak[i]=p;unfold R5
  rcases gF 20 (p.aq.length)with c |c
  .grind
  rcases gF 30 (p.aO.length)with d |d
  .grind
  rw[if_neg (by omega),if_neg (by omega)]
  simp only[show p.aq.length<=20 from c,show p.aO.length<=30 from d,decide_true,m9]
  refine(Am.iterC_all (τ:=Int) p.aO.length (λi:Nat=>(i:Int)) (λi=>(p.aO[i]?).all abz) (g 1) (k ((i+1:Nat):Int)) (λj l h=> ?_) (λk=>by grind)).trans ?_
  .grind [eM,abz]
  grind [Z1]
 grind [Z1]
end
section
variable{ρ:Type}{m:ae}
theorem JL{p:az}(e:m.aa.length<=1000){g:Int->U ρ}:pk m p g=g (iI m.aa p.aH):=by
 simp only[pk,vu,mkF]
 by_cases b:p.aH<1
 .grind [mC]
 by_cases c:(m.aa.length:Int)<p.aH
 .grind [mC]
 have d:IntKind.i64.wrap (p.aH - 1)=p.aH - 1:=dC (by omega) (by omega)
 have a:(p.aH - 1).toNat<m.aa.length:=by omega
 simp only[b,c,if_false,d,show 0<=p.aH - 1 by omega,if_true,xG a,xS,Bx (show 1<=p.aH by omega) a]
 grind
theorem Qt(l:J az)(p:az):∀i,eb m i (l++[p])=eb m i l++iy m (i+l.length) p:=by
 induction l with
 |nil=>grind [eb]
 |cons a l b=>grind [eb]
theorem agN(i:Nat)(p:az):(iy m i p).length<=5:=by
 have h:= @jX m.aa p.aH
 grind [iy,oz]
theorem from_le(l:J az):∀i,(eb m i l).length<=5 * l.length:=by
 induction l with
 |nil=>grind [eb]
 |cons a l b=>grind [agN,eb]
theorem R6(e:m.aa.length<=1000){i:Nat}(hi:i<m.ak.length)(acc:J aE)(ha:acc.length<=1000)(K:Int×J aE->U ρ):
  im (λ(a:Int×J aE) (b:Int×J aE->U ρ)=>if 0<=(i:Int)then(some m.ak[i]).bind λz=>pk m z λx=>if a.1<=x then if(a.2.length+1) * 16<=140737488355328/\a.2.length<=9223372036854775806 then b (IntKind.i64.wrap (a.1+1),a.2++[⟨(i:Int),a.1⟩])else none else K (IntKind.i64.wrap ((i:Int)+1),a.2)else none) (1,acc)=
   K (IntKind.i64.wrap ((i:Int)+1),acc++(List.range (oz m m.ak[i])).map λ(k:Nat)=>⟨(i:Int),(k:Int)+1⟩):=by
 have f:= @jX m.aa m.ak[i].aH
 refine(Am.iterC_runE (τ:=Int×J aE) (oz m m.ak[i]) (λj:Nat=>((j:Int)+1,acc++(List.range j).map λ(k:Nat)=>⟨(i:Int),(k:Int)+1⟩)) (by simp) (λj k c=> ?_) (λk=> ?_))
 .have d:(j:Int)+1<=iI m.aa m.ak[i].aH:=by unfold oz at c;omega
  grind [JL,dC,kV]
 grind [oz,JL]
theorem JM(c:May m){g:J aE->U ρ}:vx m g=g (dy m):=by
 have d:m.aa.length<=1000:=by have:=c.sn;omega
 have j:=c.pn;simp only[vx,vw,mkF]
 refine(Am.iterC_runE (τ:=Int×J aE) m.ak.length (λi:Nat=>((i:Int),eb m 0 (m.ak.take i))) (by simp[eb]) (λi k a=> ?_) (λk=> ?_))
 .have e:IntKind.i64.wrap ((i:Int)+1)=((i+1:Nat):Int):=eM (by omega)
  have f:=from_le (m:=m) (m.ak.take i) 0;rw[yR]at f
  have h:eb m 0 (m.ak.take (i+1))=eb m 0 (m.ak.take i)++iy m i m.ak[i]:=by
   rw[er a,Qt,fp,yR,oO (lR a)]
  dsimp only
  rw[if_pos (by omega),if_pos (by omega),xV,xG a,xS,h]
  unfold iy
  by_cases b:m.ak[i].aH=0
  .rw[if_pos b,if_pos ⟨by omega,by omega⟩,if_pos b]
   refine(R6 d a (eb m 0 (m.ak.take i)++[⟨(i:Int),0⟩]) (by grind) k).trans ?_
   grind
  .rw[if_neg b,if_neg b,gD]
   refine(R6 d a (eb m 0 (m.ak.take i)) (by omega) k).trans ?_
   rw[e]
 .simp only
  rw[if_neg (by omega),hJ]
  rfl
theorem UX(l:J aE)(x:aE):∀i,eY m i (l++[x])=eY m i l++(List.range (eF m x).aO.length).map λ(c:Nat)=>⟨((i+l.length:Nat):Int),(c:Int)⟩:=by
 induction l with
 |nil=>grind [eY]
 |cons a l b=>grind [eY]
theorem Z2(a:May m)(l:J aE):∀i,(∀x∈l,x∈dy m)->(eY m i l).length<=12 * l.length:=by
 induction l with
 |nil=>grind [eY]
 |cons x l e=>
  intro i b;obtain⟨k,p,hk,_,c,_⟩:=jA (b x (by simp))
  have d:=(a.p k p hk).cn
  grind [eY]
theorem OE(b:May m){g:J bc->U ρ}:zT m g=g (dJ m):=by
 simp only[zT,zS,mkF,JM b];have r:=oC b
 refine(Am.iterC_runE (τ:=Int×J bc) (dy m).length (λi:Nat=>((i:Int),eY m 0 ((dy m).take i))) (by simp[eY]) (λi k d=> ?_) (λk=> ?_))
 .have t:IntKind.i64.wrap ((i:Int)+1)=((i+1:Nat):Int):=eM (by omega)
  have n:=Z2 b ((dy m).take i) 0 λx s=>Ao s
  rw[yR]at n
  obtain⟨a,p,hk,h,f,_⟩:=jA (eO d);have l:=(b.p a p hk).cn
  have o:eY m 0 ((dy m).take (i+1))=eY m 0 ((dy m).take i)++(List.range p.aO.length).map λ(c:Nat)=>⟨(i:Int),(c:Int)⟩:=by
   rw[er d,UX,fp,yR,oO (lR d),f]
  dsimp only
  rw[if_pos (by omega),o]
  refine(Am.iterC_runE (τ:=Int×J bc) p.aO.length (λj:Nat=>((j:Int),eY m 0 ((dy m).take i)++(List.range j).map λ(c:Nat)=>⟨(i:Int),(c:Int)⟩)) (by simp) (λj q u=> ?_) (λq=> ?_))
  .have e:IntKind.i64.wrap ((j:Int)+1)=((j+1:Nat):Int):=eM (by omega)
   dsimp only
   rw[if_pos (by omega),xV,xG d,xS,h,if_pos (by omega),xV,hk,xS,if_pos (by omega),if_pos (by simp;omega),e,kV,xK]
  grind
 .dsimp only
  rw[if_neg (by omega),hJ]
  rfl
def kf(n:Int):Int:=if n=0 then 0 else IntKind.i64.wrap (1+n)
theorem Z3{n:Int}{g:Int->U ρ}:zR n g=g (kf n):=by
 grind [zR,zQ,mkF,kf]
theorem Ic{v:aB}{s:J aw}(a:s.length<=1000){g:Int->Int->U ρ}:sR v s g=g (fu s v).1 (fu s v).2:=by
 grind [sR,sQ,mkF,vK,fu,fX]
theorem agO{v:aB}(a:m.aa.length<=1000){g:Int->U ρ}:pj v m.aa g=g (dO m v):=by
 grind [pj,ph,mkF,vK,dO]
theorem Ie{a:Type}(n:Nat)(hn:n<=1000)(f:Nat->a)(acc:J a)(ha:acc.length<=1000)(b:Nat)(h:b<=100)(c:Int->Prop)[∀z,Decidable (c z)](o:Int)(ho:0<=o/\o<=1)(g:∀j:Nat,j<=n->(c ((j:Int)+o)↔j<n))(d:Int->a)(e:∀j:Nat,j<n->d ((j:Int)+o)=f j)(K:J a->U ρ):
  im (λ(v:Int×J a) (k:Int×J a->U ρ)=>if c v.1 then if(v.2.length+1) * b<=140737488355328/\v.2.length<=9223372036854775806 then k (IntKind.i64.wrap (v.1+1),v.2++[d v.1])else none else K v.2) (o,acc)=K (acc++(List.range n).map f):=by
 refine(Am.iterC_runE (τ:=Int×J a) n (λj:Nat=>((j:Int)+o,acc++(List.range j).map f)) (by simp) (λj k m=> ?_) (λk=> ?_))
 .have l:IntKind.i64.wrap ((j:Int)+o+1)=((j+1:Nat):Int)+o:=by rw[dC (by omega) (by omega)];omega
  have i:((acc++(List.range j).map f).length+1) * b<=140737488355328:=by
   have:((acc++(List.range j).map f).length+1)<=2001:=by simp;omega
   exact ff (Nat.mul_le_mul this h) (by decide)
  grind [kV]
 grind
def ji(m:ae)(i:Nat)(v:aB):J aA:=(List.range (dO m v).toNat).map λ(k:Nat)=>⟨1,(i:Int),(k:Int),(fu m.aa v).1,(fu m.aa v).2,kf v.aC⟩
def bdC(m:ae)(c:aD):Bd:=fX m.aa c.aC (min c.Lo 0) (max c.Hi 0)
def jj(m:ae)(i:Nat)(c:aD):J aA:=⟨2,(i:Int),0,0,c.bm,0⟩::(List.range c.bm.toNat).map λ(k:Nat)=>⟨2,(i:Int),(k:Int)+1,(bdC m c).1,(bdC m c).2,kf c.aC⟩
def mF(m:ae)(i:Nat)(x:aE):J aA:=⟨3,(i:Int),0,0,(eF m x).bE - 1,0⟩::(List.range (eF m x).aq.length).map λ(k:Nat)=>⟨3,(i:Int),(k:Int)+1,(((eF m x).aq[k]?).map (fu m.aa)).elim 0 (·.1),(((eF m x).aq[k]?).map (fu m.aa)).elim 0 (·.2),(((eF m x).aq[k]?).map (·.aC)).elim 0 kf⟩
def dS{b c:Type}(f:Nat->b->List c):Nat->List b->List c
 |_,[]=>[]
 |i,a::l=>f i a++dS f (i+1) l
theorem vQ{c d:Type}{f:Nat->c->J d}(l:J c)(a:c):∀i,dS f i (l++[a])=dS f i l++f (i+l.length) a:=by
 induction l with
 |nil=>grind [dS]
 |cons b l e=>grind [dS]
theorem qV{a c:Type}{f:Nat->a->J c}{k:Nat}(l:J a):∀i,(∀j,∀x∈l,(f j x).length<=k)->(dS f i l).length<=k * l.length:=by
 induction l with
 |nil=>grind [dS]
 |cons b l d=>
  grind [dS,Nat.mul_add]
def iH(m:ae):J aA:=dS (ji m) 0 m.aq++(dS (jj m) 0 m.ah++dS (mF m) 0 (dy m))
theorem vR(a:May m){c:aD}(h:c∈m.ah):1<=c.bm/\c.bm<=4:=by
 obtain⟨i,d⟩:=List.getElem?_of_mem h;have b:=a.c c h
 grind [tO]
theorem Qu(b:May m){c:aD}(h:c∈m.ah):lI m.aa c.aC=true:=by
 have a:=b.c c h;unfold tO at a
 split at a
 .cases a
 grind
theorem abA(vs:J aB)(hv:vs.length<=4)(a:aB->Bd)(i:Int)(acc:J aA)(ha:acc.length<=100000)(K:J aA->U ρ):
  im (λ(v:Int×J aA) (k:Int×J aA->U ρ)=>if v.1<(vs.length:Int)then if 0<=v.1 then(vs[v.1.toNat]?).bind λz=>if 0<=v.1 then(vs[v.1.toNat]?).bind λy=>if(v.2.length+1) * 48<=140737488355328/\v.2.length<=9223372036854775806 then k (IntKind.i64.wrap (v.1+1),v.2++[⟨3,i,IntKind.i64.wrap (1+v.1),(a z).1,(a z).2,kf y.aC⟩])else none else none else none else K v.2) (0,acc)=
   K (acc++(List.range vs.length).map λ(k:Nat)=>⟨3,i,(k:Int)+1,((vs[k]?).map a).elim 0 (·.1),((vs[k]?).map a).elim 0 (·.2),((vs[k]?).map (·.aC)).elim 0 kf⟩):=by
 refine(Am.iterC_runE (τ:=Int×J aA) vs.length (λj:Nat=>((j:Int),acc++(List.range j).map λ(k:Nat)=>⟨3,i,(k:Int)+1,((vs[k]?).map a).elim 0 (·.1),((vs[k]?).map a).elim 0 (·.2),((vs[k]?).map (·.aC)).elim 0 kf⟩)) (by simp) (λj k b=> ?_) (λk=> ?_))
 .grind [dC,kV]
 grind
theorem UY(e:May m){g:J aA->U ρ}:vz m g=g (iH m):=by
 have L:m.aa.length<=1000:=by have:=e.sn;omega
 have S:=e.vn;have N:=e.cn;simp only[vz,vy,mkF,Ic L,agO L,Z3,JM e]
 have W:(dS (ji m) 0 m.aq).length<=48:=by
  have:=qV (f:=ji m) (k:=4) m.aq 0 λj x _=>by simp_all [iF,ji]
  omega
 refine(Am.iterC_runE (τ:=Int×J aA) m.aq.length (λi:Nat=>((i:Int),dS (ji m) 0 (m.aq.take i))) (by simp[dS]) (λi k b=> ?_) (λk=> ?_))
 .have B:IntKind.i64.wrap ((i:Int)+1)=((i+1:Nat):Int):=eM (by omega)
  have y:=qV (f:=ji m) (k:=4) (m.aq.take i) 0 λj x _=>by simp_all [iF,ji]
  rw[yR]at y
  have t:dS (ji m) 0 (m.aq.take (i+1))=dS (ji m) 0 (m.aq.take i)++ji m i m.aq[i]:=by
   rw[er b,vQ,fp,yR,oO (lR b)]
  have E:= @iF m m.aq[i];have r:(0:Int)<=(i:Int):=by omega
  have w:(i:Int)<(m.aq.length:Int):=by omega
  simp only[r,w,if_true,xV,xG b,xS,B,t]
  refine(Ie (dO m m.aq[i]).toNat (by omega) (λ(k:Nat)=>(⟨1,(i:Int),(k:Int),(fu m.aa m.aq[i]).1,(fu m.aa m.aq[i]).2,kf m.aq[i].aC⟩:aA)) (dS (ji m) 0 (m.aq.take i)) (by omega) 48 (by omega) (λz=>z<dO m m.aq[i]) 0 (by omega) (λj _=>by omega) (λz=>⟨1,(i:Int),z,(fu m.aa m.aq[i]).1,(fu m.aa m.aq[i]).2,kf m.aq[i].aC⟩) (λj _=>by simp) (λl=>k (((i+1:Nat):Int),l))).trans ?_
  rfl
 .dsimp only
  rw[if_neg (by omega),hJ]
  -- the channels
  have V:(dS (jj m) 0 m.ah).length<=20:=by
   have:=qV (f:=jj m) (k:=5) m.ah 0 λj c E=>by
    have:=vR e E
    simp only[jj,xZ,lO,List.length_range];omega
   omega
  refine(Am.iterC_runE (τ:=Int×J aA) m.ah.length (λi:Nat=>((i:Int),dS (ji m) 0 m.aq++dS (jj m) 0 (m.ah.take i))) (by simp[dS]) (λi k b=> ?_) (λk=> ?_))
  .have B:IntKind.i64.wrap ((i:Int)+1)=((i+1:Nat):Int):=eM (by omega)
   have y:=qV (f:=jj m) (k:=5) (m.ah.take i) 0 λj c E=>by
    have:=vR e (Ao E)
    simp only[jj,xZ,lO,List.length_range];omega
   rw[yR]at y
   have t:dS (jj m) 0 (m.ah.take (i+1))=dS (jj m) 0 (m.ah.take i)++jj m i m.ah[i]:=by
    rw[er b,vQ,fp,yR,oO (lR b)]
   have T:=vR e (eO b);have r:(0:Int)<=(i:Int):=by omega
   have w:(i:Int)<(m.ah.length:Int):=by omega
   have D:((dS (ji m) 0 m.aq++dS (jj m) 0 (m.ah.take i)).length+1) * 48<=140737488355328/\(dS (ji m) 0 m.aq++dS (jj m) 0 (m.ah.take i)).length<=9223372036854775806:=by rw[xP];omega
   simp only[r,w,if_true,xV,xG b,xS,B,t,if_pos D];have d:=Qu e (eO b)
   by_cases u:0<m.ah[i].aC
   .have K:iI m.aa m.ah[i].aC≠0:=by
     unfold lI at d;simp only[iq,yD]at d
     obtain h |h:=d
     .omega
     .exact h
    have v:(m.ah[i].aC - 1).toNat<m.aa.length:=by
     obtain h |h:=gF (m.ah[i].aC - 1).toNat m.aa.length
     .exact h
     .grind [mC]
    have M:iI m.aa m.ah[i].aC=m.aa[(m.ah[i].aC - 1).toNat].cS:=by
     have:=Bx (s:=m.aa) (k:=m.ah[i].aC) (by omega) v
     rw[this]at K |-
     split
     .rfl
     .grind
    have n:IntKind.i64.wrap (m.ah[i].aC - 1)=m.ah[i].aC - 1:=dC (by omega) (by omega)
    have F:bdC m m.ah[i]=(0,m.aa[(m.ah[i].aC - 1).toNat].cS):=by unfold bdC fX;rw[if_neg (by omega),M]
    simp only[u,if_true,n,show(0:Int)<=m.ah[i].aC - 1 by omega,xG v,xS]
    refine(Ie m.ah[i].bm.toNat (by omega) (λ(k:Nat)=>(⟨2,(i:Int),(k:Int)+1,0,m.aa[(m.ah[i].aC - 1).toNat].cS,kf m.ah[i].aC⟩:aA)) _ (by grind) 48 (by omega) (λz=>z<=m.ah[i].bm) 1 (by omega) (λj _=>by omega) (λz=>⟨2,(i:Int),z,0,m.aa[(m.ah[i].aC - 1).toNat].cS,kf m.ah[i].aC⟩) (λj _=>rfl) (λl=>k (((i+1:Nat):Int),l))).trans ?_
    grind [jj]
   .have G:m.ah[i].aC=0:=by
     unfold lI at d;simp only[iq,yD]at d
     obtain h |h:=d
     .exact h
     .grind [mC]
    have F:bdC m m.ah[i]=(if m.ah[i].Lo<0 then m.ah[i].Lo else 0,if 0<m.ah[i].Hi then m.ah[i].Hi else 0):=by
     unfold bdC fX;rw[if_pos G];refine kI ?_ ?_
     .grind
     .grind
    simp only[u,if_false]
    refine(Ie m.ah[i].bm.toNat (by omega) (λ(k:Nat)=>(⟨2,(i:Int),(k:Int)+1,if m.ah[i].Lo<0 then m.ah[i].Lo else 0,if 0<m.ah[i].Hi then m.ah[i].Hi else 0,kf m.ah[i].aC⟩:aA)) _ (by grind) 48 (by omega) (λz=>z<=m.ah[i].bm) 1 (by omega) (λj _=>by omega) (λz=>⟨2,(i:Int),z,if m.ah[i].Lo<0 then m.ah[i].Lo else 0,if 0<m.ah[i].Hi then m.ah[i].Hi else 0,kf m.ah[i].aC⟩) (λj _=>rfl) (λl=>k (((i+1:Nat):Int),l))).trans ?_
    grind [jj]
  .dsimp only
   rw[if_neg (by omega),hJ]
   -- the instances
   have Q:=oC e
   refine(Am.iterC_runE (τ:=Int×J aA) (dy m).length (λi:Nat=>((i:Int),(dS (ji m) 0 m.aq++dS (jj m) 0 m.ah)++dS (mF m) 0 ((dy m).take i))) (by simp[dS]) (λi k b=> ?_) (λk=> ?_))
   .have B:IntKind.i64.wrap ((i:Int)+1)=((i+1:Nat):Int):=eM (by omega)
    have y:=qV (f:=mF m) (k:=5) ((dy m).take i) 0 λj x R=>by
     obtain⟨a,p,hk,_,H,_⟩:=jA (Ao R)
     have:=(e.p a p hk).vn
     grind [mF]
    rw[yR]at y
    have t:dS (mF m) 0 ((dy m).take (i+1))=dS (mF m) 0 ((dy m).take i)++mF m i (dy m)[i]:=by
     rw[er b,vQ,fp,yR,oO (lR b)]
    obtain⟨a,p,hk,I,H,_⟩:=jA (eO b);have o:=e.p a p hk;have q:=o.vn;have P:=o.l;have r:(0:Int)<=(i:Int):=by omega
    have w:(i:Int)<((dy m).length:Int):=by omega
    have O:(0:Int)<=(a:Int):=by omega
    have n:IntKind.i64.wrap (p.bE - 1)=p.bE - 1:=dC (by omega) (by omega)
    have D:(((dS (ji m) 0 m.aq++dS (jj m) 0 m.ah)++dS (mF m) 0 ((dy m).take i)).length+1) * 48<=140737488355328/\((dS (ji m) 0 m.aq++dS (jj m) 0 m.ah)++dS (mF m) 0 ((dy m).take i)).length<=9223372036854775806:=by simp only[xP];omega
    simp only[r,w,if_true,xV,xG b,xS,B,t,I,O,hk,if_pos D,n];have C:((dS (ji m) 0 m.aq++dS (jj m) 0 m.ah)++dS (mF m) 0 ((dy m).take i)).length<=1000:=by simp only[xP];omega
    generalize X:(dS (ji m) 0 m.aq++dS (jj m) 0 m.ah)++dS (mF m) 0 ((dy m).take i)=A at D C |-
    refine(abA p.aq q (fu m.aa) (i:Int) (A++[⟨3,(i:Int),0,0,p.bE - 1,0⟩]) (by grind) (λl=>k (((i+1:Nat):Int),l))).trans ?_
    grind [mF]
   .dsimp only
    rw[if_neg (by omega),hJ,xK]
    rfl
def jB(k:Int):Nat->List aA->List Int
 |_,[]=>[]
 |i,c::l=>(if c.Place=0/\c.Sort_=k then [(i:Int)]else [])++jB k (i+1) l
theorem lm(k:Int)(x y:J aA):∀i,jB k i (x++y)=jB k i x++jB k (i+x.length) y:=by
 induction x with
 |nil=>grind [jB]
 |cons c x a=>grind [jB]
theorem wI{k:Int}{x:J aA}(h:∀c∈x,¬(c.Place=0/\c.Sort_=k)):∀i,jB k i x=[]:=by
 induction x with
 |nil=>intro i;rfl
 |cons c x a=>grind [jB]
theorem vS{c:Type}{k:Int}{f:Nat->c->J aA}{B:c->J Bd}(l:J c)(h1:∀i,∀a∈l,(f i a).length=(B a).length)(h2:∀i n,∀a∈l,jB k n (f i a)=[(n:Int)]):∀i n,jB k n (dS f i l)=ofN (i4 n (l.map B)):=by
 induction l with
 |nil=>intro i n;rfl
 |cons a l e=>
  intro i n;rw[dS,lm,h2 i n a (by simp),h1 i a (by simp),e (λi b d=>h1 i b (by simp[d])) (λi n b d=>h2 i n b (by simp[d]))]
  rfl
theorem wJ{b:Type}{f:Nat->b->J aA}{B:b->J Bd}(l:J b)(h:∀i,∀a∈l,(f i a).map (λc=>(c.Lo,c.Hi))=B a):∀i,(dS f i l).map (λc=>(c.Lo,c.Hi))=(l.map B).flatten:=by
 induction l with
 |nil=>intro i;rfl
 |cons a l d=>grind [dS]
theorem Z4(q:May m){g:J Int->J Int->J Int->Int->J Int->J Int->U ρ}(hl:(iH m).length<=1000):wB m g=g (jB 1 0 (iH m)) (jB 2 0 (iH m)) (jB 3 0 (iH m)) (iH m).length ((iH m).map (·.Lo)) ((iH m).map (·.Hi)):=by
 simp only[wB,CK,mkF,UY q];generalize iH m=C at hl |-
 have s:∀k i (l:J aA),(jB k i l).length<=l.length:=λk i l=>by
  induction l generalizing i with
  |nil=>exact dB _
  |cons c l t=>grind [jB]
 refine(Am.iterC_runE (τ:=Int×J Int×J Int×J Int×J Int×J Int) C.length (λi:Nat=>((i:Int),jB 1 0 (C.take i),jB 2 0 (C.take i),jB 3 0 (C.take i),(C.take i).map (·.Lo),(C.take i).map (·.Hi))) (by simp[jB]) (λi k d=> ?_) (λk=> ?_))
 .have p:IntKind.i64.wrap ((i:Int)+1)=((i+1:Nat):Int):=eM (by omega)
  have n:(0:Int)<=(i:Int):=by omega
  have o:(i:Int)<(C.length:Int):=by omega
  have j:(C.take i).length=i:=by rw[yR];omega
  have b:∀k,((jB k 0 (C.take i)).length+1) * 8<=140737488355328/\(jB k 0 (C.take i)).length<=9223372036854775806:=λk=>by grind
  have f:(((C.take i).map (·.Lo)).length+1) * 8<=140737488355328/\((C.take i).map (·.Lo)).length<=9223372036854775806:=by rw[lO];omega
  have a:(((C.take i).map (·.Hi)).length+1) * 8<=140737488355328/\((C.take i).map (·.Hi)).length<=9223372036854775806:=by rw[lO];omega
  have r:∀k,jB k 0 (C.take (i+1))=jB k 0 (C.take i)++(if C[i].Place=0/\C[i].Sort_=k then [(i:Int)]else []):=λk=>by
   grind [er,lm,jB]
  have e:(C.take (i+1)).map (·.Lo)=(C.take i).map (·.Lo)++[C[i].Lo]:=by rw[er d,pE];rfl
  have h:(C.take (i+1)).map (·.Hi)=(C.take i).map (·.Hi)++[C[i].Hi]:=by rw[er d,pE];rfl
  simp only[r,e,h];simp only[n,o,if_true,xV,xG d,xS,p,if_pos (b 1),if_pos (b 2),if_pos (b 3),if_pos f,if_pos a]
  grind
 grind
theorem agP(b:May m){v:aB}(hv:Bw m.aa v=0):1<=(dO m v).toNat:=by
 unfold Bw at hv
 split at hv;· cases hv
 rename_i h;simp only[Bool.not_eq_false,xA]at h
 have a:=h.2;unfold lI at a;simp only[iq,yD]at a
 unfold dO
 have:= @jX m.aa v.aH
 grind
theorem abB(t:May m){g:J Int->J Int->J Int->Int->J Int->J Int->U ρ}:wB m g=g (dU m).aq (dU m).ah (dU m).Insts (dU m).Cells (dU m).Lo (dU m).Hi:=by
 have lv:∀i,∀v∈m.aq,(ji m i v).map (λc=>(c.Lo,c.Hi))=oA m v:=λi v _=>by
  simp_all [ji,oA,vY,List.map_const']
 have u:∀i,∀c∈m.ah,(jj m i c).map (λc=>(c.Lo,c.Hi))=lh m c:=λi c _=>by
  simp only[jj,lh,eJ,j3,vY,List.map_const',List.length_range];rfl
 have w:∀i,∀x∈dy m,(mF m i x).map (λc=>(c.Lo,c.Hi))=ko m x:=λi x _=>by
  simp only[mF,ko,eJ,j3,vY];congr 1;refine List.ext_getElem (by simp) λk P Q=> ?_
  grind
 have q:(iH m).map (λc=>(c.Lo,c.Hi))=eR m:=by
  simp only[iH,pE,wJ _ lv,wJ _ u,wJ _ w];rfl
 have s:(iH m).length=(eR m).length:=by rw[<-q,lO]
 have G:=iG t;rw[Z4 t (by omega),s]
 have D:(iH m).map (·.Lo)=(dU m).Lo:=by rw[show(dU m).Lo=(eR m).map (·.1)from rfl,<-q,j3];rfl
 have K:(iH m).map (·.Hi)=(dU m).Hi:=by rw[show(dU m).Hi=(eR m).map (·.2)from rfl,<-q,j3];rfl
 have o:∀{p:Type} {f:Nat->p->J aA} {B:p->J Bd} {l:J p},(∀i,∀a∈l,(f i a).map (λc=>(c.Lo,c.Hi))=B a)->∀i,∀a∈l,(f i a).length=(B a).length:=λh i a r=>by grind
 have e:∀{p:Type} {f:Nat->p->J aA} {B:p->J Bd} {l:J p},(∀i,∀a∈l,(f i a).map (λc=>(c.Lo,c.Hi))=B a)->(dS f 0 l).length=(l.map B).flatten.length:=λh=>by grind [wJ]
 have b:∀{p:Type} {f:Nat->p->J aA} (k:Int) (l:J p),(∀i,∀a∈l,∀c∈f i a,c.Sort_≠k)->∀i n,jB k n (dS f i l)=[]:=λ{p f} k l h=>by
  induction l with
  |nil=>intro i n;rfl
  |cons a l L=>
   grind [dS,lm,wI]
 have N:∀i,∀a∈m.aq,∀c∈ji m i a,c.Sort_=1:=λi a _ c d=>by obtain⟨k,_,rfl⟩:=List.mem_map.1 d;rfl
 have R:∀i,∀a∈m.ah,∀c∈jj m i a,c.Sort_=2:=λi a _ c d=>by
  obtain rfl |d:=List.mem_cons.1 d
  .rfl
  grind
 have M:∀i,∀a∈dy m,∀c∈mF m i a,c.Sort_=3:=λi a _ c d=>by
  obtain rfl |d:=List.mem_cons.1 d
  .rfl
  grind
 have y:∀i n,∀v∈m.aq,jB 1 n (ji m i v)=[(n:Int)]:=λi n v E=>by
  obtain⟨j,H⟩:∃j,(dO m v).toNat=j+1:=⟨(dO m v).toNat - 1,by have:=agP t (t.v v E);omega⟩
  simp only[ji,H,List.range_succ_eq_map,eJ,j3,jB]
  grind [wI]
 have I:∀i n,∀c∈m.ah,jB 2 n (jj m i c)=[(n:Int)]:=λi n c d=>by
  grind [jj,jB,wI]
 have C:∀i n,∀x∈dy m,jB 3 n (mF m i x)=[(n:Int)]:=λi n x O=>by
  grind [mF,jB,wI]
 have A:jB 1 0 (iH m)=(dU m).aq:=by
  rw[iH,lm,lm,vS (B:=oA m) _ (o lv) y,b 1 m.ah (λi a r c d=>by grind),b 1 (dy m) (λi a r c d=>by grind)]
  simp[dU,vAt,fc]
 have z:jB 2 0 (iH m)=(dU m).ah:=by
  rw[iH,lm,lm,b 2 m.aq (λi a r c d=>by grind),vS (B:=lh m) _ (o u) I,b 2 (dy m) (λi a r c d=>by grind),e lv]
  simp[dU,cAt,fD,fc]
 have F:jB 3 0 (iH m)=(dU m).Insts:=by
  rw[iH,lm,lm,b 3 m.aq (λi a r c d=>by grind),b 3 m.ah (λi a r c d=>by grind),vS (B:=ko m) _ (o w) C,e lv,e u]
  simp[dU,iAt,kg,fD,fc]
 rw[D,K,A,z,F];rfl
def okN(a:Bd)(b:Int)(j:Nat)(v:Int):Bool:=if(j:Int)<b then decide (a.1<=v)&&decide (v<=a.2)else decide (v=0)
theorem agQ(f:May m){l:J Int}{n:Nat}{c:aD}(hc:m.ah[n]? =some c)(hl:l.length=c.bm.toNat+1){g:Bool->U ρ}:ql m l (n:Int) g=g (qm m c l):=by
 have h:m.aa.length<=1000:=by have:=f.sn;omega
 have o:=vR f (yS hc);have e:l[0]? =some (l[0]'(by omega)):=xG _
 have i:l.headD 0=l[0]'(by omega):=by cases l with |nil=>simp at hl |cons a l=>rfl
 simp only[ql,qk,mkF,Ic h];rw[if_pos (by omega),xV,hc,xS,e,xS]
 simp only[e,xS];unfold qm;simp only[i];generalize l[0]'(by omega)=v0
 by_cases a:v0<0
 .grind
 rw[if_neg a]
 by_cases b:c.bm<v0
 .grind
 rw[if_neg b];have d:fu m.aa ⟨[],c.aC,0,c.Lo,c.Hi,0⟩=fM m.aa c:=rfl;rw[d];generalize fM m.aa c=bd
 refine(Am.iterC_all (τ:=Int) c.bm.toNat (λj:Nat=>(j:Int)+1) (λj=>okN bd v0 j (l.getD (j+1) 0)) (g false) (g true) (λj k p=> ?_) (λk=>by grind)).trans ?_
 .grind [dC,okN]
 grind [okN]
theorem Z5(f:May m){s:J Int}(hl:s.length=(eR m).length){g:Bool->U ρ}:zV (dU m) s g=g ((List.range s.length).all λ(i:Nat)=>match s[i]?,(eR m)[i]? with |some v,some b=>decide (b.1<=v)&&decide (v<=b.2) |_,_=>true):=by
 have o:=iG f;simp only[zV,zU,mkF];have c:(dU m).Cells=(s.length:Int):=by rw[hl];rfl
 rw[c]
 refine(Am.iterC_all (τ:=Int) s.length (λi:Nat=>(i:Int)) (λi=>match s[i]?,(eR m)[i]? with |some v,some b=>decide (b.1<=v)&&decide (v<=b.2) |_,_=>true) (g false) (g true) (λi k n=> ?_) (λk=>by grind)).trans ?_
 .have a:i<(eR m).length:=by omega
  have h:IntKind.i64.wrap ((i:Int)+1)=((i+1:Nat):Int):=eM (by omega)
  have j:(0:Int)<=(i:Int):=by omega
  have l:(i:Int)<(s.length:Int):=by omega
  have d:(dU m).Lo[i]? =some ((eR m)[i].1):=by simp[dU,xG a]
  have e:(dU m).Hi[i]? =some ((eR m)[i].2):=by simp[dU,xG a]
  simp only[j,l,if_true,xV,xG n,xG a,d,e,xS,h]
  grind
 grind
def agR(m:ae)(s:J Int)(i:Nat):Bool:=match m.ah[i]?,(cAt m)[i]? with |some c,some a=>qm m c (lK s a (c.bm.toNat+1)) |_,_=>true
theorem Z6(c:May m){s:J Int}{g:Bool->U ρ}(t:s.length<=100000):zX m (dU m) s g=g (jn m s):=by
 have l:=iG c;have p:=c.cn;simp only[zX,zW,mkF];unfold jn;rw[show(dU m).Cells=((eR m).length:Int)from rfl]
 obtain d |d |d:=Nat.lt_trichotomy s.length (eR m).length
 .rw[if_neg (show¬(s.length:Int)=((eR m).length:Int)by omega)];simp[show¬s.length=(eR m).length by omega]
 .rw[if_pos (show(s.length:Int)=((eR m).length:Int)by omega)]
  have q:(cAt m).length=m.ah.length:=by simp[cAt,jo,fD]
  simp only[Z5 c d];generalize ((List.range s.length).all λ(i:Nat)=>match s[i]?,(eR m)[i]? with |some v,some b=>decide (b.1<=v)&&decide (v<=b.2) |_,_=>true)=F
  rw[show decide (s.length=(eR m).length)=true by simp[d],m9]
  refine(Am.iterC_all (τ:=Int) m.ah.length (λi:Nat=>(i:Int)) (λi=>agR m s i) (g false) (g F) (λi k f=> ?_) (λk=>by grind)).trans ?_
  .have B:IntKind.i64.wrap ((i:Int)+1)=((i+1:Nat):Int):=eM (by omega)
   have u:(0:Int)<=(i:Int):=by omega
   have A:(i:Int)<(m.ah.length:Int):=by omega
   obtain⟨a,j,_,n,_⟩:=UR (xG f);have h:(fc m).flatten.length+(fD m).flatten.length<=(eR m).length:=by simp only[eR,xP];omega
   have w:=vR c (eO f);have o:(dU m).ah[i]? =some (a:Int):=by simp[dU,ofN,j]
   have y:IntKind.i64.wrap ((a:Int)+m.ah[i].bm)=(a:Int)+m.ah[i].bm:=dC (by omega) (by omega)
   have z:IntKind.i64.wrap ((a:Int)+m.ah[i].bm+1)=(a:Int)+m.ah[i].bm+1:=dC (by omega) (by omega)
   have x:(0:Int)<=(a:Int):=by omega
   have C:(0:Int)<=(a:Int)+m.ah[i].bm+1:=by omega
   have D:(a:Int)<=max ((a:Int)+m.ah[i].bm+1) 0/\(a:Int)+m.ah[i].bm+1<=(s.length:Int):=by omega
   have q3:((a:Int)+m.ah[i].bm+1).toNat - a=m.ah[i].bm.toNat+1:=by omega
   have e:List.take (m.ah[i].bm.toNat+1) (List.drop a s)=lK s a (m.ah[i].bm.toNat+1):=rfl;have r:(lK s a (m.ah[i].bm.toNat+1)).length=m.ah[i].bm.toNat+1:=by rw[lK,yR,vZ];omega
   grind [agR,xV,agQ]
  grind [agR]
 .rw[if_neg (show¬(s.length:Int)=((eR m).length:Int)by omega)];simp[show¬s.length=(eR m).length by omega]
theorem Z7(ho:cC m)(a:MoE m){g:Bool->U ρ}:zZ m g=g (decide (((ij m).getD (0,0,0,0)).1=0)):=by
 grind [zZ,zY,mkF,CQ]
theorem OF(a:bn m){s:J Int}(b:s.length<=100000){g:Bool->U ρ}:mz m s g=g (jn m s):=by
 have c:decide (((ij m).getD (0,0,0,0)).1=0)=true:=by rw[a.h];rfl
 simp only[mz,po,mkF,Ry a.o a.e,c,if_true,NR,HC,Z7 a.o a.e,Bool.true_eq_false,if_false,abB a.may];exact Z6 a.may b
theorem Z8(ho:cC m)(a:MoE m)(h0:((ij m).getD (0,0,0,0)).1≠0){s:J Int}{g:Bool->U ρ}:mz m s g=g false:=by
 grind [mz,po,mkF,Ry]
end
section
attribute [-simp] List.map_append List.map_take List.map_drop List.map_set
variable{m:ae}{s:J Int}{R:J Ob}
section
variable{ρ:Type}
abbrev vT(c:aK):D:=.agg [.str c.Name,.int .i64 c.dk,.int .i64 c.To,.sl false (List.map eH c.Guard),.sl false (List.map (jL false) c.aM),.bool c.Fair]
def BS(m:ae)(R:J Ob)(i a:Nat)(c:aK)(k:Nat)(s:J Int):St:=⟨[(8,.loc (.l 8 0) [] 0 0),(10,.d (.ptr (R.length+1))),(11,.d (.int .i64 a)),(67,.d (.sl false (List.map eDo c.aM))),(68,.d (.int .i64 c.aM.length)),(69,.d (.int .i64 k))],[((8,0),.own [.d (vT c)])],HM m R i s⟩
def BX(m:ae)(R:J Ob)(i a:Nat)(c:aK)(s:J Int):St:=⟨[(8,.loc (.l 8 0) [] 0 0),(10,.d (.ptr (R.length+1))),(11,.d (.int .i64 a)),(67,.d (.sl false (List.map eDo c.aM))),(68,.d (.int .i64 c.aM.length)),(69,.d (.int .i64 c.aM.length)),(70,.d (.bool false))],[((8,0),.own [.d (vT c)])],HM m R i s⟩
def BF(m:ae)(R:J Ob)(i:Nat)(s:J Int):St:=⟨[(6,.aG (.l 6 0) [] 0 0),(7,.d (.bool false))],[((6,0),.own [])],HM m R i s⟩
theorem agS:wS P 197 "lariat/fire.do" =some 250:=by kernel_rfl
theorem agT:wS P 198 "lariat/fire.do" =some 252:=by kernel_rfl
theorem agU:wS P 199 "lariat/fire.do" =some 253:=by kernel_rfl
theorem agV:wS P 200 "lariat/fire.do" =some 254:=by kernel_rfl
theorem agW:wS P 201 "lariat/fire.do" =some 263:=by kernel_rfl
@[go_sem] theorem arr{t:TypeId}{x:D}:(D.iface t x).nc=1:=rfl
@[go_sem] theorem ad4{t:TypeId}{x:D}:(D.iface t x).cells=[D.iface t x]:=rfl
@[go_sem] theorem ai4{t:TypeId}{x:D}:(D.iface t x).sv1=some (.d (.iface t x)):=rfl
theorem agX{k:Int}(h:1<=k/\k<=5):wS P (kTy k) "lariat/fire.do" =some (doF k):=by
 have a:k=1\/k=2\/k=3\/k=4\/k=5:=by omega
 obtain rfl |rfl |rfl |rfl |rfl:=a
 .exact agS
 .exact agT
 .exact agU
 .exact agV
 .exact agW
theorem Z9(i a:Nat)(c:aK)(k:Nat)(hk:k<c.aM.length)(hl:c.aM.length<=1000)(b:1<=c.aM[k].Kind/\c.aM[k].Kind<=5)(s s2:J Int)(d:Bool)(hd:∀κ:KT ρ,cbK (call (doF c.aM[k].Kind) [tV false c.aM[k],.ptr (R.length+1)] (HM m R i s)) κ=κ ([.d (.bool d)],HM m R i s2))(κ:Ex×St->U ρ):
  dG P hints rS b58 0 (BS m R i a c k s) κ=if d=true then dG P hints rS b58 0 (BS m R i a c (k+1) s2) κ else κ (.ret,BF m R i s2):=by
 refine(ap acI.2).trans ?_
 have f:IntKind.i64.wrap ((k:Int)+1)=(k:Int)+1:=dC (by omega) (by omega)
 have g:=agX b;have e:doF c.aM[k].Kind<1099511627776:=by unfold doF;repeat grind
 simp only[HM,HT,WF,tV]at hd
 cases d <;>simp -implicitDefEqProofs (maxSteps:=1000000) [go_sem,BS,BF,HM,HT,WF,eDo,vT,tV,hk,f,g,e,hd]
theorem agY(i a:Nat)(c:aK)(s:J Int)(κ:Ex×St->U ρ):dG P hints rS b58 0 (BS m R i a c c.aM.length s) κ=κ (.exit 0,BX m R i a c s):=by
 refine(ap acI.2).trans ?_
 simp -implicitDefEqProofs (maxSteps:=1000000) [go_sem,BS,BX]
theorem a_(g:bn m){r:bc}{x:aE}{p:az}{c:aK}{i k j:Nat}(h:RefAt m r x p c i k j)(a:Nat):∀(d n:Nat) (s:J Int),inB m s->n+d=c.aM.length->
  ∃s2,∀κ:Ex×St->U ρ,dG P hints rS b58 0 (BS m R i a c n s) κ=match tS m i (c.aM.drop n) s with |some t=>κ (.exit 0,BX m R i a c t) |none=>κ (.ret,BF m R i s2)
 |0,n,s,l,q=>by
  obtain rfl:n=c.aM.length:=by omega
  simp_all [agY,tS]
 |d+1,n,s,l,q=>by
  have b:n<c.aM.length:=by omega
  have o:c.aM.length<=1000:=by have:=h.ok.an;omega
  obtain⟨hk,s2,f,u⟩:=Z0 (ρ:=ρ) g l h false c.aM[n] (eO b);rw[xW b,tS]
  cases e:g9 m i s c.aM[n]with
  |none=>
   rw[e]at f
   refine⟨s2,λκ=> ?_⟩
   rw[Z9 i a c n b o hk s s2 false f κ];rfl
  |some t=>
   rw[e]at f
   obtain rfl:=u t e
   obtain⟨s3,h3⟩:=a_ g h a d (n+1) s2 (RM g.may l e) (by omega)
   refine⟨s3,λκ=> ?_⟩
   rw[Z9 i a c n b o hk s s2 true f κ,if_pos rfl,h3 κ];rfl
end
end
section
attribute [-simp] List.map_append List.map_take List.map_drop List.map_set
variable{m:ae}{s:J Int}{Q:J GStep}
section
variable{ρ:Type}
abbrev BQ(Q:J GStep):J Ob:=List.map (λ(x:GStep)=>Ob.box (.d (.agg [.int .i64 x.Cmd,.int .i64 x.Way]))) Q
abbrev HW(m:ae)(R:J Ob):J Ob:=.box (.d (WF m (dU m) (dy m) (dJ m)))::R
theorem a?(B:bn m)(K:inB m s)(b:Bool)(n:Nat)(r:bc)(hr:(dJ m)[n]? =some r)(κ:KT ρ):cbK (call 58 [.ptr 0,.sl b (List.map eI s),.int .i64 n] (HW m (BQ Q))) κ=κ ([.d (.sl false (List.map eI ((pA m s r).getD []))),.d (.bool (pA m s r).isSome)],HW m (BQ Q)):=by
 obtain⟨x,p,c,i,k,j,h⟩:=L8 B.may (yS hr)
 refine(auT _ _ _ rfl).trans ?_
 obtain⟨a,P,_,ab,W,aa⟩:=abc h.hx;have F:=h.hi;have I:=h.hj;have h3:=h.hx;have h4:=h.hk;have h5:=h.hp;have h6:=h.hc;have d:(dU m).Insts[i]? =some (a:Int):=by simp[dU,ofN,P]
 have V:=K.1;have Z:=iG B.may;have f:a<s.length:=by omega
 have o:=λb κ=>Ma (ρ:=ρ) b s (λe=>by rw[e]at f;simp at f) (by omega) κ
 have A:=λH κ=>abx (ρ:=ρ) H c.aM (by have:=h.ok.an;omega) (λa P=>(Z0 (ρ:=ρ) (R:=BQ Q) B K h false a P).1) κ
 have M:pA m s r=if s[a]=c.dk/\CS m s i c.Guard=true then(tS m i c.aM s).map λt=>t.set a c.To else none:=by
  unfold pA;simp only[h.cm,F,xV,Ec,P,gC,xG f]
 rw[M];clear M
 by_cases C:s[a]=c.dk
 .obtain⟨s3,g⟩:=a_ (ρ:=ρ) (R:=BQ Q) B h a c.aM.length 0 s K (fp _)
  simp only[BS,BX,BF,HM,HT,WF,vT,i6,ez,lO]at g
  have N:∀t,tS m i c.aM s=some t->a<t.length:=λt ht=>by rw[(HZ B.may K ht).1];omega
  by_cases E:c.Guard=[]
  .have L:CS m s i []=true:=rfl
   simp only[E,ir]at g
   cases J:tS m i c.aM s with
   |none=>
    rw[J]at g
    cases b <;>simp -implicitDefEqProofs (maxSteps:=1000000) [go_sem,HW,WF,NO,hr,F,I,h3,h4,h5,h6,d,f,o,A,C,E,L,g]
   |some t=>
    rw[J]at g
    have T:=N t J;have G:List.take t.length (t.set a c.To)=t.set a c.To:=gr (by simp)
    cases b <;>simp -implicitDefEqProofs (maxSteps:=1000000) [go_sem,HW,WF,NO,hr,F,I,h3,h4,h5,h6,d,f,o,A,C,E,L,g,T,G]
  .have U:c.Guard.isEmpty=false:=by cases hc:c.Guard with |nil=>exact absurd hc E |cons y l=>rfl
   have z:=BL m (dU m) (dy m) (dJ m) i s (BQ Q) false c.Guard;have v:=BM m (dU m) (dy m) (dJ m) i s false c.Guard;have w:=Ib m (dU m) (dy m) (dJ m) i s c.Guard;have X:i<(dy m).length:=(List.getElem?_eq_some_iff.1 h.hx).1;have Y:=((B.e.p p (yS h.hp)).c c (yS h.hc)).1.g;have u:=λκ=>wH (ρ:=ρ) B K (CW B.may K i) (dJ m) X c.Guard Y κ
   have L:CS m s i c.Guard=(decide ((iM c.Guard (jY m s i)).2=0)&&decide ((iM c.Guard (jY m s i)).1≠0)):=by
    unfold CS vP;rw[U,Bool.false_or]
    by_cases q:(iM c.Guard (jY m s i)).2=0 <;>simp[q]
   rw[L];clear L;generalize iM c.Guard (jY m s i)=r1 at u |-
   simp only[HM,HT,WF,D.cells,TD,WD,lO]at z v w u
   by_cases O:r1.2=0
   .by_cases S:r1.1=0
    .cases b <;>simp -implicitDefEqProofs (maxSteps:=1000000) [go_sem,HW,WF,NO,hr,F,I,h3,h4,h5,h6,d,f,o,C,E,z,v,w,u,O,S]
    .cases J:tS m i c.aM s with
     |none=>
      rw[J]at g
      cases b <;>simp -implicitDefEqProofs (maxSteps:=1000000) [go_sem,HW,WF,NO,hr,F,I,h3,h4,h5,h6,d,f,o,A,C,E,z,v,w,u,O,S,g]
     |some t=>
      rw[J]at g
      have T:=N t J;have G:List.take t.length (t.set a c.To)=t.set a c.To:=gr (by simp)
      cases b <;>simp -implicitDefEqProofs (maxSteps:=1000000) [go_sem,HW,WF,NO,hr,F,I,h3,h4,h5,h6,d,f,o,A,C,E,z,v,w,u,O,S,g,T,G]
   .cases b <;>simp -implicitDefEqProofs (maxSteps:=1000000) [go_sem,HW,WF,NO,hr,F,I,h3,h4,h5,h6,d,f,o,C,E,z,v,w,u,O]
 .have ac:¬(s[a]=c.dk/\CS m s i c.Guard=true):=λq=>C q.1
  cases b <;>simp -implicitDefEqProofs (maxSteps:=1000000) [go_sem,HW,WF,NO,hr,F,I,h3,h4,h5,h6,d,f,o,C]
end
end
section
attribute [-simp] List.map_append List.map_take List.map_drop List.map_set
variable{m:ae}{s:J Int}{Q:J GStep}
section
variable{ρ:Type}
theorem CX{r:bc}{x:aE}{p:az}{c:aK}{i k j n:Nat}(hr:(dJ m)[n]? =some r)(h:RefAt m r x p c i k j)(κ:KT ρ):cbK (call 32 [.ptr 0,.int .i64 n] (HW m (BQ Q))) κ=κ ([.d (vT c)],HW m (BQ Q)):=by
 refine(NO _ _ _ rfl).trans ?_
 have a:=h.hi;have b:=h.hj;have h3:=h.hx;have h4:=h.hk;have h5:=h.hp;have h6:=h.hc
 simp -implicitDefEqProofs (maxSteps:=1000000) [go_sem,HW,WF,vT,hr,a,b,h3,h4,h5,h6]
theorem abC{a off len:Nat}{xs es:J Int}{H:J Ob}{t:J Tr}{b:SV}(hl:xs.length=len)(hn:xs≠[])(h:off+len<=es.length)(hb:qp b ⟨[((a,0),.own (tl eI es))],H,t⟩=some (tl eI xs)):nP P 29 (.aG (.l a 0) [] off len) b ⟨[((a,0),.own (tl eI es))],H,t⟩=some (.d (.int .i64 (len:Int)),⟨[((a,0),.own (tl eI (jF es off xs))),((a,0),.own (tl eI es))],H,t⟩):=by
 have d:Nat.min len len=len:=Nat.min_self len
 have:=BD (P:=P) (t:=29) (u:=3) (by rfl) (by rfl) (r:=.l a 0) (p:=[]) (off:=off) (len:=len) (xs:=xs) (es:=es) (c:=.own (tl eI es)) hb (by simp[go_sem]) rfl (by grind)
 rw[this,hl,d,gr (by omega)]
 simp[go_sem,T.put,hn,jF,hl]
theorem agZ(G:bn m)(N:s.length=(eR m).length){r:bc}{x:aE}{p:az}{c:aK}{i k j n:Nat}(hr:(dJ m)[n]? =some r)(h:RefAt m r x p c i k j)(b I:Bool)(t:J Int)(ht:t.length=(eR m).length)
  (g:∀κ:KT ρ,cbK (call 57 [vT c] []) κ=κ ([.d (.int .i64 (lj c).1),.d (.int .i64 (lj c).2)],[])) (q:Nat) (F:(lj c).2=(q:Int)) (l:q<m.ah.length) (κ:KT ρ):cbK (call 59 [.ptr 0,.sl b (List.map eI s),.sl I (List.map eI t),.int .i64 n] (HW m (BQ Q))) κ=κ ([.d (.sl false (List.map eI (RL m s t c)))],HW m (BQ Q)):=by
 refine(auU _ _ _ rfl).trans ?_
 obtain⟨a,f⟩:=pB G.may (xG l);have M:=iG G.may;have T:=f.f;have S:=f.cap
 have L:(cAt m)[q]? =some a:=by
  have P:(cAt m).length=m.ah.length:=by simp[cAt,jo,fD]
  have E:=f.at0;rw[Ec,xG (by omega),gC]at E
  rw[xG (by omega),E]
 have d:=λκ=>L9 (ρ:=ρ) q l (HW m (BQ Q)) rfl a L ⟨by omega,by omega⟩ (by omega) κ
 have y:=λκ=>CX (ρ:=ρ) (Q:=Q) hr h κ
 have B:=λb κ=>Ma (ρ:=ρ) b t (λe=>by grind) (by omega) κ
 have D:(fy m s q).length=m.ah[q].bm.toNat+1:=(nL f N).1
 have u:List.take (m.ah[q].bm.toNat+1) (List.drop a s)=fy m s q:=by
  simp only[fy,f.at0,yU,xG l,lK]
 have O:(0:Int)<=(a:Int)+1+m.ah[q].bm:=by omega
 have R:a<=((a:Int)+1+m.ah[q].bm).toNat:=by omega
 have q3:(a:Int)+1+m.ah[q].bm<=(s.length:Int):=by omega
 have C:(a:Int)+1+m.ah[q].bm<=(t.length:Int):=by omega
 have q4:((a:Int)+1+m.ah[q].bm).toNat - a=m.ah[q].bm.toNat+1:=by omega
 have q5:¬((a:Int)+1+m.ah[q].bm<(a:Int)):=by omega
 have q6:(a:Int)<=(a:Int)+1+m.ah[q].bm:=by omega
 have z:RL m s t c=jF t a (fy m s q):=by unfold RL;rw[F,xV,f.at0]
 rw[z];rw[F]at g
 simp only[HW,WF,vT]at y g d
 have A:fy m s q≠[]:=λe=>by grind
 have o:=λ(b:Bool) H K=>abC (a:=11) (off:=a) (len:=m.ah[q].bm.toNat+1) (xs:=fy m s q) (es:=t) (H:=H) (t:=K) (b:=.d (.sl b (List.map eI (fy m s q)))) D A (by omega) FX
 have v:(jF t a (fy m s q)).length=t.length:=CT (by omega)
 have w:List.take t.length (jF t a (fy m s q))=jF t a (fy m s q):=gr (by omega)
 generalize fy m s q=X at o v w u |-
 cases b <;>cases I <;>simp -implicitDefEqProofs (maxSteps:=1000000) [go_sem,HW,WF,vT,y,g,B,d,u,O,R,q3,C,q4,q5,q6,o,v,w]
structure CommW(m:ae)(c:aK)(ρ:Type):Prop where
 cm:∀κ:KT ρ,cbK (call 57 [vT c] []) κ=κ ([.d (.int .i64 (lj c).1),.d (.int .i64 (lj c).2)],[])
 wy:∀κ:KT ρ,cbK (call 31 [vT c,.sl false (List.map dM m.ah)] []) κ=κ ([.d (.int .i64 (if s8 m c=true then 2 else 1))],[])
theorem a!{c:aK}{s:au}(f:s.ah=m.ah)(ha:∀x∈c.aM,D5 x s=0)(h:s8 m c=true):∃q:Nat,(lj c).2=(q:Int)/\q<m.ah.length:=by
 unfold s8 at h;simp only[xA,yD]at h
 obtain⟨h4,h⟩:=h;unfold lj at h4 h |-
 cases b:c.aM.find? talksP with
 |none=>grind
 |some a=>
  rw[b]at h h4
  simp only at h h4 |-
  have d:=List.mem_of_find?_eq_some b
  cases Qr (ha a d)with
  |send hk g i e=>grind
  |_=>omega
theorem Qv(a:May m)(c:inB m s){r:bc}{t:J Int}(h:pA m s r=some t):t.length=(eR m).length:=by
 unfold pA at h;simp only at h
 split at h
 .simp only[xM]at h
  obtain⟨u,b,rfl⟩:=h;rw[oN]
  exact(HZ a c b).1
 .cases h
theorem Qw(o:bn m)(u:inB m s)(b:Bool)(n:Nat)(r:bc)(hr:(dJ m)[n]? =some r)(hw:CommW m (pz m r) ρ)(κ:KT ρ):cbK (call 33 [.ptr 0,.sl b (List.map eI s),.int .i64 n] (HW m (BQ Q))) κ=κ ([.d (.sl false (List.map (fH false) (ll m s r)))],HW m (BQ Q)):=by
 refine(auF _ _ _ rfl).trans ?_
 obtain⟨x,p,c,i,k,j,h⟩:=L8 o.may (yS hr);rw[h.cm]at hw
 have a:=λb κ=>a? (ρ:=ρ) (Q:=Q) o u b n r hr κ
 have e:=λκ=>CX (ρ:=ρ) (Q:=Q) hr h κ
 have d:=hw.wy;have f:=λt y b z q w g κ=>agZ (ρ:=ρ) (s:=s) (Q:=Q) o u.1 hr h b z t y hw.cm q w g κ
 simp only[HW,WF,vT]at e a d f
 unfold ll
 cases v:pA m s r with
 |none=>
  rw[v]at a
  cases b <;>simp -implicitDefEqProofs (maxSteps:=1000000) [go_sem,HW,WF,vT,e,a]
 |some t=>
  rw[v]at a
  have y:=Qv o.may u v;simp only[h.cm]
  by_cases l:s8 m c=true
  .obtain⟨q,w,g⟩:=a! (th h.hp).2.1 h.ok.a l
   have f:=λb z κ=>f t y b z q w g κ
   rw[if_pos l]at d
   cases b <;>simp -implicitDefEqProofs (maxSteps:=1000000) [go_sem,HW,WF,vT,e,a,d,f,l]
  .rw[if_neg l]at d
   cases b <;>simp -implicitDefEqProofs (maxSteps:=1000000) [go_sem,HW,WF,vT,e,a,d,l]
end
end
section
attribute [-simp] List.map_append List.map_take List.map_drop List.map_set
variable{m:ae}{s:J Int}{Q:J GStep}
section
variable{ρ:Type}
def MS(m:ae)(Q:J GStep)(s:J Int)(b:Bool)(k:Nat)(a:J cH):St:=⟨[(0,.d (.ptr 0)),(1,.d (.sl b (List.map eI s))),(5,.aG (.l 5 0) [] 0 a.length),(13,.d (.int .i64 (dJ m).length)),(14,.d (.int .i64 k))],[((5,0),.own (tl (pg false) a))],HW m (BQ Q)⟩
def MI(m:ae)(Q:J GStep)(s:J Int)(b:Bool)(k:Nat)(l:J (J Int))(j:Nat)(a:J cH):St:=⟨[(0,.d (.ptr 0)),(1,.d (.sl b (List.map eI s))),(5,.aG (.l 5 0) [] 0 a.length),(6,.d (.int .i64 k)),(13,.d (.int .i64 (dJ m).length)),(14,.d (.int .i64 k)),(20,.d (.sl false (List.map (fH false) l))),(21,.d (.int .i64 l.length)),(22,.d (.int .i64 j))],[((5,0),.own (tl (pg false) a))],HW m (BQ Q)⟩
def MIX(m:ae)(Q:J GStep)(s:J Int)(b:Bool)(k:Nat)(l:J (J Int))(a:J cH):St:=⟨[(0,.d (.ptr 0)),(1,.d (.sl b (List.map eI s))),(5,.aG (.l 5 0) [] 0 a.length),(6,.d (.int .i64 k)),(13,.d (.int .i64 (dJ m).length)),(14,.d (.int .i64 k)),(20,.d (.sl false (List.map (fH false) l))),(21,.d (.int .i64 l.length)),(22,.d (.int .i64 l.length)),(23,.d (.bool false))],[((5,0),.own (tl (pg false) a))],HW m (BQ Q)⟩
theorem abD{l:J cH}{a c:Int}{t:J Int}:tl (pg false) l++[.d (.agg [.int .i64 a,.int .i64 c,.sl false (List.map eI t)])]=tl (pg false) (l++[⟨a,c,t⟩]):=by rw[tl,tl,pE];rfl
theorem abE(b:Bool)(k:Nat)(l:J (J Int))(hl:l.length<=1000)(j:Nat)(e:j<l.length)(a:J cH)(ho:a.length<=100000)(κ:Ex×St->U ρ):dG P hints jJ b41 0 (MI m Q s b k l j a) κ=dG P hints jJ b41 0 (MI m Q s b k l (j+1) (a++[⟨k,j,l[j]⟩])) κ:=by
 refine(ap acw.2).trans ?_
 have c:IntKind.i64.wrap ((j:Int)+1)=(j:Int)+1:=dC (by omega) (by omega)
 have f:(a.length+1) * 40<=140737488355328:=by omega
 have d:a.length<=9223372036854775806:=by omega
 cases b <;>simp -implicitDefEqProofs (maxSteps:=1000000) [go_sem,MI,HW,WF,e,c,f,d,abD]
theorem abF(b:Bool)(k:Nat)(l:J (J Int))(a:J cH)(κ:Ex×St->U ρ):dG P hints jJ b41 0 (MI m Q s b k l l.length a) κ=κ (.exit 2,MIX m Q s b k l a):=by
 refine(ap acw.2).trans ?_
 simp -implicitDefEqProofs (maxSteps:=1000000) [go_sem,MI,MIX,HW,WF]
def vU(k:Nat)(l:J (J Int)):J cH:=l.zipIdx.map λ(t,w)=>⟨(k:Int),(w:Int),t⟩
theorem UZ(k:Nat)(l:J (J Int)):(vU k l).length=l.length:=by simp[vU]
theorem Qx(k:Nat)(l:J (J Int))(j:Nat)(a:j<l.length):(vU k l).take (j+1)=(vU k l).take j++[⟨k,j,l[j]⟩]:=by
 simp_all [take_snoc,vU]
theorem abG(b:Bool)(k:Nat)(l:J (J Int))(hl:l.length<=1000)(a:J cH)(ho:a.length<=90000)(κ:Ex×St->U ρ):dG P hints jJ b41 0 (MI m Q s b k l 0 a) κ=κ (.exit 2,MIX m Q s b k l (a++vU k l)):=by
 have h:=DT (F:=λj=>dG P hints jJ b41 0 (MI m Q s b k l j (a++(vU k l).take j)) κ) (n:=l.length) (z:=κ (.exit 2,MIX m Q s b k l (a++vU k l))) (λj c=> ?_) ?_
 .simpa using h
 .grind [Qx,abE]
 grind [UZ,abF]
theorem OG(r:bc):(ll m s r).length<=2:=by
 grind [ll]
theorem U0(l:J bc)(r:bc):∀i,eu m s i (l++[r])=eu m s i l++vU (i+l.length) (ll m s r):=by
 induction l with
 |nil=>grind [eu,vU]
 |cons a l b=>grind [eu]
theorem OH(l:J bc):∀i,(eu m s i l).length<=2 * l.length:=by
 induction l with
 |nil=>grind [eu]
 |cons a l b=>
  grind [OG,eu,List.length_zipIdx]
theorem abH(f:bn m)(g:inB m s)(hw:∀r∈dJ m,CommW m (pz m r) ρ)(b:Bool)(k:Nat)(hk:k<(dJ m).length)(h:(dJ m).length<=10000)(a:J cH)(ho:a.length<=90000)(κ:Ex×St->U ρ):dG P hints jJ b41 1 (MS m Q s b k a) κ=dG P hints jJ b41 1 (MS m Q s b (k+1) (a++vU k (ll m s (dJ m)[k]))) κ:=by
 refine(ap acx.2).trans ?_
 have c:=λb κ=>Qw (ρ:=ρ) (Q:=Q) f g b k (dJ m)[k] (xG hk) (hw _ (eO hk)) κ
 have d:=λκ=>abG (ρ:=ρ) (Q:=Q) (m:=m) (s:=s) b k (ll m s (dJ m)[k]) (by grind [OG]) a ho κ
 have e:IntKind.i64.wrap ((k:Int)+1)=(k:Int)+1:=dC (by omega) (by omega)
 simp only[MI,MIX,HW,WF,ez]at c d
 cases b <;>simp -implicitDefEqProofs (maxSteps:=1000000) [go_sem,MS,HW,WF,hk,c,d,e]
def MX(m:ae)(Q:J GStep)(s:J Int)(b:Bool)(a:J cH):St:=⟨[(0,.d (.ptr 0)),(1,.d (.sl b (List.map eI s))),(5,.aG (.l 5 0) [] 0 a.length),(13,.d (.int .i64 (dJ m).length)),(14,.d (.int .i64 (dJ m).length)),(15,.d (.bool false))],[((5,0),.own (tl (pg false) a))],HW m (BQ Q)⟩
theorem abI(b:Bool)(a:J cH)(κ:Ex×St->U ρ):dG P hints jJ b41 1 (MS m Q s b (dJ m).length a) κ=κ (.exit 0,MX m Q s b a):=by
 refine(ap acx.2).trans ?_
 simp -implicitDefEqProofs (maxSteps:=1000000) [go_sem,MS,MX,HW,WF]
theorem abJ(b:Bool):call 53 [.sl b []] []=some ([.own []],[]):=by cases b <;>exact gP.2 ⟨60,by kernel_rfl⟩
theorem abK(b:Bool)(l:J Int)(hl:l.length<=1000)(κ:KT ρ):cbK (call 53 [.sl b (List.map eI l)] []) κ=κ ([.own (tl eI l)],[]):=by
 cases l with
 |nil=>show cbK (call 53 [.sl b []] []) κ=_;rw[abJ];rfl
 |cons x l=>grind [Ma]
theorem abL(i:bn m)(f:inB m s)(hw:∀r∈dJ m,CommW m (pz m r) ρ)(g:(dJ m).length<=10000)(b:Bool)(κ:KT ρ):cbK (call 41 [.ptr 0,.sl b (List.map eI s)] (HW m (BQ Q))) κ=κ ([.d (.sl false (List.map (pg false) (s9 m s)))],HW m (BQ Q)):=by
 refine(auG _ _ _ rfl).trans ?_
 have c:∀κ:Ex×St->U ρ,dG P hints jJ b41 1 (MS m Q s b 0 []) κ=κ (.exit 0,MX m Q s b (eu m s 0 (dJ m))):=λκ=>by
  have h:=DT (F:=λk=>dG P hints jJ b41 1 (MS m Q s b k (eu m s 0 ((dJ m).take k))) κ) (n:=(dJ m).length) (z:=κ (.exit 0,MX m Q s b (eu m s 0 (dJ m)))) (λk hk=> ?_) ?_
  .grind [eu]
  .have a:=OH (m:=m) (s:=s) ((dJ m).take k) 0
   rw[yR]at a
   rw[take_snoc hk,U0,fp,yR,oO (lR hk)]
   grind [abH]
  grind [abI]
 have a:=OH (m:=m) (s:=s) (dJ m) 0;have j:=iG i.may;unfold s9;generalize eu m s 0 (dJ m)=L at c a |-
 simp only[MS,MX,HW,WF,ez,yN,iY]at c
 have d:=λb κ=>abK (ρ:=ρ) b s (by have:=f.1;omega) κ
 by_cases e:L=[]
 .subst e
  cases b <;>simp -implicitDefEqProofs (maxSteps:=1000000) [go_sem,HW,WF,c,d]
  all_goals trace_state
 .cases b <;>simp -implicitDefEqProofs (maxSteps:=1000000) [go_sem,HW,WF,c,e]
  all_goals trace_state
end
end
section
attribute [-simp] List.map_append List.map_take List.map_drop List.map_set
variable{m:ae}{s:J Int}
section
variable{ρ:Type}
theorem ag0(a:bn m)(κ:KT ρ):cbK (call 55 [moD m] []) κ=κ ([.d (.ptr 0),.d (.bool true)],HW m []):=by
 refine(auQ _ _ _ rfl).trans ?_
 have c:=λκ=>RP (ρ:=ρ) a κ
 have b:=λκ=>aq3 (ρ:=ρ) a κ
 have h3:=λκ=>RR (ρ:=ρ) a κ
 have h4:=λκ=>agz (ρ:=ρ) a κ
 simp only[wv]at b
 simp -implicitDefEqProofs (maxSteps:=1000000) [go_sem,c,b,h3,h4,HW,WF]
theorem ag1(a:bn m)(κ:KT ρ):cbK (call 29 [moD m,.sl false (List.map eI s)] []) κ=κ ([.d (.ptr 0),.d (.bool (jn m s))],HW m []):=by
 refine(auC _ _ _ rfl).trans ?_
 have b:=λκ=>ag0 (ρ:=ρ) a κ
 have c:=λκ=>abl (ρ:=ρ) a s κ
 simp only[HW,WF]at b
 simp -implicitDefEqProofs (maxSteps:=1000000) [go_sem,b,c,HW,WF]
theorem ad5(n:Int)(κ:KT ρ):cbK (call 30 [.ptr 0,.int .i64 n] (HW m [])) κ=κ ([.d (.bool (decide (0<=n)&&decide (n<((dJ m).length:Int))))],HW m []):=by
 refine(auD _ _ _ rfl).trans ?_
 simp -implicitDefEqProofs (maxSteps:=1000000) [go_sem,HW,WF]
 grind
theorem Mc(e:bn m)(d:jn m s=true)(hw:∀r∈dJ m,CommW m (pz m r) ρ)(c:(dJ m).length<=10000)(κ:KT ρ):cbK (call 17 [moD m,.sl false (List.map eI s)] []) κ=κ ([.d (.sl false (List.map (pg false) (s9 m s)))],[]):=by
 refine(aux _ _ _ rfl).trans ?_
 have a:=λκ=>ag1 (ρ:=ρ) (s:=s) e κ
 have f:=λb κ=>abL (ρ:=ρ) (s:=s) (Q:=[]) e (CU.1 d).b hw c b κ
 rw[d]at a
 simp only[HW,BQ,ir,WF]at a f
 simp -implicitDefEqProofs (maxSteps:=1000000) [go_sem,a,f]
end
end
section
attribute [-simp] List.map_append List.map_take List.map_drop List.map_set
variable{m:ae}{s:J Int}
section
variable{ρ:Type}
def Ak(m:ae)(n:Nat):bc:=((dJ m)[n]?).getD ⟨0,0⟩
def doD(m:ae)(s:J Int)(n:Nat)(a:Int):J Int×Int:=
 if a<0\/(if s8 m (pz m (Ak m n))=true then 2 else 1)<=a then([],2)else match (ll m s (Ak m n))[a.toNat]? with |some t=>(t,0) |none=>([],15)
theorem avC(g:bn m)(q:jn m s=true)(hw:∀r∈dJ m,CommW m (pz m r) ρ)(n:Nat)(hn:n<(dJ m).length)(d:Int)(κ:KT ρ):cbK (call 11 [moD m,.sl false (List.map eI s),.int .i64 n,.int .i64 d] []) κ=κ ([.d (.sl false (List.map eI (doD m s n d).1)),.d (.int .i64 (doD m s n d).2)],[]):=by
 refine(auu _ _ _ rfl).trans ?_
 have l:(dJ m)[n]? =some (dJ m)[n]:=xG hn;obtain⟨x,p,c,i,k,j,h⟩:=L8 g.may (eO hn);have e:=λκ=>ag1 (ρ:=ρ) (s:=s) g κ
 have o:=λb κ=>Qw (ρ:=ρ) (s:=s) (Q:=[]) g (CU.1 q).b b n _ l (hw _ (eO hn)) κ
 have h3:=λκ=>ad5 (ρ:=ρ) (m:=m) (n:Int) κ
 have h4:=λκ=>CX (ρ:=ρ) (Q:=[]) l h κ
 have h5:=(hw _ (eO hn)).wy;have f:Ak m n=(dJ m)[n]:=by simp[Ak,l]
 unfold doD;rw[f];rw[h.cm]at h5 |-
 rw[q]at e
 have t:(decide ((0:Int)<=(n:Int))&&decide ((n:Int)<((dJ m).length:Int)))=true:=by simp[hn]
 rw[t]at h3
 simp only[HW,BQ,ir,WF,vT]at e o h3 h4 h5
 generalize ll m s (dJ m)[n]=L at o |-
 generalize (if s8 m c=true then(2:Int)else 1)=lo at h5 |-
 simp -implicitDefEqProofs (maxSteps:=1000000) [go_sem,e,o,h3,h4,h5]
 by_cases a:d<0
 .simp[a]
 grind
theorem ag2(f:bn m)(e:jn m s=true)(hw:∀r∈dJ m,CommW m (pz m r) ρ)(n:Nat)(hn:n<(dJ m).length)(κ:KT ρ):cbK (call 13 [moD m,.sl false (List.map eI s),.int .i64 n] []) κ=κ ([.d (.bool (decide (ll m s (Ak m n)≠[])))],[]):=by
 refine(auv _ _ _ rfl).trans ?_
 have g:(dJ m)[n]? =some (dJ m)[n]:=xG hn;have a:=λκ=>ag1 (ρ:=ρ) (s:=s) f κ
 have c:=λb κ=>Qw (ρ:=ρ) (s:=s) (Q:=[]) f (CU.1 e).b b n _ g (hw _ (eO hn)) κ
 have h3:=λκ=>ad5 (ρ:=ρ) (m:=m) (n:Int) κ
 have d:Ak m n=(dJ m)[n]:=by simp[Ak,g]
 rw[d];rw[e]at a
 have h:(decide ((0:Int)<=(n:Int))&&decide ((n:Int)<((dJ m).length:Int)))=true:=by simp[hn]
 rw[h]at h3
 simp only[HW,BQ,ir,WF,vT]at a c h3
 generalize ll m s (dJ m)[n]=L at c |-
 simp -implicitDefEqProofs (maxSteps:=1000000) [go_sem,a,c,h3]
 cases L <;>simp
end
end
section
variable{m:ae}{s:J Int}
section
variable{ρ:Type}
theorem U1{c:aK}{s:au}(f:s.ah=m.ah)(ha:∀x∈c.aM,D5 x s=0)(h4:(lj c).1=4):∃q:Nat,(lj c).2=(q:Int)/\q<m.ah.length:=by
 unfold lj at h4 |-
 cases b:c.aM.find? talksP with
 |none=>grind
 |some a=>
  rw[b]at h4
  simp only at h4 |-
  have d:=List.mem_of_find?_eq_some b
  cases Qr (ha a d)with
  |send hk g h e=>grind
  |_=>omega
theorem Qy(f:May m){r:bc}(hr:r∈dJ m):CommW m (pz m r) ρ:=by
 obtain⟨x,p,c,i,k,j,h⟩:=L8 f hr;rw[h.cm];have e:c.aM.length<=1000:=by have:=h.ok.an;omega
 refine⟨λd=> ?_,λd=> ?_⟩
 .exact((sP c).2 false d (λa b=>d ([.d (.int .i64 a),.d (.int .i64 b)],[])) λ_ _=>rfl).trans (R4 e)
 .exact((zP c m.ah).2 false d (λa=>d ([.d (.int .i64 a)],[])) λ_=>rfl).trans (aby e (U1 (th h.hp).2.1 h.ok.a))
theorem OI(c:May m):(dJ m).length<=1000:=by
 have a:∀(l:J aE) (i:Nat),(∀x∈l,x∈dy m)->(eY m i l).length<=12 * l.length:=λl=>by
  induction l with
  |nil=>grind [eY]
  |cons x l f=>
   intro i d;obtain⟨k,p,hk,_,b,_⟩:=jA (d x (by simp))
   have e:=(c.p k p hk).cn
   grind [eY]
 grind [oC,dJ]
end
end
theorem Md{n:Nat}{f:Nat->Flt}{x:Flt}(h:orF n f=some x):x.1≠0:=by
 obtain⟨i,_,a⟩:=List.exists_of_findSome?_eq_some h
 split at a
 .cases a
 grind
theorem U2{n:Nat}{f:Nat->Int}{x:Nat×Int}(h:dN n f=some x):x.2≠0:=by
 obtain⟨i,_,a⟩:=List.exists_of_findSome?_eq_some h
 split at a
 .cases a
 grind
theorem b_{m:ae}{f:Flt}(h:ij m=some f):f.1≠0:=by
 unfold ij vJ Ad sY at h;simp only[Option.or_eq_some_iff]at h
 obtain (h |⟨_,h |⟨_,h⟩⟩) |⟨_,(h |⟨_,h⟩) |⟨_,h⟩⟩:=h
 .obtain⟨q,a,rfl⟩:=Option.map_eq_some_iff.1 h
  exact U2 a
 .exact Md h
 .exact Md h
 .exact Md h
 .grind
 .exact Md h
theorem abM{m:ae}(ho:cC m)(a:MoE m)(h:((ij m).getD (0,0,0,0)).1=0):bn m:=by
 refine⟨ho,a,?_⟩
 cases b:ij m with
 |none=>rfl
 |some f=>grind [b_]
def kq:ae:=⟨[],[],[⟨[99],0,1,0,1,true⟩],[⟨[97],0,2,[],[⟨[103,111],0,1,[],[⟨4,0,0,[],[⟨1,1⟩]⟩],false⟩]⟩],[]⟩
theorem QA:ij kq=none:=by decide
theorem tj:dJ kq=[⟨0,0⟩]:=by decide
theorem OJ:s9 kq [0,0,0]=[⟨0,0,[1,1,1]⟩,⟨0,1,[0,0,1]⟩]:=by decide
section
variable{ρ:Type}
theorem abN(κ:KT ρ):cbK (call 28 [] []) κ=κ ([.d (moD kq)],[]):=by
 refine(auB _ _ _ rfl).trans ?_
 simp -implicitDefEqProofs (maxSteps:=1000000) [go_sem]
 rfl
theorem lossy_good:bn kq:=by
 refine⟨⟨by decide,by decide,by decide,by decide,by decide,?_⟩,⟨?_,?_⟩,QA⟩
 .intro p b
  obtain rfl:=List.mem_singleton.1 b
  refine⟨by decide,by decide,?_⟩
  intro c e
  obtain rfl:=List.mem_singleton.1 e
  exact⟨by decide,by decide,λa f=>by grind⟩
 .intro p b
  obtain rfl:=List.mem_singleton.1 b
  refine⟨?_⟩
  intro c e
  obtain rfl:=List.mem_singleton.1 e
  refine⟨⟨?_,?_⟩,by decide⟩
  .intro x d;cases d
  .intro a f
   obtain rfl:=List.mem_singleton.1 f
   refine⟨λx d=>(by cases d),λx d=> ?_⟩
   grind
 .intro p b;cases b
def EqS(b c:Bool)(x y:J Int)(k:Nat):St:=⟨[(0,.d (.sl b (List.map eI x))),(1,.d (.sl c (List.map eI y))),(12,.d (.int .i64 y.length)),(13,.d (.int .i64 k))],[],[]⟩
def EqX(b c:Bool)(x y:J Int):St:=⟨[(0,.d (.sl b (List.map eI x))),(1,.d (.sl c (List.map eI y))),(12,.d (.int .i64 y.length)),(13,.d (.int .i64 y.length)),(14,.d (.bool false))],[],[]⟩
theorem abO(b c:Bool)(x y:J Int)(h:x.length=y.length)(hl:y.length<=100000)(k:Nat)(hk:k<y.length)(κ:Ex×St->U ρ):dG P hints rR b15 0 (EqS b c x y k) κ=if x[k]'(by omega)=y[k]then dG P hints rR b15 0 (EqS b c x y (k+1)) κ else κ (.ret,⟨[(4,.d (.bool false))],[],[]⟩):=by
 refine(ap acq.2).trans ?_
 have a:IntKind.i64.wrap ((k:Int)+1)=(k:Int)+1:=dC (by omega) (by omega)
 have d:k<x.length:=by omega
 cases b <;>cases c <;>simp -implicitDefEqProofs (maxSteps:=1000000) [go_sem,EqS,hk,d,a]
 all_goals trace_state
theorem abP(b c:Bool)(x y:J Int)(κ:Ex×St->U ρ):dG P hints rR b15 0 (EqS b c x y y.length) κ=κ (.exit 0,EqX b c x y):=by
 refine(ap acq.2).trans ?_
 simp -implicitDefEqProofs (maxSteps:=1000000) [go_sem,EqS,EqX]
theorem R7(b c:Bool)(x y:J Int)(h:x.length=y.length)(hl:y.length<=100000)(κ:Ex×St->U ρ):∀(d k:Nat),k+d=y.length->dG P hints rR b15 0 (EqS b c x y k) κ=if x.drop k=y.drop k then κ (.exit 0,EqX b c x y)else κ (.ret,⟨[(4,.d (.bool false))],[],[]⟩)
 |0,k,hk=>by
  grind [abP]
 |d+1,k,hk=>by
  have:=R7 b c x y h hl κ d;grind [abO,xW]
theorem Me(b c:Bool)(x y:J Int)(hl:y.length<=100000)(κ:KT ρ):cbK (call 15 [.sl b (List.map eI x),.sl c (List.map eI y)] []) κ=κ ([.d (.bool (decide (x=y)))],[]):=by
 refine(auw _ _ _ rfl).trans ?_
 by_cases h:x.length=y.length
 .have a:=λκ=>R7 (ρ:=ρ) b c x y h hl κ y.length 0 (fp _)
  simp only[EqS,EqX,i6,ez]at a
  by_cases e:x=y
  .subst e
   simp only[if_true]at a
   simp -implicitDefEqProofs (maxSteps:=1000000) [go_sem,a]
  .simp only[e,if_false]at a
   simp -implicitDefEqProofs (maxSteps:=1000000) [go_sem,h,a,e]
 .have d:¬((x.length:Int)=(y.length:Int)):=by omega
  have e:¬x=y:=λq=>h (by rw[q])
  simp -implicitDefEqProofs (maxSteps:=1000000) [go_sem,d,h,e]
theorem BN(κ:KT ρ):cbK (call 10 [] []) κ=κ ([.d (.bool true)],[]):=by
 refine(aut _ _ _ rfl).trans ?_
 have d:=λκ=>abN (ρ:=ρ) κ
 have a:∀r∈dJ kq,CommW kq (pz kq r) ρ:=λr e=>Qy lossy_good.may e
 have hk:(dJ kq).length<=10000:=by rw[tj];decide
 have b:=λκ=>Mc (ρ:=ρ) (s:=[0,0,0]) lossy_good (by decide) a hk κ
 have c:=λκ=>Mc (ρ:=ρ) (s:=[0,0,1]) lossy_good (by decide) a hk κ
 have h3:=λκ=>avC (ρ:=ρ) (s:=[0,0,0]) lossy_good (by decide) a 0 (by rw[tj];decide) 0 κ
 have h4:=λκ=>ag2 (ρ:=ρ) (s:=[0,0,0]) lossy_good (by decide) a 0 (by rw[tj];decide) κ
 have h5:=λκ=>ag2 (ρ:=ρ) (s:=[1,1,0]) lossy_good (by decide) a 0 (by rw[tj];decide) κ
 rw[OJ]at b
 rw[show s9 kq [0,0,1]=[⟨-1,0,[0,0,1]⟩]by decide]at c
 rw[show doD kq [0,0,0] 0 0=([1,1,1],0)by decide]at h3
 rw[show decide (ll kq [0,0,0] (Ak kq 0)≠[])=true by decide]at h4
 rw[show decide (ll kq [1,1,0] (Ak kq 0)≠[])=false by decide]at h5
 have h6:=λκ=>Me (ρ:=ρ) false false [0,0,1] [0,0,1] (by decide) κ
 have h7:=λκ=>Me (ρ:=ρ) false false [1,1,1] [1,1,1] (by decide) κ
 simp only[moD,eJ,ir,eI,eK,ez]at d b c h3 h4 h5 h6 h7
 simp -implicitDefEqProofs (maxSteps:=1000000) [go_sem,d,b,c,h3,h4,h5,h6,h7]
end
section
attribute [-simp] List.map_append List.map_take List.map_drop List.map_set
variable{m:ae}{s:J Int}
section
variable{ρ:Type}
def onK(m:ae)(s:J Int)(k:Nat):Bool:=(List.range k).any λn=>decide (ll m s (Ak m n)≠[])
theorem b?(k:Nat):onK m s (k+1)=(onK m s k || decide (ll m s (Ak m k)≠[])):=by grind [onK]
theorem b!(l:J bc):∀i,eu m s i l=[]↔∀r∈l,ll m s r=[]:=by
 induction l with
 |nil=>grind [eu]
 |cons a l b=>simp_all [eu]
theorem c_(l:J bc):∀i,∀x∈eu m s i l,0<=x.Cmd:=by
 induction l with
 |nil=>intro i x b;cases b
 |cons a l c=>
  grind [eu]
theorem R8:onK m s (dJ m).length=true↔eu m s 0 (dJ m)≠[]:=by
 rw[Ne,b!];simp only[onK,List.any_eq_true,List.mem_range,yD];constructor
 .grind [Ak]
 .intro h
  refine oL λq=>h λr b=> ?_
  obtain⟨n,a⟩:=List.getElem?_of_mem b;refine oL λz=>q ⟨n,(List.getElem?_eq_some_iff.1 a).1,?_⟩
  simp only[Ak,a,gC];exact z
theorem abQ(h:mX m=false)(κ:KT ρ):cbK (call 6 [moD m,.sl false (List.map eI s)] []) κ=κ ([.d (.bool true)],[]):=by
 refine(ge6 _ _ _ rfl).trans ?_
 have a:=λκ=>BN (ρ:=ρ) κ
 simp -implicitDefEqProofs (maxSteps:=1000000) [go_sem,qU,h,a]
theorem abR(h:mX m=true)(hl:¬s.length<=200)(κ:KT ρ):cbK (call 6 [moD m,.sl false (List.map eI s)] []) κ=κ ([.d (.bool true)],[]):=by
 refine(ge6 _ _ _ rfl).trans ?_
 have b:=λκ=>BN (ρ:=ρ) κ
 have a:(200:Int)<(s.length:Int):=by omega
 simp -implicitDefEqProofs (maxSteps:=1000000) [go_sem,qU,h,a,b]
theorem abS(ho:cC m)(c:MoE m)(h0:((ij m).getD (0,0,0,0)).1≠0)(h:mX m=true)(hl:s.length<=200)(κ:KT ρ):cbK (call 6 [moD m,.sl false (List.map eI s)] []) κ=κ ([.d (.bool true)],[]):=by
 refine(ge6 _ _ _ rfl).trans ?_
 have b:=λκ=>BN (ρ:=ρ) κ
 have a:¬(200:Int)<(s.length:Int):=by omega
 simp -implicitDefEqProofs (maxSteps:=1000000) [go_sem,qU,h,a,b,Z8 ho c h0]
theorem abT(e:bn m)(h:mX m=true)(hl:s.length<=200)(c:jn m s=false)(κ:KT ρ):cbK (call 6 [moD m,.sl false (List.map eI s)] []) κ=κ ([.d (.bool true)],[]):=by
 refine(ge6 _ _ _ rfl).trans ?_
 have d:=λκ=>BN (ρ:=ρ) κ
 have a:¬(200:Int)<(s.length:Int):=by omega
 have b:=λg=>OF (ρ:=ρ) e (s:=s) (by omega) (g:=g)
 rw[c]at b
 simp -implicitDefEqProofs (maxSteps:=1000000) [go_sem,qU,h,a,d,b]
def AS(m:ae)(s:J Int)(b:Bool)(k:Nat):St:=⟨[(1,.d (.sl false (List.map eI s))),(2,.loc (.l 2 0) [] 0 0),(5,.d (.bool b)),(6,.d (.int .i64 k))],[((2,0),.own [.d (moD m)])],[]⟩
def AX(m:ae)(s:J Int)(b:Bool):St:=⟨[(1,.d (.sl false (List.map eI s))),(2,.loc (.l 2 0) [] 0 0),(5,.d (.bool b)),(6,.d (.int .i64 (dJ m).length)),(27,.d (.bool false))],[((2,0),.own [.d (moD m)])],[]⟩
theorem ag3(c:bn m)(e:jn m s=true)(b:Bool)(k:Nat)(hk:k<(dJ m).length)(κ:Ex×St->U ρ):dG P hints AZ b6 0 (AS m s b k) κ=dG P hints AZ b6 0 (AS m s (b || decide (ll m s (Ak m k)≠[])) (k+1)) κ:=by
 refine(ap akj.2).trans ?_
 have d:=OI c.may;have g:IntKind.i64.wrap ((k:Int)+1)=(k:Int)+1:=dC (by omega) (by omega)
 have a:=λκ=>ag2 (ρ:=ρ) (s:=s) c e (λr f=>Qy c.may f) k hk κ
 generalize decide (ll m s (Ak m k)≠[])=o at a |-
 cases b <;>cases o <;>simp -implicitDefEqProofs (maxSteps:=1000000) [go_sem,AS,OE c.may,hk,g,a]
theorem ag4(a:bn m)(b:Bool)(κ:Ex×St->U ρ):dG P hints AZ b6 0 (AS m s b (dJ m).length) κ=κ (.exit 0,AX m s b):=by
 refine(ap akj.2).trans ?_
 simp -implicitDefEqProofs (maxSteps:=1000000) [go_sem,AS,AX,OE a.may]
theorem abU(c:bn m)(h:mX m=true)(hl:s.length<=200)(p:jn m s=true)(κ:KT ρ):cbK (call 6 [moD m,.sl false (List.map eI s)] []) κ=κ ([.d (.bool true)],[]):=by
 refine(ge6 _ _ _ rfl).trans ?_
 have u:=λκ=>BN (ρ:=ρ) κ
 have i:¬(200:Int)<(s.length:Int):=by omega
 have j:=λg=>OF (ρ:=ρ) c (s:=s) (by omega) (g:=g)
 rw[p]at j
 have a:=λκ:Ex×St->U ρ=>DT (F:=λk=>dG P hints AZ b6 0 (AS m s (onK m s k) k) κ) (n:=(dJ m).length) (z:=κ (.exit 0,AX m s (onK m s (dJ m).length))) (λk hk=>by grind [b?,ag3]) (ag4 c _ κ)
 have v:onK m s 0=false:=rfl;simp only[v,AS,AX,ez]at a
 have b:=λκ=>Mc (ρ:=ρ) (s:=s) c p (λr j=>Qy c.may j) (by have:=OI c.may;omega) κ
 have l:=λg=>CQ (ρ:=ρ) c.o c.e (g:=g)
 rw[c.h]at l
 have f:=λκ=>Me (ρ:=ρ) false false s s (by omega) κ
 rw[decide_eq_true rfl]at f
 cases hk:onK m s (dJ m).length with
 |false=>
  rw[hk]at a
  have o:eu m s 0 (dJ m)=[]:=oL λq=>by grind [R8]
  have d:s9 m s=[⟨-1,0,s⟩]:=by unfold s9;rw[if_pos o]
  rw[d]at b
  simp only[eJ,ir,pg,fH,eI,eK]at b
  simp -implicitDefEqProofs (maxSteps:=1000000) [go_sem,qU,h,i,u,j,a,b,l,f]
 |true=>
  rw[hk]at a
  have o:=R8.1 hk;obtain⟨x,L,t⟩:∃x L,eu m s 0 (dJ m)=x::L:=by cases e:eu m s 0 (dJ m)with |nil=>exact absurd e o |cons x L=>grind
  have w:0<=x.Cmd:=c_ (m:=m) (s:=s) (dJ m) 0 x (by rw[t];simp)
  have d:s9 m s=x::L:=by unfold s9;rw[if_neg o,t]
  rw[d]at b
  simp -implicitDefEqProofs (maxSteps:=1000000) [go_sem,qU,h,i,u,j,a,b,w]
theorem abV(hb:mX m=true->cC m/\MoE m)(κ:KT ρ):cbK (call 6 [moD m,.sl false (List.map eI s)] []) κ=κ ([.d (.bool true)],[]):=by
 grind [abQ,abM,abT,abU,abS,abR]
end
end
end Go.Etx
