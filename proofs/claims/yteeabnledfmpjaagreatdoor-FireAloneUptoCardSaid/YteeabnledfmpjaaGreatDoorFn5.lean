/- A part of the proof: texts of mine, merged by a program (wip/dev/merge.py). -/
import Derived.Test.YteeabnledfmpjaaGreatDoorFn4
set_option linter.unusedSimpArgs false
set_option linter.unusedVariables false
namespace Go.Am
open Go
structure LF where
 d:Option Nat
 g:Option (Nat×Bool)
 ty:TypeId
 op:Op
 lk:List Nat
 u:List Nat
 nd:Bool
 eff:Bool
 rds:Bool
 hr:Bool
 ho:Bool
def Ki(h:Hint)(ops:J Qz)(nd:Bool)(u:J Nat)(o:Qz):LF:=
 ⟨o.dst,o.guard.map λp=>(Jk ops p.1,p.2),o.type,o.op,looks ops o,u,nd,fU h (o.dst.getD 0) o.op,reads o.op,wL h (o.dst.getD 0) o.op,hOf h (o.dst.getD 0) o.op⟩
def fpW(o:LF)(hi:pG)(s:St)(w:Bool)(v:SV)(k:Wk):Fp:=
 {sl:=o.lk,dst:=o.d,rd:=if iO o.op=true then []else o.lk.flatMap (eV hi)++v.aX++(if o.rds=true then o.lk.flatMap λt=>(s.get t).ba else []),wr:=fW s.wk k++k.tr.flatMap Tr.ba,
  hr:=(w&&o.hr) || (if iO o.op=true then []else o.lk.flatMap (eV hi)++v.aX++(if o.rds=true then o.lk.flatMap λt=>(s.get t).ba else [])).any aj.cD || (fW s.wk k++k.tr.flatMap Tr.ba).any aj.cD || k.tr.any Tr.aN,
  hw:=(w&&o.eff)&&(o.ho || (yX o.op&&(o.lk.flatMap λt=>(s.get t).ba).any aj.cD) || k.tr.any Tr.aN),dm:=k.tr.any Tr.bK,rx:=if w=true then t8 o.eff o.op s.val v else none,sx:=So (if w=true then t8 o.eff o.op s.val v else none) (v::o.lk.map λt=>s.get t),wx:=if w=true then yY o.op s.val else none,ox:=F9 (if w=true then yY o.op s.val else none) k.tr}
def NE(o:LF)(s:St):U Bool:=
 match o.g with
 |none=>some true
 |some (t,a)=>match s.get t with
  | .d (.bool b)=>some (b==a)
  | .aS []=>some false
  |_=>none
def NF(P:Pz)(call:dF)(h:Hint)(o:LF)(s:St):U (Bool×SV×Wk):=
 (NE o s).bind λw=>if w=true then(dD P call h (o.d.getD 0) o.ty o.op s.val s.wk).bind λp=>some (true,p.1,p.2)else some (false,.aS [],s.wk)
def gk(acc:J Fp)(f:Fp)(j:Nat):Bool:=match acc[j]? with |some g=>apartFp g f |none=>false
def fp0:Fp:=⟨[],none,[],[],false,false,false,none,[],none,[]⟩
def zk(P:Program)(call:dF)(h:Hint):List LF->Cf->List Fp->Option St
 | [],c,_=>some c.1
 |o::r,c,acc=>(NF P call h o c.1).bind λq=>
  if o.u.all (gk acc (fpW o c.2 c.1 q.1 q.2.1 q.2.2))=true then zk P call h r (c.1.fin o.d q.2.1 q.2.2,dT c.2 q.2.2.tr o.d (fV o.op c.2 q.2.1)) (acc++[if o.nd=true then fpW o c.2 c.1 q.1 q.2.1 q.2.2 else fp0])else none
section
variable{P:Pz}{hints:FuncId->Hint}{call:dF}{h:Hint}
theorem WZ{ops:J Qz}{nd:Bool}{u:J Nat}{o:Qz}{s:St}(e:j8 ops o=true):fe P call h ops o s=NF P call h (Ki h ops nd u o) s:=by
 have:ik ops s o=NE (Ki h ops nd u o) s:=by
  obtain⟨d,op,ty,f,b,a⟩:=o
  cases a with
  |none=>rfl
  |some p=>
   obtain⟨j,c⟩:=p;simp only[j8,Option.isSome_iff_exists]at e
   obtain⟨t,g⟩:=e;simp only[ik,NE,Ki,xQ,Jk,g,gC];rfl
 simp only[fe,NF,this,xF];rfl
theorem aev{ops:J Qz}{nd:Bool}{u:J Nat}{o:Qz}{hi:pG}{s:St}{w:Bool}{v:SV}{k:Wk}:mg h ops o hi s w v k=fpW (Ki h ops nd u o) hi s w v k:=rfl
def jv:List Fp->List (List Nat)->List Fp->Bool
 |acc,u::a,f::b=>u.all (gk acc f)&&jv (acc++[f]) a b
 |_,_,_=>true
def lfs(h:Hint)(ops:List Oper):List Bool->List (List Nat)->List Oper->List LF
 |n::b,u::a,o::r=>Ki h ops n u o::lfs h ops b a r
 |_,_,_=>[]
def Q5(all:J Bool)(a b:J Fp):Prop:=a.length=b.length/\∀j:Nat,all[j]? =some true->a[j]? =b[j]?
theorem TT{all:J Bool}{a b:J Fp}{f:Fp}{u:J Nat}(ha:Q5 all a b)(hu:u.all (λj=>decide (all[j]? =some true))=true):u.all (gk a f)=u.all (gk b f):=by
 rw[Bool.eq_iff_iff,io,io];simp only[io,yD]at hu
 have e:∀j∈u,gk a f j=gk b f j:=λj c=>by unfold gk;rw[ha.2 j (hu j c)]
 exact⟨λh j c=>(e j c)▸h j c,λh j c=>(e j c).symm▸h j c⟩
theorem PN{all c r:J Bool}{n:Bool}{a b:J Fp}{f:Fp}(ha:Q5 all a b)(d:all=c++n::r)(hl:a.length=c.length):Q5 all (a++[if n=true then f else fp0]) (b++[f]):=by
 refine⟨by simp[ha.1],λj g=> ?_⟩
 by_cases e:j<a.length
 .rw[xO e,xO (ha.1▸e)];exact ha.2 j g
 .by_cases h:j=a.length
  .subst h
   have:all[a.length]? =some n:=by rw[d,hl];simp
   rw[this]at g
   cases g;rw[xN (dB _),ha.1,xN (dB _)]
   simp
  .rw[lL (by simp;omega),lL (by simp[<-ha.1];omega)]
theorem Kj{ops:J Qz}{all:J Bool}:∀(l:J Qz) (b ns:J Bool) (f:J (J Nat)) (c:Cf) (acc a:J Fp),l.all (j8 ops)=true->f.length=l.length->ns.length=l.length->all=b++ns->f.all (λu=>u.all λj=>decide (all[j]? =some true))=true->Q5 all a acc->a.length=b.length->
  zk P call h (lfs h ops ns f l) c a=(dV P call h ops l c).bind λp=>if jv acc f p.2=true then some p.1.1 else none
 | [],b,[],[],c,acc,a,_,_,_,_,_,_,_=>rfl
 |o::l,b,n::ns,u::f,c,acc,a,g,t,s,d,i,m,r=>by
  simp only[kG,xA]at g i
  simp only[lfs,zk,dV,ek,<-WZ (u:=u) (nd:=n) g.1]
  cases fe P call h ops o c.1 with
  |none=>rfl
  |some q=>
   obtain⟨w,v,k⟩:=q;simp only[xS,xQ,<-aev,show(Ki h ops n u o).u=u from rfl,show(Ki h ops n u o).d=o.dst from rfl,show(Ki h ops n u o).nd=n from rfl,show(Ki h ops n u o).op=o.op from rfl,TT m i.1]
   rw[Kj l (b++[n]) ns f _ (acc++[mg h ops o c.2 c.1 w v k]) _ g.2 (by simpa using t) (by simpa using s) (by simp[d]) i.2 (PN m d r) (by simp[r])]
   cases dV P call h ops l (c.1.fin o.dst v k,dT c.2 k.tr o.dst (fV o.op c.2 v))with
   |none=>simp
   |some p=>
    simp only[xS,xQ,jv,xA]
    by_cases e:u.all (gk acc (mg h ops o c.2 c.1 w v k))=true
    .simp only[e,if_true,true_and]
    .simp only[e,if_false,false_and,xH,↓reduceIte]
theorem AT{b:Nat}{f:Fp}:∀(l:J Fp) (j:Nat),jl b f j l=true↔∀i g,l[i]? =some g->b.testBit (j+i)=true\/apartFp g f=true
 | [],j=>by simp[jl]
 |x::l,j=>by
  simp only[jl,xA,iq,AT l (j+1)];constructor
  .rintro⟨c,d⟩ i g hi
   cases i with
   |zero=>simp only[yE,xJ]at hi;subst hi;exact c
   |succ i=>rw[show j+(i+1)=j+1+i by omega];exact d i g (by simpa using hi)
  .intro a
   exact⟨a 0 x rfl,λi g hi=>by rw[show j+1+i=j+(i+1)by omega];exact a (i+1) g (by simpa using hi)⟩
def TU(h:Hint)(ops:J Qz)(o:Qz)(f:Fp):Prop:=fU h (o.dst.getD 0) o.op=false->rP ops o f
def W2(h:Hint)(ops:List Oper)(b:Nat)(u:List Nat)(y:Oper):Nat->List Oper->Bool
 |_,[]=>true
 |j,x::r=>((b.testBit j&& !u.contains j) || (!b.testBit j&&(u.contains j || (slotsApart ops x y&& !fU h (x.dst.getD 0) x.op&& !fU h (y.dst.getD 0) y.op))))&&W2 h ops b u y (j+1) r
def TV(h:Hint)(ops:List Oper):Nat->List Nat->List (List Nat)->List Oper->Bool
 |i,b::a,u::c,y::r=>u.all (λj=>decide (j<i))&&W2 h ops b u y 0 (ops.take i)&&TV h ops (i+1) a c r
 |_,[],[],[]=>true
 |_,_,_,_=>false
theorem All2.at'{α β:Type}{R:α->β->Prop}:∀{d:J α} {l:J β},All2 R d l->∀(i:Nat) b,l[i]? =some b->∃a,d[i]? =some a/\R a b
 | [],l,e,i,b,c=>by rw[show l=[]from e]at c;simp at c
 |a::d,l,e,i,b,c=>by
  obtain⟨m,r,rfl,g,h⟩:=e
  cases i with
  |zero=>simp only[yE,xJ]at c;subst c;exact⟨a,rfl,g⟩
  |succ i=>obtain⟨j,k,f⟩:=All2.at' h i b (by simpa using c);exact⟨j,by simpa using k,f⟩
theorem Kk{ops:J Qz}{b:Nat}{u:J Nat}{y:Qz}:∀(l:J Qz) (j:Nat),W2 h ops b u y j l=true->∀i x,l[i]? =some x->(b.testBit (j+i)=true/\(j+i)∉u)\/(b.testBit (j+i)=false/\((j+i)∈u\/(slotsApart ops x y=true/\fU h (x.dst.getD 0) x.op=false/\fU h (y.dst.getD 0) y.op=false)))
 | [],j,_,i,x,a=>by simp at a
 |z::l,j,hr,i,x,a=>by
  simp only[W2,xA,iq,q8,List.contains_eq_mem,decide_eq_false_iff_not,yD]at hr
  cases i with
  |zero=>simp only[yE,xJ]at a;subst a;simpa [and_assoc]using hr.1
  |succ i=>rw[show j+(i+1)=j+1+i by omega];exact Kk l (j+1) hr.2 i x (by simpa using a)
theorem F?{ops l:J Qz}{b:Nat}{u:J Nat}{y:Qz}{f:Fp}{acc:J Fp}(hu:u.all (λj=>decide (j<acc.length))=true)(hr:W2 h ops b u y 0 l=true)(ha:All2 (TU h ops) l acc)(o:TU h ops y f):jl b f 0 acc=u.all (gk acc f):=by
 rw[Bool.eq_iff_iff,AT,io];simp only[io,yD]at hu
 constructor
 .intro e j n
  have a:=hu j n;obtain⟨x,k,_⟩:=All2.at' ha j acc[j] (by simp[a])
  have:=Kk l 0 hr j x k
  simp only[fp]at this
  obtain⟨_,c⟩ |⟨d,_⟩:=this
  .exact absurd n c
  .simp only[gk,xG a]
   rcases e j acc[j] (by simp[a])with h3 |h3
   .rw[fp,d]at h3;cases h3
   .exact h3
 .intro e i g hi
  obtain⟨x,k,m⟩:=All2.at' ha i g hi
  have:=Kk l 0 hr i x k
  simp only[fp]at this |-
  obtain⟨d,_⟩ |⟨_,c |⟨c,h3,h4⟩⟩:=this
  .exact .inl d
  .right;have:=e i c;simpa [gk,hi]using this
  .exact .inr (zj (m h3) (o h4) c)
theorem All2.snoc{α β:Type}{R:α->β->Prop}{a:α}{b:β}:∀{d:J α} {l:J β},All2 R d l->R a b->All2 R (d++[a]) (l++[b])
 | [],l,c,hr=>by rw[show l=[]from c];exact⟨b,[],rfl,hr,rfl⟩
 |x::d,l,c,hr=>by
  obtain⟨g,r,rfl,e,f⟩:=c
  exact⟨g,r++[b],rfl,e,All2.snoc f hr⟩
theorem All2.leng{α β:Type}{R:α->β->Prop}:∀{a:J α} {l:J β},All2 R a l->l.length=a.length
 | [],l,b=>by rw[show l=[]from b];rfl
 |x::a,l,b=>by obtain⟨e,r,rfl,d,c⟩:=b;simp[All2.leng c]
theorem Jm{ops:J Qz}{all:J Fp}:∀(l:J Qz) (a:J Qz) (i acc:J Fp) (bs:J Nat) (c:J (J Nat)),ops=a++l->all=acc++i->All2 (TU h ops) a acc->All2 (TU h ops) l i->TV h ops a.length bs c l=true->rj all a.length bs i=jv acc c i
 | [],a,i,acc,bs,c,_,_,_,j,e=>by
  rw[show i=[]from j]
  cases bs <;>cases c <;>simp[rj,jv]
 |y::l,a,i,acc,bs,c,ho,d,k,j,e=>by
  obtain⟨f,r,rfl,m,n⟩:=j
  cases bs with
  |nil=>cases c <;>simp[TV]at e
  |cons b bs=>
   cases c with
   |nil=>simp[TV]at e
   |cons u c=>
    simp only[TV,xA]at e
    simp only[rj,jv];have g:=All2.leng k;have t1:ops.take a.length=a:=by rw[ho];simp
    have o:all.take a.length=acc:=by rw[d,<-g];simp
    rw[t1]at e
    rw[o,F? (g▸e.1.1) e.1.2 k m]
    have:=Jm (ops:=ops) (all:=all) l (a++[y]) r (acc++[f]) bs c (by simp[ho]) (by simp[d]) (All2.snoc k m) n (by simpa using e.2)
    rw[<-this];simp
theorem zm{ops:J Qz}:∀(l:J Qz) {c c':Cf} {a:J Fp},dV P call h ops l c=some (c',a)->All2 (TU h ops) l a
 | [],c,c',a,e=>by simp only[dV,xJ,pJ]at e;exact e.2▸rfl
 |o::l,c,c',a,e=>by
  simp only[dV,xB,xM,pJ]at e
  obtain⟨⟨m,f⟩,g,⟨p,b⟩,k,rfl,rfl⟩:=e
  refine⟨f,b,rfl,λj=> ?_,zm l k⟩
  obtain⟨i,n,d,_,q3⟩:=DC (ops:=ops) j (Ch g);rw[g]at d
  simp only[xJ,pJ]at d
  rw[d.2];exact q3
def PO(h:Hint)(id:Nat)(ls:J Nat)(ns:J Bool)(b:J (J Nat))(c:Code):Bool:=
 match c with
 | .region i a d=>decide (i=id)&&a.toList.all (j8 a.toList)&&d&&(match BY a.toList []with |some e=>TV h a.toList 0 e b a.toList |none=>false)&&decide (b.length=a.toList.length)&&decide (ns.length=a.toList.length)&&b.all (λu=>u.all λj=>decide (ns[j]? =some true))&&decide (h.live id=ls)&&(h.swp id).isNone
 |_=>false
def aca(h:Hint)(ns:J Bool)(b:J (J Nat))(c:Code):J LF:=match c with | .region _ a _=>lfs h a.toList ns b a.toList |_=>[]
theorem aew{c:Code}{id:Nat}{ls:J Nat}{ns:J Bool}{b:J (J Nat)}{L:J LF}(hk:PO h id ls ns b c=true)(l:aca h ns b c=L)(s:St):eL P hints h c s=(zk P (eG P hints) h L (s,ku s) []).bind λs'=>some (.normal,prune ls s'):=by
 unfold PO at hk
 split at hk
 .rename_i i a w
  simp only[xA,yD]at hk
  obtain⟨⟨⟨⟨⟨⟨⟨⟨rfl,n⟩,rfl⟩,k⟩,o⟩,g⟩,u⟩,q⟩,f⟩:=hk;subst l;simp only[aca];rw[He (by simpa using f),Kj (all:=ns) a.toList [] ns b _ [] [] n o g rfl u ⟨rfl,λ_ _=>rfl⟩ rfl,q]
  split at k
  .rename_i r j
   cases e:dV P (eG P hints) h a.toList a.toList (s,ku s)with
   |none=>rfl
   |some p=>
    obtain⟨v,d⟩:=p;have m:=zm _ e
    have:ua a.toList d=jv [] b d:=by
     unfold ua;rw[j];exact Jm a.toList [] d [] r b rfl rfl rfl m k
    simp only[xS,this]
    by_cases t:jv [] b d=true <;>simp[t]
  .cases k
 .cases hk
variable{r:J LF}{d:U Nat}{ty:TypeId}{op:Op}{lk u:J Nat}{nd eff rds hr ho:Bool}{env:J (Nat×SV)}{ct:J ((Nat×Nat)×T)}{H:J Ob}{hi:pG}{acc:J Fp}
def kP(P:Pz)(call:dF)(h:Hint)(o:LF)(r:J LF)(c:Cf)(acc:J Fp)(w:Bool)(v:SV)(k:Wk):U St:=
 if o.u.all (gk acc (fpW o c.2 c.1 w v k))=true then zk P call h r (c.1.fin o.d v k,dT c.2 k.tr o.d (fV o.op c.2 v)) (acc++[if o.nd=true then fpW o c.2 c.1 w v k else fp0])else none
@[go_sem] theorem PP:zk P call h (⟨d,none,ty,op,lk,u,nd,eff,rds,hr,ho⟩::r) (⟨env,ct,H⟩,hi) acc=(dD P call h (d.getD 0) ty op (St.val ⟨env,ct,H⟩) ⟨ct,H,[]⟩).bind λp=>kP P call h ⟨d,none,ty,op,lk,u,nd,eff,rds,hr,ho⟩ r (⟨env,ct,H⟩,hi) acc true p.1 p.2:=by
 simp only[zk,NF,NE,xS,if_true,xX];rfl
def zn(P:Pz)(call:dF)(h:Hint)(o:LF)(a:Bool)(r:J LF)(c:Cf)(acc:J Fp)(v:SV):U St:=
 match v with
 | .d (.bool b)=>if b=a then(dD P call h (o.d.getD 0) o.ty o.op c.1.val c.1.wk).bind λp=>kP P call h o r c acc true p.1 p.2 else kP P call h o r c acc false (.aS []) c.1.wk
 | .aS []=>kP P call h o r c acc false (.aS []) c.1.wk
 |_=>none
@[go_sem] theorem PQ{t:Nat}{a:Bool}{c:Cf}:zk P call h (⟨d,some (t,a),ty,op,lk,u,nd,eff,rds,hr,ho⟩::r) c acc=zn P call h ⟨d,some (t,a),ty,op,lk,u,nd,eff,rds,hr,ho⟩ a r c acc (c.1.get t):=by
 simp only[zk,NF,NE,zn]
 have f:∀b:Bool,(((some (b==a)).bind λw=>if w=true then(dD P call h (d.getD 0) ty op c.1.val c.1.wk).bind λp=>some (true,p.1,p.2)else some (false,.aS [],c.1.wk)).bind λq=>kP P call h ⟨d,some (t,a),ty,op,lk,u,nd,eff,rds,hr,ho⟩ r c acc q.1 q.2.1 q.2.2)=if b=a then(dD P call h (d.getD 0) ty op c.1.val c.1.wk).bind λp=>kP P call h ⟨d,some (t,a),ty,op,lk,u,nd,eff,rds,hr,ho⟩ r c acc true p.1 p.2 else kP P call h ⟨d,some (t,a),ty,op,lk,u,nd,eff,rds,hr,ho⟩ r c acc false (.aS []) c.1.wk:=by
  intro b
  by_cases e:b=a
  .subst e;simp only[xS,beq_self_eq_true,if_true,xX]
  .have:(b==a)=false:=by simpa using e
   simp only[this,xS,e,if_false,xH]
 generalize c.1.get t=v
 cases v with
 |d x=>
  cases x with
  |bool b=>exact f b
  |_=>rfl
 |aS l=>
  cases l with
  |nil=>rfl
  |cons _ _=>rfl
 |_=>rfl
@[go_sem] theorem ut{o:LF}{a b:Bool}{c:Cf}:zn P call h o a r c acc (.d (.bool b))=if b=a then(dD P call h (o.d.getD 0) o.ty o.op c.1.val c.1.wk).bind λp=>kP P call h o r c acc true p.1 p.2 else kP P call h o r c acc false (.aS []) c.1.wk:=rfl
@[go_sem] theorem NG{o:LF}{a:Bool}{c:Cf}:zn P call h o a r c acc (.aS [])=kP P call h o r c acc false (.aS []) c.1.wk:=rfl
variable{g:U (Nat×Bool)}{c:Cf}{w:Bool}{v:SV}{ct':J ((Nat×Nat)×T)}{H':J Ob}{tr:J Tr}
@[go_sem] theorem NH:kP P call h ⟨d,g,ty,op,lk,[],false,eff,rds,hr,ho⟩ r c acc w v ⟨ct',H',tr⟩=zk P call h r (c.1.fin d v ⟨ct',H',tr⟩,dT c.2 tr d (fV op c.2 v)) (acc++[fp0]):=by
 simp[kP]
@[go_sem] theorem PR{u:J Nat}{n:Nat}:kP P call h ⟨d,g,ty,op,lk,n::u,false,eff,rds,hr,ho⟩ r c acc w v ⟨ct',H',tr⟩=
  if(n::u).all (gk acc (fpW ⟨d,g,ty,op,lk,n::u,false,eff,rds,hr,ho⟩ c.2 c.1 w v ⟨ct',H',tr⟩))=true then zk P call h r (c.1.fin d v ⟨ct',H',tr⟩,dT c.2 tr d (fV op c.2 v)) (acc++[fp0])else none:=by
 simp[kP]
@[go_sem] theorem W3:kP P call h ⟨d,g,ty,op,lk,u,true,eff,rds,hr,ho⟩ r c acc w v ⟨ct',H',tr⟩=
  if u.all (gk acc (fpW ⟨d,g,ty,op,lk,u,true,eff,rds,hr,ho⟩ c.2 c.1 w v ⟨ct',H',tr⟩))=true then zk P call h r (c.1.fin d v ⟨ct',H',tr⟩,dT c.2 tr d (fV op c.2 v)) (acc++[fpW ⟨d,g,ty,op,lk,u,true,eff,rds,hr,ho⟩ c.2 c.1 w v ⟨ct',H',tr⟩])else none:=by
 simp[kP]
@[go_sem] theorem acb{n:Nat}{L:J aj}:dT hi [] (some n) L=(n,L)::hi:=by
 have:∀l:pG,(l.map λp=>(p.1,gc [] p.2))=l:=λl=>by induction l with |nil=>rfl |cons a r b=>simp only[eJ,b];rfl
 simp only[dT,this]
@[go_sem] theorem F!{L:J aj}:dT hi [] none L=hi:=by
 have:∀l:pG,(l.map λp=>(p.1,gc [] p.2))=l:=λl=>by induction l with |nil=>rfl |cons a r b=>simp only[eJ,b];rfl
 simp only[dT,this]
def o5(tr:List Tr):pG->pG
 | []=>[]
 |p::r=>(p.1,gc tr p.2)::o5 tr r
theorem zo(tr:J Tr):∀l:pG,(l.map λp=>(p.1,gc tr p.2))=o5 tr l
 | []=>rfl
 |p::r=>by simp only[eJ,o5,zo tr r]
@[go_sem] theorem acd:o5 tr []=[]:=rfl
@[go_sem] theorem G_{n:Nat}{l:J aj}{r:pG}:o5 tr ((n,l)::r)=(n,gc tr l)::o5 tr r:=rfl
@[go_sem] theorem G?{x:Tr}{n:Nat}{L:J aj}:dT hi (x::tr) (some n) L=(n,L)::o5 (x::tr) hi:=by simp only[dT,zo]
@[go_sem] theorem g?{x:Tr}{L:J aj}:dT hi (x::tr) none L=o5 (x::tr) hi:=by simp only[dT,zo]
theorem ahA{r:aj}{p:dP}{l:J aj}:Tr.cK (.kill r p) l=l:=rfl
theorem aex{r:aj}{n:Nat}{l:J aj}:Tr.cK (.cG r n) l=l:=rfl
theorem ajH{r:aj}{p:dP}{x:J D}{l:J aj}:Tr.cK (.cP r p x) l=l:=rfl
theorem aey{l:J aj}:Tr.cK .bL l=l:=rfl
theorem ace{k t:Nat}{v:J aj}{r:J (Nat×J aj)}:look ((k,v)::r) t=if k=t then some v else look r t:=rfl
attribute[go_sem]ahA aex ajH aey ace
attribute [go_sem] yX iO fV fpW gc eV fW ku SV.aX SV.srtss SV.ba SV.rtss aj.cD Tr.aN Tr.bK Tr.ba gk apartFp ri apartX sepL SV.dv SV.unhurts t8 yY So F9 Tr.killAt Ml
end
section
variable{P:Pz}{nv dst len:Nat}{lit:Bool}{t:TypeId}{k:Wk}
def TW(l:J T):J T:=l
@[go_sem low] theorem ahB{x:T}{l:J T}:TW (x::l)=x::l:=rfl
@[go_sem low] theorem ajI:TW []=[]:=rfl
@[go_sem] theorem awi{a:J (Nat×SV)}:fZ P nv dst lit t len a k=(elemOf P t).bind λe=>(dQ P e).bind λz=>(gg nv a k).bind λq=>
  if 0<P.cellsOf e/\q.1.all (λp=>p.2.nc==P.cellsOf e)=true/\len * P.cellsOf e<=16777216/\z.nc=P.cellsOf e then
   (tp (List.replicate len (T.cj z)) q.1).bind λes=>
    if lit=true then(if a.all (λp=>isD p.2)=true then(T.aY false es).bind λds=>some (.d (.sl false ds),q.2)else none)
    else some (.aG (.l dst 0) [] 0 len,q.2.new dst 0 (.own (TW es)))
  else none:=by
 simp only[fZ,xF,TW];rfl
@[go_sem] theorem awj{r:aj}{q:Nat×Nat}{p:dP}{off m:Nat}:dL nv (.aG r (q::p) off m) k=(k.get r).bind λc=>(c.at (q::p)).bind λnd=>match nd with
   | .own b=>(T.aY false b).bind λl=>(c.put (q::p) (.d (.sl false l))).bind λa=>(k.set r a).bind λ(k:Wk)=>some (.d (.sl false (bw l off m)),k.tell (.cP r (q::p) l))
   |_=>none:=by
 cases r <;>simp only[dL,xF] <;>rfl
@[go_sem] theorem ajJ:gg nv [] k=some ([],k):=rfl
@[go_sem] theorem ahC{i:Nat}{v:SV}{r:J (Nat×SV)}:gg nv ((i,v)::r) k=(fR nv v k).bind λp=>(gg nv r p.2).bind λq=>some ((i,p.1)::q.1,q.2):=by
 simp only[gg,xF];rfl
theorem ahD{l:J T}:tp l []=some l:=rfl
theorem aez{l:J T}{i:Nat}{x:T}{r:J (Nat×T)}:tp l ((i,x)::r)=if i<l.length then tp (l.set i x) r else none:=rfl
theorem awk{x:D}:isD (.d x)=true:=rfl
theorem asU{b:Bool}{l:J D}:fY nv (.d (.sl b l)) k=some (l.map .d,k):=rfl
attribute[go_sem]ahD aez awk asU
@[go_sem] theorem atX{n j off m:Nat}:fY nv (.aG (.l n j) [] off m) k=(k.get (.l n j)).bind λc=>match c with
  | .own a=>if nv<=n/\off=0/\m=a.length then(k.set (.l n j) .dead).bind λ(k:Wk)=>some (a,k.tell (.kill (.l n j) []))
     else if fS (bw a off m)=true then some (bw a off m,k)else none
  |_=>none:=by
 simp only[fY]
 cases k.get (.l n j)with
 |none=>rfl
 |some c=>
  simp only[xS,PJ]
  cases c with
  |own a=>simp only[xF];rfl
  |_=>rfl
@[go_sem] theorem ajK{n off m:Nat}{a:J T}{r:aj}{p:dP}:qn n a (.aG r p off m) k=if off=0 then
   (k.get r).bind λc=>(c.at p).bind λnd=>match nd with
    | .own b=>if m<=b.length/\dW n b=true/\QI m b a=true then(c.put p .dead).bind λd=>(k.set r d).bind λ(k:Wk)=>some (b.take m,k.tell (.kill r p))else none
    |_=>none
  else none:=by
 simp only[qn,xF]
 try rfl
@[go_sem] theorem atY{s x:SV}:iu P nv dst t s x k=(elemOf P t).bind λe=>(dQ P e).bind λz=>(fY nv x k).bind λq=>
  if 0<P.cellsOf e/\dW (P.cellsOf e) q.1=true/\z.nc=P.cellsOf e then
   (qn (P.cellsOf e) q.1 (aU q.2.tr s) q.2).bind λo=>
    if(o.1.length+q.1.length) * P.bytesOf e<=140737488355328/\o.1.length+q.1.length<=9223372036854775807 then
     some (.aG (.l dst 0) [] 0 (o.1.length+q.1.length),o.2.new dst 0 (.own (o.1++q.1)))
    else none
  else none:=by
 simp only[iu,xP]
@[go_sem] theorem asV{a b:IntKind}{n m:Int}:F6 P dst t (.d (.int a n)) (.d (.int b m)) k=(elemOf P t).bind λe=>(dQ P e).bind λz=>
   if 0<=n/\n<=m/\(n=0->m=0)/\(P.bytesOf e:Int) * m<=281474976710656/\m<=9223372036854775807/\0<P.cellsOf e/\z.nc=P.cellsOf e then
    some (.aG (.l dst 0) [] 0 n.toNat,k.new dst 0 (.own (List.replicate n.toNat (T.cj z))))
   else none:=rfl
@[go_sem] theorem aeA{v:SV}:js nv v k=(fR nv v k).bind λp=>some (p.1.fresh,p.2):=by
 simp only[js,xF];rfl
attribute [go_sem] T.fresh T.fresh1 List.any_cons List.any_nil
def acf(P:Pz)(t:TypeId)(a:SV)(x:T)(k:Wk):U Wk:=
 match a with
 | .loc r p i off=>
  if x.nc=P.cellsOf t/\0<x.nc then
   (k.get r).bind λc=>(c.at p).bind λnd=>
    match nd with
    | .own b=>(b[i]?).bind λe=>
     if off+x.nc<=e.nc then
      (c.put p (.own (b.set i (if off=0/\x.nc=e.nc then x else e.setCells off x.cells)))).bind λd=>
       (k.set r d).bind λ(k:Wk)=>some (if tm e=true then k.tell (.cG r (p.length+1))else k)
     else none
    |_=>none
  else none
 |_=>none
@[go_sem] theorem ajL{a v:SV}:mG P nv t a v k=(js nv v k).bind λq=>acf P t (bD (aU q.2.tr a)) q.1 q.2:=by
 simp only[mG,xF]
 try rfl
@[go_sem] theorem ahE{r:aj}{p:dP}{i o:Nat}:bD (.loc r p i o)=.loc r p i o:=rfl
@[go_sem] theorem ahF{o:Nat}:bD (.d (.ptr o))=.loc (.o o) [] 0 0:=rfl
@[go_sem] theorem ahG{r:aj}{p:dP}{i off:Nat}{x:T}:acf P t (.loc r p i off) x k=if x.nc=P.cellsOf t/\0<x.nc then
   (k.get r).bind λc=>(c.at p).bind λnd=>
    match nd with
    | .own a=>(a[i]?).bind λe=>
     if off+x.nc<=e.nc then
      (c.put p (.own (a.set i (if off=0/\x.nc=e.nc then x else e.setCells off x.cells)))).bind λb=>
       (k.set r b).bind λ(k:Wk)=>some (if tm e=true then k.tell (.cG r (p.length+1))else k)
     else none
    |_=>none
  else none:=rfl
@[go_sem] theorem ajM{a:J (Nat×SV)}:BT P t a=match dQ P t with
  |some (.agg z)=>(dX P t).bind λb=>(Au b (z.map .d) a).bind λl=>some (SV.bt l)
  |_=>none:=by
 simp only[BT,xF];rfl
@[go_sem] theorem ahH{a:Nat ⊕ J (Nat×Nat)}{cs:J SV}:Au a cs []=some cs:=rfl
@[go_sem] theorem aeB{a:Nat ⊕ J (Nat×Nat)}{cs:J SV}{i:Nat}{v:SV}{r:J (Nat×SV)}:Au a cs ((i,v)::r)=(wb a i).bind λq=>if v.solid=true/\v.nc=q.2/\q.1+q.2<=cs.length then Au a (cs.take q.1++v.cells++cs.drop (q.1+q.2)) r else none:=rfl
section
variable{r r':aj}{p p':dP}{off i n m:Nat}{l:J D}{a b:Nat×Nat}
@[go_sem] theorem ajN:Tr.sv (.kill r' p') (.aG r p off m)=if r=r' then(if p=p' then .dead else if p'.length<p.length then .dead else .aG r p off m)else .aG r p off m:=by simp only[Tr.sv]
@[go_sem] theorem ahI:Tr.sv (.cG r' n) (.aG r p off m)=if r=r'/\n<=p.length then .dead else .aG r p off m:=by simp only[Tr.sv]
@[go_sem] theorem asW:Tr.sv (.cP r' p' l) (.aG r p off m)=if r=r' then(if p=p' then .d (.sl false ((l.drop off).take m))else if p'.length<p.length then .dead else .aG r p off m)else .aG r p off m:=by simp only[Tr.sv]
@[go_sem] theorem asX:Tr.sv (.dm a b) (.aG r p off m)=if r=.l a.1 a.2 then .aG (.l b.1 b.2) p off m else .aG r p off m:=by simp only[Tr.sv]
@[go_sem] theorem aeC{x y:Nat}:Tr.sv .bL (.aG (.l x y) p off m)=.aG (.l x y) p off m:=by simp only[Tr.sv]
@[go_sem] theorem aeD{x:Nat}:Tr.sv .bL (.aG (.o x) p off m)=.dead:=by simp only[Tr.sv]
@[go_sem] theorem ajO:Tr.sv (.kill r' p') (.loc r p i off)=if r=r' then(if p=p' then .dead else if p'.length<p.length then .dead else .loc r p i off)else .loc r p i off:=by simp only[Tr.sv]
@[go_sem] theorem ahJ:Tr.sv (.cG r' n) (.loc r p i off)=if r=r'/\n<=p.length then .dead else .loc r p i off:=by simp only[Tr.sv]
@[go_sem] theorem asY:Tr.sv (.cP r' p' l) (.loc r p i off)=if r=r' then(if p=p' then .dead else if p'.length<p.length then .dead else .loc r p i off)else .loc r p i off:=by simp only[Tr.sv]
@[go_sem] theorem asZ:Tr.sv (.dm a b) (.loc r p i off)=if r=.l a.1 a.2 then .loc (.l b.1 b.2) p i off else .loc r p i off:=by simp only[Tr.sv]
@[go_sem] theorem aeE{x y:Nat}:Tr.sv .bL (.loc (.l x y) p i off)=.loc (.l x y) p i off:=by simp only[Tr.sv]
@[go_sem] theorem aeF{x:Nat}:Tr.sv .bL (.loc (.o x) [] i off)=.loc (.o x) [] i off:=by simp only[Tr.sv]
end
section
variable{call:dF}{h:Hint}{f:FuncId}{ds:J D}{b:bq}{ct:J ((Nat×Nat)×T)}{H:J Ob}{tr:J Tr}
theorem ajP:gy call h dst f ds b k=if h.ro.contains dst=true then(BW (roD k.H 4) ds).bind λa=>fg call h dst f (D.bl a) {sn:=true,lk:=List.range k.H.length++b.lk} k else if h.lkn.contains dst=true/\b.sn=true then fg call h dst f ds {b with lk:=b.lk++yW k.H} k else fg call h dst f ds b k:=rfl
theorem G!:fN [] H=H:=rfl
theorem aeG{H':J Ob}:jG H [] H'=H':=rfl
theorem g!{n:Nat}{r:J Nat}:fN (n::r) H=fN r (H.set n .lock):=rfl
theorem acg{n:Nat}{r:J Nat}{H':J Ob}:jG H (n::r) H'=jG H r (match H[n]? with |some x=>H'.set n x |none=>H'):=rfl
attribute[go_sem]ajP G! aeG g! acg
theorem gK:∀H:J Ob,ec H H=true
 | []=>rfl
 | .box c::r=>by simp[ec,gK r]
 |.map _::r|.iter _ _::r|.bY _::r|.frame .. ::r|.lock::r|.row _::r|.sset _::r=>by simp[ec,gK r]
@[go_sem] theorem ahK{H':J Ob}:ec [] H'=true:=rfl
@[go_sem] theorem ahL{c c':T}{r r':J Ob}:ec (.box c::r) (.box c'::r')=(c.nc==c'.nc&&ec r r'):=rfl
@[go_sem] theorem ahM{c c':J (D×T)}{r r':J Ob}:ec (.map c::r) (.map c'::r')=ec r r':=rfl
variable{x y z w:D}
@[go_sem] theorem atZ:pF dst [] k=some (.aS [],k):=rfl
@[go_sem] theorem at1{t:T}:pF dst [t] k=(ln dst 0 t k).bind λp=>some (p.1,p.2.2):=by
 simp only[pF,ic,xF,xX];rfl
@[go_sem] theorem at2{t u:T}:pF dst [t,u] k=(ln dst 0 t k).bind λp=>(ln dst p.2.1 u p.2.2).bind λq=>some (.aS [p.1,q.1],q.2.2):=by
 simp only[pF,ic,xF,xX];rfl
@[go_sem] theorem at3{t u v:T}:pF dst [t,u,v] k=(ln dst 0 t k).bind λp=>(ln dst p.2.1 u p.2.2).bind λq=>(ln dst q.2.1 v q.2.2).bind λr=>some (.aS [p.1,q.1,r.1],r.2.2):=by
 simp only[pF,ic,xF,xX];rfl
@[go_sem] theorem at4{j:Nat}:ln dst j (.d x) k=some (.d x,j,k):=rfl
@[go_sem] theorem ajQ{j:Nat}{es:J T}:ln dst j (.own es) k=some (.aG (.l dst j) [] 0 es.length,j+1,k.new dst j (.own es)):=rfl
@[go_sem] theorem ajR{j:Nat}{es:J T}:ln dst j (.agg es) k=(ga dst j es k).bind λp=>some (.agg p.1,p.2):=by simp only[ln,xF];rfl
@[go_sem] theorem H_{j:Nat}:ga dst j [] k=some ([],j,k):=rfl
attribute [go_sem] EM
@[go_sem] theorem awl:fE nv (.d x) k b=some (if EM<=nv then x else x.norm,k,b):=rfl
@[go_sem] theorem awm{n j off m:Nat}:fE nv (.aG (.l n j) [] off m) k b=(k.get (.l n j)).bind λc=>match c with
   | .own a=>if EM<=nv/\a.isEmpty=true then some (.sl false [],k,b)else if nv<=n/\off=0/\m=a.length then(T.aY false a).bind λl=>(k.set (.l n j) .dead).bind λ(k:Wk)=>some (.sl false l,k.tell (.cP (.l n j) [] l),b)
     else(T.aY true a).bind λl=>some (.sl true (bw l off m),k,{b with sn:=true})
   |_=>none:=by
 simp only[fE]
 cases k.get (.l n j)with
 |none=>rfl
 |some c=>
  simp only[xS,PJ]
  cases c with
  |own a=>simp only[xF];rfl
  |_=>rfl
@[go_sem] theorem at5{n j off m:Nat}{q:Nat×Nat}{p:dP}:fE nv (.aG (.l n j) (q::p) off m) k b=(k.get (.l n j)).bind λc=>(c.at (q::p)).bind λnd=>match nd with
   | .own a=>if EM<=nv/\a.isEmpty=true then some (.sl false [],k,b)else(T.aY true a).bind λl=>some (.sl true (bw l off m),k,{b with sn:=true})
   |_=>none:=by
 simp only[fE,xF];rfl
@[go_sem] theorem awn{n off m:Nat}{p:dP}:fE nv (.aG (.o n) p off m) k b=(k.get (.o n)).bind λc=>(c.at p).bind λnd=>match nd with
   | .own a=>if EM<=nv/\a.isEmpty=true then some (.sl false [],k,b)else(T.aY true a).bind λl=>some (.sl true (bw l off m),k,{sn:=true,lk:=n::b.lk})
   |_=>none:=by
 simp only[fE,xF];rfl
@[go_sem] theorem at6{l:J SV}:wK nv (.agg l) k b=(lr nv l k b).bind λp=>some (.agg p.1,p.2.1,p.2.2):=by simp only[wK,xF];rfl
@[go_sem] theorem as0:lr nv [] k b=some ([],k,b):=rfl
@[go_sem] theorem ajS{v:SV}{r:J SV}:lr nv (v::r) k b=(fE nv (aU k.tr v) k b).bind λp=>(lr nv r p.2.1 p.2.2).bind λq=>some (p.1::q.1,q.2.1,q.2.2):=by simp only[lr,xF];rfl
end
@[go_sem] theorem ach{n:Nat}:dW n []=true:=rfl
@[go_sem] theorem Kl{n:Nat}{x:T}{l:J T}:dW n (x::l)=(x.nc==n&&dW n l):=rfl
attribute [go_sem] lu fS wb SV.solid SV.nc SV.cells SV.bt T.bt T.setCells T.aT T.cells T.cj T.ofD1 QI tm SV.bG T.bG
end
@[go_sem] theorem ahN{P:Pz}{t:TypeId}{k:IntKind}{n:Int}{s:J UInt8}:tZ P t (.d (.str s)) (.d (.int k n))=match P.underlying t with |some .string=>(if 0<=n then(s[n.toNat]?).bind λb=>some (.d (.int .u8 b.toNat))else none) |_=>none:=by
 simp only[tZ,xF];rfl
section
variable{α β γ:Type}
theorem Hh{c:Prop}[Decidable c]{a b:U α}{g:α->U γ}:(if c then a else b).bind g=if c then a.bind g else b.bind g:=by split <;>rfl
theorem W4{o:U α}{f:α->β}{g:β->U γ}:(o.map f).bind g=o.bind λx=>g (f x):=by cases o <;>rfl
theorem kk(K:α->β)(x:α):some (K x)=(some x).map K:=rfl
end
section
variable{P:Pz}{call:dF}{h:Hint}{d:U Nat}{ty:TypeId}{op:Op}{r:J dd}{env:J (Nat×SV)}{ct:J ((Nat×Nat)×T)}{H:J Ob}{b:Bool}
@[go_sem high] theorem AU:uq P call h d ty op false r ⟨env,ct,H⟩ (.d (.bool b))=if b=true then rO P call h r (St.fin ⟨env,ct,H⟩ d (.aS []) ⟨ct,H,[]⟩)else(dD P call h (d.getD 0) ty op (St.val ⟨env,ct,H⟩) ⟨ct,H,[]⟩).bind λp=>Q4 P call h d r ⟨env,ct,H⟩ p.1 p.2:=by
 cases b <;>simp[ur]
@[go_sem high] theorem AV{o:LF}{r:J LF}{c:Cf}{acc:J Fp}:zn P call h o false r c acc (.d (.bool b))=if b=true then kP P call h o r c acc false (.aS []) c.1.wk else(dD P call h (o.d.getD 0) o.ty o.op c.1.val c.1.wk).bind λp=>kP P call h o r c acc true p.1 p.2:=by
 cases b <;>simp[ut]
end
@[reducible] def eI(n:Int):D:=.int .i64 n
@[reducible] def eB(b:Bool):D:=.bool b
@[reducible] def eS(s:J UInt8):D:=.str s
@[reducible] def eK(k:IntKind)(n:Int):D:=.int k n
def tl{α:Type}(f:α->D)(l:J α):J T:=l.map λx=>.d (f x)
section
variable{α:Type}{f:α->D}{l:J α}{x:α}{b:Bool}
attribute [go_sem] D.cW D.aZ D.bX D.bl
theorem fO(h:∀x,(f x).cW=true):D.aZ (l.map f)=true:=by induction l <;>simp_all [D.aZ]
theorem qw{g:α->D}(h:∀x,(f x).bX=g x):D.bl (l.map f)=l.map g:=by induction l <;>simp_all [D.bl]
theorem kn(h:∀x,(f x).bX=f x):D.bl (l.map f)=l.map f:=qw h
theorem gB{n:Nat}(h:∀x,(f x).low n=true):D.aQ n (l.map f)=true:=by induction l <;>simp_all [D.aQ]
@[go_sem] theorem iY:tl f []=[]:=rfl
@[go_sem] theorem W5:(tl f l).length=l.length:=by simp[tl]
@[go_sem] theorem at7{i:Nat}:(tl f l)[i]? =(l[i]?).map λx=>.d (f x):=by simp[tl]
@[go_sem] theorem awo{i:Nat}(h:i<(tl f l).length):(tl f l)[i]=.d (f (l[i]'(by simpa [tl]using h))):=by simp[tl]
theorem nh:tl f l++[.d (f x)]=tl f (l++[x]):=by simp[tl]
@[go_sem] theorem as1{n:Nat}:(tl f l).take n=tl f (l.take n):=by simp[tl,F2]
@[go_sem] theorem as2{n:Nat}:(tl f l).drop n=tl f (l.drop n):=by simp[tl,OW]
@[go_sem] theorem as3:(l.map (T.d ∘ f))=tl f l:=rfl
theorem eP{n:Nat}(h:∀x,(f x).nc=n):dW n (tl f l)=true:=by
 induction l with
 |nil=>rfl
 |cons a r b=>simp only[tl,eJ,Kl]at b |-;rw[b];simp[T.nc,h]
theorem hZ(h:∀x,(f x).norm=f x):T.aY b (tl f l)=some (l.map f):=by
 induction l with
 |nil=>rfl
 |cons a r c=>simp only[tl,eJ,T.aY,T.cP,h]at c |-;rw[c];rfl
theorem H?{n:Nat}(h:∀x,(f x).low n=true):T.aQ n (tl f l)=true:=by
 induction l with
 |nil=>rfl
 |cons a r b=>simp only[tl,eJ,T.aQ,T.low,h]at b |-;simpa using b
@[go_sem] theorem take_snoc:(l++[x]).take (l.length+1)=l++[x]:=gr (by simp)
@[go_sem high] theorem aeH{l:J Int}{n:Int}:tl eI l++[.d (.int .i64 n)]=tl eI (l++[n]):=by simp[tl]
@[go_sem] theorem ajT{l:J (J UInt8)}{n:J UInt8}:tl eS l++[.d (.str n)]=tl eS (l++[n]):=by simp[tl]
@[go_sem high] theorem ahO{l:J Int}{n:Int}{i:Nat}:(tl eI l).set i (.d (.int .i64 n))=tl eI (l.set i n):=by simp[tl,BR]
@[go_sem] theorem as4:T.nc .dead=1:=rfl
def tlo(f:α->D)(l:J (J α)):J T:=l.map λr=>.own (tl f r)
section
variable{l:J (J α)}{r:J α}
theorem H!{n:Nat}:tlo f (List.replicate n [])=List.replicate n (.own []):=by simp[tlo,tl]
end
@[go_sem high] theorem as5{n:Nat}{z:Int}:List.replicate n (T.d (.int .i64 z))=tl eI (List.replicate n z):=by simp[tl]
@[go_sem] theorem aci{r:aj}{p:dP}{i o:Nat}:j4 r p i o []=some []:=rfl
@[go_sem] theorem I_{r:aj}{p:dP}{i o:Nat}{t:T}{l:J T}:j4 r p i o (t::l)=(ib r p i o t).bind λx=>(j4 r p i (o+1) l).bind λxs=>some (x::xs):=by
 simp only[j4,xF];rfl
attribute [go_sem] gK T.aZ T.cW T.aQ T.low D.low D.aQ
attribute [go_sem] canon eI eB eS eK Hh W4 xX lu yE List.getElem?_cons_succ xZ yN List.length_map decide_true decide_false Int.natCast_nonneg xV List.getElem?_map xQ Option.map_none xH bw List.take_zero List.drop_zero List.take_succ_cons List.drop_succ_cons
end
mutual
theorem D.beq_refl:∀(x:D),D.beq x x=true
 | .int k n=>by simp[D.beq]
 | .bool b=>by simp[D.beq]
 | .str s=>by simp[D.beq]
 | .aJ=>rfl
 | .sl b l=>by simp[D.beq,D.bg l]
 | .agg l=>by simp[D.beq,D.bg l]
 | .cQ=>rfl
 | .ptr o=>by simp[D.beq]
 | .df=>rfl
 | .map o=>by simp[D.beq]
 | .cX=>rfl
 | .fn f a c=>by simp[D.beq,D.bg a,D.bg c]
 | .bW=>rfl
 | .iface t x=>by simp[D.beq,D.beq_refl x]
 | .bQ l=>by simp[D.beq,D.bg l]
 | .yld o=>by simp[D.beq]
theorem D.bg:∀(l:List D),D.cf l l=true
 | []=>rfl
 |x::r=>by simp[D.cf,D.beq_refl x,D.bg r]
end
mutual
theorem T.beq_refl:∀(x:T),T.beq x x=true
 | .d x=>by simp[T.beq,D.beq_refl x]
 |.own l|.agg l=>by simp[T.beq,T.bg l]
 | .dead=>rfl
theorem T.bg:∀(l:List T),T.cf l l=true
 | []=>rfl
 |x::r=>by simp[T.cf,T.beq_refl x,T.bg r]
end
mutual
theorem SV.beq_refl:∀(x:SV),SV.beq x x=true
 | .d x=>by simp[SV.beq,D.beq_refl x]
 | .aG r p o l=>by simp[SV.beq]
 | .loc r p i o=>by simp[SV.beq]
 |.rp b l|.clip b l=>by simp[SV.beq,D.bg l]
 | .ns b=>by simp[SV.beq]
 |.agg l|.aS l=>by simp[SV.beq,SV.bg l]
 | .dead=>rfl
theorem SV.bg:∀(l:List SV),SV.cf l l=true
 | []=>rfl
 |x::r=>by simp[SV.cf,SV.beq_refl x,SV.bg r]
end
theorem wq{α:Type}{f:α->α->Bool}(hf:∀x,f x x=true):∀(l:J α),BV f l l=true
 | []=>rfl
 |x::r=>by simp[BV,hf x,wq hf r]
def Ob.told:Ob->Bool
 |.box _|.map _|.iter _ _|.bY _|.lock=>true
 |_=>false
theorem Ob.beq_refl(x:Ob):Ob.beq x x=x.told:=by
 cases x <;>simp only[Ob.beq,Ob.told,T.beq_refl,decide_true,Bool.and_self]
 exact wq (λa=>by simp[D.beq_refl,T.beq_refl]) _
@[go_sem] theorem St.beq_self(s:St):St.beq s s=s.H.all Ob.told:=by
 have h3:∀l:J Ob,BV Ob.beq l l=l.all Ob.told:=λl=>by
  induction l with
  |nil=>rfl
  |cons a r b=>simp[BV,Ob.beq_refl,b]
 rw[St.beq,wq (λa=>by simp[SV.beq_refl]),wq (λa=>by simp[T.beq_refl]),h3]
 rfl
attribute [go_sem] Ob.told
inductive TL where
 |leaf (L:List LF)
 |node (a b:TL)
def PS(h:Hint)(ops:J Qz)(p q:Nat):Bool:=
 match ops[p]?,ops[q]? with |some x,some y=>slotsApart ops x y&& !fU h (x.dst.getD 0) x.op&& !fU h (y.dst.getD 0) y.op |_,_=>false
def pmRow(h:Hint)(ops:List Oper)(q:Nat):Nat->Nat
 |0=>0
 |k+1=>(if PS h ops k q=true then 2 ^ k else 0) ||| pmRow h ops q k
def uu(h:Hint)(ops:J Qz)(bs:J Nat):J Nat:=(List.range ops.length).map λq=>(bs[q]?).getD 0 ||| pmRow h ops q ops.length
def maskE(bs:List Nat)(q m:Nat):List (Nat×Nat)->Nat
 | []=>m
 |e::r=>(if leB bs e.2 q=true then(bs[e.1]?).getD 0 ||| 2 ^ e.1 else 0) ||| maskE bs q m r
def Hj(m:Nat):Nat->List Nat->List Nat
 |_,[]=>[]
 |i,p::r=>if m.testBit p=true then Hj m (i+1) r else i::Hj m (i+1) r
def D0(bs B:List Nat)(E:List (Nat×Nat)):List Nat->List Nat->List (List Nat)
 |_,[]=>[]
 |a,q::r=>Hj (maskE bs q ((B[q]?).getD 0) E) 0 a::D0 bs B E (a++[q]) r
def nsE(a:J (J Nat))(n:Nat):J Bool:=(List.range n).map λj=>a.any (·.contains j)
def acj(h:Hint)(ops:J Qz)(L:J Nat)(a:J Qz)(b:J (J Nat))(ns:J Bool):U TL:=
 if(a.all (j8 ops)&&L.all (λi=>decide (i<ops.length))&&b.all (λu=>u.all λj=>decide (ns[j]? =some true)))=true then some (.leaf (lfs h ops ns b a))else none
def ack(h:Hint)(ops:J Qz)(L:J Nat)(a:J (J Nat)):U TL:=acj h ops L (jR ops L) a (nsE a L.length)
def acl(h:Hint)(ops:J Qz)(bs B:J Nat)(E:J (Nat×Nat))(L:J Nat):U TL:=ack h ops L (D0 bs B E [] L)
def Ci(h:Hint)(ops:List Oper)(bs B:List Nat):OT->List (Nat×Nat)->Option TL
 | .leaf,E=>acl h ops bs B E (mi bs E (List.range ops.length))
 | .node i j a b,E=>if i≠j/\i<ops.length/\j<ops.length then(Ci h ops bs B a ((i,j)::E)).bind λx=>(Ci h ops bs B b ((j,i)::E)).bind λy=>some (.node x y)else none
def acm(h:Hint)(ops:J Qz)(bs:J Nat)(t:OT):U TL:=Ci h ops bs (uu h ops bs) t []
def Iv(P:Program)(call:dF)(h:Hint)(ls:List Nat):TL->St->Option St
 | .leaf L,s=>(zk P call h L (s,ku s) []).map (prune ls)
 | .node a b,s=>(Iv P call h ls a s).bind λc=>(Iv P call h ls b s).bind λd=>if St.beq c d=true then some c else none
section
variable{P:Pz}{hints:FuncId->Hint}{call:dF}{h:Hint}
theorem Hk{bs:J Nat}{E:J (Nat×Nat)}:∀(l:J (Nat×Fp)),ub bs E l=true↔∀(i j:Nat) (p q:Nat×Fp),i<j->l[i]? =some p->l[j]? =some q->(((bs[q.1]?).getD 0).testBit p.1 || apartFp p.2 q.2 || E.any (λe=>leB bs p.1 e.1&&leB bs e.2 q.1))=true
 | []=>by simp[ub]
 |x::l=>by
  simp only[ub,xA,io,Hk l];constructor
  .rintro⟨d,g⟩ i j p q b hi a
   cases j with
   |zero=>omega
   |succ j=>
    rw[oK]at a
    cases i with
    |zero=>
     simp only[yE,xJ]at hi
     subst hi;exact d q (yS a)
    |succ i=>exact g i j p q (by omega) (by simpa using hi) a
  .intro c
   refine⟨λq f=> ?_,λi j p q b hi a=>c (i+1) (j+1) p q (by omega) (by simpa using hi) (by simpa using a)⟩
   obtain⟨j,a,rfl⟩:=mZ f;exact c 0 (j+1) x l[j] (by omega) rfl (by rw[oK];exact xG a)
theorem DE:∀(a:J Fp) (c:J (J Nat)) (acc:J Fp),c.length=a.length->(jv acc c a=true↔∀(j:Nat) (u:J Nat) (f:Fp),c[j]? =some u->a[j]? =some f->u.all (gk (acc++a.take j) f)=true)
 | [],[],acc,_=>by simp[jv]
 |f::a,u::c,acc,e=>by
  simp only[jv,xA];rw[DE a c (acc++[f]) (by simpa using e)]
  constructor
  .rintro⟨i,k⟩ j v g b d
   cases j with
   |zero=>
    simp only[yE,xJ]at b d
    subst b;subst d
    simpa using i
   |succ j=>
    have:=k j v g (by simpa using b) (by simpa using d)
    simpa using this
  .intro h
   refine⟨by simpa using h 0 u f rfl rfl,λj v g b d=> ?_⟩
   have:=h (j+1) v g (by simpa using b) (by simpa using d)
   simpa using this
 |[],_::_,_,e|_::_,[],_,e=>by simp at e
theorem Cj{ops:J Qz}:∀{L:J Nat},L.all (λi=>decide (i<ops.length))=true->(jR ops L).length=L.length/\∀(j q:Nat),L[j]? =some q->(jR ops L)[j]? =ops[q]?
 | [],_=>⟨rfl,λj q b=>by simp at b⟩
 |a::L,c=>by
  simp only[kG,xA,yD]at c
  obtain⟨d,f⟩:=Cj c.2
  have e:jR ops (a::L)=ops[a]::jR ops L:=by
   unfold jR;rw[List.filterMap_cons,xG c.1]
  rw[e]
  refine⟨by simp[d],λj q b=> ?_⟩
  cases j with
  |zero=>simp only[yE,xJ]at b;subst b;simp[xG c.1]
  |succ j=>simpa using f j q (by simpa using b)
theorem I?{bs:J Nat}{u v:Nat}:leB bs u v=(decide (u=v) || ((bs[v]?).getD 0).testBit u):=rfl
theorem Ck{bs:J Nat}{q m p:Nat}:∀(E:J (Nat×Nat)),(maskE bs q m E).testBit p=(m.testBit p || E.any λe=>leB bs p e.1&&leB bs e.2 q)
 | []=>by simp[maskE]
 |e::r=>by
  simp only[maskE,Nat.testBit_or,Ck r,List.any_cons]
  cases h:leB bs e.2 q with
  |true=>
   simp only[if_true,Nat.testBit_or,Nat.testBit_two_pow,Bool.and_true,I?]
   have:decide (e.1=p)=decide (p=e.1):=by simp[eq_comm]
   rw[this]
   cases decide (p=e.1) <;>cases((bs[e.1]?).getD 0).testBit p <;>cases m.testBit p <;>simp
  |false=>simp
theorem Jn{ops:J Qz}{q p:Nat}:∀(k:Nat),(pmRow h ops q k).testBit p=true->PS h ops p q=true
 |0,e=>by simp[pmRow]at e
 |k+1,e=>by
  simp only[pmRow,Nat.testBit_or,iq]at e
  obtain e |e:=e
  .split at e
   .rename_i a
    rw[Nat.testBit_two_pow]at e
    have:k=p:=by simpa using e
    rw[<-this];exact a
   .simp at e
  .exact Jn k e
theorem Cl{m:Nat}:∀(l:J Nat) (k i:Nat),i∈Hj m k l↔∃(t p:Nat),i=k+t/\l[t]? =some p/\m.testBit p=false
 | [],k,i=>by simp[Hj]
 |x::r,k,i=>by
  have c:=Cl (m:=m) r (k+1) i;simp only[Hj];constructor
  .intro hi
   split at hi
   .obtain⟨t,p,d,a,b⟩:=c.1 hi
    exact⟨t+1,p,by omega,by simpa using a,b⟩
   .rename_i e
    obtain rfl |hi:=List.mem_cons.1 hi
    .exact⟨0,x,rfl,rfl,by simpa using e⟩
    .obtain⟨t,p,d,a,b⟩:=c.1 hi
     exact⟨t+1,p,by omega,by simpa using a,b⟩
  .rintro⟨t,p,d,a,b⟩
   cases t with
   |zero=>
    simp only[yE,xJ]at a
    subst a;rw[if_neg (by rw[b];simp),d]
    simp
   |succ t=>
    have:=c.2 ⟨t,p,by omega,by simpa using a,b⟩
    split
    .exact this
    .exact Ap _ this
theorem Hl{bs B:J Nat}{E:J (Nat×Nat)}:∀(r a:J Nat),(D0 bs B E a r).length=r.length/\∀(j q:Nat),r[j]? =some q->(D0 bs B E a r)[j]? =some (Hj (maskE bs q ((B[q]?).getD 0) E) 0 (a++r.take j))
 | [],a=>⟨rfl,λj q e=>by simp at e⟩
 |x::r,a=>by
  obtain⟨b,c⟩:=Hl (bs:=bs) (B:=B) (E:=E) r (a++[x])
  refine⟨by simp[D0,b],λj q e=> ?_⟩
  cases j with
  |zero=>simp only[yE,xJ]at e;subst e;simp[D0]
  |succ j=>
   have:=c j q (by simpa using e)
   simp only[D0,oK,this,Ed,xK,List.singleton_append]
theorem W6{ops:J Qz}{bs:J Nat}{E:J (Nat×Nat)}{L:J Nat}{c:J Fp}(D:L.all (λi=>decide (i<ops.length))=true)(hf:All2 (TU h ops) (jR ops L) c):ub bs E (L.zip c)=jv [] (D0 bs (uu h ops bs) E [] L) c:=by
 obtain⟨O,G⟩:=Cj D;have M:c.length=L.length:=(All2.leng hf).trans O;obtain⟨N,z⟩:=Hl (bs:=bs) (B:=uu h ops bs) (E:=E) L [];rw[Bool.eq_iff_iff,Hk,DE c _ [] (by rw[N,M])]
 have I:∀(i p:Nat) (f:Fp),L[i]? =some p->c[i]? =some f->(L.zip c)[i]? =some (p,f):=λi p f h3 h4=>by
  rw[List.getElem?_zip_eq_some];exact⟨h3,h4⟩
 have g:∀q,q<ops.length->((uu h ops bs)[q]?).getD 0=(bs[q]?).getD 0 ||| pmRow h ops q ops.length:=λq r=>by simp[uu,r]
 have m:∀(j q:Nat),L[j]? =some q->q<ops.length:=λj q e=>by
  have:=List.all_eq_true.1 D q (yS e)
  simpa using this
 simp only[gD]at z |-
 constructor
 .intro C j u f o l
  have d:j<L.length:=M▸(List.getElem?_eq_some_iff.1 l).1;have r:=xG d;rw[z j _ r]at o
  simp only[xJ]at o
  subst o;rw[io];intro i hi;obtain⟨t,p,H,v,s⟩:=(Cl _ _ _).1 hi;rw[fp]at H
  subst H;rw[xU]at v
  split at v
  .rename_i a
   have n:=xG (show i<c.length by omega)
   have:=C i j _ _ a (I i p c[i] v n) (I j L[j] f r l)
   rw[Ck,g _ (m j _ r)]at s
   simp only[Nat.testBit_or,qY]at s
   simp only[iq]at this
   unfold gk;rw[xU,if_pos a,n]
   obtain (q |q) |q:=this
   .rw[s.1.1]at q;cases q
   .exact q
   .rw[s.2]at q;cases q
  .cases v
 .intro C i j p q a hi d
  rw[List.getElem?_zip_eq_some]at hi d
  have P:=(List.getElem?_eq_some_iff.1 d.1).1;have o:=z j q.1 d.1
  cases b:(maskE bs q.1 (((uu h ops bs)[q.1]?).getD 0) E).testBit p.1 with
  |false=>
   have:=C j _ q.2 o d.2
   rw[io]at this
   have:=this i ((Cl _ _ _).2 ⟨i,p.1,by omega,by rw[xU,if_pos a];exact hi.1,b⟩)
   unfold gk at this;rw[xU,if_pos a,hi.2]at this
   simp only at this;rw[this];simp
  |true=>
   rw[Ck,g _ (m j _ d.1)]at b
   simp only[Nat.testBit_or,iq]at b |-
   obtain (b |b) |b:=b
   .exact .inl (.inl b)
   .have k:=Jn _ b
    unfold PS at k;obtain⟨x,K,w⟩:=All2.at' hf i p.2 hi.2;obtain⟨y,F,A⟩:=All2.at' hf j q.2 d.2;rw[G i p.1 hi.1]at K
    rw[G j q.1 d.1]at F
    rw[K,F]at k
    simp only[xA,q8]at k
    exact .inl (.inr (zj (w k.1.2) (A k.2) k.1.1))
   .exact .inr b
theorem Hm{ops:J Qz}{bs live:J Nat}{s:St}:∀(t:OT) (E:J (Nat×Nat)) {x:TL},Ci h ops bs (uu h ops bs) t E=some x->jS P call h live ops bs s t E=Iv P call h live x s
 | .leaf,E,x,e=>by
  simp only[Ci,acl,ack,acj]at e
  split at e
  .rename_i hk
   simp only[xJ]at e
   subst e;have d:=hk;simp only[xA]at d
   obtain⟨⟨q,l⟩,r⟩:=d;have n:=(Cj l).1;have g:(D0 bs (uu h ops bs) E [] (mi bs E (List.range ops.length))).length=(jR ops (mi bs E (List.range ops.length))).length:=by rw[(Hl _ _).1,n]
   have k:(nsE (D0 bs (uu h ops bs) E [] (mi bs E (List.range ops.length))) (mi bs E (List.range ops.length)).length).length=(jR ops (mi bs E (List.range ops.length))).length:=by simp[nsE,n]
   simp only[jS,Iv];rw[Kj (all:=nsE (D0 bs (uu h ops bs) E [] (mi bs E (List.range ops.length))) (mi bs E (List.range ops.length)).length) (jR ops (mi bs E (List.range ops.length))) [] _ _ (s,ku s) [] [] q g k rfl r ⟨rfl,λ_ _=>rfl⟩ rfl]
   cases f:dV P call h ops (jR ops (mi bs E (List.range ops.length))) (s,ku s)with
   |none=>rfl
   |some p=>
    obtain⟨c,o⟩:=p
    have:=W6 (bs:=bs) (E:=E) l (zm _ f)
    simp only[xS,this]
    by_cases m:jv [] (D0 bs (uu h ops bs) E [] (mi bs E (List.range ops.length))) o=true
    .simp only[m,if_true,xQ]
    .simp only[m,if_false,Option.map_none];simp
  .cases e
 | .node i j a b,E,x,e=>by
  simp only[Ci]at e
  split at e
  .rename_i hk
   simp only[xB,xJ]at e
   obtain⟨y,f,z,u,rfl⟩:=e;simp only[jS,Iv,if_pos hk,Hm a _ f,Hm b _ u]
  .cases e
theorem I!{ops:J Qz}{bs live:J Nat}{s:St}(t:OT){x:TL}(e:acm h ops bs t=some x):jS P call h live ops bs s t []=Iv P call h live x s:=Hm t [] e
theorem zp{live:J Nat}{ops:J Qz}{bs:J Nat}{s:St}:∀(t:OT) (E:J (Nat×Nat)) {r:St},jS P (eG P hints) h live ops bs s t E=some r->∃n,jS P (eN P hints n) h live ops bs s t E=some r
 | .leaf,E,r,e=>by
  simp only[jS,xB]at e
  obtain⟨x,d,f⟩:=e;obtain⟨n,c⟩:=rM _ d
  exact⟨n,by simp only[jS,c,xS];exact f⟩
 | .node i j a b,E,r,e=>by
  simp only[jS]at e
  split at e
  .rename_i hk
   simp only[xB]at e
   obtain⟨x,d,y,f,k⟩:=e;obtain⟨n,c⟩:=zp a _ d;obtain⟨m,g⟩:=zp b _ f
   refine⟨max n m,?_⟩
   simp only[jS,if_pos hk,lC (eo (lQ n m)) _ _ c,lC (eo (kE n m)) _ _ g,xS];exact k
  .cases e
theorem PU{id:Nat}{ops:Array Qz}{s:St}{t:OT}{bs:J Nat}(hp:h.swp id=some t)(hb:BY ops.toList []=some bs):eL P hints h (.region id ops true) s=(jS P (eG P hints) h (h.live id) ops.toList bs s t []).map λs'=>(.normal,s'):=
 gz λr=>by
  rw[dR];simp only[dZ,hp,hb,if_true,xS,xM];constructor
  .rintro⟨n,x,a,b⟩;exact⟨x,lC (rK n) _ _ a,b⟩
  .rintro⟨x,a,b⟩;obtain⟨n,c⟩:=zp _ _ a;exact⟨n,x,c,b⟩
end
section
variable(P:Pz)(hints:FuncId->Hint)
noncomputable def Hn(o:Nat)(ds:J D)(H:J Ob):U (J T×J Ob):=
 match H[o]?,ds with
 |some (.frame g [p] a b env ct),[d]=>
  (eL P hints {hints g with nest:=true} a {env:=(p,.d d)::env,ct,H:=H.set o .lock}).bind λ(f,h)=>match f with
   | .normal=>(eL P hints {hints g with nest:=true} b h).bind λ(i,e)=>match i with
    | .normal=>match e.H[o]? with
     |some .lock=>
      let c:=((env.map (·.1)).filter λt=> !(p::kB a++kB b).contains t).map λt=>(t,(e.get t).loose)
      some ([.d (.bool true)],lu H.length [] (e.H.set o (.frame g [p] a b c (pick e.ct (jQ (SV.cg (c.map (·.2))))))))
     |_=>none
    |_=>none
   |_=>none
 |_,_=>none
variable{P hints}
theorem PV{o:Nat}{ds:J D}{H:J Ob}{r:J T×J Ob}:Hn P hints o ds H=some r↔∃n,rk P (eN P hints n) hints n o ds H=some r:=by
 constructor
 .intro e
  unfold Hn at e
  split at e
  .rename_i a
   simp only[xB]at e
   obtain⟨⟨h,i⟩,f,e⟩:=e;simp only at e
   split at e
   .simp only[xB]at e
    obtain⟨⟨l,j⟩,d,e⟩:=e;obtain⟨b,k⟩:=dR.1 f;obtain⟨c,g⟩:=dR.1 d
    refine⟨max b c,?_⟩
    unfold rk;simp only[a,dY (eo (lQ b c)) (lQ b c) _ _ _ k,dY (eo (kE b c)) (kE b c) _ _ _ g,xS];exact e
   .cases e
  .cases e
 .rintro⟨n,e⟩
  unfold rk at e
  split at e
  .rename_i a
   simp only[xB]at e
   obtain⟨⟨h,i⟩,f,e⟩:=e;simp only at e
   split at e
   .simp only[xB]at e
    obtain⟨⟨l,j⟩,d,e⟩:=e;unfold Hn;simp only[a,dR.2 ⟨n,f⟩,dR.2 ⟨n,d⟩,xS];exact e
   .cases e
  .cases e
theorem NI{o:Nat}{ds:J D}{H:J Ob}:eG P hints (YB+o) ds H=Hn P hints o ds H:=by
 refine gz λr=> ?_
 rw[gP,PV];constructor
 .rintro⟨n,e⟩
  cases n with
  |zero=>cases e
  |succ n=>
   rw[eN,if_pos (rc _ _),qX]at e
   exact⟨n,e⟩
 .rintro⟨n,e⟩
  refine⟨n+1,?_⟩
  rw[eN,if_pos (rc _ _),qX];exact e
theorem NJ{h:Hint}{f:Oz}{c:Array Nat}{a b:Code}{s:St}:eL P hints h (.rangeFunc f c a b) s=kJ (eG P hints) h f c.toList a b s:=by
 refine gz λr=> ?_
 rw[dR];constructor
 .rintro⟨n,e⟩
  exact Dx (rK n) e
 .intro e
  unfold kJ at e
  split at e
  .cases e
  rename_i g
  split at e
  .rename_i j
   split at e
   .cases e
   rename_i d;simp only[xB]at e
   obtain⟨q,i,k⟩:=e;obtain⟨n,m⟩:=gP.1 i
   refine⟨n,?_⟩
   show kJ _ _ _ _ _ _ _=_;unfold kJ;rw[if_neg g,j];simp only[if_neg d,m,xS];exact k
  .cases e
end
inductive CL where
 |skip
 |reg (L:List dd) (ls:List Nat)
 |regD (L:List LF) (ls:List Nat)
 |regP (L:List dd) (ls:List Nat)
 |seq (a b:CL)
 |cond (o:Operand) (a b:CL)
 |block (id:Nat) (a:CL)
 |loop (k:Nat)
 |exit (id:Nat)
 |ret
 |cpy (p:Cpy)
 |rng (f:Operand) (ps:List Nat) (a b:Code)
 |regT (x:TL) (ls:List Nat)
def Ho(P:Program)(call:dF)(h:Hint):List dd->St->Option (Option D×St)
 | [],s=>some (none,s)
 |o::r,s=>(gZ P call h (o.d.getD 0) o.ty o.op s.val s.wk).bind λp=>match p.1 with
  |some d=>some (some d,s.fin none .dead p.2.2)
  |none=>Ho P call h r (s.fin o.d p.2.1 p.2.2)
theorem NK{P:Pz}{call:dF}{h:Hint}{ops:J Qz}:∀(l:J Qz) (s:St),l.all (λo=>o.guard.isNone)=true->gH P call h ops l s=Ho P call h (l.map (jH ops)) s
 | [],s,_=>rfl
 |o::l,s,a=>by
  simp only[kG,xA,yJ]at a
  have f:ik ops s o=some true:=by unfold ik;rw[a.1]
  simp only[gH,f,xS,if_true,eJ,Ho];have b:(jH ops o).d=o.dst:=rfl;have e:(jH ops o).ty=o.type:=rfl;have c:(jH ops o).op=o.op:=rfl;rw[b,e,c];congr 1;funext p;obtain⟨t,v,k⟩:=p
  cases t with
  |some d=>rfl
  |none=>exact NK l _ a.2
def K_(h:Hint)(ops:J Qz):J (J Nat):=
 (List.range ops.length).map λi=>(List.range i).filter λj=>match ops[i]?,ops[j]?,((BY ops []).getD [])[i]? with
  |some y,some x,some b=> !(b.testBit j)&& !(slotsApart ops x y&& !fU h (x.dst.getD 0) x.op&& !fU h (y.dst.getD 0) y.op)
  |_,_,_=>true
def ajU(a:J (J Nat))(n:Nat):J Bool:=(List.range n).map λj=>a.any (·.contains j)
def ej:Code->Nat
 |.seq a b|.cond _ a b=>ej a+ej b
 |.block _ c|.scope c=>ej c
 | .loop c=>ej c+1
 |_=>0
def fz:Code->List Code
 |.seq a b|.cond _ a b=>fz a++fz b
 |.block _ c|.scope c=>fz c
 | .loop c=>fz c++[c]
 |_=>[]
theorem gu:∀c,(fz c).length=ej c
 |.seq a b|.cond _ a b=>by simp[fz,ej,gu a,gu b]
 |.block _ c|.scope c|.loop c=>by simp[fz,ej,gu c]
 | .skip | .region .. | .rangeFunc .. | .exit _ | .label _ | .goto _ | .ret | .refuse _=>rfl
def Cm(b:Code)(k:Nat):Code:=((fz b)[k]?).getD .skip
def jk(h:Hint):Nat->Code->Option (CL×Nat)
 |n,.skip|n,.label _=>some (.skip,n)
 |n,.ret=>some (.ret,n)
 |n,.exit id=>some (.exit id,n)
 |n,.region id d e=>
  if(d.toList.all (j8 d.toList)&&(!e || pureR h d.toList)&& !h.cO.contains id&&(!e || (h.swp id).isNone))=true then some (.reg (d.toList.map (jH d.toList)) (h.live id),n)
  else if(e&&(h.swp id).isSome)=true then(h.swp id).bind λt=>(BY d.toList []).bind λg=>(acm h d.toList g t).bind λx=>some (.regT x (h.live id),n)
  else if PO h id (h.live id) (ajU (K_ h d.toList) d.toList.length) (K_ h d.toList) (.region id d e)=true then
   some (.regD (lfs h d.toList (ajU (K_ h d.toList) d.toList.length) (K_ h d.toList) d.toList) (h.live id),n)
  else if(!e&&h.cO.contains id&&d.toList.all (λo=>o.guard.isNone))=true then some (.regP (d.toList.map (jH d.toList)) (h.live id),n)
  else none
 |n,.seq a b=>match Ga a b with
  |some p=>some (.cpy p,n+ej (.seq a b))
  |none=>(jk h n a).bind λx=>(jk h x.2 b).bind λy=>some (.seq x.1 y.1,y.2)
 |n,.cond o a b=>(jk h n a).bind λx=>(jk h x.2 b).bind λy=>some (.cond o x.1 y.1,y.2)
 |n,.block id c=>(jk h n c).bind λx=>some (.block id x.1,x.2)
 |n,.scope c=>jk h n c
 |n,.loop c=>some (.loop (n+ej c),n+ej c+1)
 |n,.rangeFunc f i a b=>some (.rng f i.toList a b,n)
 |_,_=>none
def qx(h:Hint)(b:Code):U CL:=(jk h 0 b).map (·.1)
def Jo(h:Hint)(b:Code)(k:Nat):U CL:=if k<ej b then(jk h (k - ej (Cm b k)) (Cm b k)).map (·.1)else none
noncomputable def jU(P:Program)(hints:FuncId->Hint)(h:Hint)(b:Code):CL->St->Option (Ex×St)
 | .skip,s=>some (.normal,s)
 | .ret,s=>some (.ret,s)
 | .exit id,s=>some (.exit id,s)
 | .reg L a,s=>(rO P (eG P hints) h L s).bind λc=>some (.normal,prune a c)
 | .regD L a,s=>(zk P (eG P hints) h L (s,ku s) []).bind λc=>some (.normal,prune a c)
 | .regP L a,s=>(Ho P (eG P hints) h L s).bind λp=>match p.1 with |some d=>some (.cO d,p.2) |none=>some (.normal,prune a p.2)
 | .seq x y,s=>(jU P hints h b x s).bind λr=>match r.1 with | .normal=>jU P hints h b y r.2 |e=>some (e,r.2)
 | .cond o x y,s=>match s.val o with | .d (.bool t)=>if t=true then jU P hints h b x s else jU P hints h b y s |_=>none
 | .block id x,s=>(jU P hints h b x s).bind λr=>some (Q1 id r.1,r.2)
 | .loop k,s=>eL P hints h (.loop (Cm b k)) s
 | .cpy p,s=>Mm P p s
 | .rng f g x y,s=>kJ (eG P hints) h f g x y s
 | .regT x a,s=>(Iv P (eG P hints) h a x s).bind λc=>some (.normal,c)
def LpAt(b:Code)(n:Nat)(l:J Code):Prop:=∀i c,l[i]? =some c->Cm b (n+i)=c
theorem LpAt.left{b:Code}{n:Nat}{l m:J Code}(h:LpAt b n (l++m)):LpAt b n l:=λi c e=>h i c (by rw[xO (List.getElem?_eq_some_iff.1 e).1];exact e)
theorem LpAt.right{b:Code}{n:Nat}{l m:J Code}(h:LpAt b n (l++m)):LpAt b (n+l.length) m:=λi c e=>by
 have:=h (l.length+i) c (by rw[xN (rc _ _)];simpa using e)
 rwa [<-v9]at this
section
variable{P:Pz}{hints:FuncId->Hint}{h:Hint}{b:Code}
theorem mw:∀(c:Code) {n m:Nat} {q:CL},jk h n c=some (q,m)->m=n+ej c
 |.skip,n,m,q,e|.label _,n,m,q,e|.ret,n,m,q,e|.exit _,n,m,q,e=>by simp only[jk,xJ,pJ]at e;simp[ej,e.2]
 | .region _ _ _,n,m,q,e=>by
  simp only[jk]at e
  split at e
  .simp only[xJ,pJ]at e;simp[ej,e.2]
  .split at e
   .simp only[xB,xJ,pJ]at e
    obtain⟨_,_,_,_,_,_,_,e⟩:=e;simp[ej,e]
   .split at e
    .simp only[xJ,pJ]at e;simp[ej,e.2]
    .split at e
     .simp only[xJ,pJ]at e;simp[ej,e.2]
     .cases e
 | .seq a c,n,m,q,e=>by
  simp only[jk]at e
  split at e
  .simp only[xJ,pJ]at e
   exact e.2.symm
  simp only[xB,xJ,pJ]at e
  obtain⟨⟨x,f⟩,b,⟨y,g⟩,d,_,rfl⟩:=e
  have:=mw a b;have:=mw c d
  simp only[ej]at *;omega
 | .cond _ a c,n,m,q,e=>by
  simp only[jk,xB,xJ,pJ]at e
  obtain⟨⟨x,f⟩,b,⟨y,g⟩,d,_,rfl⟩:=e
  have:=mw a b;have:=mw c d
  simp only[ej]at *;omega
 | .block _ c,n,m,q,e=>by
  simp only[jk,xB,xJ,pJ]at e
  obtain⟨⟨x,f⟩,b,_,rfl⟩:=e
  have:=mw c b
  simp only[ej]at *;omega
 | .scope c,n,m,q,e=>by simp only[jk]at e;have:=mw c e;simp only[ej]at *;omega
 | .loop c,n,m,q,e=>by simp only[jk,xJ,pJ]at e;simp only[ej];omega
 | .rangeFunc ..,n,m,q,e=>by simp only[jk,xJ,pJ]at e;simp[ej,e.2]
 |.goto _,_,_,_,e|.refuse _,_,_,_,e=>by simp[jk]at e
theorem o6:∀(c:Code) {n m:Nat} {q:CL},jk h n c=some (q,m)->LpAt b n (fz c)->∀s,eL P hints h c s=jU P hints h b q s
 | .skip,n,m,q,e,_,s=>by simp only[jk,xJ,pJ]at e;obtain⟨rfl,_⟩:=e;exact Hc
 | .label _,n,m,q,e,_,s=>by simp only[jk,xJ,pJ]at e;obtain⟨rfl,_⟩:=e;exact Dz
 | .ret,n,m,q,e,_,s=>by simp only[jk,xJ,pJ]at e;obtain⟨rfl,_⟩:=e;exact Jh
 | .exit _,n,m,q,e,_,s=>by simp only[jk,xJ,pJ]at e;obtain⟨rfl,_⟩:=e;exact Hd
 | .region id C I,n,m,q,e,_,s=>by
  simp only[jk]at e
  split at e
  .rename_i i
   simp only[xJ,pJ]at e
   obtain⟨rfl,_⟩:=e;exact ajE (id:=id) (ls:=h.live id) (by simp only[xA]at i;simp only[WY,xA,decide_true,i.1.1.1,i.1.1.2,i.1.2,i.2,and_self]) rfl s
  .split at e
   .rename_i l
    simp only[xA]at l
    obtain⟨rfl,_⟩:=l;simp only[xB,xJ,pJ]at e
    obtain⟨t,B,J,F,x,G,rfl,_⟩:=e;rw[PU B F,I! t G,xF];rfl
   .split at e
    .rename_i i
     simp only[xJ,pJ]at e
     obtain⟨rfl,_⟩:=e;exact aew i rfl s
    .split at e
     .rename_i i
      simp only[xJ,pJ]at e
      obtain⟨rfl,_⟩:=e;simp only[xA,q8]at i
      obtain⟨⟨rfl,u⟩,E⟩:=i;rw[Is u,NK _ _ E,xF];show _=(Ho _ _ _ _ _).bind _;congr 1;funext p;obtain⟨t,K⟩:=p
      cases t <;>rfl
     .cases e
 | .seq a c,n,m,q,e,f,s=>by
  simp only[jk]at e
  split at e
  .rename_i p u
   simp only[xJ,pJ]at e
   obtain⟨rfl,_⟩:=e;rw[Tx u];rfl
  rename_i u;simp only[xB,xJ,pJ]at e
  obtain⟨⟨x,z⟩,j,⟨y,D⟩,w,rfl,rfl⟩:=e;have k:=mw a j;simp only at k w;subst k;simp only[fz]at f
  have g:=f.right;rw[gu]at g
  rw[Jj u,o6 a j f.left s];simp only[jU];congr 1;funext r;unfold Ji;obtain⟨A,H⟩:=r
  cases A with
  |normal=>exact o6 c w g _
  |_=>rfl
 | .cond o a c,n,m,q,e,f,s=>by
  simp only[jk,xB,xJ,pJ]at e
  obtain⟨⟨x,z⟩,j,⟨y,D⟩,w,rfl,rfl⟩:=e;have k:=mw a j;simp only at k w;subst k;simp only[fz]at f
  have g:=f.right;rw[gu]at g
  rw[Pv];simp only[jU,o6 a j f.left s,o6 c w g s]
  try (
   generalize s.val o=v
   cases v with
   |d x=>cases x <;>rfl
   |_=>rfl)
 | .block id c,n,m,q,e,f,s=>by
  simp only[jk,xB,xJ,pJ]at e
  obtain⟨⟨x,z⟩,j,rfl,rfl⟩:=e;rw[AP,o6 c j f s];rfl
 | .scope c,n,m,q,e,f,s=>by
  simp only[jk]at e
  rw[DA];exact o6 c e f s
 | .loop c,n,m,q,e,f,s=>by
  simp only[jk,xJ,pJ]at e
  obtain⟨rfl,_⟩:=e
  have:=f.right 0 c rfl
  rw[gu]at this
  simp only[jU];rw[show n+ej c=n+ej c+0 from rfl,this]
 | .rangeFunc ..,n,m,q,e,_,s=>by
  simp only[jk,xJ,pJ]at e
  obtain⟨rfl,_⟩:=e;exact NJ
 |.goto _,_,_,_,e,_,_|.refuse _,_,_,_,e,_,_=>by simp[jk]at e
theorem uv{q:CL}(e:qx h b=some q)(s:St):eL P hints h b s=jU P hints h b q s:=by
 simp only[qx,xM]at e
 obtain⟨⟨d,n⟩,a,rfl⟩:=e;exact o6 b a (λi c hi=>by simp[Cm,hi]) s
theorem W7:∀(b:Code) (k:Nat) (c:Code),(fz b)[k]? =some c->ej c<=k/\∀i x,(fz c)[i]? =some x->(fz b)[k - ej c+i]? =some x:=by
 have h:∀(l m:J Code) (s:∀k c,l[k]? =some c->ej c<=k/\∀i x,(fz c)[i]? =some x->l[k - ej c+i]? =some x) (t:∀k c,m[k]? =some c->ej c<=k/\∀i x,(fz c)[i]? =some x->m[k - ej c+i]? =some x) (k:Nat) (c:Code),(l++m)[k]? =some c->ej c<=k/\∀i x,(fz c)[i]? =some x->(l++m)[k - ej c+i]? =some x:=by
  intro l m s t k c e
  by_cases hk:k<l.length
  .rw[xO hk]at e
   obtain⟨p,j⟩:=s k c e
   exact⟨p,λi x q=>by
    have:=j i x q
    rw[xO (List.getElem?_eq_some_iff.1 this).1];exact this⟩
  .rw[xN (by omega)]at e
   obtain⟨p,j⟩:=t _ c e
   refine⟨by omega,λi x q=> ?_⟩
   have:=j i x q
   rw[xN (by omega),<-this]
   congr 1;omega
 intro b
 induction b with
 |seq a b d f=>exact λk c e=>h _ _ d f k c e
 |cond o a b d f=>exact λk c e=>h _ _ d f k c e
 |block id c g=>exact g
 |scope c g=>exact g
 |loop c g=>
  intro k x e;simp only[fz]at e |-
  by_cases hk:k<(fz c).length
  .rw[xO hk]at e
   obtain⟨p,j⟩:=g k x e
   exact⟨p,λi y n=>by
    have:=j i y n
    rw[xO (List.getElem?_eq_some_iff.1 this).1];exact this⟩
  .rw[xN (by omega)]at e
   have:k - (fz c).length=0:=by
    rcases Aq (k - (fz c).length)with r |r
    .exact r
    .rw[lL (by simp only[List.length_singleton];omega)]at e;cases e
   rw[this]at e
   simp only[yE,xJ]at e
   subst e;have u:=gu c
   refine⟨by omega,λi y n=> ?_⟩
   have hi:=(List.getElem?_eq_some_iff.1 n).1;rw[xO (by omega),<-n]
   congr 1;omega
 |_=>intro k c e;simp[fz]at e
theorem NL{k:Nat}{q:CL}(e:Jo h b k=some q)(s:St):eL P hints h (Cm b k) s=jU P hints h b q s:=by
 unfold Jo at e
 split at e
 .rename_i hk
  simp only[xM]at e
  obtain⟨⟨f,n⟩,d,rfl⟩:=e;refine o6 _ d (λi c hi=> ?_) s
  have a:(fz b)[k]? =some (Cm b k):=by
   rw[<-gu]at hk
   simp[Cm,hk]
  have:=(W7 b k _ a).2 i c hi
  show((fz b)[k - ej (Cm b k)+i]?).getD .skip=c
  rw[this];rfl
 .cases e
end
end Go.Am
