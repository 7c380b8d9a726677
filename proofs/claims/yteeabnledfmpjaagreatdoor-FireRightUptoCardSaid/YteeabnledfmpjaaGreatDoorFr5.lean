/- A part of the proof: texts of mine, merged by a program (wip/dev/merge.py). -/
import Derived.Test.YteeabnledfmpjaaGreatDoorFr4
set_option linter.unusedSimpArgs false
set_option linter.unusedVariables false
namespace Go.Am
open Go
structure LF where
 d:Option Nat
 g:Option (Nat×Bool)
 ty:TypeId
 op:Op
 lk:List Nat
 u:List Nat
 nd:Bool
 eff:Bool
 rds:Bool
 hr:Bool
 ho:Bool
def Ku(h:Hint)(ops:J Qz)(nd:Bool)(u:J Nat)(o:Qz):LF:=
 ⟨o.dst,o.guard.map λp=>(Js ops p.1,p.2),o.type,o.op,looks ops o,u,nd,fY h (o.dst.getD 0) o.op,reads o.op,wT h (o.dst.getD 0) o.op,hOf h (o.dst.getD 0) o.op⟩
def fpW(o:LF)(hi:pP)(s:St)(w:Bool)(v:SV)(k:Wk):Fp:=
 {sl:=o.lk,dst:=o.d,rd:=if iU o.op=true then []else o.lk.flatMap (eZ hi)++v.aW++(if o.rds=true then o.lk.flatMap λt=>(s.get t).ba else []),wr:=ga s.wk k++k.tr.flatMap Tr.ba,
  hr:=(w&&o.hr) || (if iU o.op=true then []else o.lk.flatMap (eZ hi)++v.aW++(if o.rds=true then o.lk.flatMap λt=>(s.get t).ba else [])).any aj.cF || (ga s.wk k++k.tr.flatMap Tr.ba).any aj.cF || k.tr.any Tr.aN,
  hw:=(w&&o.eff)&&(o.ho || (y8 o.op&&(o.lk.flatMap λt=>(s.get t).ba).any aj.cF) || k.tr.any Tr.aN),dp:=k.tr.any Tr.bM,rx:=if w=true then ue o.eff o.op s.val v else none,sx:=S8 (if w=true then ue o.eff o.op s.val v else none) (v::o.lk.map λt=>s.get t),wx:=if w=true then y9 o.op s.val else none,ox:=Gd (if w=true then y9 o.op s.val else none) k.tr}
def NT(o:LF)(s:St):U Bool:=
 match o.g with
 |none=>some true
 |some (t,a)=>match s.get t with
  | .d (.bool b)=>some (b==a)
  | .aS []=>some false
  |_=>none
def NU(P:Pz)(call:dH)(h:Hint)(o:LF)(s:St):U (Bool×SV×Wk):=
 (NT o s).bind λw=>if w=true then(dF P call h (o.d.getD 0) o.ty o.op s.val s.wk).bind λp=>some (true,p.1,p.2)else some (false,.aS [],s.wk)
def gu(acc:J Fp)(f:Fp)(j:Nat):Bool:=match acc[j]? with |some g=>apartFp g f |none=>false
def fp0:Fp:=⟨[],none,[],[],false,false,false,none,[],none,[]⟩
def zu(P:Program)(call:dH)(h:Hint):List LF->Cf->List Fp->Option St
 | [],c,_=>some c.1
 |o::r,c,acc=>(NU P call h o c.1).bind λq=>
  if o.u.all (gu acc (fpW o c.2 c.1 q.1 q.2.1 q.2.2))=true then zu P call h r (c.1.fin o.d q.2.1 q.2.2,dV c.2 q.2.2.tr o.d (fZ o.op c.2 q.2.1)) (acc++[if o.nd=true then fpW o c.2 c.1 q.1 q.2.1 q.2.2 else fp0])else none
section
variable{P:Pz}{hints:FuncId->Hint}{call:dH}{h:Hint}
theorem Xi{ops:J Qz}{nd:Bool}{u:J Nat}{o:Qz}{s:St}(c:kn ops o=true):fh P call h ops o s=NU P call h (Ku h ops nd u o) s:=by
 have:iu ops s o=NT (Ku h ops nd u o) s:=by
  obtain⟨d,op,ty,f,b,a⟩:=o
  cases a with
  |none=>rfl
  |some p=>
   obtain⟨j,e⟩:=p;simp only[kn,Option.isSome_iff_exists]at c
   obtain⟨t,g⟩:=c;simp only[iu,NT,Ku,xQ,Js,g,gZ];rfl
 simp only[fh,NU,this,xF];rfl
theorem aeM{ops:J Qz}{nd:Bool}{u:J Nat}{o:Qz}{hi:pP}{s:St}{w:Bool}{v:SV}{k:Wk}:mA h ops o hi s w v k=fpW (Ku h ops nd u o) hi s w v k:=rfl
def jG:List Fp->List (List Nat)->List Fp->Bool
 |acc,u::a,f::b=>u.all (gu acc f)&&jG (acc++[f]) a b
 |_,_,_=>true
def lfs(h:Hint)(ops:List Oper):List Bool->List (List Nat)->List Oper->List LF
 |n::a,u::b,o::r=>Ku h ops n u o::lfs h ops a b r
 |_,_,_=>[]
def Ro(all:J Bool)(a b:J Fp):Prop:=a.length=b.length/\∀j:Nat,all[j]? =some true->a[j]? =b[j]?
theorem Ue{all:J Bool}{a b:J Fp}{f:Fp}{u:J Nat}(ha:Ro all a b)(hu:u.all (λj=>decide (all[j]? =some true))=true):u.all (gu a f)=u.all (gu b f):=by
 rw[Bool.eq_iff_iff,iy,iy];simp only[iy,yD]at hu
 have e:∀j∈u,gu a f j=gu b f j:=λj c=>by unfold gu;rw[ha.2 j (hu j c)]
 exact⟨λh j c=>(e j c)▸h j c,λh j c=>(e j c).symm▸h j c⟩
theorem P5{all c r:J Bool}{n:Bool}{a b:J Fp}{f:Fp}(ha:Ro all a b)(d:all=c++n::r)(hl:a.length=c.length):Ro all (a++[if n=true then f else fp0]) (b++[f]):=by
 refine⟨by simp[ha.1],λj g=> ?_⟩
 by_cases e:j<a.length
 .rw[xO e,xO (ha.1▸e)];exact ha.2 j g
 .by_cases h:j=a.length
  .subst h
   have:all[a.length]? =some n:=by rw[d,hl];simp
   rw[this]at g
   cases g;rw[xN (dC _),ha.1,xN (dC _)]
   simp
  .rw[lX (by simp;omega),lX (by simp[<-ha.1];omega)]
theorem Kv{ops:J Qz}{all:J Bool}:∀(l:J Qz) (b ns:J Bool) (f:J (J Nat)) (c:Cf) (acc a:J Fp),l.all (kn ops)=true->f.length=l.length->ns.length=l.length->all=b++ns->f.all (λu=>u.all λj=>decide (all[j]? =some true))=true->Ro all a acc->a.length=b.length->
  zu P call h (lfs h ops ns f l) c a=(dX P call h ops l c).bind λp=>if jG acc f p.2=true then some p.1.1 else none
 | [],b,[],[],c,acc,a,_,_,_,_,_,_,_=>rfl
 |o::l,b,n::ns,u::f,c,acc,a,g,t,s,d,i,m,r=>by
  simp only[kU,xA]at g i
  simp only[lfs,zu,dX,er,<-Xi (u:=u) (nd:=n) g.1]
  cases fh P call h ops o c.1 with
  |none=>rfl
  |some q=>
   obtain⟨w,v,k⟩:=q;simp only[xS,xQ,<-aeM,show(Ku h ops n u o).u=u from rfl,show(Ku h ops n u o).d=o.dst from rfl,show(Ku h ops n u o).nd=n from rfl,show(Ku h ops n u o).op=o.op from rfl,Ue m i.1]
   rw[Kv l (b++[n]) ns f _ (acc++[mA h ops o c.2 c.1 w v k]) _ g.2 (by simpa using t) (by simpa using s) (by simp[d]) i.2 (P5 m d r) (by simp[r])]
   cases dX P call h ops l (c.1.fin o.dst v k,dV c.2 k.tr o.dst (fZ o.op c.2 v))with
   |none=>simp
   |some p=>
    simp only[xS,xQ,jG,xA]
    by_cases e:u.all (gu acc (mA h ops o c.2 c.1 w v k))=true
    .simp only[e,if_true,true_and]
    .simp only[e,if_false,false_and,xH,↓reduceIte]
theorem A3{b:Nat}{f:Fp}:∀(l:J Fp) (j:Nat),jt b f j l=true↔∀i g,l[i]? =some g->b.testBit (j+i)=true\/apartFp g f=true
 | [],j=>by simp[jt]
 |x::l,j=>by
  simp only[jt,xA,ic,A3 l (j+1)];constructor
  .rintro⟨d,c⟩ i g hi
   cases i with
   |zero=>simp only[yE,xJ]at hi;subst hi;exact d
   |succ i=>rw[show j+(i+1)=j+1+i by omega];exact c i g (by simpa using hi)
  .intro a
   exact⟨a 0 x rfl,λi g hi=>by rw[show j+1+i=j+(i+1)by omega];exact a (i+1) g (by simpa using hi)⟩
def Uf(h:Hint)(ops:J Qz)(o:Qz)(f:Fp):Prop:=fY h (o.dst.getD 0) o.op=false->sd ops o f
def Xj(h:Hint)(ops:List Oper)(b:Nat)(u:List Nat)(y:Oper):Nat->List Oper->Bool
 |_,[]=>true
 |j,x::r=>((b.testBit j&& !u.contains j) || (!b.testBit j&&(u.contains j || (slotsApart ops x y&& !fY h (x.dst.getD 0) x.op&& !fY h (y.dst.getD 0) y.op))))&&Xj h ops b u y (j+1) r
def Ug(h:Hint)(ops:List Oper):Nat->List Nat->List (List Nat)->List Oper->Bool
 |i,b::a,u::c,y::r=>u.all (λj=>decide (j<i))&&Xj h ops b u y 0 (ops.take i)&&Ug h ops (i+1) a c r
 |_,[],[],[]=>true
 |_,_,_,_=>false
theorem All2.at'{α β:Type}{R:α->β->Prop}:∀{d:J α} {l:J β},All2 R d l->∀(i:Nat) b,l[i]? =some b->∃a,d[i]? =some a/\R a b
 | [],l,e,i,b,c=>by rw[show l=[]from e]at c;simp at c
 |a::d,l,e,i,b,c=>by
  obtain⟨m,r,rfl,f,h⟩:=e
  cases i with
  |zero=>simp only[yE,xJ]at c;subst c;exact⟨a,rfl,f⟩
  |succ i=>obtain⟨k,j,g⟩:=All2.at' h i b (by simpa using c);exact⟨k,by simpa using j,g⟩
theorem Kw{ops:J Qz}{b:Nat}{u:J Nat}{y:Qz}:∀(l:J Qz) (j:Nat),Xj h ops b u y j l=true->∀i x,l[i]? =some x->(b.testBit (j+i)=true/\(j+i)∉u)\/(b.testBit (j+i)=false/\((j+i)∈u\/(slotsApart ops x y=true/\fY h (x.dst.getD 0) x.op=false/\fY h (y.dst.getD 0) y.op=false)))
 | [],j,_,i,x,a=>by simp at a
 |z::l,j,hr,i,x,a=>by
  simp only[Xj,xA,ic,rq,List.contains_eq_mem,decide_eq_false_iff_not,yD]at hr
  cases i with
  |zero=>simp only[yE,xJ]at a;subst a;simpa [and_assoc]using hr.1
  |succ i=>rw[show j+(i+1)=j+1+i by omega];exact Kw l (j+1) hr.2 i x (by simpa using a)
theorem L!{ops l:J Qz}{b:Nat}{u:J Nat}{y:Qz}{f:Fp}{acc:J Fp}(hu:u.all (λj=>decide (j<acc.length))=true)(hr:Xj h ops b u y 0 l=true)(ha:All2 (Uf h ops) l acc)(o:Uf h ops y f):jt b f 0 acc=u.all (gu acc f):=by
 rw[Bool.eq_iff_iff,A3,iy];simp only[iy,yD]at hu
 constructor
 .intro m j n
  have a:=hu j n;obtain⟨x,e,_⟩:=All2.at' ha j acc[j] (by simp[a])
  have:=Kw l 0 hr j x e
  simp only[fu]at this
  obtain⟨_,c⟩ |⟨k,_⟩:=this
  .exact absurd n c
  .simp only[gu,xG a]
   rcases m j acc[j] (by simp[a])with h3 |h3
   .rw[fu,k]at h3;cases h3
   .exact h3
 .intro m i g hi
  obtain⟨x,e,d⟩:=All2.at' ha i g hi
  have:=Kw l 0 hr i x e
  simp only[fu]at this |-
  obtain⟨k,_⟩ |⟨_,c |⟨c,h3,h4⟩⟩:=this
  .exact .inl k
  .right;have:=m i c;simpa [gu,hi]using this
  .exact .inr (zt (d h3) (o h4) c)
theorem All2.snoc{α β:Type}{R:α->β->Prop}{a:α}{b:β}:∀{c:J α} {l:J β},All2 R c l->R a b->All2 R (c++[a]) (l++[b])
 | [],l,d,hr=>by rw[show l=[]from d];exact⟨b,[],rfl,hr,rfl⟩
 |x::c,l,d,hr=>by
  obtain⟨g,r,rfl,f,e⟩:=d
  exact⟨g,r++[b],rfl,f,All2.snoc e hr⟩
theorem All2.leng{α β:Type}{R:α->β->Prop}:∀{a:J α} {l:J β},All2 R a l->l.length=a.length
 | [],l,b=>by rw[show l=[]from b];rfl
 |x::a,l,b=>by obtain⟨e,r,rfl,d,c⟩:=b;simp[All2.leng c]
theorem Ju{ops:J Qz}{all:J Fp}:∀(l:J Qz) (a:J Qz) (i acc:J Fp) (bs:J Nat) (c:J (J Nat)),ops=a++l->all=acc++i->All2 (Uf h ops) a acc->All2 (Uf h ops) l i->Ug h ops a.length bs c l=true->rE all a.length bs i=jG acc c i
 | [],a,i,acc,bs,c,_,_,_,j,d=>by
  rw[show i=[]from j]
  cases bs <;>cases c <;>simp[rE,jG]
 |y::l,a,i,acc,bs,c,ho,g,k,j,d=>by
  obtain⟨f,r,rfl,m,n⟩:=j
  cases bs with
  |nil=>cases c <;>simp[Ug]at d
  |cons b bs=>
   cases c with
   |nil=>simp[Ug]at d
   |cons u c=>
    simp only[Ug,xA]at d
    simp only[rE,jG];have e:=All2.leng k;have t1:ops.take a.length=a:=by rw[ho];simp
    have o:all.take a.length=acc:=by rw[g,<-e];simp
    rw[t1]at d
    rw[o,L! (e▸d.1.1) d.1.2 k m]
    have:=Ju (ops:=ops) (all:=all) l (a++[y]) r (acc++[f]) bs c (by simp[ho]) (by simp[g]) (All2.snoc k m) n (by simpa using d.2)
    rw[<-this];simp
theorem zw{ops:J Qz}:∀(l:J Qz) {c c':Cf} {a:J Fp},dX P call h ops l c=some (c',a)->All2 (Uf h ops) l a
 | [],c,c',a,e=>by simp only[dX,xJ,pJ]at e;exact e.2▸rfl
 |o::l,c,c',a,e=>by
  simp only[dX,xB,xM,pJ]at e
  obtain⟨⟨p,f⟩,g,⟨m,b⟩,k,rfl,rfl⟩:=e
  refine⟨f,b,rfl,λj=> ?_,zw l k⟩
  obtain⟨i,n,d,_,q3⟩:=DD (ops:=ops) j (Ci g);rw[g]at d
  simp only[xJ,pJ]at d
  rw[d.2];exact q3
def P6(h:Hint)(id:Nat)(ls:J Nat)(ns:J Bool)(b:J (J Nat))(c:Code):Bool:=
 match c with
 | .region i a e=>decide (i=id)&&a.toList.all (kn a.toList)&&e&&(match BZ a.toList []with |some d=>Ug h a.toList 0 d b a.toList |none=>false)&&decide (b.length=a.toList.length)&&decide (ns.length=a.toList.length)&&b.all (λu=>u.all λj=>decide (ns[j]? =some true))&&decide (h.live id=ls)&&(h.swp id).isNone
 |_=>false
def acs(h:Hint)(ns:J Bool)(b:J (J Nat))(c:Code):J LF:=match c with | .region _ a _=>lfs h a.toList ns b a.toList |_=>[]
theorem aeN{c:Code}{id:Nat}{ls:J Nat}{ns:J Bool}{b:J (J Nat)}{L:J LF}(hk:P6 h id ls ns b c=true)(q:acs h ns b c=L)(s:St):eP P hints h c s=(zu P (eM P hints) h L (s,kE s) []).bind λs'=>some (.normal,prune ls s'):=by
 unfold P6 at hk
 split at hk
 .rename_i i a w
  simp only[xA,yD]at hk
  obtain⟨⟨⟨⟨⟨⟨⟨⟨rfl,r⟩,rfl⟩,k⟩,l⟩,j⟩,t⟩,u⟩,f⟩:=hk;subst q;simp only[acs];rw[Hj (by simpa using f),Kv (all:=ns) a.toList [] ns b _ [] [] r l j rfl t ⟨rfl,λ_ _=>rfl⟩ rfl,u]
  split at k
  .rename_i n g
   cases e:dX P (eM P hints) h a.toList a.toList (s,kE s)with
   |none=>rfl
   |some p=>
    obtain⟨v,d⟩:=p;have o:=zw _ e
    have:uf a.toList d=jG [] b d:=by
     unfold uf;rw[g];exact Ju a.toList [] d [] n b rfl rfl rfl o k
    simp only[xS,this]
    by_cases m:jG [] b d=true <;>simp[m]
  .cases k
 .cases hk
variable{r:J LF}{d:U Nat}{ty:TypeId}{op:Op}{lk u:J Nat}{nd eff rds hr ho:Bool}{env:J (Nat×SV)}{ct:J ((Nat×Nat)×T)}{H:J Ob}{hi:pP}{acc:J Fp}
def lh(P:Pz)(call:dH)(h:Hint)(o:LF)(r:J LF)(c:Cf)(acc:J Fp)(w:Bool)(v:SV)(k:Wk):U St:=
 if o.u.all (gu acc (fpW o c.2 c.1 w v k))=true then zu P call h r (c.1.fin o.d v k,dV c.2 k.tr o.d (fZ o.op c.2 v)) (acc++[if o.nd=true then fpW o c.2 c.1 w v k else fp0])else none
@[go_sem] theorem P7:zu P call h (⟨d,none,ty,op,lk,u,nd,eff,rds,hr,ho⟩::r) (⟨env,ct,H⟩,hi) acc=(dF P call h (d.getD 0) ty op (St.val ⟨env,ct,H⟩) ⟨ct,H,[]⟩).bind λp=>lh P call h ⟨d,none,ty,op,lk,u,nd,eff,rds,hr,ho⟩ r (⟨env,ct,H⟩,hi) acc true p.1 p.2:=by
 simp only[zu,NU,NT,xS,if_true,xX];rfl
def zx(P:Pz)(call:dH)(h:Hint)(o:LF)(a:Bool)(r:J LF)(c:Cf)(acc:J Fp)(v:SV):U St:=
 match v with
 | .d (.bool b)=>if b=a then(dF P call h (o.d.getD 0) o.ty o.op c.1.val c.1.wk).bind λp=>lh P call h o r c acc true p.1 p.2 else lh P call h o r c acc false (.aS []) c.1.wk
 | .aS []=>lh P call h o r c acc false (.aS []) c.1.wk
 |_=>none
@[go_sem] theorem P8{t:Nat}{a:Bool}{c:Cf}:zu P call h (⟨d,some (t,a),ty,op,lk,u,nd,eff,rds,hr,ho⟩::r) c acc=zx P call h ⟨d,some (t,a),ty,op,lk,u,nd,eff,rds,hr,ho⟩ a r c acc (c.1.get t):=by
 simp only[zu,NU,NT,zx]
 have f:∀b:Bool,(((some (b==a)).bind λw=>if w=true then(dF P call h (d.getD 0) ty op c.1.val c.1.wk).bind λp=>some (true,p.1,p.2)else some (false,.aS [],c.1.wk)).bind λq=>lh P call h ⟨d,some (t,a),ty,op,lk,u,nd,eff,rds,hr,ho⟩ r c acc q.1 q.2.1 q.2.2)=if b=a then(dF P call h (d.getD 0) ty op c.1.val c.1.wk).bind λp=>lh P call h ⟨d,some (t,a),ty,op,lk,u,nd,eff,rds,hr,ho⟩ r c acc true p.1 p.2 else lh P call h ⟨d,some (t,a),ty,op,lk,u,nd,eff,rds,hr,ho⟩ r c acc false (.aS []) c.1.wk:=by
  intro b
  by_cases e:b=a
  .subst e;simp only[xS,beq_self_eq_true,if_true,xX]
  .have:(b==a)=false:=by simpa using e
   simp only[this,xS,e,if_false,xH]
 generalize c.1.get t=v
 cases v with
 |d x=>
  cases x with
  |bool b=>exact f b
  |_=>rfl
 |aS l=>
  cases l with
  |nil=>rfl
  |cons _ _=>rfl
 |_=>rfl
@[go_sem] theorem uy{o:LF}{a b:Bool}{c:Cf}:zx P call h o a r c acc (.d (.bool b))=if b=a then(dF P call h (o.d.getD 0) o.ty o.op c.1.val c.1.wk).bind λp=>lh P call h o r c acc true p.1 p.2 else lh P call h o r c acc false (.aS []) c.1.wk:=rfl
@[go_sem] theorem NV{o:LF}{a:Bool}{c:Cf}:zx P call h o a r c acc (.aS [])=lh P call h o r c acc false (.aS []) c.1.wk:=rfl
variable{g:U (Nat×Bool)}{c:Cf}{w:Bool}{v:SV}{ct':J ((Nat×Nat)×T)}{H':J Ob}{tr:J Tr}
@[go_sem] theorem NW:lh P call h ⟨d,g,ty,op,lk,[],false,eff,rds,hr,ho⟩ r c acc w v ⟨ct',H',tr⟩=zu P call h r (c.1.fin d v ⟨ct',H',tr⟩,dV c.2 tr d (fZ op c.2 v)) (acc++[fp0]):=by
 simp[lh]
@[go_sem] theorem P9{u:J Nat}{n:Nat}:lh P call h ⟨d,g,ty,op,lk,n::u,false,eff,rds,hr,ho⟩ r c acc w v ⟨ct',H',tr⟩=
  if(n::u).all (gu acc (fpW ⟨d,g,ty,op,lk,n::u,false,eff,rds,hr,ho⟩ c.2 c.1 w v ⟨ct',H',tr⟩))=true then zu P call h r (c.1.fin d v ⟨ct',H',tr⟩,dV c.2 tr d (fZ op c.2 v)) (acc++[fp0])else none:=by
 simp[lh]
@[go_sem] theorem Xk:lh P call h ⟨d,g,ty,op,lk,u,true,eff,rds,hr,ho⟩ r c acc w v ⟨ct',H',tr⟩=
  if u.all (gu acc (fpW ⟨d,g,ty,op,lk,u,true,eff,rds,hr,ho⟩ c.2 c.1 w v ⟨ct',H',tr⟩))=true then zu P call h r (c.1.fin d v ⟨ct',H',tr⟩,dV c.2 tr d (fZ op c.2 v)) (acc++[fpW ⟨d,g,ty,op,lk,u,true,eff,rds,hr,ho⟩ c.2 c.1 w v ⟨ct',H',tr⟩])else none:=by
 simp[lh]
@[go_sem] theorem acu{n:Nat}{L:J aj}:dV hi [] (some n) L=(n,L)::hi:=by
 have:∀l:pP,(l.map λp=>(p.1,gh [] p.2))=l:=λl=>by induction l with |nil=>rfl |cons a r b=>simp only[eG,b];rfl
 simp only[dV,this]
@[go_sem] theorem M_{L:J aj}:dV hi [] none L=hi:=by
 have:∀l:pP,(l.map λp=>(p.1,gh [] p.2))=l:=λl=>by induction l with |nil=>rfl |cons a r b=>simp only[eG,b];rfl
 simp only[dV,this]
def pj(tr:List Tr):pP->pP
 | []=>[]
 |p::r=>(p.1,gh tr p.2)::pj tr r
theorem zy(tr:J Tr):∀l:pP,(l.map λp=>(p.1,gh tr p.2))=pj tr l
 | []=>rfl
 |p::r=>by simp only[eG,pj,zy tr r]
@[go_sem] theorem acv:pj tr []=[]:=rfl
@[go_sem] theorem M?{n:Nat}{l:J aj}{r:pP}:pj tr ((n,l)::r)=(n,gh tr l)::pj tr r:=rfl
@[go_sem] theorem M!{x:Tr}{n:Nat}{L:J aj}:dV hi (x::tr) (some n) L=(n,L)::pj (x::tr) hi:=by simp only[dV,zy]
@[go_sem] theorem m?{x:Tr}{L:J aj}:dV hi (x::tr) none L=pj (x::tr) hi:=by simp only[dV,zy]
theorem ahR{r:aj}{p:dR}{l:J aj}:Tr.cO (.kill r p) l=l:=rfl
theorem aeO{r:aj}{n:Nat}{l:J aj}:Tr.cO (.cI r n) l=l:=rfl
theorem ajY{r:aj}{p:dR}{x:J D}{l:J aj}:Tr.cO (.cR r p x) l=l:=rfl
theorem aeP{l:J aj}:Tr.cO .bN l=l:=rfl
theorem acw{k t:Nat}{v:J aj}{r:J (Nat×J aj)}:look ((k,v)::r) t=if k=t then some v else look r t:=rfl
attribute[go_sem]ahR aeO ajY aeP acw
attribute [go_sem] y8 iU fZ fpW gh eZ ga kE SV.aW SV.srtss SV.ba SV.rtss aj.cF Tr.aN Tr.bM Tr.ba gu apartFp rC apartX sepL SV.dv SV.unhurts ue y9 S8 Gd Tr.killAt MB
end
section
variable{P:Pz}{nv dst len:Nat}{lit:Bool}{t:TypeId}{k:Wk}
def Uh(l:J T):J T:=l
@[go_sem low] theorem ahS{x:T}{l:J T}:Uh (x::l)=x::l:=rfl
@[go_sem low] theorem ajZ:Uh []=[]:=rfl
@[go_sem] theorem awC{a:J (Nat×SV)}:gd P nv dst lit t len a k=(elemOf P t).bind λe=>(dS P e).bind λz=>(gm nv a k).bind λq=>
  if 0<P.cellsOf e/\q.1.all (λp=>p.2.nc==P.cellsOf e)=true/\len * P.cellsOf e<=16777216/\z.nc=P.cellsOf e then
   (tD (List.replicate len (T.cj z)) q.1).bind λes=>
    if lit=true then(if a.all (λp=>isD p.2)=true then(T.aZ false es).bind λds=>some (.d (.sl false ds),q.2)else none)
    else some (.aH (.l dst 0) [] 0 len,q.2.new dst 0 (.own (Uh es)))
  else none:=by
 simp only[gd,xF,Uh];rfl
@[go_sem] theorem awD{r:aj}{q:Nat×Nat}{p:dR}{off m:Nat}:dO nv (.aH r (q::p) off m) k=(k.get r).bind λc=>(c.at (q::p)).bind λnd=>match nd with
   | .own a=>(T.aZ false a).bind λl=>(c.put (q::p) (.d (.sl false l))).bind λb=>(k.set r b).bind λ(k:Wk)=>some (.d (.sl false (bz l off m)),k.tell (.cR r (q::p) l))
   |_=>none:=by
 cases r <;>simp only[dO,xF] <;>rfl
@[go_sem] theorem aj0:gm nv [] k=some ([],k):=rfl
@[go_sem] theorem ahT{i:Nat}{v:SV}{r:J (Nat×SV)}:gm nv ((i,v)::r) k=(fV nv v k).bind λp=>(gm nv r p.2).bind λq=>some ((i,p.1)::q.1,q.2):=by
 simp only[gm,xF];rfl
theorem ahU{l:J T}:tD l []=some l:=rfl
theorem aeQ{l:J T}{i:Nat}{x:T}{r:J (Nat×T)}:tD l ((i,x)::r)=if i<l.length then tD (l.set i x) r else none:=rfl
theorem awE{x:D}:isD (.d x)=true:=rfl
theorem atd{b:Bool}{l:J D}:gc nv (.d (.sl b l)) k=some (l.map .d,k):=rfl
attribute[go_sem]ahU aeQ awE atd
@[go_sem] theorem auh{n j off m:Nat}:gc nv (.aH (.l n j) [] off m) k=(k.get (.l n j)).bind λc=>match c with
  | .own a=>if nv<=n/\off=0/\m=a.length then(k.set (.l n j) .dead).bind λ(k:Wk)=>some (a,k.tell (.kill (.l n j) []))
     else if fW (bz a off m)=true then some (bz a off m,k)else none
  |_=>none:=by
 simp only[gc]
 cases k.get (.l n j)with
 |none=>rfl
 |some c=>
  simp only[xS,P1]
  cases c with
  |own a=>simp only[xF];rfl
  |_=>rfl
@[go_sem] theorem aj1{n off m:Nat}{a:J T}{r:aj}{p:dR}:qs n a (.aH r p off m) k=if off=0 then
   (k.get r).bind λc=>(c.at p).bind λnd=>match nd with
    | .own b=>if m<=b.length/\dY n b=true/\Q2 m b a=true then(c.put p .dead).bind λd=>(k.set r d).bind λ(k:Wk)=>some (b.take m,k.tell (.kill r p))else none
    |_=>none
  else none:=by
 simp only[qs,xF]
 try rfl
@[go_sem] theorem aui{s x:SV}:iA P nv dst t s x k=(elemOf P t).bind λe=>(dS P e).bind λz=>(gc nv x k).bind λq=>
  if 0<P.cellsOf e/\dY (P.cellsOf e) q.1=true/\z.nc=P.cellsOf e then
   (qs (P.cellsOf e) q.1 (aU q.2.tr s) q.2).bind λo=>
    if(o.1.length+q.1.length) * P.bytesOf e<=140737488355328/\o.1.length+q.1.length<=9223372036854775807 then
     some (.aH (.l dst 0) [] 0 (o.1.length+q.1.length),o.2.new dst 0 (.own (o.1++q.1)))
    else none
  else none:=by
 simp only[iA,xP]
@[go_sem] theorem ate{a b:IntKind}{n m:Int}:Ga P dst t (.d (.int a n)) (.d (.int b m)) k=(elemOf P t).bind λe=>(dS P e).bind λz=>
   if 0<=n/\n<=m/\(n=0->m=0)/\(P.bytesOf e:Int) * m<=281474976710656/\m<=9223372036854775807/\0<P.cellsOf e/\z.nc=P.cellsOf e then
    some (.aH (.l dst 0) [] 0 n.toNat,k.new dst 0 (.own (List.replicate n.toNat (T.cj z))))
   else none:=rfl
@[go_sem] theorem aeR{v:SV}:jD nv v k=(fV nv v k).bind λp=>some (p.1.fresh,p.2):=by
 simp only[jD,xF];rfl
attribute [go_sem] T.fresh T.fresh1 List.any_cons List.any_nil
def acx(P:Pz)(t:TypeId)(a:SV)(x:T)(k:Wk):U Wk:=
 match a with
 | .loc r p i off=>
  if x.nc=P.cellsOf t/\0<x.nc then
   (k.get r).bind λc=>(c.at p).bind λnd=>
    match nd with
    | .own b=>(b[i]?).bind λe=>
     if off+x.nc<=e.nc then
      (c.put p (.own (b.set i (if off=0/\x.nc=e.nc then x else e.setCells off x.cells)))).bind λd=>
       (k.set r d).bind λ(k:Wk)=>some (if tB e=true then k.tell (.cI r (p.length+1))else k)
     else none
    |_=>none
  else none
 |_=>none
@[go_sem] theorem aj2{a v:SV}:mT P nv t a v k=(jD nv v k).bind λq=>acx P t (bD (aU q.2.tr a)) q.1 q.2:=by
 simp only[mT,xF]
 try rfl
@[go_sem] theorem ahV{r:aj}{p:dR}{i o:Nat}:bD (.loc r p i o)=.loc r p i o:=rfl
@[go_sem] theorem ahW{o:Nat}:bD (.d (.ptr o))=.loc (.o o) [] 0 0:=rfl
@[go_sem] theorem ahX{r:aj}{p:dR}{i off:Nat}{x:T}:acx P t (.loc r p i off) x k=if x.nc=P.cellsOf t/\0<x.nc then
   (k.get r).bind λc=>(c.at p).bind λnd=>
    match nd with
    | .own a=>(a[i]?).bind λe=>
     if off+x.nc<=e.nc then
      (c.put p (.own (a.set i (if off=0/\x.nc=e.nc then x else e.setCells off x.cells)))).bind λb=>
       (k.set r b).bind λ(k:Wk)=>some (if tB e=true then k.tell (.cI r (p.length+1))else k)
     else none
    |_=>none
  else none:=rfl
@[go_sem] theorem aj3{a:J (Nat×SV)}:BU P t a=match dS P t with
  |some (.agg z)=>(dZ P t).bind λb=>(AD b (z.map .d) a).bind λl=>some (SV.br l)
  |_=>none:=by
 simp only[BU,xF];rfl
@[go_sem] theorem ahY{a:Nat ⊕ J (Nat×Nat)}{cs:J SV}:AD a cs []=some cs:=rfl
@[go_sem] theorem aeS{a:Nat ⊕ J (Nat×Nat)}{cs:J SV}{i:Nat}{v:SV}{r:J (Nat×SV)}:AD a cs ((i,v)::r)=(wn a i).bind λq=>if v.solid=true/\v.nc=q.2/\q.1+q.2<=cs.length then AD a (cs.take q.1++v.cells++cs.drop (q.1+q.2)) r else none:=rfl
section
variable{r r':aj}{p p':dR}{off i n m:Nat}{l:J D}{a b:Nat×Nat}
@[go_sem] theorem aj4:Tr.sv (.kill r' p') (.aH r p off m)=if r=r' then(if p=p' then .dead else if p'.length<p.length then .dead else .aH r p off m)else .aH r p off m:=by simp only[Tr.sv]
@[go_sem] theorem ahZ:Tr.sv (.cI r' n) (.aH r p off m)=if r=r'/\n<=p.length then .dead else .aH r p off m:=by simp only[Tr.sv]
@[go_sem] theorem atf:Tr.sv (.cR r' p' l) (.aH r p off m)=if r=r' then(if p=p' then .d (.sl false ((l.drop off).take m))else if p'.length<p.length then .dead else .aH r p off m)else .aH r p off m:=by simp only[Tr.sv]
@[go_sem] theorem atg:Tr.sv (.dp a b) (.aH r p off m)=if r=.l a.1 a.2 then .aH (.l b.1 b.2) p off m else .aH r p off m:=by simp only[Tr.sv]
@[go_sem] theorem aeT{x y:Nat}:Tr.sv .bN (.aH (.l x y) p off m)=.aH (.l x y) p off m:=by simp only[Tr.sv]
@[go_sem] theorem aeU{x:Nat}:Tr.sv .bN (.aH (.o x) p off m)=.dead:=by simp only[Tr.sv]
@[go_sem] theorem aj5:Tr.sv (.kill r' p') (.loc r p i off)=if r=r' then(if p=p' then .dead else if p'.length<p.length then .dead else .loc r p i off)else .loc r p i off:=by simp only[Tr.sv]
@[go_sem] theorem ah0:Tr.sv (.cI r' n) (.loc r p i off)=if r=r'/\n<=p.length then .dead else .loc r p i off:=by simp only[Tr.sv]
@[go_sem] theorem ath:Tr.sv (.cR r' p' l) (.loc r p i off)=if r=r' then(if p=p' then .dead else if p'.length<p.length then .dead else .loc r p i off)else .loc r p i off:=by simp only[Tr.sv]
@[go_sem] theorem ati:Tr.sv (.dp a b) (.loc r p i off)=if r=.l a.1 a.2 then .loc (.l b.1 b.2) p i off else .loc r p i off:=by simp only[Tr.sv]
@[go_sem] theorem aeV{x y:Nat}:Tr.sv .bN (.loc (.l x y) p i off)=.loc (.l x y) p i off:=by simp only[Tr.sv]
@[go_sem] theorem aeW{x:Nat}:Tr.sv .bN (.loc (.o x) [] i off)=.loc (.o x) [] i off:=by simp only[Tr.sv]
end
section
variable{call:dH}{h:Hint}{f:FuncId}{ds:J D}{b:bn}{ct:J ((Nat×Nat)×T)}{H:J Ob}{tr:J Tr}
theorem aj6:gC call h dst f ds b k=if h.ro.contains dst=true then(BY (roD k.H 4) ds).bind λa=>fm call h dst f (D.bl a) {sn:=true,lk:=List.range k.H.length++b.lk} k else if h.lkn.contains dst=true/\b.sn=true then fm call h dst f ds {b with lk:=b.lk++y7 k.H} k else fm call h dst f ds b k:=rfl
theorem N_:fQ [] H=H:=rfl
theorem aeX{H':J Ob}:jQ H [] H'=H':=rfl
theorem n_{n:Nat}{r:J Nat}:fQ (n::r) H=fQ r (H.set n .lock):=rfl
theorem acy{n:Nat}{r:J Nat}{H':J Ob}:jQ H (n::r) H'=jQ H r (match H[n]? with |some x=>H'.set n x |none=>H'):=rfl
attribute[go_sem]aj6 N_ aeX n_ acy
theorem gL:∀H:J Ob,ej H H=true
 | []=>rfl
 | .box c::r=>by simp[ej,gL r]
 |.map _::r|.iter _ _::r|.bY _::r|.frame .. ::r|.lock::r|.row _::r|.sset _::r=>by simp[ej,gL r]
@[go_sem] theorem ah1{H':J Ob}:ej [] H'=true:=rfl
@[go_sem] theorem ah2{c c':T}{r r':J Ob}:ej (.box c::r) (.box c'::r')=(c.nc==c'.nc&&ej r r'):=rfl
@[go_sem] theorem ah3{c c':J (D×T)}{r r':J Ob}:ej (.map c::r) (.map c'::r')=ej r r':=rfl
variable{x y z w:D}
@[go_sem] theorem auj:pO dst [] k=some (.aS [],k):=rfl
@[go_sem] theorem auk{t:T}:pO dst [t] k=(lz dst 0 t k).bind λp=>some (p.1,p.2.2):=by
 simp only[pO,io,xF,xX];rfl
@[go_sem] theorem aul{t u:T}:pO dst [t,u] k=(lz dst 0 t k).bind λp=>(lz dst p.2.1 u p.2.2).bind λq=>some (.aS [p.1,q.1],q.2.2):=by
 simp only[pO,io,xF,xX];rfl
@[go_sem] theorem aum{t u v:T}:pO dst [t,u,v] k=(lz dst 0 t k).bind λp=>(lz dst p.2.1 u p.2.2).bind λq=>(lz dst q.2.1 v q.2.2).bind λr=>some (.aS [p.1,q.1,r.1],r.2.2):=by
 simp only[pO,io,xF,xX];rfl
@[go_sem] theorem aun{j:Nat}:lz dst j (.d x) k=some (.d x,j,k):=rfl
@[go_sem] theorem aj7{j:Nat}{es:J T}:lz dst j (.own es) k=some (.aH (.l dst j) [] 0 es.length,j+1,k.new dst j (.own es)):=rfl
@[go_sem] theorem aj8{j:Nat}{es:J T}:lz dst j (.agg es) k=(gf dst j es k).bind λp=>some (.agg p.1,p.2):=by simp only[lz,xF];rfl
@[go_sem] theorem N?{j:Nat}:gf dst j [] k=some ([],j,k):=rfl
attribute [go_sem] EM
@[go_sem] theorem awF:fJ nv (.d x) k b=some (if EM<=nv then x else x.norm,k,b):=rfl
@[go_sem] theorem awG{n j off m:Nat}:fJ nv (.aH (.l n j) [] off m) k b=(k.get (.l n j)).bind λc=>match c with
   | .own a=>if EM<=nv/\a.isEmpty=true then some (.sl false [],k,b)else if nv<=n/\off=0/\m=a.length then(T.aZ false a).bind λl=>(k.set (.l n j) .dead).bind λ(k:Wk)=>some (.sl false l,k.tell (.cR (.l n j) [] l),b)
     else(T.aZ true a).bind λl=>some (.sl true (bz l off m),k,{b with sn:=true})
   |_=>none:=by
 simp only[fJ]
 cases k.get (.l n j)with
 |none=>rfl
 |some c=>
  simp only[xS,P1]
  cases c with
  |own a=>simp only[xF];rfl
  |_=>rfl
@[go_sem] theorem auo{n j off m:Nat}{q:Nat×Nat}{p:dR}:fJ nv (.aH (.l n j) (q::p) off m) k b=(k.get (.l n j)).bind λc=>(c.at (q::p)).bind λnd=>match nd with
   | .own a=>if EM<=nv/\a.isEmpty=true then some (.sl false [],k,b)else(T.aZ true a).bind λl=>some (.sl true (bz l off m),k,{b with sn:=true})
   |_=>none:=by
 simp only[fJ,xF];rfl
@[go_sem] theorem awH{n off m:Nat}{p:dR}:fJ nv (.aH (.o n) p off m) k b=(k.get (.o n)).bind λc=>(c.at p).bind λnd=>match nd with
   | .own a=>if EM<=nv/\a.isEmpty=true then some (.sl false [],k,b)else(T.aZ true a).bind λl=>some (.sl true (bz l off m),k,{sn:=true,lk:=n::b.lk})
   |_=>none:=by
 simp only[fJ,xF];rfl
@[go_sem] theorem aup{l:J SV}:wS nv (.agg l) k b=(lD nv l k b).bind λp=>some (.agg p.1,p.2.1,p.2.2):=by simp only[wS,xF];rfl
@[go_sem] theorem atj:lD nv [] k b=some ([],k,b):=rfl
@[go_sem] theorem aj9{v:SV}{r:J SV}:lD nv (v::r) k b=(fJ nv (aU k.tr v) k b).bind λp=>(lD nv r p.2.1 p.2.2).bind λq=>some (p.1::q.1,q.2.1,q.2.2):=by simp only[lD,xF];rfl
end
@[go_sem] theorem acz{n:Nat}:dY n []=true:=rfl
@[go_sem] theorem Kx{n:Nat}{x:T}{l:J T}:dY n (x::l)=(x.nc==n&&dY n l):=rfl
attribute [go_sem] lE fW wn SV.solid SV.nc SV.cells SV.br T.br T.setCells T.aT T.cells T.cj T.ofD1 Q2 tB SV.bH T.bH
end
@[go_sem] theorem ah4{P:Pz}{t:TypeId}{k:IntKind}{n:Int}{s:J UInt8}:ub P t (.d (.str s)) (.d (.int k n))=match P.underlying t with |some .string=>(if 0<=n then(s[n.toNat]?).bind λb=>some (.d (.int .u8 b.toNat))else none) |_=>none:=by
 simp only[ub,xF];rfl
section
variable{α β γ:Type}
theorem Hm{c:Prop}[Decidable c]{a b:U α}{g:α->U γ}:(if c then a else b).bind g=if c then a.bind g else b.bind g:=by split <;>rfl
theorem Xl{o:U α}{f:α->β}{g:β->U γ}:(o.map f).bind g=o.bind λx=>g (f x):=by cases o <;>rfl
theorem kk(K:α->β)(x:α):some (K x)=(some x).map K:=rfl
end
section
variable{P:Pz}{call:dH}{h:Hint}{d:U Nat}{ty:TypeId}{op:Op}{r:J dg}{env:J (Nat×SV)}{ct:J ((Nat×Nat)×T)}{H:J Ob}{b:Bool}
@[go_sem high] theorem A5:uw P call h d ty op false r ⟨env,ct,H⟩ (.d (.bool b))=if b=true then rZ P call h r (St.fin ⟨env,ct,H⟩ d (.aS []) ⟨ct,H,[]⟩)else(dF P call h (d.getD 0) ty op (St.val ⟨env,ct,H⟩) ⟨ct,H,[]⟩).bind λp=>Rn P call h d r ⟨env,ct,H⟩ p.1 p.2:=by
 cases b <;>simp[ux]
@[go_sem high] theorem A6{o:LF}{r:J LF}{c:Cf}{acc:J Fp}:zx P call h o false r c acc (.d (.bool b))=if b=true then lh P call h o r c acc false (.aS []) c.1.wk else(dF P call h (o.d.getD 0) o.ty o.op c.1.val c.1.wk).bind λp=>lh P call h o r c acc true p.1 p.2:=by
 cases b <;>simp[uy]
end
@[reducible] def eI(n:Int):D:=.int .i64 n
@[reducible] def eB(b:Bool):D:=.bool b
@[reducible] def eS(s:J UInt8):D:=.str s
@[reducible] def eK(k:IntKind)(n:Int):D:=.int k n
def tl{α:Type}(f:α->D)(l:J α):J T:=l.map λx=>.d (f x)
section
variable{α:Type}{f:α->D}{l:J α}{x:α}{b:Bool}
attribute [go_sem] D.cX D.aY D.bZ D.bl
theorem fR(h:∀x,(f x).cX=true):D.aY (l.map f)=true:=by induction l <;>simp_all [D.aY]
theorem qB{g:α->D}(h:∀x,(f x).bZ=g x):D.bl (l.map f)=l.map g:=by induction l <;>simp_all [D.bl]
theorem kA(h:∀x,(f x).bZ=f x):D.bl (l.map f)=l.map f:=qB h
theorem gF{n:Nat}(h:∀x,(f x).low n=true):D.aQ n (l.map f)=true:=by induction l <;>simp_all [D.aQ]
@[go_sem] theorem jb:tl f []=[]:=rfl
@[go_sem] theorem Xm:(tl f l).length=l.length:=by simp[tl]
@[go_sem] theorem auq{i:Nat}:(tl f l)[i]? =(l[i]?).map λx=>.d (f x):=by simp[tl]
@[go_sem] theorem awI{i:Nat}(h:i<(tl f l).length):(tl f l)[i]=.d (f (l[i]'(by simpa [tl]using h))):=by simp[tl]
theorem nD:tl f l++[.d (f x)]=tl f (l++[x]):=by simp[tl]
@[go_sem] theorem atk{n:Nat}:(tl f l).take n=tl f (l.take n):=by simp[tl,F6]
@[go_sem] theorem atl{n:Nat}:(tl f l).drop n=tl f (l.drop n):=by simp[tl,Pe]
@[go_sem] theorem atm:(l.map (T.d ∘ f))=tl f l:=rfl
theorem eU{n:Nat}(h:∀x,(f x).nc=n):dY n (tl f l)=true:=by
 induction l with
 |nil=>rfl
 |cons a r b=>simp only[tl,eG,Kx]at b |-;rw[b];simp[T.nc,h]
theorem ii(h:∀x,(f x).norm=f x):T.aZ b (tl f l)=some (l.map f):=by
 induction l with
 |nil=>rfl
 |cons a r c=>simp only[tl,eG,T.aZ,T.cR,h]at c |-;rw[c];rfl
theorem N!{n:Nat}(h:∀x,(f x).low n=true):T.aQ n (tl f l)=true:=by
 induction l with
 |nil=>rfl
 |cons a r b=>simp only[tl,eG,T.aQ,T.low,h]at b |-;simpa using b
@[go_sem] theorem take_snoc:(l++[x]).take (l.length+1)=l++[x]:=gy (by simp)
@[go_sem high] theorem aeY{l:J Int}{n:Int}:tl eI l++[.d (.int .i64 n)]=tl eI (l++[n]):=by simp[tl]
@[go_sem] theorem aka{l:J (J UInt8)}{n:J UInt8}:tl eS l++[.d (.str n)]=tl eS (l++[n]):=by simp[tl]
@[go_sem high] theorem ah5{l:J Int}{n:Int}{i:Nat}:(tl eI l).set i (.d (.int .i64 n))=tl eI (l.set i n):=by simp[tl,BT]
@[go_sem] theorem atn:T.nc .dead=1:=rfl
def tlo(f:α->D)(l:J (J α)):J T:=l.map λr=>.own (tl f r)
section
variable{l:J (J α)}{r:J α}
theorem O_{n:Nat}:tlo f (List.replicate n [])=List.replicate n (.own []):=by simp[tlo,tl]
end
@[go_sem high] theorem ato{n:Nat}{z:Int}:List.replicate n (T.d (.int .i64 z))=tl eI (List.replicate n z):=by simp[tl]
@[go_sem] theorem acA{r:aj}{p:dR}{i o:Nat}:kg r p i o []=some []:=rfl
@[go_sem] theorem O?{r:aj}{p:dR}{i o:Nat}{t:T}{l:J T}:kg r p i o (t::l)=(im r p i o t).bind λx=>(kg r p i (o+1) l).bind λxs=>some (x::xs):=by
 simp only[kg,xF];rfl
attribute [go_sem] gL T.aY T.cX T.aQ T.low D.low D.aQ
attribute [go_sem] canon eI eB eS eK Hm Xl xX lE yE List.getElem?_cons_succ xZ yN List.length_map decide_true decide_false Int.natCast_nonneg xV List.getElem?_map xQ Option.map_none xH bz List.take_zero List.drop_zero List.take_succ_cons List.drop_succ_cons
end
mutual
theorem D.beq_refl:∀(x:D),D.beq x x=true
 | .int k n=>by simp[D.beq]
 | .bool b=>by simp[D.beq]
 | .str s=>by simp[D.beq]
 | .aJ=>rfl
 | .sl b l=>by simp[D.beq,D.bh l]
 | .agg l=>by simp[D.beq,D.bh l]
 | .cU=>rfl
 | .ptr o=>by simp[D.beq]
 | .de=>rfl
 | .map o=>by simp[D.beq]
 | .cZ=>rfl
 | .fn f a c=>by simp[D.beq,D.bh a,D.bh c]
 | .bX=>rfl
 | .iface t x=>by simp[D.beq,D.beq_refl x]
 | .bR l=>by simp[D.beq,D.bh l]
 | .yld o=>by simp[D.beq]
theorem D.bh:∀(l:List D),D.cg l l=true
 | []=>rfl
 |x::r=>by simp[D.cg,D.beq_refl x,D.bh r]
end
mutual
theorem T.beq_refl:∀(x:T),T.beq x x=true
 | .d x=>by simp[T.beq,D.beq_refl x]
 |.own l|.agg l=>by simp[T.beq,T.bh l]
 | .dead=>rfl
theorem T.bh:∀(l:List T),T.cg l l=true
 | []=>rfl
 |x::r=>by simp[T.cg,T.beq_refl x,T.bh r]
end
mutual
theorem SV.beq_refl:∀(x:SV),SV.beq x x=true
 | .d x=>by simp[SV.beq,D.beq_refl x]
 | .aH r p o l=>by simp[SV.beq]
 | .loc r p i o=>by simp[SV.beq]
 |.rp b l|.clip b l=>by simp[SV.beq,D.bh l]
 | .ns b=>by simp[SV.beq]
 |.agg l|.aS l=>by simp[SV.beq,SV.bh l]
 | .dead=>rfl
theorem SV.bh:∀(l:List SV),SV.cg l l=true
 | []=>rfl
 |x::r=>by simp[SV.cg,SV.beq_refl x,SV.bh r]
end
theorem wz{α:Type}{f:α->α->Bool}(hf:∀x,f x x=true):∀(l:J α),BW f l l=true
 | []=>rfl
 |x::r=>by simp[BW,hf x,wz hf r]
def Ob.told:Ob->Bool
 |.box _|.map _|.iter _ _|.bY _|.lock=>true
 |_=>false
theorem Ob.beq_refl(x:Ob):Ob.beq x x=x.told:=by
 cases x <;>simp only[Ob.beq,Ob.told,T.beq_refl,decide_true,Bool.and_self]
 exact wz (λa=>by simp[D.beq_refl,T.beq_refl]) _
@[go_sem] theorem St.beq_self(s:St):St.beq s s=s.H.all Ob.told:=by
 have h3:∀l:J Ob,BW Ob.beq l l=l.all Ob.told:=λl=>by
  induction l with
  |nil=>rfl
  |cons a r b=>simp[BW,Ob.beq_refl,b]
 rw[St.beq,wz (λa=>by simp[SV.beq_refl]),wz (λa=>by simp[T.beq_refl]),h3]
 rfl
attribute [go_sem] Ob.told
inductive TL where
 |leaf (L:List LF)
 |node (a b:TL)
def Qa(h:Hint)(ops:J Qz)(p q:Nat):Bool:=
 match ops[p]?,ops[q]? with |some x,some y=>slotsApart ops x y&& !fY h (x.dst.getD 0) x.op&& !fY h (y.dst.getD 0) y.op |_,_=>false
def pmRow(h:Hint)(ops:List Oper)(q:Nat):Nat->Nat
 |0=>0
 |k+1=>(if Qa h ops k q=true then 2 ^ k else 0) ||| pmRow h ops q k
def uz(h:Hint)(ops:J Qz)(bs:J Nat):J Nat:=(List.range ops.length).map λq=>(bs[q]?).getD 0 ||| pmRow h ops q ops.length
def maskE(bs:List Nat)(q m:Nat):List (Nat×Nat)->Nat
 | []=>m
 |e::r=>(if leB bs e.2 q=true then(bs[e.1]?).getD 0 ||| 2 ^ e.1 else 0) ||| maskE bs q m r
def Hn(m:Nat):Nat->List Nat->List Nat
 |_,[]=>[]
 |i,p::r=>if m.testBit p=true then Hn m (i+1) r else i::Hn m (i+1) r
def D3(bs B:List Nat)(E:List (Nat×Nat)):List Nat->List Nat->List (List Nat)
 |_,[]=>[]
 |a,q::r=>Hn (maskE bs q ((B[q]?).getD 0) E) 0 a::D3 bs B E (a++[q]) r
def nsE(a:J (J Nat))(n:Nat):J Bool:=(List.range n).map λj=>a.any (·.contains j)
def acB(h:Hint)(ops:J Qz)(L:J Nat)(a:J Qz)(b:J (J Nat))(ns:J Bool):U TL:=
 if(a.all (kn ops)&&L.all (λi=>decide (i<ops.length))&&b.all (λu=>u.all λj=>decide (ns[j]? =some true)))=true then some (.leaf (lfs h ops ns b a))else none
def acC(h:Hint)(ops:J Qz)(L:J Nat)(a:J (J Nat)):U TL:=acB h ops L (j0 ops L) a (nsE a L.length)
def acD(h:Hint)(ops:J Qz)(bs B:J Nat)(E:J (Nat×Nat))(L:J Nat):U TL:=acC h ops L (D3 bs B E [] L)
def Cj(h:Hint)(ops:List Oper)(bs B:List Nat):OT->List (Nat×Nat)->Option TL
 | .leaf,E=>acD h ops bs B E (mC bs E (List.range ops.length))
 | .node i j a b,E=>if i≠j/\i<ops.length/\j<ops.length then(Cj h ops bs B a ((i,j)::E)).bind λx=>(Cj h ops bs B b ((j,i)::E)).bind λy=>some (.node x y)else none
def acE(h:Hint)(ops:J Qz)(bs:J Nat)(t:OT):U TL:=Cj h ops bs (uz h ops bs) t []
def ID(P:Program)(call:dH)(h:Hint)(ls:List Nat):TL->St->Option St
 | .leaf L,s=>(zu P call h L (s,kE s) []).map (prune ls)
 | .node a b,s=>(ID P call h ls a s).bind λc=>(ID P call h ls b s).bind λd=>if St.beq c d=true then some c else none
section
variable{P:Pz}{hints:FuncId->Hint}{call:dH}{h:Hint}
theorem Ho{bs:J Nat}{E:J (Nat×Nat)}:∀(l:J (Nat×Fp)),ug bs E l=true↔∀(i j:Nat) (p q:Nat×Fp),i<j->l[i]? =some p->l[j]? =some q->(((bs[q.1]?).getD 0).testBit p.1 || apartFp p.2 q.2 || E.any (λe=>leB bs p.1 e.1&&leB bs e.2 q.1))=true
 | []=>by simp[ug]
 |x::l=>by
  simp only[ug,xA,iy,Ho l];constructor
  .rintro⟨d,f⟩ i j p q b hi a
   cases j with
   |zero=>omega
   |succ j=>
    rw[lW]at a
    cases i with
    |zero=>
     simp only[yE,xJ]at hi
     subst hi;exact d q (yS a)
    |succ i=>exact f i j p q (by omega) (by simpa using hi) a
  .intro c
   refine⟨λq g=> ?_,λi j p q b hi a=>c (i+1) (j+1) p q (by omega) (by simpa using hi) (by simpa using a)⟩
   obtain⟨j,a,rfl⟩:=lZ g;exact c 0 (j+1) x l[j] (by omega) rfl (by rw[lW];exact xG a)
theorem DF:∀(a:J Fp) (b:J (J Nat)) (acc:J Fp),b.length=a.length->(jG acc b a=true↔∀(j:Nat) (u:J Nat) (f:Fp),b[j]? =some u->a[j]? =some f->u.all (gu (acc++a.take j) f)=true)
 | [],[],acc,_=>by simp[jG]
 |f::a,u::b,acc,e=>by
  simp only[jG,xA];rw[DF a b (acc++[f]) (by simpa using e)]
  constructor
  .rintro⟨i,k⟩ j v g c d
   cases j with
   |zero=>
    simp only[yE,xJ]at c d
    subst c;subst d
    simpa using i
   |succ j=>
    have:=k j v g (by simpa using c) (by simpa using d)
    simpa using this
  .intro h
   refine⟨by simpa using h 0 u f rfl rfl,λj v g c d=> ?_⟩
   have:=h (j+1) v g (by simpa using c) (by simpa using d)
   simpa using this
 |[],_::_,_,e|_::_,[],_,e=>by simp at e
theorem Ck{ops:J Qz}:∀{L:J Nat},L.all (λi=>decide (i<ops.length))=true->(j0 ops L).length=L.length/\∀(j q:Nat),L[j]? =some q->(j0 ops L)[j]? =ops[q]?
 | [],_=>⟨rfl,λj q b=>by simp at b⟩
 |a::L,c=>by
  simp only[kU,xA,yD]at c
  obtain⟨d,f⟩:=Ck c.2
  have e:j0 ops (a::L)=ops[a]::j0 ops L:=by
   unfold j0;rw[List.filterMap_cons,xG c.1]
  rw[e]
  refine⟨by simp[d],λj q b=> ?_⟩
  cases j with
  |zero=>simp only[yE,xJ]at b;subst b;simp[xG c.1]
  |succ j=>simpa using f j q (by simpa using b)
theorem O!{bs:J Nat}{u v:Nat}:leB bs u v=(decide (u=v) || ((bs[v]?).getD 0).testBit u):=rfl
theorem Cl{bs:J Nat}{q m p:Nat}:∀(E:J (Nat×Nat)),(maskE bs q m E).testBit p=(m.testBit p || E.any λe=>leB bs p e.1&&leB bs e.2 q)
 | []=>by simp[maskE]
 |e::r=>by
  simp only[maskE,Nat.testBit_or,Cl r,List.any_cons]
  cases h:leB bs e.2 q with
  |true=>
   simp only[if_true,Nat.testBit_or,Nat.testBit_two_pow,Bool.and_true,O!]
   have:decide (e.1=p)=decide (p=e.1):=by simp[eq_comm]
   rw[this]
   cases decide (p=e.1) <;>cases((bs[e.1]?).getD 0).testBit p <;>cases m.testBit p <;>simp
  |false=>simp
theorem Jv{ops:J Qz}{q p:Nat}:∀(k:Nat),(pmRow h ops q k).testBit p=true->Qa h ops p q=true
 |0,e=>by simp[pmRow]at e
 |k+1,e=>by
  simp only[pmRow,Nat.testBit_or,ic]at e
  obtain e |e:=e
  .split at e
   .rename_i a
    rw[Nat.testBit_two_pow]at e
    have:k=p:=by simpa using e
    rw[<-this];exact a
   .simp at e
  .exact Jv k e
theorem Cm{m:Nat}:∀(l:J Nat) (k i:Nat),i∈Hn m k l↔∃(t p:Nat),i=k+t/\l[t]? =some p/\m.testBit p=false
 | [],k,i=>by simp[Hn]
 |x::r,k,i=>by
  have c:=Cm (m:=m) r (k+1) i;simp only[Hn];constructor
  .intro hi
   split at hi
   .obtain⟨t,p,d,a,b⟩:=c.1 hi
    exact⟨t+1,p,by omega,by simpa using a,b⟩
   .rename_i e
    obtain rfl |hi:=List.mem_cons.1 hi
    .exact⟨0,x,rfl,rfl,by simpa using e⟩
    .obtain⟨t,p,d,a,b⟩:=c.1 hi
     exact⟨t+1,p,by omega,by simpa using a,b⟩
  .rintro⟨t,p,d,a,b⟩
   cases t with
   |zero=>
    simp only[yE,xJ]at a
    subst a;rw[if_neg (by rw[b];simp),d]
    simp
   |succ t=>
    have:=c.2 ⟨t,p,by omega,by simpa using a,b⟩
    split
    .exact this
    .exact AA _ this
theorem Hp{bs B:J Nat}{E:J (Nat×Nat)}:∀(r a:J Nat),(D3 bs B E a r).length=r.length/\∀(j q:Nat),r[j]? =some q->(D3 bs B E a r)[j]? =some (Hn (maskE bs q ((B[q]?).getD 0) E) 0 (a++r.take j))
 | [],a=>⟨rfl,λj q e=>by simp at e⟩
 |x::r,a=>by
  obtain⟨b,c⟩:=Hp (bs:=bs) (B:=B) (E:=E) r (a++[x])
  refine⟨by simp[D3,b],λj q e=> ?_⟩
  cases j with
  |zero=>simp only[yE,xJ]at e;subst e;simp[D3]
  |succ j=>
   have:=c j q (by simpa using e)
   simp only[D3,lW,this,Eh,xK,List.singleton_append]
theorem Xn{ops:J Qz}{bs:J Nat}{E:J (Nat×Nat)}{L:J Nat}{d:J Fp}(I:L.all (λi=>decide (i<ops.length))=true)(hf:All2 (Uf h ops) (j0 ops L) d):ug bs E (L.zip d)=jG [] (D3 bs (uz h ops bs) E [] L) d:=by
 obtain⟨O,D⟩:=Ck I;have M:d.length=L.length:=(All2.leng hf).trans O;obtain⟨P,z⟩:=Hp (bs:=bs) (B:=uz h ops bs) (E:=E) L [];rw[Bool.eq_iff_iff,Ho,DF d _ [] (by rw[P,M])]
 have F:∀(i p:Nat) (f:Fp),L[i]? =some p->d[i]? =some f->(L.zip d)[i]? =some (p,f):=λi p f h3 h4=>by
  rw[List.getElem?_zip_eq_some];exact⟨h3,h4⟩
 have g:∀q,q<ops.length->((uz h ops bs)[q]?).getD 0=(bs[q]?).getD 0 ||| pmRow h ops q ops.length:=λq m=>by simp[uz,m]
 have l:∀(j q:Nat),L[j]? =some q->q<ops.length:=λj q e=>by
  have:=List.all_eq_true.1 I q (yS e)
  simpa using this
 simp only[gG]at z |-
 constructor
 .intro A j u f o r
  have c:j<L.length:=M▸(List.getElem?_eq_some_iff.1 r).1;have m:=xG c;rw[z j _ m]at o
  simp only[xJ]at o
  subst o;rw[iy];intro i hi;obtain⟨t,p,H,v,s⟩:=(Cm _ _ _).1 hi;rw[fu]at H
  subst H;rw[xU]at v
  split at v
  .rename_i a
   have n:=xG (show i<d.length by omega)
   have:=A i j _ _ a (F i p d[i] v n) (F j L[j] f m r)
   rw[Cl,g _ (l j _ m)]at s
   simp only[Nat.testBit_or,rk]at s
   simp only[ic]at this
   unfold gu;rw[xU,if_pos a,n]
   obtain (q |q) |q:=this
   .rw[s.1.1]at q;cases q
   .exact q
   .rw[s.2]at q;cases q
  .cases v
 .intro A i j p q a hi c
  rw[List.getElem?_zip_eq_some]at hi c
  have N:=(List.getElem?_eq_some_iff.1 c.1).1;have o:=z j q.1 c.1
  cases b:(maskE bs q.1 (((uz h ops bs)[q.1]?).getD 0) E).testBit p.1 with
  |false=>
   have:=A j _ q.2 o c.2
   rw[iy]at this
   have:=this i ((Cm _ _ _).2 ⟨i,p.1,by omega,by rw[xU,if_pos a];exact hi.1,b⟩)
   unfold gu at this;rw[xU,if_pos a,hi.2]at this
   simp only at this;rw[this];simp
  |true=>
   rw[Cl,g _ (l j _ c.1)]at b
   simp only[Nat.testBit_or,ic]at b |-
   obtain (b |b) |b:=b
   .exact .inl (.inl b)
   .have k:=Jv _ b
    unfold Qa at k;obtain⟨x,G,C⟩:=All2.at' hf i p.2 hi.2;obtain⟨y,K,w⟩:=All2.at' hf j q.2 c.2;rw[D i p.1 hi.1]at G
    rw[D j q.1 c.1]at K
    rw[G,K]at k
    simp only[xA,rq]at k
    exact .inl (.inr (zt (C k.1.2) (w k.2) k.1.1))
   .exact .inr b
theorem Hq{ops:J Qz}{bs live:J Nat}{s:St}:∀(t:OT) (E:J (Nat×Nat)) {x:TL},Cj h ops bs (uz h ops bs) t E=some x->j3 P call h live ops bs s t E=ID P call h live x s
 | .leaf,E,x,e=>by
  simp only[Cj,acD,acC,acB]at e
  split at e
  .rename_i hk
   simp only[xJ]at e
   subst e;have d:=hk;simp only[xA]at d
   obtain⟨⟨q,m⟩,r⟩:=d;have n:=(Ck m).1;have f:(D3 bs (uz h ops bs) E [] (mC bs E (List.range ops.length))).length=(j0 ops (mC bs E (List.range ops.length))).length:=by rw[(Hp _ _).1,n]
   have g:(nsE (D3 bs (uz h ops bs) E [] (mC bs E (List.range ops.length))) (mC bs E (List.range ops.length)).length).length=(j0 ops (mC bs E (List.range ops.length))).length:=by simp[nsE,n]
   simp only[j3,ID];rw[Kv (all:=nsE (D3 bs (uz h ops bs) E [] (mC bs E (List.range ops.length))) (mC bs E (List.range ops.length)).length) (j0 ops (mC bs E (List.range ops.length))) [] _ _ (s,kE s) [] [] q f g rfl r ⟨rfl,λ_ _=>rfl⟩ rfl]
   cases k:dX P call h ops (j0 ops (mC bs E (List.range ops.length))) (s,kE s)with
   |none=>rfl
   |some p=>
    obtain⟨c,u⟩:=p
    have:=Xn (bs:=bs) (E:=E) m (zw _ k)
    simp only[xS,this]
    by_cases l:jG [] (D3 bs (uz h ops bs) E [] (mC bs E (List.range ops.length))) u=true
    .simp only[l,if_true,xQ]
    .simp only[l,if_false,Option.map_none];simp
  .cases e
 | .node i j a b,E,x,e=>by
  simp only[Cj]at e
  split at e
  .rename_i hk
   simp only[xB,xJ]at e
   obtain⟨y,k,z,o,rfl⟩:=e;simp only[j3,ID,if_pos hk,Hq a _ k,Hq b _ o]
  .cases e
theorem P_{ops:J Qz}{bs live:J Nat}{s:St}(t:OT){x:TL}(e:acE h ops bs t=some x):j3 P call h live ops bs s t []=ID P call h live x s:=Hq t [] e
theorem zz{live:J Nat}{ops:J Qz}{bs:J Nat}{s:St}:∀(t:OT) (E:J (Nat×Nat)) {r:St},j3 P (eM P hints) h live ops bs s t E=some r->∃n,j3 P (eT P hints n) h live ops bs s t E=some r
 | .leaf,E,r,e=>by
  simp only[j3,xB]at e
  obtain⟨x,f,d⟩:=e;obtain⟨n,c⟩:=rX _ f
  exact⟨n,by simp only[j3,c,xS];exact d⟩
 | .node i j a b,E,r,e=>by
  simp only[j3]at e
  split at e
  .rename_i hk
   simp only[xB]at e
   obtain⟨x,f,y,d,k⟩:=e;obtain⟨n,c⟩:=zz a _ f;obtain⟨m,g⟩:=zz b _ d
   refine⟨max n m,?_⟩
   simp only[j3,if_pos hk,lM (eu (l9 n m)) _ _ c,lM (eu (kP n m)) _ _ g,xS];exact k
  .cases e
theorem Qb{id:Nat}{ops:Array Qz}{s:St}{t:OT}{bs:J Nat}(hp:h.swp id=some t)(hb:BZ ops.toList []=some bs):eP P hints h (.region id ops true) s=(j3 P (eM P hints) h (h.live id) ops.toList bs s t []).map λs'=>(.normal,s'):=
 gD λr=>by
  rw[dT];simp only[ec,hp,hb,if_true,xS,xM];constructor
  .rintro⟨n,x,b,a⟩;exact⟨x,lM (rV n) _ _ b,a⟩
  .rintro⟨x,b,a⟩;obtain⟨n,c⟩:=zz _ _ b;exact⟨n,x,c,a⟩
end
section
variable(P:Pz)(hints:FuncId->Hint)
noncomputable def Hr(o:Nat)(ds:J D)(H:J Ob):U (J T×J Ob):=
 match H[o]?,ds with
 |some (.frame g [p] a b env ct),[d]=>
  (eP P hints {hints g with nest:=true} a {env:=(p,.d d)::env,ct,H:=H.set o .lock}).bind λ(i,f)=>match i with
   | .normal=>(eP P hints {hints g with nest:=true} b f).bind λ(h,e)=>match h with
    | .normal=>match e.H[o]? with
     |some .lock=>
      let c:=((env.map (·.1)).filter λt=> !(p::kM a++kM b).contains t).map λt=>(t,(e.get t).loose)
      some ([.d (.bool true)],lE H.length [] (e.H.set o (.frame g [p] a b c (pick e.ct (jZ (SV.cr (c.map (·.2))))))))
     |_=>none
    |_=>none
   |_=>none
 |_,_=>none
variable{P hints}
theorem Qc{o:Nat}{ds:J D}{H:J Ob}{r:J T×J Ob}:Hr P hints o ds H=some r↔∃n,rF P (eT P hints n) hints n o ds H=some r:=by
 constructor
 .intro e
  unfold Hr at e
  split at e
  .rename_i a
   simp only[xB]at e
   obtain⟨⟨l,h⟩,f,e⟩:=e;simp only at e
   split at e
   .simp only[xB]at e
    obtain⟨⟨k,i⟩,d,e⟩:=e;obtain⟨b,j⟩:=dT.1 f;obtain⟨c,g⟩:=dT.1 d
    refine⟨max b c,?_⟩
    unfold rF;simp only[a,eb (eu (l9 b c)) (l9 b c) _ _ _ j,eb (eu (kP b c)) (kP b c) _ _ _ g,xS];exact e
   .cases e
  .cases e
 .rintro⟨n,e⟩
  unfold rF at e
  split at e
  .rename_i a
   simp only[xB]at e
   obtain⟨⟨l,h⟩,f,e⟩:=e;simp only at e
   split at e
   .simp only[xB]at e
    obtain⟨⟨k,i⟩,d,e⟩:=e;unfold Hr;simp only[a,dT.2 ⟨n,f⟩,dT.2 ⟨n,d⟩,xS];exact e
   .cases e
  .cases e
theorem NX{o:Nat}{ds:J D}{H:J Ob}:eM P hints (YB+o) ds H=Hr P hints o ds H:=by
 refine gD λr=> ?_
 rw[gS,Qc];constructor
 .rintro⟨n,e⟩
  cases n with
  |zero=>cases e
  |succ n=>
   rw[eT,if_pos (ru _ _),ri]at e
   exact⟨n,e⟩
 .rintro⟨n,e⟩
  refine⟨n+1,?_⟩
  rw[eT,if_pos (ru _ _),ri];exact e
theorem NY{h:Hint}{f:Oz}{c:Array Nat}{a b:Code}{s:St}:eP P hints h (.rangeFunc f c a b) s=kX (eM P hints) h f c.toList a b s:=by
 refine gD λr=> ?_
 rw[dT];constructor
 .rintro⟨n,e⟩
  exact Dy (rV n) e
 .intro e
  unfold kX at e
  split at e
  .cases e
  rename_i d
  split at e
  .rename_i i
   split at e
   .cases e
   rename_i j;simp only[xB]at e
   obtain⟨q,k,g⟩:=e;obtain⟨n,m⟩:=gS.1 k
   refine⟨n,?_⟩
   show kX _ _ _ _ _ _ _=_;unfold kX;rw[if_neg d,i];simp only[if_neg j,m,xS];exact g
  .cases e
end
inductive CL where
 |skip
 |reg (L:List dg) (ls:List Nat)
 |regD (L:List LF) (ls:List Nat)
 |regP (L:List dg) (ls:List Nat)
 |seq (a b:CL)
 |cond (o:Operand) (a b:CL)
 |block (id:Nat) (a:CL)
 |loop (k:Nat)
 |exit (id:Nat)
 |ret
 |cpy (p:Cpy)
 |rng (f:Operand) (ps:List Nat) (a b:Code)
 |regT (x:TL) (ls:List Nat)
def Ht(P:Program)(call:dH)(h:Hint):List dg->St->Option (Option D×St)
 | [],s=>some (none,s)
 |o::r,s=>(hU P call h (o.d.getD 0) o.ty o.op s.val s.wk).bind λp=>match p.1 with
  |some d=>some (some d,s.fin none .dead p.2.2)
  |none=>Ht P call h r (s.fin o.d p.2.1 p.2.2)
theorem NZ{P:Pz}{call:dH}{h:Hint}{ops:J Qz}:∀(l:J Qz) (s:St),l.all (λo=>o.guard.isNone)=true->gJ P call h ops l s=Ht P call h (l.map (jR ops)) s
 | [],s,_=>rfl
 |o::l,s,a=>by
  simp only[kU,xA,yJ]at a
  have b:iu ops s o=some true:=by unfold iu;rw[a.1]
  simp only[gJ,b,xS,if_true,eG,Ht];have f:(jR ops o).d=o.dst:=rfl;have c:(jR ops o).ty=o.type:=rfl;have e:(jR ops o).op=o.op:=rfl;rw[f,c,e];congr 1;funext p;obtain⟨t,v,k⟩:=p
  cases t with
  |some d=>rfl
  |none=>exact NZ l _ a.2
def P?(h:Hint)(ops:J Qz):J (J Nat):=
 (List.range ops.length).map λi=>(List.range i).filter λj=>match ops[i]?,ops[j]?,((BZ ops []).getD [])[i]? with
  |some y,some x,some b=> !(b.testBit j)&& !(slotsApart ops x y&& !fY h (x.dst.getD 0) x.op&& !fY h (y.dst.getD 0) y.op)
  |_,_,_=>true
def akb(a:J (J Nat))(n:Nat):J Bool:=(List.range n).map λj=>a.any (·.contains j)
def ep:Code->Nat
 |.seq a b|.cond _ a b=>ep a+ep b
 |.block _ c|.scope c=>ep c
 | .loop c=>ep c+1
 |_=>0
def fH:Code->List Code
 |.seq a b|.cond _ a b=>fH a++fH b
 |.block _ c|.scope c=>fH c
 | .loop c=>fH c++[c]
 |_=>[]
theorem gz:∀c,(fH c).length=ep c
 |.seq a b|.cond _ a b=>by simp[fH,ep,gz a,gz b]
 |.block _ c|.scope c|.loop c=>by simp[fH,ep,gz c]
 | .skip | .region .. | .rangeFunc .. | .exit _ | .label _ | .goto _ | .ret | .refuse _=>rfl
def Cn(b:Code)(k:Nat):Code:=((fH b)[k]?).getD .skip
def js(h:Hint):Nat->Code->Option (CL×Nat)
 |n,.skip|n,.label _=>some (.skip,n)
 |n,.ret=>some (.ret,n)
 |n,.exit id=>some (.exit id,n)
 |n,.region id d e=>
  if(d.toList.all (kn d.toList)&&(!e || pureR h d.toList)&& !h.cQ.contains id&&(!e || (h.swp id).isNone))=true then some (.reg (d.toList.map (jR d.toList)) (h.live id),n)
  else if(e&&(h.swp id).isSome)=true then(h.swp id).bind λt=>(BZ d.toList []).bind λi=>(acE h d.toList i t).bind λx=>some (.regT x (h.live id),n)
  else if P6 h id (h.live id) (akb (P? h d.toList) d.toList.length) (P? h d.toList) (.region id d e)=true then
   some (.regD (lfs h d.toList (akb (P? h d.toList) d.toList.length) (P? h d.toList) d.toList) (h.live id),n)
  else if(!e&&h.cQ.contains id&&d.toList.all (λo=>o.guard.isNone))=true then some (.regP (d.toList.map (jR d.toList)) (h.live id),n)
  else none
 |n,.seq a b=>match Ge a b with
  |some p=>some (.cpy p,n+ep (.seq a b))
  |none=>(js h n a).bind λx=>(js h x.2 b).bind λy=>some (.seq x.1 y.1,y.2)
 |n,.cond o a b=>(js h n a).bind λx=>(js h x.2 b).bind λy=>some (.cond o x.1 y.1,y.2)
 |n,.block id c=>(js h n c).bind λx=>some (.block id x.1,x.2)
 |n,.scope c=>js h n c
 |n,.loop c=>some (.loop (n+ep c),n+ep c+1)
 |n,.rangeFunc f g a b=>some (.rng f g.toList a b,n)
 |_,_=>none
def qC(h:Hint)(b:Code):U CL:=(js h 0 b).map (·.1)
def Jw(h:Hint)(b:Code)(k:Nat):U CL:=if k<ep b then(js h (k - ep (Cn b k)) (Cn b k)).map (·.1)else none
noncomputable def j5(P:Program)(hints:FuncId->Hint)(h:Hint)(b:Code):CL->St->Option (Ex×St)
 | .skip,s=>some (.normal,s)
 | .ret,s=>some (.ret,s)
 | .exit id,s=>some (.exit id,s)
 | .reg L a,s=>(rZ P (eM P hints) h L s).bind λc=>some (.normal,prune a c)
 | .regD L a,s=>(zu P (eM P hints) h L (s,kE s) []).bind λc=>some (.normal,prune a c)
 | .regP L a,s=>(Ht P (eM P hints) h L s).bind λp=>match p.1 with |some d=>some (.cQ d,p.2) |none=>some (.normal,prune a p.2)
 | .seq x y,s=>(j5 P hints h b x s).bind λr=>match r.1 with | .normal=>j5 P hints h b y r.2 |e=>some (e,r.2)
 | .cond o x y,s=>match s.val o with | .d (.bool t)=>if t=true then j5 P hints h b x s else j5 P hints h b y s |_=>none
 | .block id x,s=>(j5 P hints h b x s).bind λr=>some (Rk id r.1,r.2)
 | .loop k,s=>eP P hints h (.loop (Cn b k)) s
 | .cpy p,s=>MC P p s
 | .rng f g x y,s=>kX (eM P hints) h f g x y s
 | .regT x a,s=>(ID P (eM P hints) h a x s).bind λc=>some (.normal,c)
def LpAt(b:Code)(n:Nat)(l:J Code):Prop:=∀i c,l[i]? =some c->Cn b (n+i)=c
theorem LpAt.left{b:Code}{n:Nat}{l m:J Code}(h:LpAt b n (l++m)):LpAt b n l:=λi c e=>h i c (by rw[xO (List.getElem?_eq_some_iff.1 e).1];exact e)
theorem LpAt.right{b:Code}{n:Nat}{l m:J Code}(h:LpAt b n (l++m)):LpAt b (n+l.length) m:=λi c e=>by
 have:=h (l.length+i) c (by rw[xN (ru _ _)];simpa using e)
 rwa [<-wm]at this
section
variable{P:Pz}{hints:FuncId->Hint}{h:Hint}{b:Code}
theorem mK:∀(c:Code) {n m:Nat} {q:CL},js h n c=some (q,m)->m=n+ep c
 |.skip,n,m,q,e|.label _,n,m,q,e|.ret,n,m,q,e|.exit _,n,m,q,e=>by simp only[js,xJ,pJ]at e;simp[ep,e.2]
 | .region _ _ _,n,m,q,e=>by
  simp only[js]at e
  split at e
  .simp only[xJ,pJ]at e;simp[ep,e.2]
  .split at e
   .simp only[xB,xJ,pJ]at e
    obtain⟨_,_,_,_,_,_,_,e⟩:=e;simp[ep,e]
   .split at e
    .simp only[xJ,pJ]at e;simp[ep,e.2]
    .split at e
     .simp only[xJ,pJ]at e;simp[ep,e.2]
     .cases e
 | .seq a c,n,m,q,e=>by
  simp only[js]at e
  split at e
  .simp only[xJ,pJ]at e
   exact e.2.symm
  simp only[xB,xJ,pJ]at e
  obtain⟨⟨x,f⟩,b,⟨y,g⟩,d,_,rfl⟩:=e
  have:=mK a b;have:=mK c d
  simp only[ep]at *;omega
 | .cond _ a c,n,m,q,e=>by
  simp only[js,xB,xJ,pJ]at e
  obtain⟨⟨x,f⟩,b,⟨y,g⟩,d,_,rfl⟩:=e
  have:=mK a b;have:=mK c d
  simp only[ep]at *;omega
 | .block _ c,n,m,q,e=>by
  simp only[js,xB,xJ,pJ]at e
  obtain⟨⟨x,f⟩,b,_,rfl⟩:=e
  have:=mK c b
  simp only[ep]at *;omega
 | .scope c,n,m,q,e=>by simp only[js]at e;have:=mK c e;simp only[ep]at *;omega
 | .loop c,n,m,q,e=>by simp only[js,xJ,pJ]at e;simp only[ep];omega
 | .rangeFunc ..,n,m,q,e=>by simp only[js,xJ,pJ]at e;simp[ep,e.2]
 |.goto _,_,_,_,e|.refuse _,_,_,_,e=>by simp[js]at e
theorem pk:∀(c:Code) {n m:Nat} {q:CL},js h n c=some (q,m)->LpAt b n (fH c)->∀s,eP P hints h c s=j5 P hints h b q s
 | .skip,n,m,q,e,_,s=>by simp only[js,xJ,pJ]at e;obtain⟨rfl,_⟩:=e;exact Hg
 | .label _,n,m,q,e,_,s=>by simp only[js,xJ,pJ]at e;obtain⟨rfl,_⟩:=e;exact DA
 | .ret,n,m,q,e,_,s=>by simp only[js,xJ,pJ]at e;obtain⟨rfl,_⟩:=e;exact Jp
 | .exit _,n,m,q,e,_,s=>by simp only[js,xJ,pJ]at e;obtain⟨rfl,_⟩:=e;exact Hh
 | .region id F K,n,m,q,e,_,s=>by
  simp only[js]at e
  split at e
  .rename_i i
   simp only[xJ,pJ]at e
   obtain⟨rfl,_⟩:=e;exact ajV (id:=id) (ls:=h.live id) (by simp only[xA]at i;simp only[Xh,xA,decide_true,i.1.1.1,i.1.1.2,i.1.2,i.2,and_self]) rfl s
  .split at e
   .rename_i k
    simp only[xA]at k
    obtain⟨rfl,_⟩:=k;simp only[xB,xJ,pJ]at e
    obtain⟨t,G,H,E,x,B,rfl,_⟩:=e;rw[Qb G E,P_ t B,xF];rfl
   .split at e
    .rename_i i
     simp only[xJ,pJ]at e
     obtain⟨rfl,_⟩:=e;exact aeN i rfl s
    .split at e
     .rename_i i
      simp only[xJ,pJ]at e
      obtain⟨rfl,_⟩:=e;simp only[xA,rq]at i
      obtain⟨⟨rfl,u⟩,C⟩:=i;rw[IA u,NZ _ _ C,xF];show _=(Ht _ _ _ _ _).bind _;congr 1;funext p;obtain⟨t,J⟩:=p
      cases t <;>rfl
     .cases e
 | .seq a c,n,m,q,e,f,s=>by
  simp only[js]at e
  split at e
  .rename_i p u
   simp only[xJ,pJ]at e
   obtain⟨rfl,_⟩:=e;rw[TX u];rfl
  rename_i u;simp only[xB,xJ,pJ]at e
  obtain⟨⟨x,z⟩,j,⟨y,A⟩,l,rfl,rfl⟩:=e;have w:=mK a j;simp only at w l;subst w;simp only[fH]at f
  have g:=f.right;rw[gz]at g
  rw[Jr u,pk a j f.left s];simp only[j5];congr 1;funext r;unfold Jq;obtain⟨D,I⟩:=r
  cases D with
  |normal=>exact pk c l g _
  |_=>rfl
 | .cond o a c,n,m,q,e,f,s=>by
  simp only[js,xB,xJ,pJ]at e
  obtain⟨⟨x,z⟩,j,⟨y,A⟩,l,rfl,rfl⟩:=e;have w:=mK a j;simp only at w l;subst w;simp only[fH]at f
  have g:=f.right;rw[gz]at g
  rw[PN];simp only[j5,pk a j f.left s,pk c l g s]
  try (
   generalize s.val o=v
   cases v with
   |d x=>cases x <;>rfl
   |_=>rfl)
 | .block id c,n,m,q,e,f,s=>by
  simp only[js,xB,xJ,pJ]at e
  obtain⟨⟨x,z⟩,j,rfl,rfl⟩:=e;rw[AX,pk c j f s];rfl
 | .scope c,n,m,q,e,f,s=>by
  simp only[js]at e
  rw[DB];exact pk c e f s
 | .loop c,n,m,q,e,f,s=>by
  simp only[js,xJ,pJ]at e
  obtain⟨rfl,_⟩:=e
  have:=f.right 0 c rfl
  rw[gz]at this
  simp only[j5];rw[show n+ep c=n+ep c+0 from rfl,this]
 | .rangeFunc ..,n,m,q,e,_,s=>by
  simp only[js,xJ,pJ]at e
  obtain⟨rfl,_⟩:=e;exact NY
 |.goto _,_,_,_,e,_,_|.refuse _,_,_,_,e,_,_=>by simp[js]at e
theorem uA{q:CL}(e:qC h b=some q)(s:St):eP P hints h b s=j5 P hints h b q s:=by
 simp only[qC,xM]at e
 obtain⟨⟨d,n⟩,a,rfl⟩:=e;exact pk b a (λi c hi=>by simp[Cn,hi]) s
theorem Xo:∀(b:Code) (k:Nat) (c:Code),(fH b)[k]? =some c->ep c<=k/\∀i x,(fH c)[i]? =some x->(fH b)[k - ep c+i]? =some x:=by
 have h:∀(l m:J Code) (t:∀k c,l[k]? =some c->ep c<=k/\∀i x,(fH c)[i]? =some x->l[k - ep c+i]? =some x) (r:∀k c,m[k]? =some c->ep c<=k/\∀i x,(fH c)[i]? =some x->m[k - ep c+i]? =some x) (k:Nat) (c:Code),(l++m)[k]? =some c->ep c<=k/\∀i x,(fH c)[i]? =some x->(l++m)[k - ep c+i]? =some x:=by
  intro l m t r k c e
  by_cases hk:k<l.length
  .rw[xO hk]at e
   obtain⟨n,g⟩:=t k c e
   exact⟨n,λi x q=>by
    have:=g i x q
    rw[xO (List.getElem?_eq_some_iff.1 this).1];exact this⟩
  .rw[xN (by omega)]at e
   obtain⟨n,g⟩:=r _ c e
   refine⟨by omega,λi x q=> ?_⟩
   have:=g i x q
   rw[xN (by omega),<-this]
   congr 1;omega
 intro b
 induction b with
 |seq a b f d=>exact λk c e=>h _ _ f d k c e
 |cond o a b f d=>exact λk c e=>h _ _ f d k c e
 |block id c j=>exact j
 |scope c j=>exact j
 |loop c j=>
  intro k x e;simp only[fH]at e |-
  by_cases hk:k<(fH c).length
  .rw[xO hk]at e
   obtain⟨n,g⟩:=j k x e
   exact⟨n,λi y p=>by
    have:=g i y p
    rw[xO (List.getElem?_eq_some_iff.1 this).1];exact this⟩
  .rw[xN (by omega)]at e
   have:k - (fH c).length=0:=by
    rcases AB (k - (fH c).length)with s |s
    .exact s
    .rw[lX (by simp only[List.length_singleton];omega)]at e;cases e
   rw[this]at e
   simp only[yE,xJ]at e
   subst e;have u:=gz c
   refine⟨by omega,λi y p=> ?_⟩
   have hi:=(List.getElem?_eq_some_iff.1 p).1;rw[xO (by omega),<-p]
   congr 1;omega
 |_=>intro k c e;simp[fH]at e
theorem N3{k:Nat}{q:CL}(e:Jw h b k=some q)(s:St):eP P hints h (Cn b k) s=j5 P hints h b q s:=by
 unfold Jw at e
 split at e
 .rename_i hk
  simp only[xM]at e
  obtain⟨⟨f,n⟩,d,rfl⟩:=e;refine pk _ d (λi c hi=> ?_) s
  have a:(fH b)[k]? =some (Cn b k):=by
   rw[<-gz]at hk
   simp[Cn,hk]
  have:=(Xo b k _ a).2 i c hi
  show((fH b)[k - ep (Cn b k)+i]?).getD .skip=c
  rw[this];rfl
 .cases e
end
end Go.Am
