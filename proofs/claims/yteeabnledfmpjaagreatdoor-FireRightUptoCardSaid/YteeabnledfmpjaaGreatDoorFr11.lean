/- A part of the proof: texts of mine, merged by a program (wip/dev/merge.py). -/
import Derived.Test.YteeabnledfmpjaaGreatDoorFr10
import Derived.Test.YteeabnledfmpjaaGreatDoorRows
import Derived.WalkKit
import Derived.ProofKit
import Derived.OpenShut
import Derived.JoinedCond
import Derived.Carry
import Derived.ChangeArms
set_option linter.unusedSimpArgs false
set_option linter.unusedVariables false
namespace Go.Am
open Go Go.RowKit Go.ChangeShapes Go.WideShapes Go.ChangeAt
open Go.Proofs.YteeabnledfmpjaaGreatDoor (Rows.uptoBulk Rows.uptoBulkAll)
abbrev pL{H:Type}(d:DataW H):Nat:=Go.Proofs.YteeabnledfmpjaaGreatDoor.Rows.uptoBulk d
abbrev jz{H:Type}(l:List (DataW H)):Nat:=Go.Proofs.YteeabnledfmpjaaGreatDoor.Rows.uptoBulkAll l
mutual
def D.bk:D->Nat
 | .str s=>s.length+1
 | .sl _ l=>D.bA l+1
 | .agg l=>D.bA l
 |_=>1
def D.bA:List D->Nat
 | []=>0
 |x::r=>x.bk+D.bA r
end
theorem D.dy:∀(a b:List D),D.bA (a++b)=D.bA a+D.bA b
 | [],b=>by simp[D.bA]
 |x::a,b=>by simp only[l6,D.bA,D.dy a b];omega
theorem D.bulks_cells(x:D):D.bA x.cells=x.bk:=by cases x <;>simp[D.cells,D.bk,D.bA]
def Ty(P:Program):Nat->TypeId->D->Prop
 |0,_,_=>False
 |n+1,t,x=>
  match P.underlying t with
  |some .bool=>∃b,x=.bool b
  |some (.int k)=>∃m,x=.int k m/\k.min<=m/\m<=k.max
  |some .string=>∃s,x=.str s
  |some (.slice e)=>∃l,x=.sl false l/\∀y∈l,Ty P n e y
  |some (.struct c)=>∃a:List D,x=.agg (a.flatMap D.cells)/\All2 (λ(f:Field) y=>Ty P n f.type y) c.toList a
  |some (.array m e)=>∃a:List D,x=.agg (a.flatMap D.cells)/\a.length=m/\∀y∈a,Ty P n e y
  |_=>False
def O3(P:Program):Nat->List Field->Option Nat
 |o,[]=>some o
 |o,f::r=>if f.offset=o then O3 P (o+P.cellsOf f.type) r else none
def Ed(P:Program):Nat->TypeId->Bool
 |0,_=>false
 |n+1,t=>
  match P.underlying t with
  |some .bool|some (.int _)|some .string=>true
  |some (.slice e)=>Ed P n e&&decide (0<P.cellsOf e)
  |some (.struct a)=>a.toList.all (λf=>Ed P n f.type)&&(O3 P 0 a.toList==some (P.cellsOf t))
  |some (.array m e)=>Ed P n e&&decide (P.cellsOf t=m * P.cellsOf e)
  |_=>false
def c0(W:Wz):Cx:={w:=W,pm:=λ_ b=>b<W.heap.size,nO:=0,ρ:=id}
theorem JY{c d:Type}{f:c->U d}:∀{l:List c} {r:List d},l.mapM f=some r->All2 (λa b=>f a=some b) l r
 | [],r,h=>by simp at h;subst h;rfl
 |a::l,r,h=>by
  rw[List.mapM_cons]at h
  simp only[Option.bind_eq_bind,xB,Option.pure_def,xJ]at h
  obtain⟨b,e,g,i,rfl⟩:=h
  exact⟨b,g,rfl,e,JY i⟩
theorem VC.to_cells{c:Cx}{x:D}{cs:List Vz}(h:VC c x cs):aR c x.cells cs:=by
 have a:=VC.len x cs h
 cases x with
 |agg l=>exact h
 |_=>
  simp only[D.nc]at a
  match cs,a with
  | [u],_=>exact⟨u,[],rfl,h,rfl⟩
section
variable{H:Type}{enc:TypeId×Vz->H}{P:Pz}{W:Wz}{spare:Nat->Bool}
theorem nN(d:DataW H)(l:List (DataW H)):jz (d::l)=pL d+jz l:=by simp[jz,pL,Go.Proofs.YteeabnledfmpjaaGreatDoor.Rows.uptoBulkAll]
theorem In{n b:Nat}{e:TypeId}{a:Addr}(ha:a.spot=none)(k:∀(cs:List Vz) (d:DataW H) (m:List MemPlace),DataW.trod enc P W 0 spare true b e cs=some (d,m)->∃x,VC (c0 W) x cs/\Ty P n e x/\x.bk<=pL d):
  ∀(es:List (DataW H×List MemPlace)) (o:Nat),(∀j,j<es.length->(W.cells? 0 (a.add ((o+j) * P.cellsOf e)) (P.cellsOf e)).bind (DataW.trod enc P W 0 spare true b e)=es[j]?)->
   ∃f,VE (c0 W) f a (o * P.cellsOf e) (P.cellsOf e)/\(∀y∈f,Ty P n e y)/\D.bA f<=jz (es.map (·.1))/\f.length=es.length
 | [],o,_=>⟨[],by simp[VE],by simp,by simp[D.bA],rfl⟩
 |x::es,o,h=>by
  obtain⟨f,s,w,q3,q4⟩:=In ha k es (o+1) (λj i=>by
   have:=h (j+1) (by simp;omega)
   rw[show o+(j+1)=o+1+j by omega]at this
   simpa using this)
  have l:=h 0 (by simp)
  simp only[kV,yE,xB]at l
  obtain⟨cs,p,A⟩:=l;obtain⟨_,u,c⟩:=World.cells?_some p;obtain⟨y,t,r,B⟩:=k cs x.1 x.2 A
  refine⟨y::f,?_,?_,?_,by simp[q4]⟩
  .simp only[VE]
   refine⟨⟨cs,u,λj v i=> ?_,t⟩,by rw[show o * P.cellsOf e+P.cellsOf e=(o+1) * P.cellsOf e by rw[iT,Nat.one_mul]];exact s⟩
   have q:j<cs.length:=(List.getElem?_eq_some_iff.1 i).1
   have:=c j (by omega)
   rw[Em _ _ _ ha]at this
   rw[<-i];exact this
  .intro z g
   obtain rfl |g:=List.mem_cons.1 g
   .exact r
   .exact w z g
  .simp only[D.bA,eG,nN];omega
theorem DY{n a:Nat}{cs:List Vz}(m:∀(t:TypeId) (cs:List Vz) (d:DataW H) (p:List MemPlace),Ed P n t=true->DataW.trod enc P W 0 spare true a t cs=some (d,p)->∃x,VC (c0 W) x cs/\Ty P n t x/\x.bk<=pL d):
  ∀(h:List Field) (xs:List (DataW H×List MemPlace)) (o e:Nat),O3 P o h=some e->(∀f∈h,Ed P n f.type=true)->All2 (λ(f:Field) x=>DataW.trod enc P W 0 spare true a f.type ((cs.drop f.offset).take (P.cellsOf f.type))=some x) h xs->e<=cs.length->
   ∃c,All2 (λ(f:Field) y=>Ty P n f.type y) h c/\aR (c0 W) (c.flatMap D.cells) ((cs.drop o).take (e - o))/\D.bA (c.flatMap D.cells)<=jz (xs.map (·.1))/\o<=e
 | [],xs,o,e,b,_,k,_=>by
  simp only[O3,xJ]at b
  subst b
  exact⟨[],rfl,by simp[aR],by simp[D.bA],dC _⟩
 |f::h,xs,o,e,b,i,k,q=>by
  simp only[O3]at b
  split at b
  .rename_i s
   obtain⟨x,r,rfl,B,u⟩:=k;obtain⟨c,v,z,q3,q4⟩:=DY m h r _ e b (λg w=>i g (by simp[w])) u q
   obtain⟨y,l,A,C⟩:=m f.type _ x.1 x.2 (i f (by simp)) B
   refine⟨y::c,⟨y,c,rfl,A,v⟩,?_,?_,by omega⟩
   .rw[List.flatMap_cons]
    have j:(cs.drop o).take (e - o)=(cs.drop o).take (P.cellsOf f.type)++(cs.drop (o+P.cellsOf f.type)).take (e - (o+P.cellsOf f.type)):=by
     rw[show e - o=P.cellsOf f.type+(e - (o+P.cellsOf f.type))by omega,List.take_add,oZ]
    rw[j];rw[s]at l
    exact aR.append _ _ _ _ (VC.to_cells l) z
   .rw[List.flatMap_cons,D.dy,D.bulks_cells,eG,nN];omega
  .cases b
theorem Io{n a:Nat}{t:TypeId}{cs:List Vz}(g:∀(cs:List Vz) (d:DataW H) (h:List MemPlace),DataW.trod enc P W 0 spare true a t cs=some (d,h)->∃x,VC (c0 W) x cs/\Ty P n t x/\x.bk<=pL d):
  ∀(m k:Nat) (xs:List (DataW H×List MemPlace)),All2 (λ(i:Nat) x=>DataW.trod enc P W 0 spare true a t ((cs.drop (i * P.cellsOf t)).take (P.cellsOf t))=some x) (List.range' k m) xs->
   ∃b:List D,b.length=m/\(∀y∈b,Ty P n t y)/\aR (c0 W) (b.flatMap D.cells) ((cs.drop (k * P.cellsOf t)).take (m * P.cellsOf t))/\D.bA (b.flatMap D.cells)<=jz (xs.map (·.1))
 |0,k,xs,f=>⟨[],rfl,by simp,by simp[aR],by simp[D.bA]⟩
 |m+1,k,xs,f=>by
  rw[wg]at f
  obtain⟨x,r,rfl,p,l⟩:=f;obtain⟨b,o,s,q3,q4⟩:=Io g m (k+1) r l;obtain⟨y,q,j,u⟩:=g _ x.1 x.2 p
  refine⟨y::b,by simp[o],?_,?_,?_⟩
  .intro z c
   obtain rfl |c:=List.mem_cons.1 c
   .exact j
   .exact s z c
  .rw[List.flatMap_cons]
   have e:(cs.drop (k * P.cellsOf t)).take ((m+1) * P.cellsOf t)=(cs.drop (k * P.cellsOf t)).take (P.cellsOf t)++(cs.drop ((k+1) * P.cellsOf t)).take (m * P.cellsOf t):=by
    rw[show(m+1) * P.cellsOf t=P.cellsOf t+m * P.cellsOf t by rw[iT,Nat.one_mul,Nat.add_comm],List.take_add,oZ,show(k+1) * P.cellsOf t=k * P.cellsOf t+P.cellsOf t by rw[iT,Nat.one_mul]]
   rw[e];exact aR.append _ _ _ _ (VC.to_cells q) q3
  .rw[List.flatMap_cons,D.dy,D.bulks_cells,eG,nN];omega
theorem acd:∀(o n:Nat) (t:TypeId) (cs:List Vz) (d:DataW H) (w:List MemPlace),Ed P n t=true->DataW.trod enc P W 0 spare true o t cs=some (d,w)->
  ∃x,VC (c0 W) x cs/\Ty P n t x/\x.bk<=pL d:=by
 intro o
 induction o with
 |zero=>intro n t cs d w _ h;cases h
 |succ o S=>
  intro n t cs d w c h
  cases n with
  |zero=>cases c
  |succ n=>
   simp only[Ed]at c
   split at c
   .rename_i p
    obtain⟨b,rfl,r⟩:=DataW.trod_bool p h;simp only[pJ]at r
    obtain⟨rfl,rfl⟩:=r
    exact⟨.bool b,by simp[VC],by simp[Ty,p],by simp[D.bk,pL,Go.Proofs.YteeabnledfmpjaaGreatDoor.Rows.uptoBulk]⟩
   .rename_i k p
    obtain⟨m,rfl,r,N⟩:=DataW.trod_int p h;simp only[pJ]at r
    obtain⟨rfl,rfl⟩:=r;simp only[Lit.wf,xA,yD]at N
    exact⟨.int k m,by simp[VC],by simp only[Ty,p];exact⟨m,rfl,N⟩,by simp[D.bk,pL,Go.Proofs.YteeabnledfmpjaaGreatDoor.Rows.uptoBulk]⟩
   .rename_i p
    obtain⟨s,rfl,r,N⟩:=DataW.trod_string p h;simp only[pJ]at r
    obtain⟨rfl,rfl⟩:=r
    exact⟨.str s.data.toList,by simp only[VC];exact⟨s,rfl,rfl⟩,by simp only[Ty,p];exact⟨_,rfl⟩,by simp[D.bk,pL,Go.Proofs.YteeabnledfmpjaaGreatDoor.Rows.uptoBulk]⟩
   .rename_i e p
    simp only[xA,yD]at c
    obtain⟨rfl,r⟩ |⟨a,len,cap,elems,rest,z,A,rfl,r,Y,hlc,hcm,hel,helem,_,_⟩:=DataW.trod_slice p h
    .simp only[pJ]at r
     obtain⟨rfl,rfl⟩:=r
     exact⟨.sl false [],by simp only[VC];exact⟨none,0,0,rfl,rfl,dC _,λh=>absurd rfl h⟩,by simp only[Ty,p];exact⟨[],rfl,by simp⟩,by simp[D.bk,D.bA,pL,Go.Proofs.YteeabnledfmpjaaGreatDoor.Rows.uptoBulk]⟩
    .simp only[Nat.add_right_cancel_iff]at A
     subst A;simp only[pJ]at r
     obtain⟨rfl,rfl⟩:=r
     have ab:jz (elems.map (·.1))+1<=pL (DataW.slice (elems.map (·.1)) (rest.map (·.1))):=by
      simp only[pL,jz,Go.Proofs.YteeabnledfmpjaaGreatDoor.Rows.uptoBulk];omega
     by_cases T:elems.length=0
     .have:elems=[]:=yL T
      subst this
      refine⟨.sl false [],by simp only[VC];exact⟨some a,len,cap,rfl,by simp at hel;simp[<-hel],hlc,λh=>absurd rfl h⟩,by simp only[Ty,p];exact⟨[],rfl,by simp⟩,?_⟩
      simp only[D.bk,D.bA];omega
     .have X:=helem 0 (by omega)
      have Q:0<elems.length:=by omega
      rw[xG Q,xB]at X
      obtain⟨aa,M,_⟩:=X;obtain⟨_,ac,C⟩:=World.cells?_some M;have v:=C 0 c.2;rw[xG (by omega)]at v
      have G:(a.add (0 * P.cellsOf e)).add 0=a:=by simp[Addr.add]
      rw[G]at v
      have u:a.spot=none/\a.block<W.heap.size:=by
       unfold World.cell? at v
       split at v
       .rename_i Y
        split at v
        .cases v
        .rename_i hs
         exact⟨by simpa using hs,(Array.getElem?_eq_some_iff.1 Y).1⟩
       .cases v
      obtain⟨y,F,E,q3,q4⟩:=In (n:=n) (e:=e) u.1 (λcs d w I=>S n e cs d w c.1 I) elems 0 (λj hj=>by rw[fu];exact helem j (by omega))
      refine⟨.sl false y,?_,by simp only[Ty,p];exact⟨y,rfl,E⟩,by simp only[D.bk];omega⟩
      simp only[VC]
      exact⟨some a,len,cap,rfl,by omega,hlc,λ_=>⟨a,P.cellsOf e,rfl,u.1,u.2,c.2,by rwa [Nat.zero_mul]at F⟩⟩
   .rename_i fs p
    simp only[xA,iy,beq_iff_eq]at c
    obtain⟨q,z,A,r,B,R,U⟩:=DataW.trod_struct p h;simp only[Nat.add_right_cancel_iff]at A
    subst A;simp only[pJ]at r
    obtain⟨rfl,rfl⟩:=r
    have K:∀(l:List Field) (q:List (DataW H×List MemPlace)),q.length=l.length->(∀(i:Nat) (f:Field),l[i]? =some f->DataW.trod enc P W 0 spare true o f.type ((cs.drop f.offset).take (P.cellsOf f.type))=q[i]?)->
      All2 (λ(f:Field) x=>DataW.trod enc P W 0 spare true o f.type ((cs.drop f.offset).take (P.cellsOf f.type))=some x) l q:=by
     intro l
     induction l with
     |nil=>intro q B _;exact yL B
     |cons f l O=>
      intro q B L
      cases q with
      |nil=>cases B
      |cons x q=>exact⟨x,q,rfl,by simpa using L 0 f rfl,O q (by simpa using B) (λi g hg=>by simpa using L (i+1) g (by simpa using hg))⟩
    obtain⟨y,F,E,q3,_⟩:=DY (n:=n) (λt cs d w hk I=>S n t cs d w hk I) fs.toList q 0 (P.cellsOf t) c.2 c.1 (K _ _ (by simpa using R) (λi f A=>U i f (by rw[<-yM];exact A))) (by omega)
    refine⟨.agg (y.flatMap D.cells),?_,by simp only[Ty,p];exact⟨y,rfl,F⟩,?_⟩
    .simp only[VC]
     rw[jg,Nat.sub_zero,gy (by omega)]at E
     exact E
    .simp only[D.bk]
     refine fj q3 ?_;simp only[pL,jz,Go.Proofs.YteeabnledfmpjaaGreatDoor.Rows.uptoBulk];omega
   .rename_i m e p
    simp only[xA,yD]at c
    have L:∃q,(List.range m).mapM (λi=>DataW.trod enc P W 0 spare true o e ((cs.drop (i * P.cellsOf e)).take (P.cellsOf e)))=some q/\d=.agg (q.map (·.1))/\cs.length=P.cellsOf t:=by
     unfold DataW.trod at h;rw[p]at h
     split at h <;>simp_all
     obtain⟨B,q,hp,Z⟩:=h
     exact⟨q,hp,Z.1.symm⟩
    obtain⟨q,h1,rfl,B⟩:=L;have V:=JY h1;rw[nq]at V
    obtain⟨y,F,E,q3,q4⟩:=Io (n:=n) (λcs d w I=>S n e cs d w c.1 I) m 0 q V
    refine⟨.agg (y.flatMap D.cells),?_,by simp only[Ty,p];exact⟨y,rfl,F,E⟩,?_⟩
    .simp only[VC]
     rw[Nat.zero_mul,jg,gy (by omega)]at q3
     exact q3
    .simp only[D.bk]
     refine fj q4 ?_;simp only[pL,jz,Go.Proofs.YteeabnledfmpjaaGreatDoor.Rows.uptoBulk];omega
   .cases c
theorem O4{g n:Nat}{t:TypeId}{v:Vz}{x:D}(f:Ed P n t=true)(ho:Value.okWide P W .any g t v)(hx:VC (c0 W) x v.cells.toList)(ht:Ty P n t x):wU x v:=by
 cases n with
 |zero=>cases f
 |succ n=>
  have c:(∀a,v≠ .agg a)->(∀l,x≠ .agg l)->wU x v:=λi h=>by
   obtain⟨u,d,k⟩:=VV.of_cells hx h
   have:v.cells= #[v]:=by cases v <;>first |rfl |exact absurd rfl (i _)
   rw[this]at d
   simp only[xC,and_true]at d
   rw[d];exact k.2
  simp only[Ed]at f
  unfold Value.okWide at ho;simp only[Ty]at ht
  split at f
  all_goals (rename_i d;try rw[d]at ho ht)
  .obtain⟨b,rfl⟩:=ht
   exact c (λa e=>by subst e;simp[Cell.okWide,Cell.ok,d]at ho) (by simp)
  .obtain⟨m,rfl,_⟩:=ht
   exact c (λa e=>by subst e;simp[Cell.okWide,Cell.ok,d]at ho) (by simp)
  .obtain⟨s,rfl⟩:=ht
   exact c (λa e=>by subst e;simp[Cell.okWide,Cell.ok,d]at ho) (by simp)
  .obtain⟨l,rfl,_⟩:=ht
   exact c (λa e=>by subst e;simp[Cell.okWide,Cell.ok,d]at ho) (by simp)
  .obtain⟨j,rfl,_⟩:=ht
   obtain⟨a,rfl,_⟩:=ho
   exact⟨a,rfl⟩
  .obtain⟨j,rfl,_⟩:=ht
   obtain⟨a,rfl,_⟩:=ho
   exact⟨a,rfl⟩
  .cases f
theorem Ip{n:Nat}:∀(c:List TypeId) (vs:List Vz) (ds:List (DataW H)) (g:List MemPlace),(∀t∈c,Ed P n t=true)->(∀(j:Nat) t v,c[j]? =some t->vs[j]? =some v->∃a,Value.okWide P W .any a t v)->DataW.TrodAll enc P W 0 spare true c vs ds g->
  ∃xs,bf (c0 W) xs vs/\All2 (λt x=>Ty P n t x) c xs/\D.bA xs<=jz ds
 | [],vs,ds,g,_,_,h=>by
  obtain⟨rfl,rfl,rfl⟩:=trodAll_nil h
  exact⟨[],rfl,rfl,by simp[D.bA]⟩
 |t::c,vs,ds,g,b,k,h=>by
  obtain⟨v,f,d,i,p,q,rfl,rfl,rfl,⟨e,z⟩,r⟩:=trodAll_cons h;obtain⟨xs,s,y,B⟩:=Ip c f i q (λt w=>b t (by simp[w])) (λj t v u o=>k (j+1) t v (by simpa using u) (by simpa using o)) r
  obtain⟨x,l,m,C⟩:=acd e n t _ d p (b t (by simp)) z
  obtain⟨a,A⟩:=k 0 t v rfl rfl
  refine⟨x::xs,⟨v,f,rfl,l,O4 (b t (by simp)) A l m,s⟩,⟨x,xs,rfl,m,y⟩,?_⟩
  simp only[D.bA,nN];omega
end
def A0(W:Wz):Av:={w0:=W,F:=λ_ _=>False,O0:=λ_=>False,n0:=0,ρ0:=id,mono:=λ_ h=>h}
def hd0:aj->Vz
 | .o n=>.slice (some ⟨n,0,none⟩) 1 1
 | .l _ _=>undef
theorem i!(W:Wz):KR (A0 W) id (λ_=>[]) hd0 [] {ct:=[],H:=[]} [] W:=by
 have a:∀r t,({ct:=[],H:=[]}:Wk).get r≠some t:=λr t h=>by cases r <;>simp[Wk.get,Go.Am.cont,fc]at h
 refine⟨λr t h=>absurd h (a r t),λ_ _ _=>rfl,λn=>rfl,λn d h=>by simp at h,⟨by simp,by simp,by simp,by simp⟩,λb c=> ?_,by simp,⟨rfl,rfl,rfl,dC _,λ_ _ _=>rfl,.refl _⟩,λt b h=>h.elim,⟨dC _,λ_ _=>rfl⟩⟩
 rcases c with⟨r,e⟩ |c <;>simp at *
theorem Vn(W:Wz):Ext (c0 W) (am (A0 W) 0 id (λ_=>[]) [] W):=
 ⟨λt b a=>⟨⟨λc=>by rcases c with⟨r,e⟩ |d <;>simp at *,λh=>h,a⟩,rfl⟩,dC _,λ_ _=>rfl⟩
theorem QU{P:Pz}(k:P.follows .mixedOrders=true){hints:FuncId->Hint}{G:Nat->U D}(j:∀f g d,(hints f).gl g=some d->G g=some d)(c:∀f F,(hints f).ext=some F->Wy P G f F){n:Nat}{f:FuncId}{xs:List D}{m:List Ob}(hf:¬YB<=f)(e:eT P hints n f xs []=some ([.d (.bool true)],m)){W:Wz}(hG:GA G (A0 W)){args:Array Vz}(ha:bf (c0 W) xs args.toList):
  Calls P f args W λe p=>e=.returned (.bool true)/\RowKit.Below W.heap.size W p:=by
 have h:=(ND k hints j c n).2.1 f xs [] _ _ e (A0 W) (λ_=>[]) hd0 args rfl hG (i! W) (bf.ext (Vn W) _ _ ha)
 unfold ck at h;rw[if_neg hf]at h
 refine Calls.mono h λB y l=> ?_
 obtain⟨v,a,t,x,s,M,C,i,o,rfl⟩:=l;unfold Ends at a;rw[if_neg (by simp[fp])]at a
 obtain⟨u,r,z,A,rfl,rfl,h3,h4,h5⟩:=o;simp only[RetAll]at h5
 obtain⟨rfl,rfl⟩:=h5;simp only[TC,VC]at h3
 simp only[qw,wU]at h4
 rw[lI h4]at h3
 have q:u=.bool true:=by simpa using h3.2
 subst q
 exact⟨a,i.fr.os,i.fr.tape,i.fr.output,i.fr.size,λb w=>i.fr.kept b w (λh=>h)⟩
section
variable{H:Type}{enc:TypeId×Vz->H}{P:Pz}
theorem y6{W l:Wz}(hl:laidOutB P=true)(hb:RowKit.Below W.heap.size W l)(i:Nat->Bool):∀(f:List TypeId) (vs:List Vz) (ds:List (DataW H)) (b:List MemPlace),(∀t∈f,P.readableRec t=true/\t<P.types.size)->(∀x∈b,x.block<W.heap.size)->(∀x∈b,i x.block=true)->
  DataW.TrodAll enc P W 0 (λ_=>true) true f vs ds b->DataW.TrodAll enc P l 0 i true f vs ds b
 | [],vs,ds,b,_,_,_,h=>by
  obtain⟨rfl,rfl,rfl⟩:=trodAll_nil h;exact rfl
 |t::f,vs,ds,b,k,e,c,h=>by
  obtain⟨v,j,d,g,p,q,rfl,rfl,rfl,o,n⟩:=trodAll_cons h;obtain⟨r,m⟩:=k t (by simp)
  exact⟨p,q,WideElems.Trod_stays hl r m o (λx a=>hb.same (e x (by simp[a]))) (λx a=>c x (by simp[a])),
   y6 hl hb i f j g q (λt s=>k t (by simp[s])) (λx a=>e x (by simp[a])) (λx a=>c x (by simp[a])) n,rfl⟩
theorem j_{fn:Func}{s:ChangeSpec}{e o c k:Bool}{W q:Wz}{args:Array Vz}{ds u:List (DataW H)}{a:List MemPlace}{D:TypeId}
  (z:DataW.Whole enc P fn.params.toList s.vars e W args.toList ds u a) (hv:s.vars=[]) (C:s.fn H ds={results:=[.lit (.bool true)],args:=ds}) (hb:RowKit.Below W.heap.size W q) (hl:laidOutB P=true)
  (hr:∀t∈fn.params.toList,P.readableRec t=true/\t<P.types.size) (ht:fn.resultTypes= #[D]) (hu:P.underlying D=some .bool):s.post enc P fn e o c k W args (.bool true) q:=by
 have j:∀p∈a,p.block<W.heap.size:=λp n=>z.lt p n
 have B:=z;obtain⟨l,L,K,v,rfl,I,F⟩:=z
 have y:u=[]/\L=[]:=by
  rw[hv]at v
  cases u with
  |nil=>exact⟨rfl,v⟩
  |cons g u=>exact v.elim
 obtain⟨rfl,rfl⟩:=y
 have d:∀h:Nat->Bool,(∀p∈l++[],h p.block=true)->DataW.TrodAll enc P q 0 h true fn.params.toList args.toList (s.fn H (ds++[])).args l:=λh A=>by
  rw[gj,C];exact y6 hl hb h _ _ _ _ hr (λx w=>j x (by simpa using w)) (λx w=>A x (by simpa using w)) K
 have i:∀(b:Nat) (h:Nat->Bool) (E:Bool),DataW.TrodAll enc P q b h E fn.resultTypes.toList ((Value.bool true).resultList fn.resultTypes.size) (s.fn H (ds++[])).results []:=λb h E=>by
  rw[gj,C,ht];exact trodAll_cons_mk (shut_bool hu _) trodAll_mk0
 have f:∀h:Nat->Bool,DataW.TrodVars enc P q h s.vars (s.fn H (ds++[])).vars []:=λh=>by
  rw[gj,C,hv];exact rfl
 refine⟨ds,[],l++[],[],l,[],B,i _ _ _,d _ (λp n=>by simpa using j p n),f _,hb.frame _,λ_=>⟨ok_one ht rfl (okWide_bool_mk hu _),_,_,([]++l)++[],⟨[]++l,[],trodAll_append (d _ (λ_ _=>rfl)) (i _ _ _),f _,rfl,λb m n=> ?_,λG=>by simpa using F G⟩,λp n _=>by simpa using n⟩⟩
 have r:MemPlace.cell b m∈l++[]:=by simpa using n
 have:=j _ r
 rw[hb.frozen (p:=⟨b,m,none⟩) this];exact I b m r
end
end Go.Am
