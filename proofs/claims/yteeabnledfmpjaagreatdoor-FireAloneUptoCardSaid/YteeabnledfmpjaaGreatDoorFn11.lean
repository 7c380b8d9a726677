/- A part of the proof: texts of mine, merged by a program (wip/dev/merge.py). -/
import Derived.Test.YteeabnledfmpjaaGreatDoorFn10
import Derived.Test.YteeabnledfmpjaaGreatDoorRows
import Derived.WalkKit
import Derived.ProofKit
import Derived.OpenShut
import Derived.JoinedCond
import Derived.Carry
import Derived.ChangeArms
set_option linter.unusedSimpArgs false
set_option linter.unusedVariables false
namespace Go.Am
open Go Go.RowKit Go.ChangeShapes Go.WideShapes Go.ChangeAt
open Go.Proofs.YteeabnledfmpjaaGreatDoor (Rows.uptoBulk Rows.uptoBulkAll)
abbrev pD{H:Type}(d:DataW H):Nat:=Go.Proofs.YteeabnledfmpjaaGreatDoor.Rows.uptoBulk d
abbrev jp{H:Type}(l:List (DataW H)):Nat:=Go.Proofs.YteeabnledfmpjaaGreatDoor.Rows.uptoBulkAll l
mutual
def D.bk:D->Nat
 | .str s=>s.length+1
 | .sl _ l=>D.bA l+1
 | .agg l=>D.bA l
 |_=>1
def D.bA:List D->Nat
 | []=>0
 |x::r=>x.bk+D.bA r
end
theorem D.dw:∀(a b:List D),D.bA (a++b)=D.bA a+D.bA b
 | [],b=>by simp[D.bA]
 |x::a,b=>by simp only[lN,D.bA,D.dw a b];omega
theorem D.bulks_cells(x:D):D.bA x.cells=x.bk:=by cases x <;>simp[D.cells,D.bk,D.bA]
def Ty(P:Program):Nat->TypeId->D->Prop
 |0,_,_=>False
 |n+1,t,x=>
  match P.underlying t with
  |some .bool=>∃b,x=.bool b
  |some (.int k)=>∃m,x=.int k m/\k.min<=m/\m<=k.max
  |some .string=>∃s,x=.str s
  |some (.slice e)=>∃l,x=.sl false l/\∀y∈l,Ty P n e y
  |some (.struct c)=>∃a:List D,x=.agg (a.flatMap D.cells)/\All2 (λ(f:Field) y=>Ty P n f.type y) c.toList a
  |some (.array m e)=>∃a:List D,x=.agg (a.flatMap D.cells)/\a.length=m/\∀y∈a,Ty P n e y
  |_=>False
def OK(P:Program):Nat->List Field->Option Nat
 |o,[]=>some o
 |o,f::r=>if f.offset=o then OK P (o+P.cellsOf f.type) r else none
def D9(P:Program):Nat->TypeId->Bool
 |0,_=>false
 |n+1,t=>
  match P.underlying t with
  |some .bool|some (.int _)|some .string=>true
  |some (.slice e)=>D9 P n e&&decide (0<P.cellsOf e)
  |some (.struct a)=>a.toList.all (λf=>D9 P n f.type)&&(OK P 0 a.toList==some (P.cellsOf t))
  |some (.array m e)=>D9 P n e&&decide (P.cellsOf t=m * P.cellsOf e)
  |_=>false
def c0(W:Wz):Cx:={w:=W,pm:=λ_ b=>b<W.heap.size,nO:=0,ρ:=id}
theorem JN{c d:Type}{f:c->U d}:∀{l:List c} {r:List d},l.mapM f=some r->All2 (λa b=>f a=some b) l r
 | [],r,h=>by simp at h;subst h;rfl
 |a::l,r,h=>by
  rw[List.mapM_cons]at h
  simp only[Option.bind_eq_bind,xB,Option.pure_def,xJ]at h
  obtain⟨b,g,e,i,rfl⟩:=h
  exact⟨b,e,rfl,g,JN i⟩
theorem VC.to_cells{c:Cx}{x:D}{cs:List Vz}(h:VC c x cs):aR c x.cells cs:=by
 have a:=VC.len x cs h
 cases x with
 |agg l=>exact h
 |_=>
  simp only[D.nc]at a
  match cs,a with
  | [u],_=>exact⟨u,[],rfl,h,rfl⟩
section
variable{H:Type}{enc:TypeId×Vz->H}{P:Pz}{W:Wz}{spare:Nat->Bool}
theorem nD(d:DataW H)(l:List (DataW H)):jp (d::l)=pD d+jp l:=by simp[jp,pD,Go.Proofs.YteeabnledfmpjaaGreatDoor.Rows.uptoBulkAll]
theorem If{n b:Nat}{e:TypeId}{a:Addr}(ha:a.spot=none)(l:∀(cs:List Vz) (d:DataW H) (w:List MemPlace),DataW.trod enc P W 0 spare true b e cs=some (d,w)->∃x,VC (c0 W) x cs/\Ty P n e x/\x.bk<=pD d):
  ∀(es:List (DataW H×List MemPlace)) (o:Nat),(∀j,j<es.length->(W.cells? 0 (a.add ((o+j) * P.cellsOf e)) (P.cellsOf e)).bind (DataW.trod enc P W 0 spare true b e)=es[j]?)->
   ∃f,VE (c0 W) f a (o * P.cellsOf e) (P.cellsOf e)/\(∀y∈f,Ty P n e y)/\D.bA f<=jp (es.map (·.1))/\f.length=es.length
 | [],o,_=>⟨[],by simp[VE],by simp,by simp[D.bA],rfl⟩
 |x::es,o,h=>by
  obtain⟨f,s,t,q3,q4⟩:=If ha l es (o+1) (λj i=>by
   have:=h (j+1) (by simp;omega)
   rw[show o+(j+1)=o+1+j by omega]at this
   simpa using this)
  have k:=h 0 (by simp)
  simp only[kH,yE,xB]at k
  obtain⟨cs,u,p⟩:=k;obtain⟨_,r,c⟩:=World.cells?_some u;obtain⟨y,m,q,B⟩:=l cs x.1 x.2 p
  refine⟨y::f,?_,?_,?_,by simp[q4]⟩
  .simp only[VE]
   refine⟨⟨cs,r,λj v i=> ?_,m⟩,by rw[show o * P.cellsOf e+P.cellsOf e=(o+1) * P.cellsOf e by rw[iN,Nat.one_mul]];exact s⟩
   have A:j<cs.length:=(List.getElem?_eq_some_iff.1 i).1
   have:=c j (by omega)
   rw[Ei _ _ _ ha]at this
   rw[<-i];exact this
  .intro z g
   obtain rfl |g:=List.mem_cons.1 g
   .exact q
   .exact t z g
  .simp only[D.bA,eJ,nD];omega
theorem DU{n a:Nat}{cs:List Vz}(m:∀(t:TypeId) (cs:List Vz) (d:DataW H) (p:List MemPlace),D9 P n t=true->DataW.trod enc P W 0 spare true a t cs=some (d,p)->∃x,VC (c0 W) x cs/\Ty P n t x/\x.bk<=pD d):
  ∀(h:List Field) (xs:List (DataW H×List MemPlace)) (o e:Nat),OK P o h=some e->(∀f∈h,D9 P n f.type=true)->All2 (λ(f:Field) x=>DataW.trod enc P W 0 spare true a f.type ((cs.drop f.offset).take (P.cellsOf f.type))=some x) h xs->e<=cs.length->
   ∃c,All2 (λ(f:Field) y=>Ty P n f.type y) h c/\aR (c0 W) (c.flatMap D.cells) ((cs.drop o).take (e - o))/\D.bA (c.flatMap D.cells)<=jp (xs.map (·.1))/\o<=e
 | [],xs,o,e,b,_,l,_=>by
  simp only[OK,xJ]at b
  subst b
  exact⟨[],rfl,by simp[aR],by simp[D.bA],dB _⟩
 |f::h,xs,o,e,b,i,l,A=>by
  simp only[OK]at b
  split at b
  .rename_i w
   obtain⟨x,r,rfl,q,B⟩:=l;obtain⟨c,v,z,q3,q4⟩:=DU m h r _ e b (λg u=>i g (by simp[u])) B A
   obtain⟨y,k,s,C⟩:=m f.type _ x.1 x.2 (i f (by simp)) q
   refine⟨y::c,⟨y,c,rfl,s,v⟩,?_,?_,by omega⟩
   .rw[List.flatMap_cons]
    have j:(cs.drop o).take (e - o)=(cs.drop o).take (P.cellsOf f.type)++(cs.drop (o+P.cellsOf f.type)).take (e - (o+P.cellsOf f.type)):=by
     rw[show e - o=P.cellsOf f.type+(e - (o+P.cellsOf f.type))by omega,List.take_add,oP]
    rw[j];rw[w]at k
    exact aR.append _ _ _ _ (VC.to_cells k) z
   .rw[List.flatMap_cons,D.dw,D.bulks_cells,eJ,nD];omega
  .cases b
theorem Ig{n a:Nat}{t:TypeId}{cs:List Vz}(g:∀(cs:List Vz) (d:DataW H) (s:List MemPlace),DataW.trod enc P W 0 spare true a t cs=some (d,s)->∃x,VC (c0 W) x cs/\Ty P n t x/\x.bk<=pD d):
  ∀(m k:Nat) (xs:List (DataW H×List MemPlace)),All2 (λ(i:Nat) x=>DataW.trod enc P W 0 spare true a t ((cs.drop (i * P.cellsOf t)).take (P.cellsOf t))=some x) (List.range' k m) xs->
   ∃b:List D,b.length=m/\(∀y∈b,Ty P n t y)/\aR (c0 W) (b.flatMap D.cells) ((cs.drop (k * P.cellsOf t)).take (m * P.cellsOf t))/\D.bA (b.flatMap D.cells)<=jp (xs.map (·.1))
 |0,k,xs,e=>⟨[],rfl,by simp,by simp[aR],by simp[D.bA]⟩
 |m+1,k,xs,e=>by
  rw[v7]at e
  obtain⟨x,r,rfl,j,q⟩:=e;obtain⟨b,o,p,q3,q4⟩:=Ig g m (k+1) r q;obtain⟨y,h,l,u⟩:=g _ x.1 x.2 j
  refine⟨y::b,by simp[o],?_,?_,?_⟩
  .intro z c
   obtain rfl |c:=List.mem_cons.1 c
   .exact l
   .exact p z c
  .rw[List.flatMap_cons]
   have f:(cs.drop (k * P.cellsOf t)).take ((m+1) * P.cellsOf t)=(cs.drop (k * P.cellsOf t)).take (P.cellsOf t)++(cs.drop ((k+1) * P.cellsOf t)).take (m * P.cellsOf t):=by
    rw[show(m+1) * P.cellsOf t=P.cellsOf t+m * P.cellsOf t by rw[iN,Nat.one_mul,Nat.add_comm],List.take_add,oP,show(k+1) * P.cellsOf t=k * P.cellsOf t+P.cellsOf t by rw[iN,Nat.one_mul]]
   rw[f];exact aR.append _ _ _ _ (VC.to_cells h) q3
  .rw[List.flatMap_cons,D.dw,D.bulks_cells,eJ,nD];omega
theorem abW:∀(o n:Nat) (t:TypeId) (cs:List Vz) (d:DataW H) (w:List MemPlace),D9 P n t=true->DataW.trod enc P W 0 spare true o t cs=some (d,w)->
  ∃x,VC (c0 W) x cs/\Ty P n t x/\x.bk<=pD d:=by
 intro o
 induction o with
 |zero=>intro n t cs d w _ h;cases h
 |succ o M=>
  intro n t cs d w c h
  cases n with
  |zero=>cases c
  |succ n=>
   simp only[D9]at c
   split at c
   .rename_i p
    obtain⟨b,rfl,r⟩:=DataW.trod_bool p h;simp only[pJ]at r
    obtain⟨rfl,rfl⟩:=r
    exact⟨.bool b,by simp[VC],by simp[Ty,p],by simp[D.bk,pD,Go.Proofs.YteeabnledfmpjaaGreatDoor.Rows.uptoBulk]⟩
   .rename_i k p
    obtain⟨m,rfl,r,S⟩:=DataW.trod_int p h;simp only[pJ]at r
    obtain⟨rfl,rfl⟩:=r;simp only[Lit.wf,xA,yD]at S
    exact⟨.int k m,by simp[VC],by simp only[Ty,p];exact⟨m,rfl,S⟩,by simp[D.bk,pD,Go.Proofs.YteeabnledfmpjaaGreatDoor.Rows.uptoBulk]⟩
   .rename_i p
    obtain⟨s,rfl,r,S⟩:=DataW.trod_string p h;simp only[pJ]at r
    obtain⟨rfl,rfl⟩:=r
    exact⟨.str s.data.toList,by simp only[VC];exact⟨s,rfl,rfl⟩,by simp only[Ty,p];exact⟨_,rfl⟩,by simp[D.bk,pD,Go.Proofs.YteeabnledfmpjaaGreatDoor.Rows.uptoBulk]⟩
   .rename_i e p
    simp only[xA,yD]at c
    obtain⟨rfl,r⟩ |⟨a,len,cap,elems,rest,C,z,rfl,r,X,hlc,hcm,hel,helem,_,_⟩:=DataW.trod_slice p h
    .simp only[pJ]at r
     obtain⟨rfl,rfl⟩:=r
     exact⟨.sl false [],by simp only[VC];exact⟨none,0,0,rfl,rfl,dB _,λh=>absurd rfl h⟩,by simp only[Ty,p];exact⟨[],rfl,by simp⟩,by simp[D.bk,D.bA,pD,Go.Proofs.YteeabnledfmpjaaGreatDoor.Rows.uptoBulk]⟩
    .simp only[Nat.add_right_cancel_iff]at z
     subst z;simp only[pJ]at r
     obtain⟨rfl,rfl⟩:=r
     have ab:jp (elems.map (·.1))+1<=pD (DataW.slice (elems.map (·.1)) (rest.map (·.1))):=by
      simp only[pD,jp,Go.Proofs.YteeabnledfmpjaaGreatDoor.Rows.uptoBulk];omega
     by_cases T:elems.length=0
     .have:elems=[]:=yL T
      subst this
      refine⟨.sl false [],by simp only[VC];exact⟨some a,len,cap,rfl,by simp at hel;simp[<-hel],hlc,λh=>absurd rfl h⟩,by simp only[Ty,p];exact⟨[],rfl,by simp⟩,?_⟩
      simp only[D.bk,D.bA];omega
     .have V:=helem 0 (by omega)
      have N:0<elems.length:=by omega
      rw[xG N,xB]at V
      obtain⟨Z,O,_⟩:=V;obtain⟨_,aa,B⟩:=World.cells?_some O;have v:=B 0 c.2;rw[xG (by omega)]at v
      have F:(a.add (0 * P.cellsOf e)).add 0=a:=by simp[Addr.add]
      rw[F]at v
      have u:a.spot=none/\a.block<W.heap.size:=by
       unfold World.cell? at v
       split at v
       .rename_i X
        split at v
        .cases v
        .rename_i hs
         exact⟨by simpa using hs,(Array.getElem?_eq_some_iff.1 X).1⟩
       .cases v
      obtain⟨y,K,E,q3,q4⟩:=If (n:=n) (e:=e) u.1 (λcs d w I=>M n e cs d w c.1 I) elems 0 (λj hj=>by rw[fp];exact helem j (by omega))
      refine⟨.sl false y,?_,by simp only[Ty,p];exact⟨y,rfl,E⟩,by simp only[D.bk];omega⟩
      simp only[VC]
      exact⟨some a,len,cap,rfl,by omega,hlc,λ_=>⟨a,P.cellsOf e,rfl,u.1,u.2,c.2,by rwa [Nat.zero_mul]at K⟩⟩
   .rename_i fs p
    simp only[xA,io,beq_iff_eq]at c
    obtain⟨q,C,z,r,A,U,Q⟩:=DataW.trod_struct p h;simp only[Nat.add_right_cancel_iff]at z
    subst z;simp only[pJ]at r
    obtain⟨rfl,rfl⟩:=r
    have G:∀(l:List Field) (q:List (DataW H×List MemPlace)),q.length=l.length->(∀(i:Nat) (f:Field),l[i]? =some f->DataW.trod enc P W 0 spare true o f.type ((cs.drop f.offset).take (P.cellsOf f.type))=q[i]?)->
      All2 (λ(f:Field) x=>DataW.trod enc P W 0 spare true o f.type ((cs.drop f.offset).take (P.cellsOf f.type))=some x) l q:=by
     intro l
     induction l with
     |nil=>intro q A _;exact yL A
     |cons f l R=>
      intro q A L
      cases q with
      |nil=>cases A
      |cons x q=>exact⟨x,q,rfl,by simpa using L 0 f rfl,R q (by simpa using A) (λi g hg=>by simpa using L (i+1) g (by simpa using hg))⟩
    obtain⟨y,K,E,q3,_⟩:=DU (n:=n) (λt cs d w hk I=>M n t cs d w hk I) fs.toList q 0 (P.cellsOf t) c.2 c.1 (G _ _ (by simpa using U) (λi f z=>Q i f (by rw[<-yM];exact z))) (by omega)
    refine⟨.agg (y.flatMap D.cells),?_,by simp only[Ty,p];exact⟨y,rfl,K⟩,?_⟩
    .simp only[VC]
     rw[i6,Nat.sub_zero,gr (by omega)]at E
     exact E
    .simp only[D.bk]
     refine ff q3 ?_;simp only[pD,jp,Go.Proofs.YteeabnledfmpjaaGreatDoor.Rows.uptoBulk];omega
   .rename_i m e p
    simp only[xA,yD]at c
    have L:∃q,(List.range m).mapM (λi=>DataW.trod enc P W 0 spare true o e ((cs.drop (i * P.cellsOf e)).take (P.cellsOf e)))=some q/\d=.agg (q.map (·.1))/\cs.length=P.cellsOf t:=by
     unfold DataW.trod at h;rw[p]at h
     split at h <;>simp_all
     obtain⟨A,q,hp,hd⟩:=h
     exact⟨q,hp,hd.1.symm⟩
    obtain⟨q,h1,rfl,A⟩:=L;have Y:=JN h1;rw[mY]at Y
    obtain⟨y,K,E,q3,q4⟩:=Ig (n:=n) (λcs d w I=>M n e cs d w c.1 I) m 0 q Y
    refine⟨.agg (y.flatMap D.cells),?_,by simp only[Ty,p];exact⟨y,rfl,K,E⟩,?_⟩
    .simp only[VC]
     rw[Nat.zero_mul,i6,gr (by omega)]at q3
     exact q3
    .simp only[D.bk]
     refine ff q4 ?_;simp only[pD,jp,Go.Proofs.YteeabnledfmpjaaGreatDoor.Rows.uptoBulk];omega
   .cases c
theorem OL{g n:Nat}{t:TypeId}{v:Vz}{x:D}(a:D9 P n t=true)(ho:Value.okWide P W .any g t v)(hx:VC (c0 W) x v.cells.toList)(ht:Ty P n t x):wM x v:=by
 cases n with
 |zero=>cases a
 |succ n=>
  have d:(∀c,v≠ .agg c)->(∀l,x≠ .agg l)->wM x v:=λj h=>by
   obtain⟨u,f,k⟩:=VV.of_cells hx h
   have:v.cells= #[v]:=by cases v <;>first |rfl |exact absurd rfl (j _)
   rw[this]at f
   simp only[xC,and_true]at f
   rw[f];exact k.2
  simp only[D9]at a
  unfold Value.okWide at ho;simp only[Ty]at ht
  split at a
  all_goals (rename_i f;try rw[f]at ho ht)
  .obtain⟨b,rfl⟩:=ht
   exact d (λc e=>by subst e;simp[Cell.okWide,Cell.ok,f]at ho) (by simp)
  .obtain⟨m,rfl,_⟩:=ht
   exact d (λc e=>by subst e;simp[Cell.okWide,Cell.ok,f]at ho) (by simp)
  .obtain⟨s,rfl⟩:=ht
   exact d (λc e=>by subst e;simp[Cell.okWide,Cell.ok,f]at ho) (by simp)
  .obtain⟨l,rfl,_⟩:=ht
   exact d (λc e=>by subst e;simp[Cell.okWide,Cell.ok,f]at ho) (by simp)
  .obtain⟨i,rfl,_⟩:=ht
   obtain⟨c,rfl,_⟩:=ho
   exact⟨c,rfl⟩
  .obtain⟨i,rfl,_⟩:=ht
   obtain⟨c,rfl,_⟩:=ho
   exact⟨c,rfl⟩
  .cases a
theorem Ih{n:Nat}:∀(c:List TypeId) (vs:List Vz) (ds:List (DataW H)) (i:List MemPlace),(∀t∈c,D9 P n t=true)->(∀(j:Nat) t v,c[j]? =some t->vs[j]? =some v->∃a,Value.okWide P W .any a t v)->DataW.TrodAll enc P W 0 spare true c vs ds i->
  ∃xs,bf (c0 W) xs vs/\All2 (λt x=>Ty P n t x) c xs/\D.bA xs<=jp ds
 | [],vs,ds,i,_,_,h=>by
  obtain⟨rfl,rfl,rfl⟩:=trodAll_nil h
  exact⟨[],rfl,rfl,by simp[D.bA]⟩
 |t::c,vs,ds,i,b,l,h=>by
  obtain⟨v,e,d,g,p,q,rfl,rfl,rfl,⟨f,w⟩,z⟩:=trodAll_cons h;obtain⟨xs,u,o,C⟩:=Ih c e g q (λt y=>b t (by simp[y])) (λj t v A r=>l (j+1) t v (by simpa using A) (by simpa using r)) z
  obtain⟨x,k,m,B⟩:=abW f n t _ d p (b t (by simp)) w
  obtain⟨a,s⟩:=l 0 t v rfl rfl
  refine⟨x::xs,⟨v,e,rfl,k,OL (b t (by simp)) s k m,u⟩,⟨x,xs,rfl,m,o⟩,?_⟩
  simp only[D.bA,nD];omega
end
def A0(W:Wz):Av:={w0:=W,F:=λ_ _=>False,O0:=λ_=>False,n0:=0,ρ0:=id,mono:=λ_ h=>h}
def hd0:aj->Vz
 | .o n=>.slice (some ⟨n,0,none⟩) 1 1
 | .l _ _=>undef
theorem c?(W:Wz):KR (A0 W) id (λ_=>[]) hd0 [] {ct:=[],H:=[]} [] W:=by
 have a:∀r t,({ct:=[],H:=[]}:Wk).get r≠some t:=λr t h=>by cases r <;>simp[Wk.get,Go.Am.cont,eZ]at h
 refine⟨λr t h=>absurd h (a r t),λ_ _ _=>rfl,λn=>rfl,λn d h=>by simp at h,⟨by simp,by simp,by simp,by simp⟩,λb c=> ?_,by simp,⟨rfl,rfl,rfl,dB _,λ_ _ _=>rfl,.refl _⟩,λt b h=>h.elim,⟨dB _,λ_ _=>rfl⟩⟩
 rcases c with⟨r,e⟩ |c <;>simp at *
theorem U3(W:Wz):Ext (c0 W) (am (A0 W) 0 id (λ_=>[]) [] W):=
 ⟨λt b a=>⟨⟨λc=>by rcases c with⟨r,e⟩ |d <;>simp at *,λh=>h,a⟩,rfl⟩,dB _,λ_ _=>rfl⟩
theorem QB{P:Pz}(k:P.follows .mixedOrders=true){hints:FuncId->Hint}{G:Nat->U D}(j:∀f g d,(hints f).gl g=some d->G g=some d)(i:∀f F,(hints f).ext=some F->Wf P G f F){n:Nat}{f:FuncId}{xs:List D}{s:List Ob}(hf:¬YB<=f)(e:eN P hints n f xs []=some ([.d (.bool true)],s)){W:Wz}(hG:GA G (A0 W)){args:Array Vz}(ha:bf (c0 W) xs args.toList):
  Calls P f args W λe w=>e=.returned (.bool true)/\RowKit.Below W.heap.size W w:=by
 have h:=(No k hints j i n).2.1 f xs [] _ _ e (A0 W) (λ_=>[]) hd0 args rfl hG (c? W) (bf.ext (U3 W) _ _ ha)
 unfold ck at h;rw[if_neg hf]at h
 refine Calls.mono h λx B p=> ?_
 obtain⟨v,a,m,y,t,M,A,c,q,rfl⟩:=p;unfold Ends at a;rw[if_neg (by simp[fj])]at a
 obtain⟨u,r,z,C,rfl,rfl,h3,h4,h5⟩:=q;simp only[RetAll]at h5
 obtain⟨rfl,rfl⟩:=h5;simp only[TC,VC]at h3
 simp only[qr,wM]at h4
 rw[ly h4]at h3
 have o:u=.bool true:=by simpa using h3.2
 subst o
 exact⟨a,c.fr.os,c.fr.tape,c.fr.output,c.fr.size,λb l=>c.fr.kept b l (λh=>h)⟩
section
variable{H:Type}{enc:TypeId×Vz->H}{P:Pz}
theorem yV{W l:Wz}(hl:laidOutB P=true)(hb:RowKit.Below W.heap.size W l)(j:Nat->Bool):∀(e:List TypeId) (vs:List Vz) (ds:List (DataW H)) (b:List MemPlace),(∀t∈e,P.readableRec t=true/\t<P.types.size)->(∀x∈b,x.block<W.heap.size)->(∀x∈b,j x.block=true)->
  DataW.TrodAll enc P W 0 (λ_=>true) true e vs ds b->DataW.TrodAll enc P l 0 j true e vs ds b
 | [],vs,ds,b,_,_,_,h=>by
  obtain⟨rfl,rfl,rfl⟩:=trodAll_nil h;exact rfl
 |t::e,vs,ds,b,k,f,c,h=>by
  obtain⟨v,i,d,g,p,q,rfl,rfl,rfl,n,s⟩:=trodAll_cons h;obtain⟨m,r⟩:=k t (by simp)
  exact⟨p,q,WideElems.Trod_stays hl m r n (λx a=>hb.same (f x (by simp[a]))) (λx a=>c x (by simp[a])),
   yV hl hb j e i g q (λt o=>k t (by simp[o])) (λx a=>f x (by simp[a])) (λx a=>c x (by simp[a])) s,rfl⟩
theorem c!{fn:Func}{s:ChangeSpec}{e m f o:Bool}{W r:Wz}{args:Array Vz}{ds u:List (DataW H)}{a:List MemPlace}{D:TypeId}
  (v:DataW.Whole enc P fn.params.toList s.vars e W args.toList ds u a) (hv:s.vars=[]) (w:s.fn H ds={results:=[.lit (.bool true)],args:=ds}) (hb:RowKit.Below W.heap.size W r) (hl:laidOutB P=true)
  (hr:∀t∈fn.params.toList,P.readableRec t=true/\t<P.types.size) (ht:fn.resultTypes= #[D]) (hu:P.underlying D=some .bool):s.post enc P fn e m f o W args (.bool true) r:=by
 have n:∀p∈a,p.block<W.heap.size:=λp l=>v.lt p l
 have y:=v;obtain⟨j,G,L,z,rfl,F,K⟩:=v
 have A:u=[]/\G=[]:=by
  rw[hv]at z
  cases u with
  |nil=>exact⟨rfl,z⟩
  |cons g u=>exact z.elim
 obtain⟨rfl,rfl⟩:=A
 have c:∀h:Nat->Bool,(∀p∈j++[],h p.block=true)->DataW.TrodAll enc P r 0 h true fn.params.toList args.toList (s.fn H (ds++[])).args j:=λh C=>by
  rw[gf,w];exact yV hl hb h _ _ _ _ hr (λx B=>n x (by simpa using B)) (λx B=>C x (by simpa using B)) L
 have i:∀(b:Nat) (h:Nat->Bool) (E:Bool),DataW.TrodAll enc P r b h E fn.resultTypes.toList ((Value.bool true).resultList fn.resultTypes.size) (s.fn H (ds++[])).results []:=λb h E=>by
  rw[gf,w,ht];exact trodAll_cons_mk (shut_bool hu _) trodAll_mk0
 have d:∀h:Nat->Bool,DataW.TrodVars enc P r h s.vars (s.fn H (ds++[])).vars []:=λh=>by
  rw[gf,w,hv];exact rfl
 refine⟨ds,[],j++[],[],j,[],y,i _ _ _,c _ (λp l=>by simpa using n p l),d _,hb.frame _,λ_=>⟨ok_one ht rfl (okWide_bool_mk hu _),_,_,([]++j)++[],⟨[]++j,[],trodAll_append (c _ (λ_ _=>rfl)) (i _ _ _),d _,rfl,λb k l=> ?_,λI=>by simpa using K I⟩,λp l _=>by simpa using l⟩⟩
 have q:MemPlace.cell b k∈j++[]:=by simpa using l
 have:=n _ q
 rw[hb.frozen (p:=⟨b,k,none⟩) this];exact F b k q
end
end Go.Am
