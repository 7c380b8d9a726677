/- A part of the proof. -/
import Derived.Test.YtlcnolfmpbdgpaaGreatDoorTl10
import Derived.Test.YtlcnolfmpbdgpaaGreatDoorRows
import Derived.WalkKit
import Derived.ProofKit
import Derived.OpenShut
import Derived.JoinedCond
import Derived.Carry
import Derived.ChangeArms
set_option linter.unusedSimpArgs false
set_option linter.unusedVariables false
namespace Go.Am
open Go Go.RowKit Go.ChangeShapes Go.WideShapes Go.ChangeAt
open Go.Proofs.YtlcnolfmpbdgpaaGreatDoor (Rows.uptoBulk Rows.uptoBulkAll)
abbrev jk{H:Type}(d:DataW H):Nat:=Go.Proofs.YtlcnolfmpbdgpaaGreatDoor.Rows.uptoBulk d
abbrev dO{H:Type}(l:List (DataW H)):Nat:=Go.Proofs.YtlcnolfmpbdgpaaGreatDoor.Rows.uptoBulkAll l
mutual
def D.bulk:D→Nat
 | .str s=>s.length+1
 | .sl _ l=>D.bulks l+1
 | .agg l=>D.bulks l
 |_=>1
def D.bulks:List D→Nat
 | []=>0
 |x::r=>x.bulk+D.bulks r
end
theorem D.bulks_append:∀(a b:List D),D.bulks (a++b)=D.bulks a+D.bulks b
 | [],b=>by simp[D.bulks]
 |x::a,b=>by simp only[List.cons_append,D.bulks,D.bulks_append a b];omega
theorem D.bulks_cells(x:D):D.bulks x.cells=x.bulk:=by cases x <;>simp[D.cells,D.bulk,D.bulks]
def Ty(P:Program):Nat→TypeId→D→Prop
 |0,_,_=>False
 |n+1,t,x=>
  match P.underlying t with
  |some .bool=>∃b,x=.bool b
  |some (.int k)=>∃m,x=.int k m∧k.min≤m∧m≤k.max
  |some .string=>∃s,x=.str s
  |some (.slice e)=>∃l,x=.sl false l∧∀y∈l,Ty P n e y
  |some (.struct fs)=>∃ys:List D,x=.agg (ys.flatMap D.cells)∧All2 (fun(f:Field) y=>Ty P n f.type y) fs.toList ys
  |some (.array m e)=>∃ys:List D,x=.agg (ys.flatMap D.cells)∧ys.length=m∧∀y∈ys,Ty P n e y
  |_=>False
def DN(P:Program):Nat→List Field→Option Nat
 |o,[]=>some o
 |o,f::r=>if f.offset=o then DN P (o+P.cellsOf f.type) r else none
def tB(P:Program):Nat→TypeId→Bool
 |0,_=>false
 |n+1,t=>
  match P.underlying t with
  |some .bool=>true
  |some (.int _)=>true
  |some .string=>true
  |some (.slice e)=>tB P n e&&decide (0<P.cellsOf e)
  |some (.struct fs)=>fs.toList.all (fun f=>tB P n f.type)&&(DN P 0 fs.toList==some (P.cellsOf t))
  |some (.array m e)=>tB P n e&&decide (P.cellsOf t=m * P.cellsOf e)
  |_=>false
def c0(W:World):Cx:={w:=W,pm:=fun _ b=>b<W.heap.size,nO:=0,ρ:=id}
theorem Ay{α β:Type}{f:α→Option β}:∀{l:List α} {r:List β},l.mapM f=some r→All2 (fun a b=>f a=some b) l r
 | [],r,h=>by simp at h;subst h;rfl
 |a::l,r,h=>by
  rw[List.mapM_cons]at h
  simp only[Option.bind_eq_bind,xB,Option.pure_def,xJ]at h
  obtain⟨b,h1,bs,h2,rfl⟩:=h
  exact⟨b,bs,rfl,h1,Ay h2⟩
theorem VC.to_cells{c:Cx}{x:D}{cs:List Value}(h:VC c x cs):VCs c x.cells cs:=by
 have hl:=VC.len x cs h
 cases x with
 |agg l=>exact h
 |_=>
  simp only[D.nc]at hl
  match cs,hl with
  | [u],_=>exact⟨u,[],rfl,h,rfl⟩
section
variable{H:Type}{enc:TypeId×Value→H}{P:Program}{W:World}{spare:Nat→Bool}
theorem g9(d:DataW H)(l:List (DataW H)):dO (d::l)=jk d+dO l:=by simp[dO,jk,Go.Proofs.YtlcnolfmpbdgpaaGreatDoor.Rows.uptoBulkAll]
theorem yx{n fuel:Nat}{e:TypeId}{a:Addr}(ha:a.spot=none)(ih:∀(cs:List Value) (d:DataW H) (ps:List MemPlace),DataW.trod enc P W 0 spare true fuel e cs=some (d,ps)→∃x,VC (c0 W) x cs∧Ty P n e x∧x.bulk≤jk d):
  ∀(es:List (DataW H×List MemPlace)) (o:Nat),(∀j,j<es.length→(W.cells? 0 (a.add ((o+j) * P.cellsOf e)) (P.cellsOf e)).bind (DataW.trod enc P W 0 spare true fuel e)=es[j]?)→
   ∃ys,VE (c0 W) ys a (o * P.cellsOf e) (P.cellsOf e)∧(∀y∈ys,Ty P n e y)∧D.bulks ys≤dO (es.map (·.1))∧ys.length=es.length
 | [],o,_=>⟨[],by simp[VE],by simp,by simp[D.bulks],rfl⟩
 |x::es,o,h=>by
  obtain⟨ys,q1,q2,q3,q4⟩:=yx ha ih es (o+1) (fun j hj=>by
   have:=h (j+1) (by simp;omega)
   rw[show o+(j+1)=o+1+j by omega]at this
   simpa using this)
  have h0:=h 0 (by simp)
  simp only[Nat.add_zero,yE,xB]at h0
  obtain⟨cs,hc,ht⟩:=h0;obtain⟨_,hl,hcell⟩:=World.cells?_some hc;obtain⟨y,r1,r2,r3⟩:=ih cs x.1 x.2 ht
  refine⟨y::ys,?_,?_,?_,by simp[q4]⟩
  ·simp only[VE]
   refine⟨⟨cs,hl,fun j v hj=> ?_,r1⟩,by rw[show o * P.cellsOf e+P.cellsOf e=(o+1) * P.cellsOf e by rw[Nat.add_mul,Nat.one_mul]];exact q1⟩
   have hjl:j<cs.length:=(List.getElem?_eq_some_iff.1 hj).1
   have:=hcell j (by omega)
   rw[uO _ _ _ ha]at this
   rw[←hj];exact this
  ·intro z hz
   rcases List.mem_cons.1 hz with rfl |hz
   ·exact r2
   ·exact q2 z hz
  ·simp only[D.bulks,List.map_cons,g9];omega
theorem uC{n fuel:Nat}{cs:List Value}(ih:∀(t:TypeId) (cs:List Value) (d:DataW H) (ps:List MemPlace),tB P n t=true→DataW.trod enc P W 0 spare true fuel t cs=some (d,ps)→∃x,VC (c0 W) x cs∧Ty P n t x∧x.bulk≤jk d):
  ∀(fs:List Field) (xs:List (DataW H×List MemPlace)) (o e:Nat),DN P o fs=some e→(∀f∈fs,tB P n f.type=true)→All2 (fun(f:Field) x=>DataW.trod enc P W 0 spare true fuel f.type ((cs.drop f.offset).take (P.cellsOf f.type))=some x) fs xs→e≤cs.length→
   ∃ys,All2 (fun(f:Field) y=>Ty P n f.type y) fs ys∧VCs (c0 W) (ys.flatMap D.cells) ((cs.drop o).take (e - o))∧D.bulks (ys.flatMap D.cells)≤dO (xs.map (·.1))∧o≤e
 | [],xs,o,e,hr,_,ha,_=>by
  simp only[DN,xJ]at hr
  subst hr
  exact⟨[],rfl,by simp[VCs],by simp[D.bulks],Nat.le_refl _⟩
 |f::fs,xs,o,e,hr,hok,ha,he=>by
  simp only[DN]at hr
  split at hr
  ·rename_i ho
   obtain⟨x,r,rfl,h1,h2⟩:=ha;obtain⟨ys,q1,q2,q3,q4⟩:=uC ih fs r _ e hr (fun g hg=>hok g (by simp[hg])) h2 he
   obtain⟨y,r1,r2,r3⟩:=ih f.type _ x.1 x.2 (hok f (by simp)) h1
   refine⟨y::ys,⟨y,ys,rfl,r2,q1⟩,?_,?_,by omega⟩
   ·rw[List.flatMap_cons]
    have hsp:(cs.drop o).take (e - o)=(cs.drop o).take (P.cellsOf f.type)++(cs.drop (o+P.cellsOf f.type)).take (e - (o+P.cellsOf f.type)):=by
     rw[show e - o=P.cellsOf f.type+(e - (o+P.cellsOf f.type))by omega,List.take_add,List.drop_drop]
    rw[hsp];rw[ho]at r1
    exact VCs.append _ _ _ _ (VC.to_cells r1) q2
   ·rw[List.flatMap_cons,D.bulks_append,D.bulks_cells,List.map_cons,g9];omega
  ·cases hr
theorem yy{n fuel:Nat}{t:TypeId}{cs:List Value}(ih:∀(cs:List Value) (d:DataW H) (ps:List MemPlace),DataW.trod enc P W 0 spare true fuel t cs=some (d,ps)→∃x,VC (c0 W) x cs∧Ty P n t x∧x.bulk≤jk d):
  ∀(m k:Nat) (xs:List (DataW H×List MemPlace)),All2 (fun(i:Nat) x=>DataW.trod enc P W 0 spare true fuel t ((cs.drop (i * P.cellsOf t)).take (P.cellsOf t))=some x) (List.range' k m) xs→
   ∃ys:List D,ys.length=m∧(∀y∈ys,Ty P n t y)∧VCs (c0 W) (ys.flatMap D.cells) ((cs.drop (k * P.cellsOf t)).take (m * P.cellsOf t))∧D.bulks (ys.flatMap D.cells)≤dO (xs.map (·.1))
 |0,k,xs,ha=>⟨[],rfl,by simp,by simp[VCs],by simp[D.bulks]⟩
 |m+1,k,xs,ha=>by
  rw[List.range'_succ]at ha
  obtain⟨x,r,rfl,h1,h2⟩:=ha;obtain⟨ys,q1,q2,q3,q4⟩:=yy ih m (k+1) r h2;obtain⟨y,r1,r2,r3⟩:=ih _ x.1 x.2 h1
  refine⟨y::ys,by simp[q1],?_,?_,?_⟩
  ·intro z hz
   rcases List.mem_cons.1 hz with rfl |hz
   ·exact r2
   ·exact q2 z hz
  ·rw[List.flatMap_cons]
   have hsp:(cs.drop (k * P.cellsOf t)).take ((m+1) * P.cellsOf t)=(cs.drop (k * P.cellsOf t)).take (P.cellsOf t)++(cs.drop ((k+1) * P.cellsOf t)).take (m * P.cellsOf t):=by
    rw[show(m+1) * P.cellsOf t=P.cellsOf t+m * P.cellsOf t by rw[Nat.add_mul,Nat.one_mul,Nat.add_comm],List.take_add,List.drop_drop,show(k+1) * P.cellsOf t=k * P.cellsOf t+P.cellsOf t by rw[Nat.add_mul,Nat.one_mul]]
   rw[hsp];exact VCs.append _ _ _ _ (VC.to_cells r1) q3
  ·rw[List.flatMap_cons,D.bulks_append,D.bulks_cells,List.map_cons,g9];omega
theorem P9:∀(fuel n:Nat) (t:TypeId) (cs:List Value) (d:DataW H) (ps:List MemPlace),tB P n t=true→DataW.trod enc P W 0 spare true fuel t cs=some (d,ps)→
  ∃x,VC (c0 W) x cs∧Ty P n t x∧x.bulk≤jk d:=by
 intro fuel
 induction fuel with
 |zero=>intro n t cs d ps _ h;cases h
 |succ fuel ih=>
  intro n t cs d ps hok h
  cases n with
  |zero=>cases hok
  |succ n=>
   simp only[tB]at hok
   split at hok
   ·rename_i hu
    obtain⟨b,rfl,hx⟩:=DataW.trod_bool hu h;simp only[pJ]at hx
    obtain⟨rfl,rfl⟩:=hx
    exact⟨.bool b,by simp[VC],by simp[Ty,hu],by simp[D.bulk,jk,Go.Proofs.YtlcnolfmpbdgpaaGreatDoor.Rows.uptoBulk]⟩
   ·rename_i k hu
    obtain⟨m,rfl,hx,hw⟩:=DataW.trod_int hu h;simp only[pJ]at hx
    obtain⟨rfl,rfl⟩:=hx;simp only[Lit.wf,xA,yD]at hw
    exact⟨.int k m,by simp[VC],by simp only[Ty,hu];exact⟨m,rfl,hw⟩,by simp[D.bulk,jk,Go.Proofs.YtlcnolfmpbdgpaaGreatDoor.Rows.uptoBulk]⟩
   ·rename_i hu
    obtain⟨s,rfl,hx,hw⟩:=DataW.trod_string hu h;simp only[pJ]at hx
    obtain⟨rfl,rfl⟩:=hx
    exact⟨.str s.data.toList,by simp only[VC];exact⟨s,rfl,rfl⟩,by simp only[Ty,hu];exact⟨_,rfl⟩,by simp[D.bulk,jk,Go.Proofs.YtlcnolfmpbdgpaaGreatDoor.Rows.uptoBulk]⟩
   ·rename_i e hu
    simp only[xA,yD]at hok
    rcases DataW.trod_slice hu h with⟨rfl,hx⟩ |⟨a,len,cap,elems,rest,fuel',hf,rfl,hx,hb,hlc,hcm,hel,helem,_,_⟩
    ·simp only[pJ]at hx
     obtain⟨rfl,rfl⟩:=hx
     exact⟨.sl false [],by simp only[VC];exact⟨none,0,0,rfl,rfl,Nat.le_refl _,fun h=>absurd rfl h⟩,by simp only[Ty,hu];exact⟨[],rfl,by simp⟩,by simp[D.bulk,D.bulks,jk,Go.Proofs.YtlcnolfmpbdgpaaGreatDoor.Rows.uptoBulk]⟩
    ·simp only[Nat.add_right_cancel_iff]at hf
     subst hf;simp only[pJ]at hx
     obtain⟨rfl,rfl⟩:=hx
     have hsl:dO (elems.map (·.1))+1≤jk (DataW.slice (elems.map (·.1)) (rest.map (·.1))):=by
      simp only[jk,dO,Go.Proofs.YtlcnolfmpbdgpaaGreatDoor.Rows.uptoBulk];omega
     by_cases hl0:elems.length=0
     ·have:elems=[]:=yL hl0
      subst this
      refine⟨.sl false [],by simp only[VC];exact⟨some a,len,cap,rfl,by simp at hel;simp[←hel],hlc,fun h=>absurd rfl h⟩,by simp only[Ty,hu];exact⟨[],rfl,by simp⟩,?_⟩
      simp only[D.bulk,D.bulks];omega
     ·have h0:=helem 0 (by omega)
      have hl':0<elems.length:=by omega
      rw[xG hl',xB]at h0
      obtain⟨cs0,hc0,_⟩:=h0;obtain⟨_,hcl,hcell⟩:=World.cells?_some hc0;have h00:=hcell 0 hok.2;rw[xG (by omega)]at h00
      have hadd:(a.add (0 * P.cellsOf e)).add 0=a:=by simp[Addr.add]
      rw[hadd]at h00
      have hspot:a.spot=none∧a.block<W.heap.size:=by
       unfold World.cell? at h00
       split at h00
       ·rename_i hb
        split at h00
        ·cases h00
        ·rename_i hs
         exact⟨by simpa using hs,(Array.getElem?_eq_some_iff.1 hb).1⟩
       ·cases h00
      obtain⟨ys,q1,q2,q3,q4⟩:=yx (n:=n) (e:=e) hspot.1 (fun cs d ps ht=>ih n e cs d ps hok.1 ht) elems 0 (fun j hj=>by rw[Nat.zero_add];exact helem j (by omega))
      refine⟨.sl false ys,?_,by simp only[Ty,hu];exact⟨ys,rfl,q2⟩,by simp only[D.bulk];omega⟩
      simp only[VC]
      exact⟨some a,len,cap,rfl,by omega,hlc,fun _=>⟨a,P.cellsOf e,rfl,hspot.1,hspot.2,hok.2,by rwa [Nat.zero_mul]at q1⟩⟩
   ·rename_i fs hu
    simp only[xA,List.all_eq_true,beq_iff_eq]at hok
    obtain⟨xs,fuel',hf,hx,hl,hxl,hfs⟩:=DataW.trod_struct hu h;simp only[Nat.add_right_cancel_iff]at hf
    subst hf;simp only[pJ]at hx
    obtain⟨rfl,rfl⟩:=hx
    have hall:∀(l:List Field) (xs:List (DataW H×List MemPlace)),xs.length=l.length→(∀(i:Nat) (f:Field),l[i]? =some f→DataW.trod enc P W 0 spare true fuel f.type ((cs.drop f.offset).take (P.cellsOf f.type))=xs[i]?)→
      All2 (fun(f:Field) x=>DataW.trod enc P W 0 spare true fuel f.type ((cs.drop f.offset).take (P.cellsOf f.type))=some x) l xs:=by
     intro l
     induction l with
     |nil=>intro xs hl _;exact yL hl
     |cons f l ihl=>
      intro xs hl hh
      cases xs with
      |nil=>cases hl
      |cons x xs=>exact⟨x,xs,rfl,by simpa using hh 0 f rfl,ihl xs (by simpa using hl) (fun i g hg=>by simpa using hh (i+1) g (by simpa using hg))⟩
    obtain⟨ys,q1,q2,q3,_⟩:=uC (n:=n) (fun t cs d ps hk ht=>ih n t cs d ps hk ht) fs.toList xs 0 (P.cellsOf t) hok.2 hok.1 (hall _ _ (by simpa using hxl) (fun i f hf=>hfs i f (by rw[←yM];exact hf))) (by omega)
    refine⟨.agg (ys.flatMap D.cells),?_,by simp only[Ty,hu];exact⟨ys,rfl,q1⟩,?_⟩
    ·simp only[VC]
     rw[List.drop_zero,Nat.sub_zero,List.take_of_length_le (by omega)]at q2
     exact q2
    ·simp only[D.bulk]
     refine Nat.le_trans q3 ?_;simp only[jk,dO,Go.Proofs.YtlcnolfmpbdgpaaGreatDoor.Rows.uptoBulk];omega
   ·rename_i m e hu
    simp only[xA,yD]at hok
    have hh:∃xs,(List.range m).mapM (fun i=>DataW.trod enc P W 0 spare true fuel e ((cs.drop (i * P.cellsOf e)).take (P.cellsOf e)))=some xs∧d=.agg (xs.map (·.1))∧cs.length=P.cellsOf t:=by
     unfold DataW.trod at h;rw[hu]at h
     split at h <;>simp_all
     obtain⟨hl,xs,hp,hd⟩:=h
     exact⟨xs,hp,hd.1.symm⟩
    obtain⟨xs,h1,rfl,hl⟩:=hh;have h2:=Ay h1;rw[List.range_eq_range']at h2
    obtain⟨ys,q1,q2,q3,q4⟩:=yy (n:=n) (fun cs d ps ht=>ih n e cs d ps hok.1 ht) m 0 xs h2
    refine⟨.agg (ys.flatMap D.cells),?_,by simp only[Ty,hu];exact⟨ys,rfl,q1,q2⟩,?_⟩
    ·simp only[VC]
     rw[Nat.zero_mul,List.drop_zero,List.take_of_length_le (by omega)]at q3
     exact q3
    ·simp only[D.bulk]
     refine Nat.le_trans q4 ?_;simp only[jk,dO,Go.Proofs.YtlcnolfmpbdgpaaGreatDoor.Rows.uptoBulk];omega
   ·cases hok
theorem DO{base n:Nat}{t:TypeId}{v:Value}{x:D}(hok:tB P n t=true)(ho:Value.okWide P W .any base t v)(hx:VC (c0 W) x v.cells.toList)(ht:Ty P n t x):oq x v:=by
 cases n with
 |zero=>cases hok
 |succ n=>
  have one:(∀cs,v≠ .agg cs)→(∀l,x≠ .agg l)→oq x v:=fun hv hxa=>by
   obtain⟨u,hu,hf⟩:=VV.of_cells hx hxa
   have:v.cells= #[v]:=by cases v <;>first |rfl |exact absurd rfl (hv _)
   rw[this]at hu
   simp only[xC,and_true]at hu
   rw[hu];exact hf.2
  simp only[tB]at hok
  unfold Value.okWide at ho;simp only[Ty]at ht
  split at hok
  all_goals (rename_i hu;try rw[hu]at ho ht)
  ·obtain⟨b,rfl⟩:=ht
   exact one (fun cs e=>by subst e;simp[Cell.okWide,Cell.ok,hu]at ho) (by simp)
  ·obtain⟨m,rfl,_⟩:=ht
   exact one (fun cs e=>by subst e;simp[Cell.okWide,Cell.ok,hu]at ho) (by simp)
  ·obtain⟨s,rfl⟩:=ht
   exact one (fun cs e=>by subst e;simp[Cell.okWide,Cell.ok,hu]at ho) (by simp)
  ·obtain⟨l,rfl,_⟩:=ht
   exact one (fun cs e=>by subst e;simp[Cell.okWide,Cell.ok,hu]at ho) (by simp)
  ·obtain⟨ys,rfl,_⟩:=ht
   obtain⟨cs,rfl,_⟩:=ho
   exact⟨cs,rfl⟩
  ·obtain⟨ys,rfl,_⟩:=ht
   obtain⟨cs,rfl,_⟩:=ho
   exact⟨cs,rfl⟩
  ·cases hok
theorem yz{n:Nat}:∀(ts:List TypeId) (vs:List Value) (ds:List (DataW H)) (ps:List MemPlace),(∀t∈ts,tB P n t=true)→(∀(j:Nat) t v,ts[j]? =some t→vs[j]? =some v→∃base,Value.okWide P W .any base t v)→DataW.TrodAll enc P W 0 spare true ts vs ds ps→
  ∃xs,VVs (c0 W) xs vs∧All2 (fun t x=>Ty P n t x) ts xs∧D.bulks xs≤dO ds
 | [],vs,ds,ps,_,_,h=>by
  obtain⟨rfl,rfl,rfl⟩:=trodAll_nil h
  exact⟨[],rfl,rfl,by simp[D.bulks]⟩
 |t::ts,vs,ds,ps,hok,ho,h=>by
  obtain⟨v,vs',d,ds',p,q,rfl,rfl,rfl,⟨fuel,h1⟩,h2⟩:=trodAll_cons h;obtain⟨xs,g1,g2,g3⟩:=yz ts vs' ds' q (fun t ht=>hok t (by simp[ht])) (fun j t v hj hv=>ho (j+1) t v (by simpa using hj) (by simpa using hv)) h2
  obtain⟨x,k1,k2,k3⟩:=P9 fuel n t _ d p (hok t (by simp)) h1
  obtain⟨base,hb⟩:=ho 0 t v rfl rfl
  refine⟨x::xs,⟨v,vs',rfl,k1,DO (hok t (by simp)) hb k1 k2,g1⟩,⟨x,xs,rfl,k2,g2⟩,?_⟩
  simp only[D.bulks,g9];omega
end
def A0(W:World):Av:={w0:=W,F:=fun _ _=>False,O0:=fun _=>False,n0:=0,ρ0:=id,mono:=fun _ h=>h}
def hd0:Root→Value
 | .o n=>.slice (some ⟨n,0,none⟩) 1 1
 | .l _ _=>undef
theorem LW(W:World):KR (A0 W) id (fun _=>[]) hd0 [] {ct:=[],H:=[]} [] W:=by
 have hget:∀r t,({ct:=[],H:=[]}:Wk).get r≠some t:=fun r t h=>by cases r <;>simp[Wk.get,Go.Am.cont,aZ]at h
 refine⟨fun r t h=>absurd h (hget r t),fun _ _ _=>rfl,fun n=>rfl,fun n es h=>by simp at h,⟨by simp,by simp,by simp,by simp⟩,fun b hb=> ?_,by simp,⟨rfl,rfl,rfl,Nat.le_refl _,fun _ _ _=>rfl,.refl _⟩,fun t b h=>h.elim,⟨Nat.le_refl _,fun _ _=>rfl⟩⟩
 rcases hb with⟨r,hr⟩ |hb <;>simp at *
theorem Il(W:World):Ext (c0 W) (aa (A0 W) 0 id (fun _=>[]) [] W):=
 ⟨fun t b hp=>⟨⟨fun ho=>by rcases ho with⟨r,hr⟩ |hb <;>simp at *,fun h=>h,hp⟩,rfl⟩,Nat.le_refl _,fun _ _=>rfl⟩
theorem Fj{P:Program}(hm:P.follows .mixedOrders=true){hints:FuncId→Hint}{G:Nat→Option D}(hgl:∀f g d,(hints f).gl g=some d→G g=some d)(hext:∀f F,(hints f).ext=some F→ri P G f F){n:Nat}{f:FuncId}{xs:List D}{H2:List Ob}(hf:¬YB≤f)(e:aR P hints n f xs []=some ([.d (.bool true)],H2)){W:World}(hG:GA G (A0 W)){args:Array Value}(ha:VVs (c0 W) xs args.toList):
  Calls P f args W fun e W'=>e=.returned (.bool true)∧RowKit.Below W.heap.size W W':=by
 have h:=(CZ hm hints hgl hext n).2.1 f xs [] _ _ e (A0 W) (fun _=>[]) hd0 args rfl hG (LW W) (VVs.ext (Il W) _ _ ha)
 unfold CallsY at h;rw[if_neg hf]at h
 refine Calls.mono h fun en w' he=> ?_
 obtain⟨v,hen,ρ',S',hd',M,vs,g1,g2,rfl⟩:=he;unfold Ends at hen;rw[if_neg (by simp[aQ])]at hen
 obtain⟨u,r,M1,M2,rfl,rfl,h3,h4,h5⟩:=g2;simp only[RetAll]at h5
 obtain⟨rfl,rfl⟩:=h5;simp only[TC,VC]at h3
 simp only[j3,oq]at h4
 rw[fz h4]at h3
 have hu:u=.bool true:=by simpa using h3.2
 subst hu
 exact⟨hen,g1.fr.os,g1.fr.tape,g1.fr.output,g1.fr.size,fun b hb=>g1.fr.kept b hb (fun h=>h)⟩
section
variable{H:Type}{enc:TypeId×Value→H}{P:Program}
theorem pG{W W':World}(hl:laidOutB P=true)(hb:RowKit.Below W.heap.size W W')(sp:Nat→Bool):∀(ts:List TypeId) (vs:List Value) (ds:List (DataW H)) (ps:List MemPlace),(∀t∈ts,P.readableRec t=true∧t<P.types.size)→(∀x∈ps,x.block<W.heap.size)→(∀x∈ps,sp x.block=true)→
  DataW.TrodAll enc P W 0 (fun _=>true) true ts vs ds ps→DataW.TrodAll enc P W' 0 sp true ts vs ds ps
 | [],vs,ds,ps,_,_,_,h=>by
  obtain⟨rfl,rfl,rfl⟩:=trodAll_nil h;exact rfl
 |t::ts,vs,ds,ps,hr,hlt,hsp,h=>by
  obtain⟨v,vs',d,ds',p,q,rfl,rfl,rfl,h1,h2⟩:=trodAll_cons h;obtain⟨r1,r2⟩:=hr t (by simp)
  exact⟨p,q,WideElems.Trod_stays hl r1 r2 h1 (fun x hx=>hb.same (hlt x (by simp[hx]))) (fun x hx=>hsp x (by simp[hx])),
   pG hl hb sp ts vs' ds' q (fun t ht=>hr t (by simp[ht])) (fun x hx=>hlt x (by simp[hx])) (fun x hx=>hsp x (by simp[hx])) h2,rfl⟩
theorem LY{fn:Func}{s:ChangeSpec}{apart fresh handsOn again:Bool}{W W':World}{args:Array Value}{ds gs:List (DataW H)}{before:List MemPlace}{tb:TypeId}
  (hW:DataW.Whole enc P fn.params.toList s.vars apart W args.toList ds gs before) (hv:s.vars=[]) (hs:s.fn H ds={results:=[.lit (.bool true)],args:=ds}) (hb:RowKit.Below W.heap.size W W') (hl:laidOutB P=true)
  (hr:∀t∈fn.params.toList,P.readableRec t=true∧t<P.types.size) (ht:fn.resultTypes= #[tb]) (hu:P.underlying tb=some .bool):s.post enc P fn apart fresh handsOn again W args (.bool true) W':=by
 have hlt:∀p∈before,p.block<W.heap.size:=fun p hp=>hW.lt p hp
 have hW0:=hW;obtain⟨pa,pv,hA,hV,rfl,hz,hn⟩:=hW
 have hpv:gs=[]∧pv=[]:=by
  rw[hv]at hV
  cases gs with
  |nil=>exact⟨rfl,hV⟩
  |cons g gs=>exact hV.elim
 obtain⟨rfl,rfl⟩:=hpv
 have hargs:∀sp:Nat→Bool,(∀p∈pa++[],sp p.block=true)→DataW.TrodAll enc P W' 0 sp true fn.params.toList args.toList (s.fn H (ds++[])).args pa:=fun sp hsp=>by
  rw[List.append_nil,hs];exact pG hl hb sp _ _ _ _ hr (fun x hx=>hlt x (by simpa using hx)) (fun x hx=>hsp x (by simpa using hx)) hA
 have hres:∀(b:Nat) (sp:Nat→Bool) (hd:Bool),DataW.TrodAll enc P W' b sp hd fn.resultTypes.toList ((Value.bool true).resultList fn.resultTypes.size) (s.fn H (ds++[])).results []:=fun b sp hd=>by
  rw[List.append_nil,hs,ht];exact trodAll_cons_mk (shut_bool hu _) trodAll_mk0
 have hvars:∀sp:Nat→Bool,DataW.TrodVars enc P W' sp s.vars (s.fn H (ds++[])).vars []:=fun sp=>by
  rw[List.append_nil,hs,hv];exact rfl
 refine⟨ds,[],pa++[],[],pa,[],hW0,hres _ _ _,hargs _ (fun p hp=>by simpa using hlt p hp),hvars _,hb.frame _,fun _=>⟨ok_one ht rfl (okWide_bool_mk hu _),_,_,([]++pa)++[],⟨[]++pa,[],trodAll_append (hargs _ (fun _ _=>rfl)) (hres _ _ _),hvars _,rfl,fun b off hp=> ?_,fun ha=>by simpa using hn ha⟩,fun p hp _=>by simpa using hp⟩⟩
 have hp':MemPlace.cell b off∈pa++[]:=by simpa using hp
 have:=hlt _ hp'
 rw[hb.frozen (p:=⟨b,off,none⟩) this];exact hz b off hp'
end
end Go.Am
