/- A part of the proof. -/
import Derived.Test.YtlcnolfmpbdgpaaGreatDoorTl1
import Derived.Laws.BytesArg
import Derived.Lib.ConvBytes
import Derived.Laws.AppendOwn
set_option linter.unusedSimpArgs false
set_option linter.unusedVariables false
namespace Go.Am
open Go Go.RowKit
section
variable{P:Program}{A:Av}{ρ:Nat→Nat}{S:Root→List Nat}{hd:Root→Value}{fl:List Nat}{k k':Wk}{vals:List (SV×Value)}{w:World}
theorem KR.alloc{M:List Nat}(h:KR A ρ S hd (M++fl) k vals w)(o:Obj):KR A ρ S hd ((w.heap.size::M)++fl) k vals (w.alloc o)∧Ext (aa A k.H.length ρ S (M++fl) w) (aa A k.H.length ρ S ((w.heap.size::M)++fl) (w.alloc o)):=by
 have hn:=h.dis.ndF;rw[xT]at hn
 refine KR.world (w:=w) (w':=w.alloc o) rfl rfl rfl (by simp) (.old fun b hb=>Below.heap_alloc w o b hb) h (fun b hb _=>Below.heap_alloc w o b hb) (fun b hb=> ?_) ?_
 ·rcases List.mem_cons.1 hb with rfl |hb
  ·exact .inr ⟨Nat.le_refl _,by simp⟩
  ·exact .inl hb
 ·exact List.nodup_cons.2 ⟨fun hc=>absurd (h.blk w.heap.size (.inr (xL _ hc))).1 (Nat.lt_irrefl _),hn.1⟩
theorem KR.drew(h:KR A ρ S hd fl k vals w):KR A ρ S hd fl k vals w.drew∧Ext (aa A k.H.length ρ S fl w) (aa A k.H.length ρ S fl w.drew):=by
 have:=KR.world (w:=w) (w':=w.drew) (M:=[]) (M':=[]) rfl rfl rfl (Nat.le_refl _) (.old fun _ _=>rfl) (by simpa using h) (fun _ _ _=>rfl) (by simp) (by simp)
 simpa using this
theorem pR{ob:Ob}(r:Root):({k with H:=k.H++[ob]}:Wk).get r=if r=.o k.H.length then(match ob with | .box x=>some (.own [x]) |_=>none)else k.get r:=by
 cases r with
 |l n j=>simp[Wk.get,Go.Am.cont]
 |o n=>
  simp only[Wk.get,Go.Am.cont,Root.o.injEq]
  rcases Nat.lt_trichotomy n k.H.length with h |h |h
  ·rw[xO h,if_neg (by omega)]
  ·subst h;rw[if_pos rfl,xN (Nat.le_refl _)];simp only[Nat.sub_self,yE];cases ob <;>rfl
  ·rw[if_neg (by omega),List.getElem?_eq_none (by simp;omega),List.getElem?_eq_none (by omega)]
theorem KR.newOb{N:List Nat}(h:KR A ρ S hd (N++fl) k vals w)(ob:Ob)(g:Nat)(hb:∀x,ob=.box x→TC (aa A k.H.length ρ S (N++fl) w) (.own [x]) [.slice (some ⟨g,0,none⟩) 1 1] N)
  (hm:ob.plain=true→∃M,N=g::M∧ObOK (aa A k.H.length ρ S (N++fl) w) g M ob) (hl:ob≠ .lock):
  KR A (fun o=>if o=k.H.length then g else ρ o) (upd S (.o k.H.length) N) (upd hd (.o k.H.length) (.slice (some ⟨g,0,none⟩) 1 1)) fl {k with H:=k.H++[ob]} vals w∧
   Ext (aa A k.H.length ρ S (N++fl) w) (aa A (k.H.length+1) (fun o=>if o=k.H.length then g else ρ o) (upd S (.o k.H.length) N) fl w):=by
 have hnone:k.get (.o k.H.length)=none:=by simp[Wk.get,Go.Am.cont]
 have hS0:S (.o k.H.length)=[]:=h.gone _ hnone (fun n es e he=>by
  simp only[Root.o.injEq]at e;subst e;simp at he)
 have d2:=Dis.attach (r:=.o k.H.length) (L:=[]) (R:=[]) (M:=N) (fl:=fl) h.dis (by simpa using hS0)
 simp only[List.nil_append,List.append_nil]at d2
 have own1:∀b,Own (upd S (.o k.H.length) N) fl b→Own S (N++fl) b:=fun b hb=>by
  have:=(Own.attach (S:=S) (r:=.o k.H.length) (L:=[]) (R:=[]) (M:=N) (fl:=fl) (b:=b) (by simpa using hS0)).1 (by simpa using hb)
  exact this
 have ws:WS S (N++fl) w (upd S (.o k.H.length) N) fl w:=WS.stay own1;have ext:Ext (aa A k.H.length ρ S (N++fl) w) (aa A (k.H.length+1) (fun o=>if o=k.H.length then g else ρ o) (upd S (.o k.H.length) N) fl w):=ws.ext (by omega) (fun o ho=>by rw[if_neg (by omega)])
 have hlen:({k with H:=k.H++[ob]}:Wk).H.length=k.H.length+1:=by simp
 refine⟨⟨fun r t0 h0=> ?_,fun r h0 hm'=> ?_,fun m=> ?_,fun m ob' he hpl=> ?_,d2,ws.blk h,fun p hp=> ?_,h.fr,h.Fold,?_⟩,ext⟩
 ·rw[hlen]
  rw[pR]at h0
  split at h0
  ·rename_i e;subst e
   rw[aG,aG]
   split at h0
   ·rename_i x
    simp only[xJ]at h0
    subst h0;exact TC.ext ext _ _ _ (fun _ _=>rfl) (hb x rfl)
   ·cases h0
  ·rename_i e
   rw[ai _ _ e,ai _ _ e];exact TC.ext ext _ _ _ (fun _ _=>rfl) (h.cont r t0 h0)
 ·rw[pR]at h0
  split at h0
  ·rename_i e;subst e
   exfalso
   cases ob with
   |box x=>cases h0
   |lock=>exact hl rfl
   |map es=>exact absurd (hm' _ (.map es) rfl (by simp)) (by simp[Ob.plain])
   |iter s p=>exact absurd (hm' _ (.iter s p) rfl (by simp)) (by simp[Ob.plain])
   |miter m=>exact absurd (hm' _ (.miter m) rfl (by simp)) (by simp[Ob.plain])
   |frame g' ps x y env ct=>exact absurd (hm' _ (.frame g' ps x y env ct) rfl (by simp)) (by simp[Ob.plain])
   |row es=>exact absurd (hm' _ (.row es) rfl (by simp)) (by simp[Ob.plain])
   |sset ks=>exact absurd (hm' _ (.sset ks) rfl (by simp)) (by simp[Ob.plain])
  ·rename_i e
   rw[ai _ _ e];refine h.gone r h0 (fun n ob en he=>hm' n ob en ?_)
   rw[xO (List.getElem?_eq_some_iff.1 he).1];exact he
 ·by_cases hmn:m=k.H.length
  ·subst hmn;rw[aG,if_pos rfl]
  ·rw[ai _ _ (by simpa using hmn),if_neg hmn];exact h.obj m
 ·rw[hlen]
  by_cases hmn:m=k.H.length
  ·subst hmn
   simp only[xN (Nat.le_refl _),Nat.sub_self,yE,xJ]at he
   subst he;obtain⟨M,m1,m2⟩:=hm hpl;have hr:(fun o=>if o=k.H.length then g else ρ o) k.H.length=g:=if_pos rfl
   refine⟨M,by rw[aG,hr];exact m1,?_⟩
   rw[hr];exact m2.ext ext rfl (fun _ _=>rfl)
  ·have hlt:m<k.H.length:=by
    have:=(List.getElem?_eq_some_iff.1 he).1
    simp at this;omega
   simp only at he;rw[xO hlt]at he
   exact(h.map m ob' he hpl).ext ext (fun _ _=>rfl) (ai _ _ (by simpa using hmn)) (if_neg hmn)
 ·rw[hlen]
  refine SO.keep ext (fun r q=> ?_) (h.vals p hp)
  by_cases hr:r=.o k.H.length
  ·subst hr
   intro t es h1 _;rw[hnone]at h1;cases h1
  ·exact h.hold _ (by rw[pR,if_neg hr]) (ai _ _ hr) (fun _ _=>rfl) q
 ·have:=h.rho
  rw[hlen]
  exact⟨by omega,fun o ho=>by rw[if_neg (by omega)];exact this.2 o ho⟩
theorem MF{c:Cx}{t:T}{cs:List Value}{M:List Nat}{g:Nat}{ty:TypeId}(ht:TC c t cs M)(hg:c.w.heap[g]? =some (.cells cs.toArray ty (0,0)))(h0:0<t.nc):TC c (.own [t]) [.slice (some ⟨g,0,none⟩) 1 1] (g::M):=by
 have hl:=TC.len _ _ _ ht;simp only[TC];refine .inr ⟨g,1,cs.toArray,ty,t.nc,M,rfl,rfl,hg,Nat.le_refl _,by decide,by simp[hl],by simpa using h0,?_⟩
 simp only[TE]
 refine⟨cs,[],M,[],?_,by simp,hl,ht,rfl,rfl⟩
 simp only[xZ,yN,List.append_nil];rw[List.take_of_length_le (by simp[hl])]
theorem Fw{h:Hint}{dst:Nat}{x:T}{M:List Nat}{cs:Array Value}{ty:TypeId}{sv:SV}(hk:KR A ρ S hd (M++fl) k vals w)(ht:TC (aa A k.H.length ρ S (M++fl) w) x cs.toList M)(e:wb h dst x k=some (sv,k')):
  ∃ρ' S' hd',KR A ρ' S' hd' fl k' vals (w.alloc (.cells cs ty))∧SO (aa A k'.H.length ρ' S' fl (w.alloc (.cells cs ty))) k'.get hd' sv (.pointer (some ⟨w.heap.size,0,none⟩)):=by
 unfold wb at e
 split at e
 ·cases e
 ·rename_i hnc
  obtain⟨g1,g2⟩:=hk.alloc (.cells cs ty);have hx:=TC.ext g2 _ _ _ (fun b hb=>Below.heap_alloc w _ b (hk.blk b (.inr (by simp[hb]))).1) ht
  have hb:=MF (g:=w.heap.size) (ty:=ty) hx (by simpa [aa]using heap_alloc_new w _) (by omega)
  split at e
  ·simp only[xJ,pJ]at e
   obtain⟨rfl,rfl⟩:=e;obtain⟨n1,n2⟩:=g1.newOb (.box x) w.heap.size (fun y hy=>by simp only[Ob.box.injEq]at hy;subst hy;exact hb) (fun he=>by cases he) (by simp)
   refine⟨_,_,_,n1,?_⟩
   refine VV.one ?_ (by simp)
   simp only[VC]
   exact⟨by simp[aa],by simp[aa]⟩
  ·simp only[xJ,pJ]at e
   obtain⟨rfl,rfl⟩:=e;obtain⟨n1,n2⟩:=g1.newRoot (n:=dst) (j:=0) hb
   refine⟨ρ,_,_,n1,?_⟩
   exact⟨.own [x],[x],w.heap.size,1,1,x,by simp[Wk.get,Wk.new,Go.Am.cont,aZ],rfl,by simp[NodeH],rfl,by omega,by simp⟩
theorem zu{c:Cx}{v:Value}{x:D}(h:D.ofCell v=some x):VC c x [v]∧∀l,x≠ .agg l:=by
 unfold D.ofCell at h
 split at h <;>first |(simp only[xJ]at h;subst h;simp[VC]) |simp at h
theorem wv{c:Cx}:∀(vs:List Value) (l:List D),vs.mapM D.ofCell=some l→VCs c l vs
 | [],l,h=>by simp at h;subst h;simp[VCs]
 |v::vs,l,h=>by
  simp only[List.mapM_cons,Option.pure_def,Option.bind_eq_bind,xB,xJ]at h
  obtain⟨x,h1,r,h2,rfl⟩:=h;simp only[VCs]
  exact⟨v,vs,rfl,(zu h1).1,wv vs r h2⟩
theorem gj{c:Cx}{v:Value}{x:D}(h:D.ofVal v=some x):VV c x v:=by
 unfold D.ofVal at h
 split at h
 ·rename_i cs
  simp only[xM]at h
  obtain⟨l,h1,rfl⟩:=h;exact VV.agg (wv _ _ h1)
 ·obtain⟨h1,h2⟩:=zu (c:=c) h
  exact VV.one h1 h2
theorem fD{t:TypeId}{z:D}(h:aO P t=some z):∃i zv,P.info? t=some i∧i.zero=some zv∧D.ofVal zv=some z∧∀w:World,(zeroValue t).run P w=.ok zv w:=by
 simp only[aO,xB]at h
 obtain⟨zv,⟨i,h1,h2⟩,h3⟩:=h
 exact⟨i,zv,h1,h2,h3,fun w=>by simp[zeroValue,typeInfo,h1,h2]⟩
theorem Cd{c:Cx}:∀(l:List D) (cs:List Value),VCs c l cs→TCs c (l.map T.ofD1) cs []
 | [],cs,h=>by simp only[VCs]at h;simp[h,TCs]
 |d::ds,cs,h=>by
  simp only[VCs]at h
  obtain⟨v,r,rfl,h2,h3⟩:=h;simp only[List.map_cons,TCs]
  refine⟨v,r,[],[],rfl,rfl,?_,Cd ds r h3⟩
  cases d <;>first |(simp only[T.ofD1,TC];exact⟨trivial,h2⟩) |skip
  simp only[VC]at h2
  exact .inl ⟨none,h2,rfl,rfl⟩
theorem su{c:Cx}{z:D}{cs:List Value}(h:VC c z cs):TC c (T.ofZero z) cs []:=by
 unfold T.ofZero;split
 ·rename_i l
  simp only[VC]at h
  split
  ·exact Cd l cs h
  ·simp only[TC,VC];exact⟨trivial,h⟩
 ·cases z <;>first |(simp only[T.ofD1,TC];exact⟨trivial,h⟩) |skip
  simp only[VC]at h
  exact .inl ⟨none,h,rfl,rfl⟩
theorem Gs:maxLen=9223372036854775807:=rfl
theorem sw{n:Nat}(h:n≤9223372036854775807):n≤maxLen:=by rw[Gs];exact h
theorem ww{c:Cx}{t:T}{zc:List Value}{sz:Nat}(ht:TC c t zc [])(hz:zc.length=sz):∀(n:Nat) (cs:List Value),cs.length=n * sz→(∀j,j<n * sz→cs[j]? =zc[j % sz]?)→TE c (List.replicate n t) sz cs []
 |0,cs,hl,_=>by
  simp only[Nat.zero_mul]at hl
  simp[TE,yL hl]
 |n+1,cs,hl,hc=>by
  simp only[List.replicate_succ,TE];have e:(n+1) * sz=sz+n * sz:=by rw[Nat.add_mul];omega
  rw[e]at hl hc
  refine⟨cs.take sz,cs.drop sz,[],[],(yP _ _).symm,rfl,by simp;omega,?_,ww ht hz n _ (by simp;omega) (fun j hj=> ?_)⟩
  ·have:cs.take sz=zc:=by
    apply List.ext_getElem?;intro j;rw[xU];split
    ·rename_i hj
     rw[hc j (by omega),Nat.mod_eq_of_lt hj]
    ·rw[List.getElem?_eq_none (by omega)]
   rw[this];exact ht
  ·rw[List.getElem?_drop,hc _ (by omega)]
   simp
theorem oB(z:Array Value)(n j:Nat)(hj:j<n)(hz:0<z.size):(madeCells z n).toList[j]? =z.toList[j % z.size]? :=by
 have h2:j % z.size<z.size:=Nat.mod_lt _ hz;simp only[madeCells,yM,Array.getElem?_map];rw[Array.getElem?_eq_getElem (by simpa using hj),Array.getElem?_eq_getElem h2]
 simp[getElem!_pos z (j % z.size) h2]
theorem IH{c:Cx}{t:T}{z:Array Value}{g:Nat}{ty:TypeId}{n m:Nat}(ht:TC c t z.toList [])(hz:0<z.size)(hn0:0<n)(hnm:n≤m)(hm:m≤maxLen)(hg:c.w.heap[g]? =some (.cells (madeCells z (m * z.size)) ty (0,0))):
  TC c (.own (List.replicate n t)) [.slice (some ⟨g,0,none⟩) n m] [g]:=by
 simp only[TC];refine .inr ⟨g,m,_,ty,z.size,[],by simp,rfl,hg,by simpa using hnm,hm,by simp[size_madeCells],by simpa using Nat.mul_pos hn0 hz,?_⟩
 have hle:n * z.size≤m * z.size:=Nat.mul_le_mul_right _ hnm;refine ww ht (by simp) _ _ (by rw[yR,List.length_replicate,yF,size_madeCells];omega) (fun j hj=> ?_)
 simp only[List.length_replicate];rw[xU,if_pos hj];exact oB z _ j (by omega) hz
theorem qS{dst:Nat}{es:List T}{hv:Value}{c:Cx}{hd':Root→Value}{k0:Wk}{M:List Nat}(ht:TC c (.own es) [hv] M)(hh:hd' (.l dst 0)=hv):SO c (k0.new dst 0 (.own es)).get hd' (.bor (.l dst 0) [] 0 es.length) hv:=by
 refine⟨.own es,es,hv,by simp[Wk.get,Wk.new,Go.Am.cont,aZ],rfl,by simp[NodeH,hh],by omega,?_⟩
 rcases ht with⟨a,k1,k2,_⟩ |⟨g',cap',cur',e',sz',S',k1,k2,k3,k4,k5,k6,k7,k8⟩
 ·simp only[xC,and_true]at k1
  subst k2
  exact⟨a,0,0,a,0,k1,by simpa using k1,Nat.le_refl _,fun _=>⟨rfl,Nat.le_refl _⟩,fun h0=>by simp at h0⟩
 ·simp only[xC,and_true]at k1
  refine⟨_,es.length,cap',_,cap',k1,k1,k4,fun _=>⟨rfl,Nat.le_refl _⟩,fun h0=> ?_⟩
  exact⟨g',es[0],rfl,by simp,by simp⟩
theorem II{dst:Nat}{t:TypeId}{l c:SV}{lv cv:Value}{sv:SV}(h:KR A ρ S hd fl k vals w)(hl:SO (aa A k.H.length ρ S fl w) k.get hd l lv)(hc:SO (aa A k.H.length ρ S fl w) k.get hd c cv)
  (e:v7 P dst t l c k=some (sv,k')):∃v w' ρ' S' hd',(Instr.makeSlice t lv cv).run P w=.ok v w'∧KR A ρ' S' hd' fl k' vals w'∧SO (aa A k'.H.length ρ' S' fl w') k'.get hd' sv v:=by
 unfold v7 at e
 split at e
 ·rename_i kl n kc m
  simp only[xB]at e
  obtain⟨ty,h1,z,h2,e⟩:=e
  split at e
  ·rename_i hh
   obtain⟨a1,a2,a0,a3,a4,a5,a6⟩:=hh;simp only[xJ,pJ]at e
   obtain⟨rfl,rfl⟩:=e;obtain⟨i,zv,b1,b2,b3,_⟩:=fD h2
   have hu:P.underlying t=some (.slice ty):=by
    unfold elemOf at h1
    split at h1
    ·simp only[xJ]at h1;subst h1;assumption
    ·cases h1
   have hlv:lv=.int kl n:=by simpa [VC]using VV.inv hl (by simp)
   have hcv:cv=.int kc m:=by simpa [VC]using VV.inv hc (by simp)
   subst hlv;subst hcv;have hcells:P.cellsOf ty=i.size:=by simp[Program.cellsOf,b1]
   have hbytes:P.bytesOf ty=i.bytes:=by simp[Program.bytesOf,b1]
   rw[hbytes]at a3
   have hrun:=run_make (P:=P) w t ty i zv hu b1 b2 kl kc n m a1 a2 a3 a4;have hzv:=gj (c:=aa A k.H.length ρ S ([w.heap.size]++fl) (w.alloc (.cells (madeCells zv.cells (m.toNat * i.size)) ty))) b3;have hzs:zv.cells.size=i.size:=by rw[←yF,VC.len _ _ hzv.1,a6,hcells]
   obtain⟨g1,g2⟩:=KR.alloc (M:=[]) (by simpa using h) (.cells (madeCells zv.cells (m.toNat * i.size)) ty)
   have hpos:0<zv.cells.size:=by rw[hzs,←hcells];exact a5
   have hrow:∃N,(N=[w.heap.size]∨N=[])∧TC (aa A k.H.length ρ S ([w.heap.size]++fl) (w.alloc (.cells (madeCells zv.cells (m.toNat * i.size)) ty))) (.own (List.replicate n.toNat (T.ofZero z))) [.slice (some ⟨w.heap.size,0,none⟩) n.toNat m.toNat] N:=by
    by_cases hn:n=0
    ·have hm:=a0 hn
     subst hn;subst hm
     exact⟨[],.inr rfl,.inl ⟨some ⟨w.heap.size,0,none⟩,rfl,rfl,rfl⟩⟩
    ·exact⟨_,.inl rfl,IH (n:=n.toNat) (m:=m.toNat) (g:=w.heap.size) (ty:=ty) (su hzv.1) hpos (by omega) (by omega) (sw (by omega)) (by rw[hzs];simpa [aa]using heap_alloc_new w _)⟩
   obtain⟨N,hN,hrow⟩:=hrow;have hnd:=g1.dis.ndF;obtain⟨l1,l2⟩:=g1.letGo (fl':=N++fl) (by rcases hN with rfl |rfl;exact hnd;simp at hnd;simpa using hnd.2) (fun b hb=>by rcases hN with rfl |rfl;exact hb;simp at hb;simp[hb])
   have hrow':=TC.ext l2 _ _ _ (fun _ _=>rfl) hrow
   obtain⟨n1,n2⟩:=l1.newRoot (n:=dst) (j:=0) hrow'
   refine⟨_,_,ρ,_,_,hrun,n1,?_⟩
   have:=qS (dst:=dst) (k0:=k) (hd':=upd hd (.l dst 0) (.slice (some ⟨w.heap.size,0,none⟩) n.toNat m.toNat)) (TC.ext n2 _ _ _ (fun _ _=>rfl) hrow') (by simp)
   rw[List.length_replicate]at this
   exact this
  ·cases e
 ·cases e
end
def PT(c:Cx):List (Nat×T)→List (Nat×Value)→List Nat→Prop
 | [],vs,M=>vs=[]∧M=[]
 |(i,t)::ps,vs,M=>∃v r M1 M2,vs=(i,v)::r∧M=M1++M2∧TC c t v.cells.toList M1∧PT c ps r M2
theorem PT.ext{c c':Cx}(h:Ext c c'):∀(ps:List (Nat×T)) (vs:List (Nat×Value)) (M:List Nat),Kept c c' M→PT c ps vs M→PT c' ps vs M
 | [],_,_,_,hp=>hp
 |(i,t)::ps,vs,M,hk,hp=>by
  obtain⟨v,r,M1,M2,h1,rfl,h3,h4⟩:=hp
  exact⟨v,r,M1,M2,h1,rfl,TC.ext h _ _ _ hk.left h3,PT.ext h ps r M2 hk.right h4⟩
theorem zw(off:Nat):∀(l:List Value) (n:Nat) (cells:Array Value),off+n+l.length≤cells.size→
  ((l.zipIdx n).foldl (fun(cs:Array Value) (p:Value×Nat)=>cs.setIfInBounds (off+p.2) p.1) cells)=(cells.toList.take (off+n)++l++cells.toList.drop (off+n+l.length)).toArray
 | [],n,cells,_=>by simp
 |v::rest,n,cells,h=>by
  simp only[List.zipIdx_cons,List.foldl_cons];rw[zw off rest (n+1) _ (by simp at h ⊢;omega)]
  have e:=list_seg_step cells.toList (off+n) v rest (by simp at h ⊢;omega)
  congr 1
  simpa [Array.toList_setIfInBounds,Nat.add_assoc]using e
theorem zx{place:Nat→Option (Nat×Nat)}{cells:Array Value}{i off size:Nat}{v:Value}{rest:List (Nat×Value)}(hp:place i=some (off,size))(hs:v.cells.size=size)(hf:off+size≤cells.size):
  Instr.fill place cells ((i,v)::rest)=Instr.fill place (cells.toList.take off++v.cells.toList++cells.toList.drop (off+size)).toArray rest:=by
 simp only[Instr.fill,hp];have h1:(decide (v.cells.size≠size) || decide (off+v.cells.size >cells.size))=false:=by simp;omega
 rw[show(v.cells.size≠size || decide (off+v.cells.size >cells.size))=false from h1]
 simp only[xH,if_false];congr 1
 have:=zw off v.cells.toList 0 cells (by simp;omega)
 simp only[Nat.add_zero,yF,hs]at this
 rw[←this,←Array.foldl_toList];congr 1
 simp
theorem Fx{c:Cx}{sz:Nat}(hsz:0<sz):∀(ps:List (Nat×T)) (vs:List (Nat×Value)) (M:List Nat) (es es':List T) (cells:Array Value) (M0:List Nat),PT c ps vs M→(∀p∈ps,p.2.nc=sz)→TE c es sz cells.toList M0→(M0++M).Nodup→lO es ps=some es'→
  ∃(cells':Array Value) (M':List Nat),Instr.fill (fun i=>some (i * sz,sz)) cells vs=some cells'∧TE c es' sz cells'.toList M'∧M'.Nodup∧∀b∈M',b∈M0++M
 | [],vs,M,es,es',cells,M0,hp,_,ht,hn,hs=>by
  obtain⟨rfl,rfl⟩:=hp;simp only[lO,xJ]at hs
  subst hs
  exact⟨cells,M0,rfl,ht,by simpa using hn,by simp⟩
 |(i,t)::ps,vs,M,es,es',cells,M0,hp,hnc,ht,hn,hs=>by
  obtain⟨v,r,M1,M2,rfl,rfl,h3,h4⟩:=hp;simp only[lO]at hs
  split at hs
  ·rename_i hi
   have hl:=TE.len _ _ _ _ ht;have hv:v.cells.size=sz:=by rw[←yF,TC.len _ _ _ h3];exact hnc (i,t) (by simp)
   have hi1:i * sz+sz≤cells.size:=by
    have:(i+1) * sz≤es.length * sz:=Nat.mul_le_mul_right _ hi
    rw[Nat.add_mul,Nat.one_mul]at this
    have:=hl.1
    simp at this;omega
   rw[zx rfl hv hi1];obtain⟨c1,L,Se,R,k1,k2,k3,k4,k5,k6,k7⟩:=TE.get ht (xG hi);have hput:=TE.put (c:=c) (c':=c) ⟨fun _ _ hp=>⟨hp,rfl⟩,Nat.le_refl _,fun _ _=>rfl⟩ hi k6 k7 (fun _ _=>rfl) (by simp[hv]) h3
   subst k4
   have hn':(L++M1++R++M2).Nodup:=by
    have hsub:(L++M1++R++M2).Perm (L++R++(M1++M2)):=by
     rw[xK,xK,xK];refine List.Perm.append_left L ?_;exact List.perm_append_comm_assoc M1 R M2
    rw[hsub.nodup_iff];refine List.Nodup.sublist ?_ hn;refine List.Sublist.append (List.Sublist.append ?_ (List.Sublist.refl _)) (List.Sublist.refl _);exact List.sublist_append_left _ _
   obtain⟨cells',M',f1,f2,f3,f4⟩:=Fx hsz ps r M2 _ es' (cells.toList.take (i * sz)++v.cells.toList++cells.toList.drop (i * sz+sz)).toArray _ h4 (fun p hp=>hnc p (by simp[hp])) (by simpa using hput) hn' hs
   refine⟨cells',M',f1,f2,f3,fun b hb=> ?_⟩
   have:=f4 b hb
   simp only[xD]at this ⊢
   grind
  ·cases hs
section
variable{P:Program}{A:Av}{ρ:Nat→Nat}{S:Root→List Nat}{hd:Root→Value}{fl:List Nat}{k k':Wk}{vals:List (SV×Value)}{w:World}
theorem wy{nv:Nat}:∀(l:List (Nat×SV)) (vs:List (Nat×Value)) (ps:List (Nat×T)) (k k':Wk) (S:Root→List Nat) (fl:List Nat),KR A ρ S hd fl k vals w→All2 (fun(a:Nat×SV) (b:Nat×Value)=>a.1=b.1∧(a.2,b.2)∈vals) l vs→bU nv l k=some (ps,k')→
  ∃S' M,KR A ρ S' hd (M++fl) k' vals w∧Ext (aa A k.H.length ρ S fl w) (aa A k'.H.length ρ S' (M++fl) w)∧PT (aa A k'.H.length ρ S' (M++fl) w) ps vs M∧k'.H.length=k.H.length
 | [],vs,ps,k,k',S,fl,h,hall,e=>by
  simp only[bU,xJ,pJ]at e
  obtain⟨rfl,rfl⟩:=e;rw[show vs=[]from hall]
  exact⟨S,[],by simpa using h,by simpa using(⟨fun _ _ hp=>⟨hp,rfl⟩,Nat.le_refl _,fun _ _=>rfl⟩:Ext _ _),⟨rfl,rfl⟩,rfl⟩
 |(i,u)::l,vs,ps,k,k',S,fl,h,hall,e=>by
  simp only[bU,xB,xM]at e
  obtain⟨⟨t,k1⟩,e1,⟨ts',k2⟩,e2,e3⟩:=e;simp only[pJ]at e3
  obtain⟨rfl,rfl⟩:=e3;obtain⟨⟨i',v⟩,r,rfl,⟨hi,hv⟩,hrest⟩:=hall;simp only at hi hv;subst hi;obtain⟨S1,M1,g1,g2,g3,g4⟩:=hD h hv e1;obtain⟨S2,M2,p1,p2,p3,p4⟩:=wy l r ts' k1 k2 S1 (M1++fl) g1 hrest e2
  have hperm:(M2++(M1++fl)).Perm ((M1++M2)++fl):=by
   rw[xK];exact List.perm_append_comm_assoc M2 M1 fl
  obtain⟨p1',e1'⟩:=p1.perm hperm;rw[e1']at p2 p3
  refine⟨S2,M1++M2,p1',⟨fun b g hp=> ?_,Nat.le_trans g2.nO p2.nO,fun o ho=>rfl⟩,?_,p4.trans g4⟩
  ·have q1:=g2.pm b g hp
   have q2:=p2.pm b g q1.1
   exact⟨q2.1,q2.2.trans q1.2⟩
  ·exact⟨v,r,M1,M2,rfl,rfl,TC.ext p2 _ _ _ (fun _ _=>rfl) g3,p3⟩
theorem zy{t e:TypeId}(h:elemOf P t=some e):P.underlying t=some (.slice e):=by
 unfold elemOf at h
 split at h
 ·simp only[xJ]at h;subst h;assumption
 ·cases h
theorem wz{nv dst:Nat}{lit:Bool}{t:TypeId}{len:Nat}{l:List (Nat×SV)}{vs:List (Nat×Value)}{sv:SV}(h:KR A ρ S hd fl k vals w)(hall:All2 (fun(a:Nat×SV) (b:Nat×Value)=>a.1=b.1∧(a.2,b.2)∈vals) l vs)
  (e:bN P nv dst lit t len l k=some (sv,k')):∃v w' ρ' S' hd',(Instr.buildSlice t len vs.toArray).run P w=.ok v w'∧KR A ρ' S' hd' fl k' vals w'∧SO (aa A k'.H.length ρ' S' fl w') k'.get hd' sv v:=by
 simp only[bN,xB]at e
 obtain⟨ty,h1,z,h2,⟨ps,k1⟩,h3,e⟩:=e
 split at e
 ·rename_i hh
  obtain⟨a1,a2,a3,a4⟩:=hh;simp only[xB]at e
  obtain⟨es,hes,e⟩:=e;have hu:=zy h1;obtain⟨i,zv,b1,b2,b3,hzr⟩:=fD h2;have hcells:P.cellsOf ty=i.size:=by simp[Program.cellsOf,b1]
  obtain⟨S1,M,g1,g2,g3,g4⟩:=wy l vs ps k k1 S fl h hall h3;have hzv:=gj (c:=aa A k1.H.length ρ S1 (M++fl) w) b3;have hzs:zv.cells.size=i.size:=by rw[←yF,VC.len _ _ hzv.1,a4,hcells]
  have hpos:0<i.size:=by rw[←hcells];exact a1
  have hn:=g1.dis.ndF;rw[xT]at hn
  have hz0:=su hzv.1
  have hte:TE (aa A k1.H.length ρ S1 (M++fl) w) (List.replicate len (T.ofZero z)) i.size (madeCells zv.cells (len * i.size)).toList []:=
   ww hz0 (by simp[hzs]) len _ (by simp[size_madeCells]) (fun j hj=>by rw[oB _ _ _ hj (by omega),hzs])
  obtain⟨cells',M',f1,f2,f3,f4⟩:=Fx hpos ps vs M _ es _ [] g3 (fun p hp=>by
   have:=List.all_eq_true.1 a2 p hp
   rw[←hcells];simpa using this) hte (by simpa using hn.1) hes
  have hlen:es.length=len:=by
   have:∀(ps:List (Nat×T)) (es es':List T),lO es ps=some es'→es'.length=es.length:=by
    intro ps
    induction ps with
    |nil=>intro es es' h;simp only[lO,xJ]at h;rw[h]
    |cons p ps ih=>
     intro es es' h;simp only[lO]at h
     split at h
     ·rw[ih _ _ h];simp
     ·cases h
   rw[this ps _ es hes];simp
  have hrun:(Instr.buildSlice t len vs.toArray).run P w=.ok (.slice (some ⟨w.heap.size,0,none⟩) len len) (w.alloc (.cells cells' ty)):=by
   have hle:¬(len * i.size >2 ^ 24):=by rw[←hcells];simp only[Nat.not_lt];exact a3
   have hf:Instr.fill (fun i_1=>some (i_1 * i.size,i.size)) (madeCells zv.cells (len * i.size)) vs=some cells':=f1
   by_cases h0:len=0
   ·have hf0:Instr.fill (fun i_1=>some (i_1 * i.size,i.size)) #[] vs=some cells':=by
     have hm:madeCells zv.cells 0= #[]:=Array.eq_empty_of_size_eq_zero (size_madeCells _ _);rw[h0,Nat.zero_mul,hm]at hf;exact hf
    subst h0;have hr0:∀f:Nat→Value,(Array.range 0).map f= #[]:=fun f=>Array.eq_empty_of_size_eq_zero (by simp)
    simp[Instr.buildSlice,run_underlying hu,sizeOf,typeInfo,b1,newRow,hr0,hf0]
   ·have hle':¬(16777216<len * i.size):=by simpa using hle
    have hf':Instr.fill (fun i_1=>some (i_1 * i.size,i.size)) (Array.map (fun x=>zv.cells[x % zv.cells.size]!) (Array.range (len * i.size))) vs=some cells':=hf
    have hne:len * i.size≠0:=Nat.mul_ne_zero h0 (by omega)
    simp[Instr.buildSlice,run_underlying hu,sizeOf,typeInfo,b1,hle',zeroValue,b2,newRow,hf',hne]
  obtain⟨g5,g6⟩:=g1.alloc (.cells cells' ty);have hte2:=TE.ext g6 _ _ _ _ (fun b hb=>Below.heap_alloc w _ b (g1.blk b (.inr (by have:=f4 b hb;simp at this;simp[this]))).1) f2
  have hsz:=(TE.len _ _ _ _ f2).1
  have fin:∀N,N.Nodup→(∀b∈N,b∈w.heap.size::M)→TC (aa A k1.H.length ρ S1 ((w.heap.size::M)++fl) (w.alloc (.cells cells' ty))) (.own es) [.slice (some ⟨w.heap.size,0,none⟩) len len] N→
    ∃v w' ρ' S' hd',(Instr.buildSlice t len vs.toArray).run P w=.ok v w'∧KR A ρ' S' hd' fl k' vals w'∧SO (aa A k'.H.length ρ' S' fl w') k'.get hd' sv v:=by
   intro N hN1 hN2 hrow;have hn2:=g5.dis.ndF;rw[xT]at hn2
   split at e
   ·split at e
    ·simp only[xM,pJ]at e
     obtain⟨ds,hds,rfl,rfl⟩:=e;obtain⟨g7,g8⟩:=g5.letGo (fl':=fl) hn2.2.1 (fun b hb=>xR _ hb)
     refine⟨_,_,ρ,_,_,hrun,g7,VV.one (T.frz_ok g8 false (.own es) (.sl false ds) _ N (by simp[T.frz,hds]) (fun g hg=> ?_) hrow) (by simp)⟩
     have hm:=hN2 g hg;have hb:=g5.blk g (.inr (xL _ hm))
     refine⟨⟨fun ho=> ?_,hb.2.1 _,hb.1⟩,rfl⟩
     rcases ho with⟨r,ho⟩ |ho
     ·exact g5.dis.oneF r g ho (xL _ hm)
     ·exact hn2.2.2 g hm g ho rfl
    ·cases e
   simp only[xJ,pJ]at e
   obtain⟨rfl,rfl⟩:=e
   obtain⟨g7,g8⟩:=g5.letGo (fl':=N++fl) (by
    rw[xT]
    exact⟨hN1,hn2.2.1,fun a ha b hb=>hn2.2.2 a (hN2 a ha) b hb⟩) (fun b hb=>by
    rcases List.mem_append.1 hb with q |q
    ·exact xL _ (hN2 b q)
    ·exact xR _ q)
   have hrow':=TC.ext g8 _ _ _ (fun _ _=>rfl) hrow
   obtain⟨n1,n2⟩:=g7.newRoot (n:=dst) (j:=0) hrow'
   refine⟨_,_,ρ,_,_,hrun,n1,?_⟩
   have:=qS (dst:=dst) (k0:=k1) (hd':=upd hd (.l dst 0) (.slice (some ⟨w.heap.size,0,none⟩) len len)) (TC.ext n2 _ _ _ (fun _ _=>rfl) hrow') (by simp)
   rw[hlen]at this
   exact this
  by_cases h0:len=0
  ·refine fin [] (by simp) (by simp) ?_
   have:es=[]:=yL (hlen.trans h0)
   subst this;subst h0;exact .inl ⟨_,rfl,rfl,rfl⟩
  ·refine fin (w.heap.size::M') (List.nodup_cons.2 ⟨fun hc=> ?_,f3⟩) (fun b hb=> ?_) ?_
   ·have:=f4 _ hc
    simp at this;exact absurd (g1.blk _ (.inr (by simp[this]))).1 (Nat.lt_irrefl _)
   ·rcases List.mem_cons.1 hb with rfl |hb
    ·simp
    ·have:=f4 b hb;simp at this;simp[this]
   ·simp only[TC]
    refine .inr ⟨w.heap.size,len,cells',ty,i.size,M',by rw[hlen],rfl,by simpa [aa]using heap_alloc_new w _,by omega,?_,?_,?_,?_⟩
    ·rw[hcells]at a3
     refine sw (Nat.le_trans (Nat.le_mul_of_pos_right len hpos) (Nat.le_trans a3 (by decide)))
    ·simp only[yF]at hsz;rw[hsz,hlen];exact Nat.le_refl _
    ·rw[hlen];exact Nat.mul_pos (by omega) hpos
    ·rw[List.take_of_length_le (by rw[hsz];exact Nat.le_refl _)];exact hte2
 ·cases e
end
def zz(w:World)(a:Option Addr)(ns:List Value):Prop:=∀j u,ns[j]? =some u→∃ad,a=some ad∧w.cell? (ad.add j)=some u
section
variable{P:Program}{w:World}
theorem nZ{size m cap:Nat}{a:Option Addr}{ns:List Value}(hl:ns.length=m * size)(hr:zz w a ns)(hn:a=none→ns=[]):(Builtin.firstCells size m (.slice a m cap)).run P w=.ok ns.toArray w:=by
 cases a with
 |none=>rw[hn rfl];exact run_firstCells_none w size m m cap
 |some ad=>exact run_firstCells_some w size m ad m cap ns hl (fun j u hj=>by obtain⟨ad',h1,h2⟩:=hr j u hj;simp only[xJ]at h1;subst h1;exact h2)
theorem sy{t ty e e0:TypeId}{i:TypeInfo}(ht:P.underlying t=some (.slice e))(hi:P.info? e=some i){g n cap:Nat}{cur:Array Value}(hg:w.heap[g]? =some (.cells cur e0 (0,0)))
  {xa:Option Addr} {m xc:Nat} {ns:List Value} (hl:ns.length=m * i.size) (hr:zz w xa ns) (hn:xa=none→ns=[]) (h1:∀u∈ns,u.oneCell'=true) (hroom:n+m≤cap) (hfit:n * i.size+ns.length≤cur.size):
  (Builtin.append_ #[t,t] ty #[.slice (some ⟨g,0,none⟩) n cap,.slice xa m xc]).run P w=
   .ok (.slice (some ⟨g,0,none⟩) (n+m) cap) (w.setRow g (cur.toList.take (n * i.size)++ns++cur.toList.drop (n * i.size+ns.length)).toArray):=by
 have hf:=nZ (P:=P) (cap:=xc) hl hr hn;have hst:=run_storeCells_at P g (n * i.size) e0 ns 0 cur w hg (by simpa using hfit) h1
 simp only[Nat.add_zero]at hst
 have ha:(⟨g,0,none⟩:Addr).add (n * i.size)=⟨g,n * i.size,none⟩:=by rw[aL];simp
 simp[Builtin.append_,run_underlying ht,sizeOf,typeInfo,hi,Builtin.lenOf,hroom,hf,ha,hst]
theorem uF{t ty e:TypeId}{i:TypeInfo}(ht:P.underlying t=some (.slice e))(hi:P.info? e=some i){sa xa:Option Addr}{xc:Nat}(hn:(Builtin.firstCells i.size 0 (.slice xa 0 xc)).run P w=.ok #[] w):
  (Builtin.append_ #[t,t] ty #[.slice sa 0 0,.slice xa 0 xc]).run P w=.ok (.slice sa 0 0) w:=by
 cases sa <;>simp[Builtin.append_,run_underlying ht,sizeOf,typeInfo,hi,Builtin.lenOf,hn,storeCells]
theorem sA{t ty e:TypeId}{i:TypeInfo}{z:Value}(ht:P.underlying t=some (.slice e))(hi:P.info? e=some i)(hz:i.zero=some z){sa:Option Addr}{n cap:Nat}{os:List Value}(hlo:os.length=n * i.size)(hro:zz w sa os)(hno:sa=none→os=[])
  {xa:Option Addr} {m xc:Nat} {ns:List Value} (hl:ns.length=m * i.size) (hr:zz w xa ns) (hn:xa=none→ns=[]) (hg:cap<n+m) (h63:((n+m:Nat):Int)≤9223372036854775807) (hfit:Builtin.nextslicecap (n+m) cap * i.bytes≤281474976710656):
  (Builtin.append_ #[t,t] ty #[.slice sa n cap,.slice xa m xc]).run P w=
   .ok (.slice (some ⟨w.heap.size,0,none⟩) (n+m) (grownCap w (n+m) cap e)) (w.drew.alloc (.cells (os.toArray++ns.toArray++Builtin.zeroCells z.cells (grownCap w (n+m) cap e - (n+m))) e)):=by
 have hn':¬(n+m≤cap):=by omega
 have h63':¬(9223372036854775807<((n:Int)+(m:Int))):=by omega
 have h48':¬(281474976710656<Builtin.nextslicecap (n+m) cap * i.bytes):=by omega
 have hf:=nZ (P:=P) (w:=w.drew) (cap:=xc) hl (fun j u hj=>by simpa using hr j u hj) hn
 have hfo:=nZ (P:=P) (w:=w.drew) (cap:=cap) hlo (fun j u hj=>by simpa using hro j u hj) hno
 simp[Builtin.append_,run_underlying ht,sizeOf,typeInfo,zeroValue,hi,hz,Builtin.lenOf,hn',h63',h48',Question.forced,hf,hfo,newRow,grownCap]
 congr 2
 apply Array.ext';simp[xK]
end
theorem VE.cells{c:Cx}{a:Addr}:∀(l:List D) (o sz:Nat),VE c l a o sz→∃ns,ns.length=l.length * sz∧(∀j u,ns[j]? =some u→c.w.cell? (a.add (o+j))=some u)∧TE c (l.map .d) sz ns []
 | [],o,sz,_=>⟨[],by simp,by simp,by simp[TE]⟩
 |d::ds,o,sz,h=>by
  simp only[VE]at h
  obtain⟨⟨cs,h1,h2,h3⟩,h4⟩:=h;obtain⟨ns,k1,k2,k3⟩:=VE.cells ds (o+sz) sz h4
  refine⟨cs++ns,by simp[h1,k1,Nat.add_mul,Nat.add_comm],fun j u hj=> ?_,?_⟩
  ·by_cases hlt:j<sz
   ·rw[xO (by omega)]at hj;exact h2 j u hj
   ·rw[xN (by omega),h1]at hj
    have:=k2 _ u hj
    rwa [show o+sz+(j - sz)=o+j by omega]at this
  ·simp only[List.map_cons,TE]
   exact⟨cs,ns,[],[],rfl,rfl,h1,by simp only[TC];exact⟨trivial,h3⟩,k3⟩
theorem TE.plain{c:Cx}:∀(ts:List T) (sz:Nat) (cs:List Value) (S:List Nat),fx ts=true→TE c ts sz cs S→S=[]
 | [],_,_,_,_,h=>by simp only[TE]at h;exact h.2
 |t::ts,sz,cs,S,hp,h=>by
  cases t with
  |d x=>
   simp only[TE,TC]at h
   obtain⟨c1,c2,S1,S2,rfl,rfl,_,⟨rfl,_⟩,h5⟩:=h
   simpa using TE.plain ts sz c2 S2 hp h5
  |_=>simp[fx]at hp
theorem TE.nc_eq{c:Cx}{ts:List T}{sz sz':Nat}{cs:List Value}{S:List Nat}(h:TE c ts sz cs S)(hu:bL sz' ts=true)(hne:ts≠[]):sz=sz':=by
 match ts,hne with
 |t::r,_=>
  have h1:=(TE.len _ _ _ _ h).2 t (by simp)
  have h2:=List.all_eq_true.1 hu t (by simp)
  simp at h2;omega
structure News(c:Cx)(news:List T)(sz:Nat)(v:Value)(xa:Option Addr)(xc:Nat)(ns:List Value)(M:List Nat):Prop where
 hv:v=.slice xa news.length xc
 te:TE c news sz ns M
 rd:zz c.w xa ns
 no:xa=none→ns=[]
section
variable{P:Program}{A:Av}{ρ:Nat→Nat}{S:Root→List Nat}{hd:Root→Value}{fl:List Nat}{k k':Wk}{vals:List (SV×Value)}{w:World}
theorem MG{c:Cx}{es:List T}{h' v:Value}{Sn:List Nat}{off len sz:Nat}(ht:TC c (.own es) [h'] Sn)(hle:off+len≤es.length)(hw:Win h' es off len v)(hpl:fx (win es off len)=true)(hu:bL sz (win es off len)=true):
  ∃xa xc ns,News c (win es off len) sz v xa xc ns []:=by
 have hwl:=eC es off len hle;obtain⟨a,n,cap,a',cap',m1,m2,m3,m4,m5⟩:=hw;subst m2
 rcases Nat.eq_zero_or_pos len with h0 |h0
 ·subst h0
  have:win es off 0=[]:=by simp[win]
  rw[this]
  exact⟨a',cap',[],rfl,by simp[TE],fun j u hj=>by simp at hj,fun _=>rfl⟩
 ·obtain⟨g,el,n1,n2,n3⟩:=m5 h0
  rcases ht with⟨a0,k1,k2,_⟩ |⟨g0,cap0,cur,e,sz0,S',k1,k2,k3,k4,k5,k6,k7,k8⟩
  ·subst k2;simp at n2
  ·subst n1
   simp only[xC,and_true]at k1
   rw[m1]at k1
   simp only[Value.slice.injEq,xJ,Addr.mk.injEq,and_true]at k1
   obtain⟨rfl,_,_⟩:=k1;have hnc:el.nc=sz0:=(TE.len _ _ _ _ k8).2 el (yS n2);obtain⟨Sa,Sb,_,_,t2⟩:=TE.split off es sz0 _ S' k8;obtain⟨Sc,Sd,_,t4,_⟩:=TE.split len _ sz0 _ Sb t2;have hsc:=TE.plain _ _ _ _ hpl t4;subst hsc;have hne:win es off len≠[]:=fun hc=>by rw[hc]at hwl;simp at hwl;omega
   have hsz:=TE.nc_eq t4 hu hne;subst hsz
   refine⟨_,cap',_,by rw[hwl],t4,fun j u hj=>⟨_,n3,?_⟩,fun hc=>by rw[n3]at hc;cases hc⟩
   rw[aL,World.cell?,k3];simp only[Option.isSome_none];rw[xU]at hj
   split at hj
   ·rw[List.getElem?_drop,xU]at hj
    split at hj
    ·rw[hnc];simpa using hj
    ·cases hj
   ·cases hj
theorem IJ{nv sz:Nat}{v:SV}{val:Value}{news:List T}(h:KR A ρ S hd fl k vals w)(hv:SO (aa A k.H.length ρ S fl w) k.get hd v val)(e:dj nv v k=some (news,k'))(hu:bL sz news=true):
  ∃S' M xa xc ns,KR A ρ S' hd (M++fl) k' vals w∧Ext (aa A k.H.length ρ S fl w) (aa A k'.H.length ρ S' (M++fl) w)∧News (aa A k'.H.length ρ S' (M++fl) w) news sz val xa xc ns M∧k'.H.length=k.H.length:=by
 have same:∀xa xc ns,News (aa A k.H.length ρ S fl w) news sz val xa xc ns []→k'=k→
   ∃S' M xa xc ns,KR A ρ S' hd (M++fl) k' vals w∧Ext (aa A k.H.length ρ S fl w) (aa A k'.H.length ρ S' (M++fl) w)∧News (aa A k'.H.length ρ S' (M++fl) w) news sz val xa xc ns M∧k'.H.length=k.H.length:=
  fun xa xc ns hn hk=>by subst hk;exact⟨S,[],xa,xc,ns,by simpa using h,by simpa using(⟨fun _ _ hp=>⟨hp,rfl⟩,Nat.le_refl _,fun _ _=>rfl⟩:Ext _ _),by simpa using hn,rfl⟩
 have pure:∀b l,VC (aa A k.H.length ρ S fl w) (.sl b l) [val]→news=l.map .d→k'=k→
   ∃S' M xa xc ns,KR A ρ S' hd (M++fl) k' vals w∧Ext (aa A k.H.length ρ S fl w) (aa A k'.H.length ρ S' (M++fl) w)∧News (aa A k'.H.length ρ S' (M++fl) w) news sz val xa xc ns M∧k'.H.length=k.H.length:=by
  intro b l hvc hn hk;subst hn;simp only[VC,xC,and_true]at hvc
  obtain⟨a,len,cap,rfl,rfl,h3,h4⟩:=hvc
  by_cases hl:l=[]
  ·subst hl
   exact same a cap [] ⟨rfl,by simp[TE],fun j u hj=>by simp at hj,fun _=>rfl⟩ hk
  ·obtain⟨ad,sz',rfl,q2,q3,q4,q5⟩:=h4 hl
   obtain⟨ns,n1,n2,n3⟩:=VE.cells l 0 sz' q5;have hsz:=TE.nc_eq n3 hu (by simpa using hl)
   subst hsz;exact same (some ad) cap ns ⟨by simp,n3,fun j u hj=>⟨ad,rfl,by simpa using n2 j u hj⟩,fun hc=>by cases hc⟩ hk
 cases v with
 |d x=>
  cases x with
  |nils=>
   simp only[dj,xJ,pJ]at e
   obtain⟨rfl,rfl⟩:=e;have hvc:VC (aa A k.H.length ρ S fl w) .nils [val]:=VV.inv hv (by simp)
   simp only[VC,xC,and_true]at hvc
   exact same none 0 [] ⟨hvc,by simp[TE],fun j u hj=>by simp at hj,fun _=>rfl⟩ rfl
  |sl b l=>
   simp only[dj,xJ,pJ]at e
   obtain⟨rfl,rfl⟩:=e;exact pure b l (VV.inv hv (by simp)) rfl rfl
  |_=>simp[dj]at e
 |clip b l=>
  simp only[dj,xJ,pJ]at e
  obtain⟨rfl,rfl⟩:=e;exact pure b l hv.1 rfl rfl
 |ns b=>
  simp only[dj,xJ,pJ]at e
  obtain⟨rfl,rfl⟩:=e;exact pure false [] (Fv hv) rfl rfl
 |bor r p off len=>
  obtain⟨t0,es,h',b1,b2,b3,b4,b5⟩:=hv;obtain⟨h0,L,Sn,R,hS,foc⟩:=TC.focus p t0 (hd r) (S r) (.own es) (h.cont r t0 b1) b2;have hh:h0=h':=NodeH.uniq p t0 (hd r) h0 h' foc.node b3;subst hh;simp only[dj,b1,b2,xS]at e
  have copied:(if fx (win es off len)=true then some (win es off len,k)else none)=some (news,k')→
    ∃S' M xa xc ns,KR A ρ S' hd (M++fl) k' vals w∧Ext (aa A k.H.length ρ S fl w) (aa A k'.H.length ρ S' (M++fl) w)∧News (aa A k'.H.length ρ S' (M++fl) w) news sz val xa xc ns M∧k'.H.length=k.H.length:=by
   intro e
   split at e
   ·rename_i hpl
    simp only[xJ,pJ]at e
    obtain⟨rfl,rfl⟩:=e;obtain⟨xa,xc,ns,hn⟩:=MG foc.tc b4 b5 hpl hu;exact same xa xc ns hn rfl
   ·cases e
  split at e
  ·rename_i n j
   split at e
   ·rename_i hc
    obtain⟨_,rfl,rfl⟩:=hc;simp only[T.at,xJ]at b2
    subst b2;simp only[Wk.set,xQ,xJ,pJ]at e
    obtain⟨rfl,rfl⟩:=e;obtain⟨g1,g2⟩:=h.takeOut (k':={k with ct:=((n,j),.dead)::k.ct}) (t':=.dead) b1 hS foc rfl rfl
    have ht:=TC.ext g2 _ _ _ (fun _ _=>rfl) foc.tc
    have hw:=b5.whole ht
    rcases hw with⟨a,k1,k2,k3⟩ |⟨g,cap,cur,ty,sz',S',k1,k2,k3,k4,k5,k6,k7,k8⟩
    ·subst k2;subst k3
     simp only[xC,and_true]at k1
     exact⟨_,[],a,0,[],g1,g2,⟨k1,by simp[TE],fun j u hj=>by simp at hj,fun _=>rfl⟩,rfl⟩
    ·simp only[xC,and_true]at k1
     subst k2;have hne:es≠[]:=fun hc=>by subst hc;simp at k7
     ·have hsz:=TE.nc_eq k8 hu hne
      subst hsz;have hn:=g1.dis.ndF;obtain⟨g3,g4⟩:=g1.letGo (fl':=S'++fl) (by simp at hn;exact hn.2) (fun b hb=>by simp at hb ⊢;exact .inr hb)
      refine⟨_,S',some ⟨g,0,none⟩,cap,_,g3,⟨fun t b hp=>⟨(g4.pm t b (g2.pm t b hp).1).1,rfl⟩,Nat.le_refl _,fun _ _=>rfl⟩,⟨k1,TE.ext g4 _ _ _ _ (fun _ _=>rfl) k8,fun j u hj=>⟨_,rfl,?_⟩,fun hc=>by cases hc⟩,rfl⟩
      have hcell:w.cell? ⟨g,0+j,none⟩=some u:=by
       rw[World.cell?,show w.heap[g]? =_ from k3]
       simp only[Option.isSome_none,Nat.zero_add];rw[xU]at hj
       split at hj
       ·simpa using hj
       ·cases hj
      rw[aL];exact hcell
   ·exact copied e
  ·exact copied e
 |_=>simp[dj]at e
inductive Olds(c:Cx)(olds:List T)(sz:Nat)(v:Value):List Nat→Prop
 |empty (sa:Option Addr) (ho:olds=[]) (hv:v=.slice sa 0 0):Olds c olds sz v []
 |row (g cap:Nat) (cur:Array Value) (e0:TypeId) (S0:List Nat) (hv:v=.slice (some ⟨g,0,none⟩) olds.length cap) (hg:c.w.heap[g]? =some (.cells cur e0 (0,0))) (hle:olds.length≤cap) (hcap:cap≤maxLen)
   (hcur:cap * sz≤cur.size) (te:TE c olds sz (cur.toList.take (olds.length * sz)) S0):Olds c olds sz v (g::S0)
theorem IK{α:Type}(X ns:List α)(n m:Nat)(h1:n≤X.length)(h2:ns.length=m)(_h3:n+m≤X.length):(X.take n++ns++X.drop (n+m)).take (n+m)=X.take n++ns:=by
 rw[List.take_append_of_le_length (by simp;omega)]
 exact List.take_of_length_le (by simp;omega)
theorem kB{t ty e:TypeId}{i:TypeInfo}{z:Value}(ht:P.underlying t=some (.slice e))(hi:P.info? e=some i)(hz:i.zero=some z)(hzs:z.cells.size=i.size)(hsz:0<i.size){dst:Nat}{olds news:List T}{sval xval:Value}{xa:Option Addr}{xc:Nat}{ns:List Value}{N0 M:List Nat}(hok:N0=[]∨0<olds.length+news.length)
  (h:KR A ρ S hd ((N0++M)++fl) k vals w) (ho:Olds (aa A k.H.length ρ S ((N0++M)++fl) w) olds i.size sval N0) (hn:News (aa A k.H.length ρ S ((N0++M)++fl) w) news i.size xval xa xc ns M)
  (hb:(olds.length+news.length) * i.bytes≤140737488355328) (h63:olds.length+news.length≤9223372036854775807):
  ∃v w' ρ' S' hd',(Builtin.append_ #[t,t] ty #[sval,xval]).run P w=.ok v w'∧KR A ρ' S' hd' fl (k.new dst 0 (.own (olds++news))) vals w'∧
   SO (aa A (k.new dst 0 (.own (olds++news))).H.length ρ' S' fl w') (k.new dst 0 (.own (olds++news))).get hd' (.bor (.l dst 0) [] 0 (olds++news).length) v:=by
 have hnl:=TE.len _ _ _ _ hn.te;have hones:=TE.ones _ _ _ _ hn.te;have hxv:=hn.hv;subst hxv
 have fin:∀(w':World) (N:List Nat) (v:Value),KR A ρ S hd (N++fl) k vals w'→TC (aa A k.H.length ρ S (N++fl) w') (.own (olds++news)) [v] N→(Builtin.append_ #[t,t] ty #[sval,.slice xa news.length xc]).run P w=.ok v w'→
   ∃v w' ρ' S' hd',(Builtin.append_ #[t,t] ty #[sval,.slice xa news.length xc]).run P w=.ok v w'∧KR A ρ' S' hd' fl (k.new dst 0 (.own (olds++news))) vals w'∧
    SO (aa A (k.new dst 0 (.own (olds++news))).H.length ρ' S' fl w') (k.new dst 0 (.own (olds++news))).get hd' (.bor (.l dst 0) [] 0 (olds++news).length) v:=by
  intro w' N v hk hrow hrun;obtain⟨n1,n2⟩:=hk.newRoot (n:=dst) (j:=0) hrow
  exact⟨v,w',ρ,_,_,hrun,n1,qS (dst:=dst) (k0:=k) (hd':=upd hd (.l dst 0) v) (TC.ext n2 _ _ _ (fun _ _=>rfl) hrow) (by simp)⟩
 have grow:∀(sa:Option Addr) (sCap:Nat) (os:List Value) (S0:List Nat),sval=.slice sa olds.length sCap→zz w sa os→(sa=none→os=[])→TE (aa A k.H.length ρ S ((N0++M)++fl) w) olds i.size os S0→(∀b∈S0,b∈N0)→S0.Nodup→sCap<olds.length+news.length→
   ∃v w' ρ' S' hd',(Builtin.append_ #[t,t] ty #[sval,.slice xa news.length xc]).run P w=.ok v w'∧KR A ρ' S' hd' fl (k.new dst 0 (.own (olds++news))) vals w'∧
    SO (aa A (k.new dst 0 (.own (olds++news))).H.length ρ' S' fl w') (k.new dst 0 (.own (olds++news))).get hd' (.bor (.l dst 0) [] 0 (olds++news).length) v:=by
  intro sa sCap os S0 hsv hro hno hte hS0 hS0n hlt;have hol:=TE.len _ _ _ _ hte;have hrun:=sA (P:=P) (w:=w) (ty:=ty) (cap:=sCap) (xc:=xc) ht hi hz hol.1 hro hno hnl.1 hn.rd hn.no hlt (by omega) (growslice_fits hlt hb)
  rw[←hsv]at hrun
  obtain⟨d1,d2⟩:=h.drew;obtain⟨a1,a2⟩:=d1.alloc (.cells (os.toArray++ns.toArray++Builtin.zeroCells z.cells (grownCap w (olds.length+news.length) sCap e - (olds.length+news.length))) e);have hnd:=a1.dis.ndF;rw[xT]at hnd
  have hnd2:=(List.nodup_cons.1 hnd.1);have hnd3:=hnd2.2;rw[xT]at hnd3
  obtain⟨l1,l2⟩:=a1.letGo (fl':=(w.heap.size::(S0++M))++fl) (by
   rw[xT]
   refine⟨List.nodup_cons.2 ⟨fun hc=>hnd2.1 ?_,?_⟩,hnd.2.1,fun a ha b hb=>hnd.2.2 a ?_ b hb⟩
   ·rcases List.mem_append.1 hc with q |q
    ·exact xL _ (hS0 _ q)
    ·exact xR _ q
   ·rw[xT]
    exact⟨hS0n,hnd3.2.1,fun a ha b hb=>hnd3.2.2 a (hS0 a ha) b hb⟩
   ·rcases List.mem_cons.1 ha with rfl |ha
    ·simp
    ·rcases List.mem_append.1 ha with q |q
     ·exact List.mem_cons_of_mem _ (xL _ (hS0 _ q))
     ·exact List.mem_cons_of_mem _ (xR _ q)) (fun b hb=>by
   rcases List.mem_append.1 hb with q |q
   ·rcases List.mem_cons.1 q with rfl |q
    ·simp
    ·rcases List.mem_append.1 q with q |q
     ·exact xL _ (List.mem_cons_of_mem _ (xL _ (hS0 _ q)))
     ·exact xL _ (List.mem_cons_of_mem _ (xR _ q))
   ·exact xR _ q)
  have ex:Ext (aa A k.H.length ρ S ((N0++M)++fl) w) (aa A k.H.length ρ S ((w.heap.size::(S0++M))++fl) (w.drew.alloc (.cells (os.toArray++ns.toArray++Builtin.zeroCells z.cells (grownCap w (olds.length+news.length) sCap e - (olds.length+news.length))) e))):=
   ⟨fun t b hp=>by
    have q1:=d2.pm t b hp;have q2:=a2.pm t b q1.1;have q3:=l2.pm t b q2.1
    exact⟨q3.1,q3.2.trans (q2.2.trans q1.2)⟩,Nat.le_refl _,fun _ _=>rfl⟩
  have kp:∀b,b∈N0++M→(w.drew.alloc (.cells (os.toArray++ns.toArray++Builtin.zeroCells z.cells (grownCap w (olds.length+news.length) sCap e - (olds.length+news.length))) e)).heap[b]? =w.heap[b]? :=fun b hb=>
   Below.heap_alloc w.drew _ b (h.blk b (.inr (xL _ hb))).1
  have t1:=TE.ext ex _ _ _ _ (fun b hb=>kp b (xL _ (hS0 b hb))) hte
  have t2:=TE.ext ex _ _ _ _ (fun b hb=>kp b (xR _ hb)) hn.te
  have hC:=grownCap_ge w (olds.length+news.length) sCap e;refine fin _ (w.heap.size::(S0++M)) _ l1 ?_ hrun;simp only[TC];refine .inr ⟨w.heap.size,_,_,e,i.size,S0++M,by rw[xP],rfl,by simpa [aa]using heap_alloc_new w.drew _,by rw[xP];exact hC,grownCap_le_maxLen w _ _ e (sw h63),?_,?_,?_⟩
  ·simp only[Array.size_append,List.size_toArray,xP,size_zeroCells,hzs,hol.1,hnl.1,←Nat.add_mul]
   refine Nat.mul_le_mul_right _ ?_;omega
  ·rw[xP];exact Nat.mul_pos (by omega) hsz
  ·have:(os++ns).length=(olds++news).length * i.size:=by rw[xP,xP,hol.1,hnl.1,Nat.add_mul]
   simp only[Array.toList_append,←this];rw[List.take_left];exact TE.append _ _ _ _ _ _ _ t1 t2
 cases ho with
 |empty sa ho hv=>
  subst ho;subst hv
  by_cases hm:news.length=0
  ·have hnn:news=[]:=yL hm
   have hns:ns=[]:=yL (by rw[hnl.1,hm];simp)
   have hrun:(Builtin.append_ #[t,t] ty #[.slice sa 0 0,.slice xa news.length xc]).run P w=.ok (.slice sa 0 0) w:=by
    rw[hm];refine uF ht hi ?_
    have:=nZ (P:=P) (w:=w) (size:=i.size) (m:=0) (a:=xa) (cap:=xc) (ns:=ns) (by rw[hns];simp) hn.rd hn.no
    rw[hns]at this
    exact this
   have hnd:=h.dis.ndF;rw[xT]at hnd
   obtain⟨l1,_⟩:=h.letGo (fl':=[]++fl) (by simpa using hnd.2.1) (fun b hb=>xR _ (by simpa using hb))
   refine fin w [] (.slice sa 0 0) l1 ?_ hrun;subst hnn;exact .inl ⟨sa,rfl,rfl,rfl⟩
  ·exact grow sa 0 [] [] rfl (fun j u hj=>by simp at hj) (fun _=>rfl) (by simp[TE]) (by simp) (by simp) (by simp;omega)
 |row g cap cur e0 S0 hv hg hle hcap hcur te=>
  subst hv;have hnd:=h.dis.ndF;rw[xT,xT]at hnd
  have hS0n:=(List.nodup_cons.1 hnd.1.1);have hol:=TE.len _ _ _ _ te;have hlen1:olds.length * i.size≤cur.size:=Nat.le_trans (Nat.mul_le_mul_right _ hle) hcur
  by_cases hroom:olds.length+news.length≤cap
  ·have hlen2:(olds.length+news.length) * i.size≤cur.size:=Nat.le_trans (Nat.mul_le_mul_right _ hroom) hcur
   rw[Nat.add_mul]at hlen2
   have hrun:=sy (P:=P) (w:=w) (ty:=ty) (xc:=xc) (n:=olds.length) ht hi (show w.heap[g]? =_ from hg) hnl.1 hn.rd hn.no hones hroom (by rw[hnl.1];exact hlen2)
   obtain⟨k1,k2⟩:=KR.world (w:=w) (w':=w.setRow g (cur.toList.take (olds.length * i.size)++ns++cur.toList.drop (olds.length * i.size+ns.length)).toArray) (M:=(g::S0)++M) (M':=(g::S0)++M) rfl rfl rfl (by simp) (Recs.other (g:=g) (fun b hb=>eW w g b _ hb) (fun r=>by rw[show w.heap[g]? =_ from hg];simp)) h
    (fun b _ hb=>eW w g b _ (fun e=>hb (by simp[e]))) (fun b hb=>.inl hb) (by rw[xT];exact hnd.1)
   have kp:∀b,b≠g→(w.setRow g (cur.toList.take (olds.length * i.size)++ns++cur.toList.drop (olds.length * i.size+ns.length)).toArray).heap[b]? =w.heap[b]? :=fun b hb=>eW w g b _ hb
   have t1:=TE.ext k2 _ _ _ _ (fun b hb=>kp b (fun e=>hS0n.1 (e▸hb))) te
   have t2:=TE.ext k2 _ _ _ _ (fun b hb=>kp b (fun e=>hnd.1.2.2 g (by simp) b hb e.symm)) hn.te
   refine fin _ ((g::S0)++M) _ k1 ?_ hrun;simp only[TC];refine .inr ⟨g,cap,_,e0,i.size,S0++M,by rw[xP],rfl,setRow_heap w g cur _ e0 _ hg,by rw[xP];exact hroom,hcap,?_,by rw[xP];exact Nat.mul_pos (by rcases hok with h0 |h0;cases h0;exact h0) hsz,?_⟩
   ·simp only[List.size_toArray,xP,yR,List.length_drop,yF]
    rw[hnl.1];omega
   ·rw[xP,Nat.add_mul,←hnl.1]
    rw[IK _ _ _ _ (by simpa using hlen1) rfl (by rw[hnl.1];simpa using hlen2)]
    exact TE.append _ _ _ _ _ _ _ t1 t2
  ·refine grow (some ⟨g,0,none⟩) cap _ S0 rfl (fun j u hj=>⟨_,rfl,?_⟩) (fun hc=>by cases hc) te (fun b hb=>by simp[hb]) hS0n.2 (by omega)
   rw[aL,World.cell?,show w.heap[g]? =_ from hg]
   simp only[Option.isSome_none,Nat.zero_add];rw[xU]at hj
   split at hj
   ·simpa using hj
   ·cases hj
theorem DX{nv dst:Nat}{t ty:TypeId}{s x sv:SV}{sval xval:Value}(h:KR A ρ S hd fl k vals w)(htr:k.tr=[])(hs:(s,sval)∈vals)(hx:(x,xval)∈vals)(e:eo P nv dst t s x k=some (sv,k')):
  ∃v w' ρ' S' hd',(Builtin.append_ #[t,t] ty #[sval,xval]).run P w=.ok v w'∧KR A ρ' S' hd' fl k' vals w'∧SO (aa A k'.H.length ρ' S' fl w') k'.get hd' sv v:=by
 simp only[eo,oz,xB]at e
 obtain⟨et,h1,z,hz,⟨news,k1⟩,h2,e⟩:=e
 split at e
 ·rename_i hh
  obtain⟨a1,a2,a3⟩:=hh;simp only[xB]at e
  obtain⟨⟨olds,k2⟩,h3,e⟩:=e
  split at e
  ·rename_i hbd
   obtain⟨hb,h63⟩:=hbd;simp only[xJ,pJ]at e
   obtain⟨rfl,rfl⟩:=e;have hu:=zy h1;obtain⟨i,zv,b1,b2,b3,_⟩:=fD hz;have hcells:P.cellsOf et=i.size:=by simp[Program.cellsOf,b1]
   have hbytes:P.bytesOf et=i.bytes:=by simp[Program.bytesOf,b1]
   rw[hbytes]at hb
   rw[hcells]at a1 a2 a3
   have hzs:zv.cells.size=i.size:=by
    rw[←yF,VC.len _ _ (gj (c:=aa A k.H.length ρ S fl w) b3).1,a3]
   have hvx:=h.vals (x,xval) hx;rw[htr]at hvx
   obtain⟨S1,M,xa,xc,ns,g1,g2,g3,g4⟩:=IJ h hvx h2 a2;have hvs:=g1.vals (s,sval) hs;simp only at hvs h3
   have fin0:∀(sa:Option Addr),sval=.slice sa 0 0→olds=[]→k2=k1→∃v w' ρ' S' hd',(Builtin.append_ #[t,t] ty #[sval,xval]).run P w=.ok v w'∧KR A ρ' S' hd' fl (k2.new dst 0 (.own (olds++news))) vals w'∧
     SO (aa A (k2.new dst 0 (.own (olds++news))).H.length ρ' S' fl w') (k2.new dst 0 (.own (olds++news))).get hd' (.bor (.l dst 0) [] 0 (olds++news).length) v:=by
    intro sa q1 q2 q3;subst q2;subst q3;exact kB hu b1 b2 hzs a1 (N0:=[]) (M:=M) (.inl rfl) (by simpa using g1) (Olds.empty sa rfl q1) (by simpa using g3) hb h63
   generalize htv:trv k1.tr s=u at h3 hvs
   split at h3
   ·simp only[xJ,pJ]at h3
    obtain⟨rfl,rfl⟩:=h3;have hvc:VC (aa A k1.H.length ρ S1 (M++fl) w) .nils [sval]:=VV.inv hvs (by simp)
    simp only[VC,xC,and_true]at hvc
    exact fin0 none hvc rfl rfl
   ·simp only[xJ,pJ]at h3
    obtain⟨rfl,rfl⟩:=h3;obtain⟨_,a,ha⟩:=hvs;exact fin0 a ha rfl rfl
   ·rename_i r p off len
    split at h3
    ·rename_i hoff
     subst hoff;simp only[xB]at h3
     obtain⟨t0,hc,nd,hat,h3⟩:=h3
     split at h3
     ·rename_i es
      split at h3
      ·rename_i hcond
       obtain⟨c1,c2,c3⟩:=hcond;simp only[xB,xM]at h3
       obtain⟨t1,hput,k3,hset,h3⟩:=h3;simp only[pJ]at h3
       obtain⟨rfl,rfl⟩:=h3;obtain⟨t0',es',h',d1,d2,d3,d4,d5⟩:=hvs;rw[hc]at d1
       simp only[xJ]at d1
       subst d1;rw[hat]at d2
       simp only[xJ,T.own.injEq]at d2
       subst d2;obtain⟨h0,L,Sn,R,hS,foc⟩:=TC.focus p t0 (hd r) (S1 r) (.own es) (g1.cont r t0 hc) hat;have hh:h0=h':=NodeH.uniq p t0 (hd r) h0 h' foc.node d3;subst hh;obtain⟨f1,f2⟩:=g1.takeOut hc hS foc hput hset;have hlen3:(k3.tell (.kill r p)).H.length=k1.H.length:=mh (k':=k3) hset;have ftc:=TC.ext f2 _ _ _ (fun _ _=>rfl) foc.tc
       have fnews:News (aa A (k3.tell (.kill r p)).H.length ρ (upd S1 r (L++R)) (Sn++(M++fl)) w) news i.size xval xa xc ns M:=by
        rw[hlen3]
        exact⟨g3.hv,TE.ext f2 _ _ _ _ (fun _ _=>rfl) g3.te,g3.rd,g3.no⟩
       obtain⟨a,n,cap,a',cap',m1,m2,m3,m4,m5⟩:=d5;obtain⟨q1,q2⟩:=m4 rfl;subst q1
       rcases ftc with⟨a0,k1',k2',k3'⟩ |⟨g,cap0,cur,e0,sz,S',k1',k2',k3',k4',k5',k6',k7',k8'⟩
       ·subst k2';subst k3'
        rw[m1]at k1'
        simp only[xC,Value.slice.injEq,and_true]at k1'
        obtain⟨rfl,_,rfl⟩:=k1';have hl0:len=0:=by simp at c1;exact c1
        have hc0:cap'=0:=by omega
        subst hl0;subst hc0;exact kB hu b1 b2 hzs a1 (N0:=[]) (M:=M) (.inl rfl) (by simpa using f1) (Olds.empty a' (by simp) m2) (by simpa using fnews) hb h63
       ·subst k2'
        rw[m1]at k1'
        simp only[xC,Value.slice.injEq,and_true]at k1'
        obtain⟨rfl,rfl,rfl⟩:=k1';have hne:es≠[]:=fun hc=>by subst hc;simp at k7'
        have hsz:=TE.nc_eq k8' c2 hne;rw[hcells]at hsz
        subst hsz;obtain⟨S0,S3,t1',t2',t3'⟩:=TE.split len es i.size _ S' k8';rw[t1']at f1 fnews t2'
        have hnd:=f1.dis.ndF
        have hnd':((g::S0)++(M++fl)).Nodup:=by
         refine List.Nodup.sublist ?_ hnd;rw[List.cons_append,List.cons_append];refine List.Sublist.cons_cons g ?_;rw[xK];exact List.Sublist.append (List.Sublist.refl _) (List.sublist_append_right _ _)
        obtain⟨l1,l2⟩:=f1.letGo (fl':=(g::S0)++(M++fl)) hnd' (fun b hb=>by
         simp only[List.cons_append,xY,xD]at hb ⊢
         rcases hb with q |q |q |q <;>simp[q])
        have ea:(g::S0)++(M++fl)=((g::S0)++M)++fl:=(xK _ _ _).symm;rw[ea]at l1 l2
        have htl:(es.take len).length=len:=by simp;omega
        refine kB hu b1 b2 hzs a1 (N0:=g::S0) (M:=M) (.inr ?_) l1 (Olds.row g cap' cur e0 S0 (by rw[htl];exact m2) (by simpa [aa]using k3') (by rw[htl];exact m3) (Nat.le_trans q2 k5') (Nat.le_trans (Nat.mul_le_mul_right _ q2) k6') ?_) ⟨fnews.hv,TE.ext l2 _ _ _ _ (fun _ _=>rfl) fnews.te,fnews.rd,fnews.no⟩ hb h63
        ·have c3':=c3
         simp only[Fq,Bool.or_eq_true,yD,List.isEmpty_iff,Bool.not_eq_true',List.isEmpty_eq_false_iff]at c3'
         rcases c3' with(c3' |c3') |c3'
         ·rw[htl];omega
         ·exact absurd c3' hne
         ·have:=List.length_pos_iff.2 c3';omega
        ·rw[htl]
         rw[hlen3]at l2 ⊢
         have hmin:len * i.size≤es.length * i.size:=Nat.mul_le_mul_right _ c1;rw[List.take_take,Nat.min_eq_left hmin]at t2'
         exact TE.ext l2 _ _ _ _ (fun _ _=>rfl) t2'
      ·cases h3
     ·cases h3
    ·cases h3
   ·cases h3
  ·cases e
 ·cases e
end
section
variable{P:Program}{c:Cx}{K:Root→Option T}{hd:Root→Value}{w:World}
theorem VV.of_int{k:IntKind}{n:Int}{v:Value}(h:VV c (.int k n) v):v=.int k n:=by have:=h.inv (by simp);simpa [VC]using this
theorem VV.of_bool{b:Bool}{v:Value}(h:VV c (.bool b) v):v=.bool b:=by have:=h.inv (by simp);simpa [VC]using this
theorem VV.of_str{s:List UInt8}{v:Value}(h:VV c (.str s) v):∃b:ByteArray,v=.string b∧b.data.toList=s:=by
 have:=h.inv (by simp)
 simp only[VC,xC,and_true]at this
 exact this
theorem VV.mk_int(k:IntKind)(n:Int):VV c (.int k n) (.int k n):=VV.one (by simp[VC]) (by simp)
theorem VV.mk_bool(b:Bool):VV c (.bool b) (.bool b):=VV.one (by simp[VC]) (by simp)
theorem VV.mk_str{b:ByteArray}{s:List UInt8}(h:b.data.toList=s):VV c (.str s) (.string b):=VV.one (by simp only[VC];exact⟨b,rfl,h⟩) (by simp)
theorem IL{cst:Bool}{op:BinOp}{t:TypeId}{k k':IntKind}{a b:Int}{d:D}(e:cE P cst op t (.d (.int k a)) (.d (.int k' b))=some d):
  ∃v,(binOp op t (.int k a) (.int k' b)).run P w=.ok v w∧VV c d v:=by
 cases op <;>simp only[cE,Fo,gf]at e <;>(repeat' split at e) <;>simp only[xJ,reduceCtorEq]at e <;>subst_vars <;>
  first
  |exact⟨_,by simp[binOp,Op.intArith,Op.intDiv,Op.intBits,Op.intCmp,Op.shift, *],VV.mk_int _ _⟩
  |exact⟨_,by simp[binOp,Op.intArith,Op.intDiv,Op.intBits,Op.intCmp,Op.shift, *],VV.mk_int _ _⟩
  |exact⟨_,by simp[binOp,Op.intArith,Op.intDiv,Op.intBits,Op.intCmp,Op.shift, *],VV.mk_bool _⟩
  |exact⟨_,by simp[binOp,Op.intArith,Op.intDiv,Op.intBits,Op.intCmp,Op.shift, *],VV.mk_bool _⟩
theorem MH{ats:Array TypeId}{ty:TypeId}{x y:SV}{v u:Value}{d:D}(hx:SO c K hd x v)(hy:SO c K hd y u)(e:Gm x y=some d):∃r,(Builtin.min_ ats ty #[v,u]).run P w=.ok r w∧VV c d r:=by
 unfold Gm at e
 split at e
 ·rw[VV.of_int hx,VV.of_int hy]
  simp only[xJ]at e;subst e
  exact⟨_,by simp[Builtin.min_,Builtin.min2],VV.mk_int _ _⟩
 ·cases e
theorem MI{ats:Array TypeId}{ty:TypeId}{x y:SV}{v u:Value}{d:D}(hx:SO c K hd x v)(hy:SO c K hd y u)(e:Gn x y=some d):∃r,(Builtin.max_ ats ty #[v,u]).run P w=.ok r w∧VV c d r:=by
 unfold Gn at e
 split at e
 ·rw[VV.of_int hx,VV.of_int hy]
  simp only[xJ]at e;subst e
  exact⟨_,by simp[Builtin.max_,Builtin.max2],VV.mk_int _ _⟩
 ·cases e
theorem IM{op:BinOp}{t:TypeId}{x y:ByteArray}{d:D}(e:zk op x.data.toList y.data.toList=some d):∃v,(binOp op t (.string x) (.string y)).run P w=.ok v w∧VV c d v:=by
 cases op <;>simp only[zk]at e <;>(repeat' split at e) <;>simp only[xJ,reduceCtorEq]at e <;>subst_vars
 ·rename_i h
  have h':x.size+y.size≤9223372036854775807:=by
   simp only[yF]at h
   exact h
  exact⟨.string (x++y),by simp only[binOp];exact run_string_add_sum w x y h',VV.mk_str (by simp)⟩
 all_goals exact⟨_,by simp[binOp,Op.stringOp,ByteArray.toList_eq],VV.mk_bool _⟩
theorem RS{op:UnOp}{x:SV}{v:Value}{d:D}(hx:SO c K hd x v)(e:unE op x=some d):∃u,(Op.unary op v).run P w=.ok u w∧VV c d u:=by
 unfold unE at e
 split at e
 ·rw[VV.of_bool hx]
  split at e
  ·simp only[xJ]at e;subst e;exact⟨_,by simp[Op.unary],VV.mk_bool _⟩
  ·cases e
 ·rw[VV.of_int hx]
  split at e
  ·simp only[gf,xJ]at e;subst e;exact⟨_,by simp[Op.unary,Op.intArith],VV.mk_int _ _⟩
  ·simp only[gf,xJ]at e;subst e;exact⟨_,by simp[Op.unary,Op.intBits],VV.mk_int _ _⟩
  ·cases e
 ·cases e
theorem zA:∀(l:List D) (s:List UInt8) (ad:Addr) (o sz:Nat),md l=some s→VE c l ad o sz→∃ns:List Int,ns.length=l.length∧s=ns.map (fun n=>UInt8.ofNat n.toNat)∧∀(j:Nat) (v:Value),(ns.map (Value.int .u8))[j]? =some v→c.w.cell? (ad.add (o+j))=some v
 | [],s,ad,o,sz,e,_=>by
  simp only[md,xJ]at e
  exact⟨[],rfl,by simp[←e],by simp⟩
 |d::l,s,ad,o,sz,e,hv=>by
  unfold md at e
  split at e
  ·rename_i h;cases h
  ·rename_i n r h
   simp only[xC]at h
   obtain⟨rfl,rfl⟩:=h;simp only[xM]at e
   obtain⟨s',e1,rfl⟩:=e;simp only[VE]at hv
   obtain⟨⟨cs,h1,h2,h3⟩,h4⟩:=hv;simp only[VC]at h3
   subst h3;simp only[List.length_singleton]at h1
   subst h1;obtain⟨ns,g1,g2,g3⟩:=zA l s' ad (o+1) 1 e1 h4
   refine⟨n::ns,by simp[g1],by simp[g2],fun j v hj=> ?_⟩
   cases j with
   |zero=>simp only[List.map_cons,yE,xJ]at hj;subst hj;exact h2 0 _ rfl
   |succ j=>
    have:=g3 j v (by simpa using hj)
    rw[show o+(j+1)=o+1+j by omega];exact this
  ·cases e
theorem IN{src dst:TypeId}{x:SV}{v:Value}{d:D}(hw:c.w=w)(hns:¬((∃s,x=.d (.str s))∧∃el,P.underlying dst=some (.slice el)))(hx:SO c K hd x v)(e:tE P src dst x=some d):∃u,(convert src dst v).run P w=.ok u w∧VV c d u:=by
 unfold tE at e
 split at e
 ·rw[VV.of_int hx]
  split at e
  ·rename_i h1 h2
   simp only[xJ]at e;subst e
   exact⟨_,by simp[convert,run_underlying h1,run_underlying h2,Conv.intToInt],VV.mk_int _ _⟩
  ·rename_i h1 h2
   simp only[xJ]at e;subst e
   exact⟨_,by simp[convert,run_underlying h1,run_underlying h2,Conv.intToString],VV.mk_str rfl⟩
  ·cases e
 ·obtain⟨b,rfl,hb⟩:=VV.of_str hx
  split at e
  ·rename_i h1 h2
   simp only[xJ]at e;subst e
   exact⟨_,by simp[convert,run_underlying h1,run_underlying h2],VV.mk_str hb⟩
  ·rename_i e0 h1 h2
   exact absurd ⟨⟨_,rfl⟩,e0,h2⟩ hns
  ·cases e
 ·rename_i b l
  have hv:=VV.inv hx (by simp)
  simp only[VC,xC,and_true]at hv
  obtain⟨a,len,cap,rfl,hlen,_,hv⟩:=hv
  split at e
  ·rename_i el h1 h2
   split at e
   ·rename_i hu
    have hu':P.underlying el=some (.int .u8):=by
     unfold Gl at hu
     split at hu
     ·assumption
     ·cases hu
    simp only[xM]at e
    obtain⟨s,e1,rfl⟩:=e
    cases a with
    |none=>
     have hl:l=[]:=Classical.byContradiction fun hn=>by obtain⟨_,_,h,_⟩:=hv hn;cases h
     subst hl;simp only[md,xJ]at e1
     exact⟨_,run_convert_bytes_nil w src el h1 hu' len cap dst h2,VV.mk_str (by rw[←e1];rfl)⟩
    |some ad=>
     have key:∃ns:List Int,ns.length=l.length∧s=ns.map (fun n=>UInt8.ofNat n.toNat)∧∀(j:Nat) (v:Value),(ns.map (Value.int .u8))[j]? =some v→w.cell? (ad.add j)=some v:=by
      by_cases hl:l=[]
      ·subst hl
       simp only[md,xJ]at e1
       exact⟨[],rfl,by simp[←e1],by simp⟩
      ·obtain⟨ad',sz,h3,_,_,_,h4⟩:=hv hl
       simp only[xJ]at h3
       subst h3;obtain⟨ns,g1,g2,g3⟩:=zA l s ad 0 sz e1 h4
       exact⟨ns,g1,g2,fun j v hj=>by have:=g3 j v hj;rw[Nat.zero_add,hw]at this;exact this⟩
     obtain⟨ns,g1,g2,g3⟩:=key
     have hl:(loadCells ad len).run P w=.ok (ns.map (Value.int .u8)).toArray w:=by
      have:=run_loadCells_list (P:=P) w ad (ns.map (Value.int .u8)) g3
      rw[List.length_map,g1,←hlen]at this
      exact this
     refine⟨.string (strOfNums ns),?_,VV.mk_str (by rw[strOfNums_data,g2])⟩
     rw[run_convert_bytes_string w src dst el _ len cap h1 hu' h2,run_bytesToString w ad len cap ns hl,foldl_push_bytes];simp[strOfNums,ByteArray.empty,ByteArray.emptyWithCapacity];rfl
   ·cases e
  ·cases e
 ·cases e
def oC(P:Program)(w:World)(t:TypeId)(ox oy:Operand)(v u:Value)(b:Bool):Prop:=
 ((do eqGuard .eql t ox oy v u;binOp .eql t v u:Sem Value).run P w=.ok (.bool b) w)∧((do eqGuard .neq t ox oy v u;binOp .neq t v u:Sem Value).run P w=.ok (.bool (!b)) w)
theorem fE{t:TypeId}{n:Nat}(h:dl P t=some n):(n=0∧∃k,P.underlying t=some (.int k))∨(n=1∧P.underlying t=some .string)∨(n=2∧P.underlying t=some .bool):=by
 unfold dl at h
 split at h <;>simp only[xJ,reduceCtorEq]at h <;>subst h
 ·exact .inl ⟨rfl,_,‹_›⟩
 ·exact .inr (.inl ⟨rfl,‹_›⟩)
 ·exact .inr (.inr ⟨rfl,‹_›⟩)
theorem wA{t:TypeId}{n:Nat}(h:dl P t=some n):jW P t=some false:=by
 rcases fE h with⟨_,k,hu⟩ |⟨_,hu⟩ |⟨_,hu⟩ <;>simp[jW,hu]
theorem RU{t:TypeId}{n d0:Nat}{x y:D}{u v:Value}{b:Bool}(h:dl P t=some n)(hx:VC c x [u])(hy:VC c y [v])(e:eqK n x y=some b):(Op.equalIn (d0+1) t u v).run P w=.ok b w:=by
 unfold eqK at e
 split at e
 ·split at e <;>simp only[xJ,reduceCtorEq]at e
  subst e;simp only[VC,xC,and_true]at hx hy
  subst hx;subst hy
  rcases fE h with⟨_,k,hu⟩ |⟨h0,hu⟩ |⟨h0,hu⟩ <;>first |(subst_vars;exact run_equalIn_int w _ _ _ _ _ _ hu) |cases h0
 ·simp only[xJ]at e
  subst e;simp only[VC,xC,and_true]at hx hy
  obtain⟨a,rfl,rfl⟩:=hx;obtain⟨a',rfl,rfl⟩:=hy
  rcases fE h with⟨h0,k,hu⟩ |⟨_,hu⟩ |⟨h0,hu⟩ <;>first |(rw[run_equalIn_string w _ _ _ _ hu,ByteArray.toList_eq,ByteArray.toList_eq]) |cases h0
 ·simp only[xJ]at e
  subst e;simp only[VC,xC,and_true]at hx hy
  subst hx;subst hy
  rcases fE h with⟨h0,k,hu⟩ |⟨h0,hu⟩ |⟨_,hu⟩ <;>first |(exact run_equalIn_bool' w _ _ _ _ hu) |cases h0
 ·cases e
theorem dP{t:TypeId}{cs:Array Value}{off:Nat}{v:Value}(h:jW P t=some false)(hc:cs[off]? =some v):(part t cs off).run P w=.ok v w:=by
 simp[part,(hJ h w).1,hc]
theorem kC{t:TypeId}{cs:Array Value}{off:Nat}(h:jW P t=some true):(part t cs off).run P w=.ok (.agg (cs.extract off (off+P.cellsOf t))) w:=by
 simp[part,(hJ h w).1,(hJ h w).2]
theorem tH{xs ys:Array Value}{d0:Nat}:∀(fs:List Field) (i:Nat) (ks:List Nat) (as bs:List D) (b:Bool),mc P i fs=some ks→VCs c as (xs.toList.drop i)→VCs c bs (ys.toList.drop i)→uD ks as bs=some b→
  (Op.eqFields (d0+1) xs ys fs).run P w=.ok b w
 | [],i,ks,as,bs,b,hk,_,_,e=>by
  simp only[mc,xJ]at hk
  subst hk
  cases as <;>cases bs <;>simp[uD]at e
  subst e;simp[Op.eqFields]
 |f::fs,i,ks,as,bs,b,hk,ha,hb,e=>by
  simp only[mc]at hk
  split at hk
  ·rename_i hf
   obtain⟨rfl,hn⟩:=hf;simp only[xB,xM]at hk
   obtain⟨n,h1,ns,h2,rfl⟩:=hk
   match as,bs,e with
   |a::r,b0::q,e=>
    simp only[uD,xB,xM]at e
    obtain⟨x,e1,y,e2,rfl⟩:=e;simp only[VCs]at ha hb
    obtain⟨v,r1,k1,k2,k3⟩:=ha;obtain⟨u,r2,m1,m2,m3⟩:=hb
    have hg:∀(zs:Array Value) (z:Value) (r:List Value),zs.toList.drop f.offset=z::r→zs[f.offset]? =some z∧zs.toList.drop (f.offset+1)=r:=fun zs z r hz=>by
     constructor
     ·have:(zs.toList.drop f.offset)[0]? =some z:=by rw[hz];rfl
      rw[List.getElem?_drop,Nat.add_zero,yM]at this
      exact this
     ·have:(zs.toList.drop f.offset).drop 1=r:=by rw[hz];rfl
      rwa [List.drop_drop]at this
    obtain⟨g1,g2⟩:=hg xs v r1 k1;obtain⟨g3,g4⟩:=hg ys u r2 m1;have ih:=tH (d0:=d0) fs (f.offset+1) ns r q y h2 (by rw[g2];exact k3) (by rw[g4];exact m3) e2
    have he:=RU (w:=w) (d0:=d0) h1 k2 m2 e1;have hag:=wA h1;simp only[Op.eqFields,ne_eq,hn,not_false_eq_true,if_true,Sem.run_bind,dP hag g1,dP hag g3,Result.andThen_ok,he];cases x
    ·simp
    ·simpa using ih
  ·cases hk
theorem n7{t:TypeId}{ks:List Nat}(h:sg P t=some ks):∃fs,P.underlying t=some (.struct fs)∧P.stoodInHeld t=false∧P.eqGuardType P.depth t=false∧mc P 0 fs.toList=some ks:=by
 unfold sg at h
 split at h
 ·split at h
  ·rename_i h1;exact⟨_,‹_›,h1.1,h1.2,h⟩
  ·cases h
 ·cases h
theorem IO{t:TypeId}{ks:List Nat}{d0:Nat}{as bs:List D}{xs ys:Array Value}{b:Bool}(h:sg P t=some ks)(ha:VCs c as xs.toList)(hb:VCs c bs ys.toList)(e:uD ks as bs=some b):
  (Op.equalIn (d0+2) t (.agg xs) (.agg ys)).run P w=.ok b w:=by
 obtain⟨fs,h1,h2,_,h4⟩:=n7 h;have hf:P.fieldsOf t=fs:=by simp[Program.fieldsOf,h1]
 rw[run_equalIn_struct w (d0+1) t xs ys (by rw[hf];exact h1) h2,hf]
 exact tH (d0:=d0) fs.toList 0 ks as bs b h4 (by simpa using ha) (by simpa using hb) e
end
section
variable{P:Program}{c:Cx}{K:Root→Option T}{hd:Root→Value}{w:World}
section
variable(d:Nat)(t:TypeId){b:Bool}
theorem wB{e:TypeId}(hu:P.underlying t=some (.slice e))(a:Option Addr)(l k:Nat):(Op.equalIn (d+1) t (.slice a l k) (.slice none 0 0)).run P w=.ok a.isNone w∧(Op.equalIn (d+1) t (.slice none 0 0) (.slice a l k)).run P w=.ok a.isNone w:=by
 constructor <;>cases a <;>simp[Op.equalIn,run_underlying hu]
theorem qT{e:TypeId}(hu:P.underlying t=some (.pointer e))(a:Option Addr):(Op.equalIn (d+1) t (.pointer a) (.pointer none)).run P w=.ok a.isNone w∧(Op.equalIn (d+1) t (.pointer none) (.pointer a)).run P w=.ok a.isNone w:=by
 constructor <;>cases a <;>simp[Op.equalIn,run_underlying hu]
theorem Ce{x y:TypeId}(hu:P.underlying t=some (.map x y))(a:Option Nat):(Op.equalIn (d+1) t (.map a) (.map none)).run P w=.ok a.isNone w∧(Op.equalIn (d+1) t (.map none) (.map a)).run P w=.ok a.isNone w:=by
 constructor <;>cases a <;>simp[Op.equalIn,run_underlying hu]
theorem n8{x y:Array TypeId}{z:Bool}(hu:P.underlying t=some (.func x y z))(f:Fn)(a c:Array Value):(Op.equalIn (d+1) t (.func f a c) .nilFunc).run P w=.ok false w∧(Op.equalIn (d+1) t .nilFunc (.func f a c)).run P w=.ok false w∧(Op.equalIn (d+1) t .nilFunc .nilFunc).run P w=.ok true w:=by
 refine⟨?_,?_,?_⟩ <;>simp[Op.equalIn,run_underlying hu]
theorem kD{x:Array (String×TypeId)}(hu:P.underlying t=some (.interface x))(f:TypeId)(v:Value):(Op.equalIn (d+1) t (.iface f v) .nilIface).run P w=.ok false w∧(Op.equalIn (d+1) t .nilIface (.iface f v)).run P w=.ok false w∧(Op.equalIn (d+1) t .nilIface .nilIface).run P w=.ok true w:=by
 refine⟨?_,?_,?_⟩ <;>simp[Op.equalIn,run_underlying hu]
end
theorem sB{cst b:Bool}{t:TypeId}{n:D}{x:SV}{ox oy:Operand}{v nv:Value}(hn:VV c n nv)(hx:SO c K hd x v)(hc:cst=true→isConst ox=true∨isConst oy=true)(e:si P cst t n x=some b):
  oC P w t ox oy v nv b∧oC P w t ox oy nv v b:=by
 have key:∀v u,(∀op,eqGuard op t ox oy v u=pure ())→(∀u' a,¬(v=.int u' a))→(∀u' a,¬(u=.int u' a))→(Op.equal t v u).run P w=.ok b w→(binOp .eql t v u=do pure (.bool (←Op.equal t v u)))→(binOp .neq t v u=do pure (.bool (!(←Op.equal t v u))))→oC P w t ox oy v u b:=by
  intro v u h1 _ _ h2 h3 h4
  refine⟨?_,?_⟩
  ·simp[h1,h3,h2]
  ·simp[h1,h4,h2]
 unfold si at e
 split at e
 ·-- slices
  have hnv:nv=.slice none 0 0:=by have:=hn.inv (by simp);simpa [VC]using this
  subst hnv
  split at e
  ·rename_i el hu
   have fin:∀a l k,(b=a.isNone)→oC P w t ox oy (.slice a l k) (.slice none 0 0) b∧oC P w t ox oy (.slice none 0 0) (.slice a l k) b:=fun a l k hb=>by
    subst hb;constructor
    ·exact key _ _ (fun op=>eqGuard_at_slice ..) (by simp) (by simp) (wB 9999 t hu ..).1 rfl rfl
    ·exact key _ _ (fun op=>eqGuard_at_slice ..) (by simp) (by simp) (wB 9999 t hu ..).2 rfl rfl
   split at e <;>simp only[xJ,reduceCtorEq]at e <;>subst e
   ·have:=VV.inv hx (by simp);simp only[VC,xC,and_true]at this;subst this;exact fin _ _ _ rfl
   ·have:=VV.inv hx (by simp)
    simp only[VC,xC,and_true]at this
    obtain⟨a,len,cap,rfl,_,_,h4⟩:=this;obtain⟨ad,sz,rfl,_⟩:=h4 (by simp)
    exact fin _ _ _ rfl
   ·obtain⟨h1,a,rfl⟩:=hx
    simp only[VC,xC,and_true]at h1
    obtain⟨a',len,cap,h1,_,_,h4⟩:=h1;obtain⟨ad,sz,rfl,_⟩:=h4 (by simp)
    simp only[Value.slice.injEq]at h1
    rw[h1.1];exact fin _ _ _ rfl
   ·obtain⟨a,cap,rfl,hb⟩:=hx
    exact fin _ _ _ hb
   ·obtain⟨t0,es,h',b1,b2,b3,b4,b5⟩:=hx
    obtain⟨a,n,cap,a',cap',m1,m2,m3,m4,m5⟩:=b5;obtain⟨g,el',n1,n2,n3⟩:=m5 (by omega)
    subst m2;subst n3;exact fin _ _ _ rfl
  ·cases e
 ·have hnv:nv=.pointer none:=by have:=hn.inv (by simp);simpa [VC]using this
  subst hnv
  split at e
  ·rename_i el hu
   have fin:∀a,(b=a.isNone)→oC P w t ox oy (.pointer a) (.pointer none) b∧oC P w t ox oy (.pointer none) (.pointer a) b:=fun a hb=>by
    subst hb;constructor
    ·exact key _ _ (fun op=>eqGuard_at_pointer ..) (by simp) (by simp) (qT 9999 t hu ..).1 rfl rfl
    ·exact key _ _ (fun op=>eqGuard_at_pointer ..) (by simp) (by simp) (qT 9999 t hu ..).2 rfl rfl
   split at e <;>simp only[xJ,reduceCtorEq]at e <;>subst e
   ·have:=VV.inv hx (by simp);simp only[VC,xC,and_true]at this;subst this;exact fin _ rfl
   ·have:=VV.inv hx (by simp);simp only[VC,xC,and_true]at this;rw[this.2];exact fin _ rfl
   ·have:=VV.inv hx (by simp);simp only[VC,xC,and_true]at this;obtain⟨a,vs,rfl,_⟩:=this;exact fin _ rfl
   ·obtain⟨t0,es,g,n,cap,el',h1,h2,h3,h4,h5,rfl⟩:=hx;exact fin _ rfl
   ·obtain⟨a,vs,rfl,_⟩:=hx;exact fin _ rfl
  ·cases e
 ·have hnv:nv=.map none:=by have:=hn.inv (by simp);simpa [VC]using this
  subst hnv
  split at e
  ·rename_i el hu
   have fin:∀a,(b=a.isNone)→oC P w t ox oy (.map a) (.map none) b∧oC P w t ox oy (.map none) (.map a) b:=fun a hb=>by
    subst hb;constructor
    ·exact key _ _ (fun op=>eqGuard_at_map ..) (by simp) (by simp) (Ce 9999 t hu ..).1 rfl rfl
    ·exact key _ _ (fun op=>eqGuard_at_map ..) (by simp) (by simp) (Ce 9999 t hu ..).2 rfl rfl
   split at e <;>simp only[xJ,reduceCtorEq]at e <;>subst e
   ·have:=VV.inv hx (by simp);simp only[VC,xC,and_true]at this;subst this;exact fin _ rfl
   ·have:=VV.inv hx (by simp);simp only[VC,xC,and_true]at this;rw[this.2];exact fin _ rfl
  ·cases e
 ·have hnv:nv=.nilFunc:=by have:=hn.inv (by simp);simpa [VC]using this
  subst hnv
  split at e
  ·rename_i el hu hu
   split at e <;>simp only[xJ,reduceCtorEq]at e <;>subst e
   ·have:=VV.inv hx (by simp);simp only[VC,xC,and_true]at this;subst this
    constructor
    ·exact key _ _ (fun op=>eqGuard_at_nilFunc ..) (by simp) (by simp) (n8 9999 t hu (.func 0) #[] #[]).2.2 rfl rfl
    ·exact key _ _ (fun op=>eqGuard_at_nilFunc ..) (by simp) (by simp) (n8 9999 t hu (.func 0) #[] #[]).2.2 rfl rfl
   ·have:=VV.inv hx (by simp);simp only[VC,xC,and_true]at this
    obtain⟨av,bv,rfl,_⟩:=this;constructor
    ·exact key _ _ (fun op=>eqGuard_at_func ..) (by simp) (by simp) (n8 9999 t hu ..).1 rfl rfl
    ·exact key _ _ (fun op=>eqGuard_at_nilFunc ..) (by simp) (by simp) (n8 9999 t hu ..).2.1 rfl rfl
  ·cases e
 ·have hnv:nv=.nilIface:=by have:=hn.inv (by simp);simpa [VC]using this
  subst hnv
  split at e
  ·rename_i el hu
   split at e
   ·have:=VV.inv hx (by simp);simp only[VC,xC,and_true]at this;subst this
    split at e
    ·rename_i hcst
     simp only[xJ]at e;subst e
     have hg:∀op,eqGuard op t ox oy .nilIface .nilIface=pure ():=fun op=>by
      rcases hc hcst with h |h
      ·cases ox with
       |const x=>exact eqGuard_nil_constL ..
       |_=>simp[isConst]at h
      ·cases oy with
       |const x=>exact eqGuard_nil_constR ..
       |_=>simp[isConst]at h
     constructor
     ·exact key _ _ hg (by simp) (by simp) (kD 9999 t hu 0 .nilIface).2.2 rfl rfl
     ·exact key _ _ hg (by simp) (by simp) (kD 9999 t hu 0 .nilIface).2.2 rfl rfl
    ·cases e
   ·simp only[xJ]at e;subst e
    have:=VV.inv hx (by simp);simp only[VC,xC,and_true]at this
    obtain⟨v,rfl,_⟩:=this;constructor
    ·exact key _ _ (fun op=>eqGuard_at_iface ..) (by simp) (by simp) (kD 9999 t hu ..).1 rfl rfl
    ·exact key _ _ (fun op=>eqGuard_nil_iface ..) (by simp) (by simp) (kD 9999 t hu ..).2.1 rfl rfl
   ·cases e
  ·cases e
 ·cases e
theorem IP{cst b:Bool}{t:TypeId}{x y:SV}{ox oy:Operand}{v u:Value}(hx:SO c K hd x v)(hy:SO c K hd y u)(hc:cst=true→isConst ox=true∨isConst oy=true)(e:eqV P cst t x y=some b):oC P w t ox oy v u b:=by
 unfold eqV at e
 split at e
 ·split at e
  ·rename_i hu
   simp only[xJ]at e;subst e
   rw[VV.of_bool hx,VV.of_bool hy]
   refine⟨?_,?_⟩ <;>simp[eqGuard_at_bool,binOp,Op.equal,Op.maxDepth,run_equalIn_bool' w _ _ _ _ hu]
  ·cases e
 ·simp only[xB]at e
  obtain⟨ks,h1,e⟩:=e;obtain⟨xs,rfl,hx'⟩:=VV.inv_agg hx;obtain⟨ys,rfl,hy'⟩:=VV.inv_agg hy;obtain⟨_,_,_,hm,_⟩:=n7 h1
  have:=IO (w:=w) (d0:=9998) h1 hx' hy' e
  refine⟨?_,?_⟩
  ·simp[run_eqGuard_agg w _ t ox oy xs ys hm,run_eql_struct,this]
  ·simp[run_eqGuard_agg w _ t ox oy xs ys hm,run_neq_struct,this]
 ·split at e
  ·rename_i h1
   simp only[xJ]at e;subst e
   exact(sB hy hx hc h1).1
  ·split at e
   ·exact(sB hx hy hc e).2
   ·cases e
 ·exact(sB hx hy hc e).2
 ·cases e
theorem MJ{cst:Bool}{op:BinOp}{t:TypeId}{x y:SV}{ox oy:Operand}{v u:Value}{d:D}(hx:SO c K hd x v)(hy:SO c K hd y u)(hc:cst=true→isConst ox=true∨isConst oy=true)(e:cE P cst op t x y=some d):
  ∃r,(do eqGuard op t ox oy v u;binOp op t v u:Sem Value).run P w=.ok r w∧VV c d r:=by
 unfold cE at e
 split at e
 ·rw[VV.of_int hx,VV.of_int hy,eqGuard_at_int]
  obtain⟨r,h1,h2⟩:=IL (P:=P) (c:=c) (w:=w) (cst:=cst) (op:=op) (t:=t) (d:=d) (by unfold cE;exact e)
  exact⟨r,by simp[h1],h2⟩
 ·obtain⟨a,rfl,rfl⟩:=VV.of_str hx
  obtain⟨a',rfl,rfl⟩:=VV.of_str hy;rw[eqGuard_at_string];obtain⟨r,h1,h2⟩:=IM (P:=P) (c:=c) (w:=w) (t:=t) e
  exact⟨r,by simp[h1],h2⟩
 ·split at e
  ·simp only[xM]at e
   obtain⟨b,e,rfl⟩:=e
   exact⟨_,(IP hx hy hc e).1,VV.mk_bool _⟩
  ·simp only[xM]at e
   obtain⟨b,e,rfl⟩:=e
   exact⟨_,(IP hx hy hc e).2,VV.mk_bool _⟩
  ·cases e
end
theorem wC{P:Program}{t:TypeId}{f o n:Nat}{ag:Bool}(h:ah P t f=some (o,n,ag)):∃(fs:Array Field) (x:Field),P.underlying t=some (.struct fs)∧fs[f]? =some x∧o=x.offset∧n=P.cellsOf x.type∧jW P x.type=some ag:=by
 unfold ah at h
 split at h
 ·simp only[xB,xM,pJ]at h
  obtain⟨x,h1,ag',h2,rfl,rfl,rfl⟩:=h
  exact⟨_,x,‹_›,h1,rfl,rfl,h2⟩
 ·cases h
theorem uO(a:Addr)(m n:Nat)(h:a.spot=none):(a.add m).add n=a.add (m+n):=by
 obtain⟨b,o,s⟩:=a;simp only at h;subst h;rw[aL,aL,aL,Nat.add_assoc]
theorem wD(a:Addr)(m:Nat)(h:a.spot=none):(a.add m).spot=none:=by
 obtain⟨b,o,s⟩:=a;simp only at h;subst h;rw[aL]
theorem VC.cells{c:Cx}{x:D}{cs:List Value}(h:VC c x cs):VCs c x.cells cs:=by
 have hl:=VC.len _ _ h
 cases x with
 |agg l=>simpa [VC,D.cells]using h
 |_=>
  simp only[D.nc]at hl
  match cs,hl with
  | [v],_=>simp only[D.cells,VCs];exact⟨v,[],rfl,h,rfl⟩
theorem VCs.drop{c:Cx}:∀(n:Nat) (l:List D) (cs:List Value),VCs c l cs→VCs c (l.drop n) (cs.drop n)
 |0,_,_,h=>by simpa using h
 |n+1,[],_,h=>by simp only[VCs]at h;subst h;simp[VCs]
 |n+1,d::ds,_,h=>by
  simp only[VCs]at h
  obtain⟨v,r,rfl,_,h3⟩:=h
  simpa using VCs.drop n ds r h3
section
variable{P:Program}{A:Av}{ρ:Nat→Nat}{S:Root→List Nat}{hd:Root→Value}{fl:List Nat}{k k':Wk}{vals:List (SV×Value)}{w:World}
theorem SB.rp_drop{c:Cx}{K:Root→Option T}{b:Bool}{cs:List D}{a:Addr}(h:SB c K hd (.rp b cs) (.pointer (some a)))(n:Nat):SB c K hd (.rp b (cs.drop n)) (.pointer (some (a.add n))):=by
 obtain⟨a',vs,h1,h2,h3,h4,h5⟩:=h;simp only[Value.pointer.injEq,xJ]at h1
 subst h1
 refine⟨_,vs.drop n,rfl,wD a n h2,by rw[eJ];exact h3,fun j u hj=> ?_,VCs.drop n _ _ h5⟩
 rw[List.getElem?_drop]at hj
 rw[uO a n j h2];exact h4 _ u hj
theorem tI(h:KR A ρ S hd fl k vals w){r:Root}{p:aE}{i off off':Nat}{v:Value}(hv:SB (aa A k.H.length ρ S fl w) k.get hd (.loc r p i off) v)(hl:lM k r p i off'=true)(hle:off≤off'):
  ∃a:Addr,v=.pointer (some a)∧a.spot=none∧SB (aa A k.H.length ρ S fl w) k.get hd (.loc r p i off') (.pointer (some (a.add (off' - off)))):=by
 obtain⟨t,es,g,n,cap,el,h1,h2,h3,h4,h5,rfl⟩:=hv;simp only[lM,h1,xS,h2,h4,yD]at hl
 refine⟨_,rfl,rfl,t,es,g,n,cap,el,h1,h2,h3,h4,hl,?_⟩
 rw[aL,show i * el.nc+off+(off' - off)=i * el.nc+off' by omega]
theorem zB{r:Root}{p:aE}{i off:Nat}(hl:lM k r p i off=true):∃t,k.get r=some t:=by
 unfold lM at hl
 cases h:k.get r with
 |none=>simp[h]at hl
 |some t=>exact⟨t,rfl⟩
theorem yV(h:KR A ρ S hd fl k vals w){t:TypeId}{f:Nat}{u sv:SV}{v:Value}(hu:SO (aa A k.H.length ρ S fl w) k.get hd u v)(e:cz P t u f k=some sv):
  ∃x,(Instr.fieldAt t v f).run P w=.ok x w∧SO (aa A k.H.length ρ S fl w) k.get hd sv x:=by
 simp only[cz,xB]at e
 obtain⟨⟨o,n,ag⟩,h1,e⟩:=e;obtain⟨fs,x,h2,h3,h4,h5,h6⟩:=wC h1;simp only at e
 split at e
 ·rename_i hn
  have hrun:∀a:Addr,(Instr.fieldAt t (.pointer (some a)) f).run P w=.ok (.pointer (some (a.add o))) w:=fun a=>by
   have:P.cellsOf x.type≠0:=by omega
   simp[Instr.fieldAt,run_underlying h2,h3,Instr.sureAddr,fieldPlace,(hJ h6 w).2,this,h4]
  split at e
  ·rename_i r p i off hl
   split at e
   ·rename_i hk
    simp only[xJ]at e;subst e
    obtain⟨t0,ht0⟩:=zB hk;obtain⟨a,rfl,_,hs⟩:=tI h (qQ h hu hl ht0) hk (Nat.le_add_right _ _);rw[Nat.add_sub_cancel_left]at hs
    exact⟨_,hrun a,hs⟩
   ·cases e
  ·rename_i b cs hl
   simp only[xJ]at e;subst e
   replace hu:=wu hl hu
   obtain⟨a,vs,rfl,_⟩:=id hu
   exact⟨_,hrun a,SB.rp_drop (K:=k.get) (hd:=hd) hu o⟩
  ·cases e
 ·cases e
theorem iX{e:TypeId}(h:(P.info? e).isSome=true):(sizeOf e).run P w=.ok (P.cellsOf e) w:=by
 cases hi:P.info? e with
 |none=>simp[hi]at h
 |some i=>simp[sizeOf,typeInfo,hi,Program.cellsOf]
theorem mi{e:TypeId}(h:0<P.cellsOf e):(P.info? e).isSome=true:=by
 cases hi:P.info? e with
 |none=>simp[Program.cellsOf,hi]at h
 |some i=>rfl
theorem mj{t e:TypeId}{a:Addr}{len cap:Nat}{q:IntKind}{n:Int}(hu:P.underlying t=some (.slice e))(h0:0≤n)(hn:n<len)(hi:(P.info? e).isSome=true):
  (Instr.indexAt t (.slice (some a) len cap) (.int q n)).run P w=.ok (.pointer (some (a.add (n.toNat * P.cellsOf e)))) w:=by
 simp[Instr.indexAt,asIntOf,run_underlying hu,h0,hn,iX hi]
theorem lQ{t e:TypeId}{a:Addr}{len:Nat}{q:IntKind}{n:Int}(hu:P.underlying t=some (.array len e))(h0:0≤n)(hn:n<len)(hi:(P.info? e).isSome=true):
  (Instr.indexAt t (.pointer (some a)) (.int q n)).run P w=.ok (.pointer (some (a.add (n.toNat * P.cellsOf e)))) w:=by
 simp[Instr.indexAt,asIntOf,run_underlying hu,h0,hn,iX hi,Instr.sureAddr]
theorem MK{c:Cx}{K:Root→Option T}{b:Bool}{l:List D}{v:Value}(h:VC c (.sl b l) [v]){n:Nat}{y:D}(hy:l[n]? =some y):
  ∃ad len cap,v=.slice (some ad) len cap∧len=l.length∧0<y.nc∧SB c K hd (.rp b y.cells) (.pointer (some (ad.add (n * y.nc)))):=by
 simp only[VC,xC,and_true]at h
 obtain⟨a,len,cap,rfl,h2,h3,h4⟩:=h;obtain⟨ad,sz,rfl,h6,h7,h8,h9⟩:=h4 (by rintro rfl;simp at hy)
 obtain⟨g1,cs,g2,g3⟩:=VE.get l ad 0 sz h9 n y hy
 refine⟨ad,len,cap,rfl,h2,by omega,_,cs,rfl,wD _ _ h6,by rw[eJ];exact h7,fun j u hj=> ?_,VC.cells g3⟩
 rw[uO _ _ _ h6,g1]
 simpa using g2 j u hj
theorem yW(h:KR A ρ S hd fl k vals w){t:TypeId}{u i sv:SV}{v iv:Value}(hu:SO (aa A k.H.length ρ S fl w) k.get hd u v)(hi:SO (aa A k.H.length ρ S fl w) k.get hd i iv)(e:cy P t u i k=some sv):
  ∃x,(Instr.indexAt t v iv).run P w=.ok x w∧SO (aa A k.H.length ρ S fl w) k.get hd sv x:=by
 unfold cy at e
 split at e
 ·rename_i q n
  rw[VV.of_int hi]
  split at e
  ·rename_i el hel
   have pure:∀b l,VC (aa A k.H.length ρ S fl w) (.sl b l) [v]→(if 0≤n then(l[n.toNat]?).bind fun y=>if y.nc=P.cellsOf el then some (SV.rp b y.cells)else none else none)=some sv→
     ∃x,(Instr.indexAt t v (.int q n)).run P w=.ok x w∧SO (aa A k.H.length ρ S fl w) k.get hd sv x:=by
    intro b l hv e
    split at e
    ·rename_i h0
     simp only[xB]at e
     obtain⟨y,hy,e⟩:=e
     split at e
     ·rename_i hnc
      simp only[xJ]at e;subst e
      obtain⟨ad,len,cap,rfl,h2,h3,h4⟩:=MK (K:=k.get) (hd:=hd) hv hy;have hlt:=(List.getElem?_eq_some_iff.1 hy).1
      refine⟨_,mj hel h0 (by omega) (mi (by omega)),?_⟩
      rw[←hnc];exact h4
     ·cases e
    ·cases e
   split at e
   ·exact pure _ _ (VV.inv hu (by simp)) e
   ·exact pure _ _ hu.1 e
   ·rename_i r p off len
    split at e
    ·rename_i hn
     obtain⟨t0,es,h',b1,b2,b3,b4,b5⟩:=id hu;simp only[b1,b2,xS,xB]at e
     obtain⟨y,hy,e⟩:=e
     split at e
     ·rename_i hnc
      simp only[xJ]at e;subst e
      obtain⟨a,m,cap,a',cap',m1,m2,m3,m4,m5⟩:=b5;obtain⟨g,el0,n1,n2,n3⟩:=m5 (by omega)
      subst m2;subst n3;subst n1;subst m1;obtain⟨h0,L,Sn,R,hS,foc⟩:=TC.focus p t0 (hd r) (S r) (.own es) (h.cont r t0 b1) b2;have hh:=NodeH.uniq p t0 (hd r) _ _ foc.node b3;subst hh
      rcases foc.tc with⟨a,_,k2,_⟩ |⟨g',cap',cur,e,sz,S',k1,k2,k3,k4,k5,k6,k7,k8⟩
      ·subst k2;simp at n2
      ·have hu1:=(TE.len _ _ _ _ k8).2 el0 (yS n2)
       have hu2:=(TE.len _ _ _ _ k8).2 y (yS hy);have hsz:0<sz:=Nat.pos_of_mul_pos_left k7
       refine⟨_,mj hel hn.1 hn.2 (mi (by omega)),t0,es,g,m,cap,y,b1,b2,b3,hy,by omega,?_⟩
       rw[aL,hu1,←hnc,hu2,Nat.add_mul]
       simp
     ·cases e
    ·cases e
   ·cases e
  ·rename_i len el hel
   split at e
   ·rename_i r p j off hl
    split at e
    ·rename_i hc
     simp only[xJ]at e;subst e
     obtain⟨t0,ht0⟩:=zB hc.2.2.2;obtain⟨a,rfl,_,hs⟩:=tI h (qQ h hu hl ht0) hc.2.2.2 (Nat.le_add_right _ _);rw[Nat.add_sub_cancel_left]at hs
     exact⟨_,lQ hel hc.1 hc.2.1 hc.2.2.1,hs⟩
    ·cases e
   ·rename_i b cs hl
    split at e
    ·rename_i hc
     simp only[xJ]at e;subst e
     replace hu:=wu hl hu
     obtain⟨a,vs,rfl,_⟩:=id hu
     exact⟨_,lQ hel hc.1 hc.2.1 hc.2.2,SB.rp_drop (K:=k.get) (hd:=hd) hu _⟩
    ·cases e
   ·cases e
  ·cases e
 ·cases e
end
section
variable{P:Program}{c:Cx}{K:Root→Option T}{hd:Root→Value}{w:World}
theorem CO.cell1{x sv:SV}{v:Value}(h:CO c K hd x v)(e:Go.Am.cell1 x=some sv):SO c K hd sv v:=by
 cases x with
 |d y=>
  by_cases hy:∃l,y=.agg l
  ·obtain⟨l,rfl⟩:=hy;simp[Go.Am.cell1]at e
  ·have:Go.Am.cell1 (.d y)=some (.d y):=by cases y <;>first |rfl |exact absurd ⟨_,rfl⟩ hy
   rw[this]at e
   simp only[xJ]at e;subst e
   exact VV.one h (fun l hl=>hy ⟨l,hl⟩)
 |agg l=>exact False.elim h
 |tup l=>exact False.elim h
 |_=>simp only[Go.Am.cell1,xJ]at e;subst e;exact h
theorem ml(cs:Array Value)(o n:Nat):(cs.extract o (o+n)).toList=win cs.toList o n:=by
 simp[win,Array.toList_extract,List.extract_eq_take_drop]
theorem Gt{t:TypeId}{f:Nat}{u sv:SV}{v:Value}(hu:SO c K hd u v)(e:vY P t u f=some sv):
  ∃x,(Instr.field t v f).run P w=.ok x w∧SO c K hd sv x:=by
 simp only[vY,xB]at e
 obtain⟨⟨o,n,ag⟩,h1,e⟩:=e;obtain⟨fs,x,h2,h3,h4,h5,h6⟩:=wC h1;simp only at e
 have hrun:∀(cs:Array Value),(Instr.field t (.agg cs) f).run P w=(part x.type cs o).run P w:=fun cs=>by
  simp[Instr.field,run_underlying h2,h3,asAgg,h4]
 split at e
 ·rename_i l
  obtain⟨cs,rfl,hv⟩:=VV.inv_agg hu;rw[hrun]
  split at e
  ·rename_i hag
   subst hag
   split at e
   ·rename_i hle
    simp only[xJ]at e;subst e
    refine⟨_,kC h6,VV.agg ?_⟩
    rw[ml,←h5];exact VCs.win l _ hv o n
   ·cases e
  ·rename_i hag
   have hag:ag=false:=by simpa using hag
   subst hag;simp only[xB]at e
   obtain⟨y,hy,e⟩:=e;obtain⟨rfl,hne⟩:=D.sv1_ok e;obtain⟨z,g1,g2⟩:=VCs.get l _ hv o y hy
   exact⟨z,dP h6 (by simpa using g1),VV.one g2 hne⟩
 ·rename_i l
  obtain⟨cs,rfl,hv⟩:=hu;rw[hrun];unfold Qg at e
  split at e
  ·rename_i hag
   subst hag
   split at e
   ·rename_i hle
    simp only[xJ]at e;subst e
    refine⟨_,kC h6,?_⟩
    have:=SV.mkAgg_ok (hv.win o n)
    rw[←h5];rw[←ml,Array.toArray_toList]at this
    exact this
   ·cases e
  ·rename_i hag
   have hag:ag=false:=by simpa using hag
   subst hag;simp only[xB]at e
   obtain⟨y,hy,e⟩:=e;obtain⟨z,g1,g2⟩:=hv.get hy
   exact⟨z,dP h6 (by simpa using g1),g2.cell1 e⟩
 ·cases e
theorem Gu{t:TypeId}{u i sv:SV}{v iv:Value}(hu:SO c K hd u v)(hi:SO c K hd i iv)(e:me P t u i=some sv):
  ∃x,(Instr.index t v iv).run P w=.ok x w∧SO c K hd sv x:=by
 unfold me at e
 split at e
 ·rename_i q n
  rw[VV.of_int hi]
  split at e
  ·rename_i s
   split at e
   ·rename_i hs
    split at e
    ·rename_i h0
     simp only[xM]at e
     obtain⟨b,hb,rfl⟩:=e;obtain⟨a,rfl,rfl⟩:=VV.of_str hu
     have hlt:n.toNat<a.size:=by
      have:=(List.getElem?_eq_some_iff.1 hb).1
      simpa using this
     refine⟨.int .u8 b.toNat,?_,VV.mk_int _ _⟩
     rw[run_index_string w t a q n hs,dif_pos ⟨h0,by omega⟩]
     have:a[n.toNat]'hlt=b:=by
      have:=(List.getElem?_eq_some_iff.1 hb).2
      rw[Array.getElem_toList]at this
      exact this
     rw[this]
    ·cases e
   ·cases e
  ·rename_i l
   obtain⟨cs,rfl,hv⟩:=VV.inv_agg hu
   split at e
   ·rename_i len el hel
    split at e
    ·rename_i hn
     simp only[xB]at e
     obtain⟨ag,hag,e⟩:=e
     have hrun:(Instr.index t (.agg cs) (.int q n)).run P w=(part el cs (n.toNat * P.cellsOf el)).run P w:=by
      simp[Instr.index,asIntOf,run_underlying hel,hn.1,hn.2.1,iX (mi hn.2.2)]
     rw[hrun]
     split at e
     ·rename_i hag'
      subst hag'
      split at e
      ·simp only[xJ]at e;subst e
       refine⟨_,kC hag,VV.agg ?_⟩
       rw[ml];exact VCs.win l _ hv _ _
      ·cases e
     ·rename_i hag'
      have hag':ag=false:=by simpa using hag'
      subst hag';simp only[xB]at e
      obtain⟨y,hy,e⟩:=e;obtain⟨rfl,hne⟩:=D.sv1_ok e;obtain⟨z,g1,g2⟩:=VCs.get l _ hv _ y hy
      exact⟨z,dP hag (by simpa using g1),VV.one g2 hne⟩
    ·cases e
   ·cases e
  ·cases e
 ·cases e
end
def yX(R:SV→Value→Prop):Option SV→Option Value→Prop
 |none,none=>True
 |some s,some v=>R s v
 |_,_=>False
section
variable{P:Program}{c:Cx}{K:Root→Option T}{hd:Root→Value}{w:World}
theorem j4{x:Option SV}{v:Option Value}{d n y:Nat}{code:BoundsCode}(hx:yX (SO c K hd) x v)(e:bf x d=some n)(hle:n≤y):
  (v=none∧n=d)∨∃u,v=some u∧x.isSome=true∧(Instr.sliceBound u y code).run P w=.ok n w:=by
 unfold bf at e
 split at e
 ·simp only[xJ]at e
  cases v with
  |none=>exact .inl ⟨rfl,e.symm⟩
  |some u=>exact hx.elim
 ·rename_i q z
  split at e
  ·simp only[xJ]at e
   cases v with
   |none=>exact hx.elim
   |some u=>
    rw[VV.of_int hx];refine .inr ⟨_,rfl,rfl,?_⟩;rw[run_sliceBound w q z y code (by omega) (by omega),e]
  ·cases e
 ·cases e
theorem uP{lo hi:Option SV}{lv hv:Option Value}{l h len cap:Nat}{b:Bool}(hl:yX (SO c K hd) lo lv)(hh:yX (SO c K hd) hi hv)(el:bf lo 0=some l)(eh:bf hi len=some h)(h1:l≤h)(h2:h≤cap)(h3:len≤cap):
  (Instr.sliceBounds b len cap lv hv none).run P w=.ok (l,h,cap) w:=by
 rcases j4 (P:=P) (w:=w) (code:=if b then .sliceAcap else .sliceAlen) hh eh h2 with⟨rfl,rfl⟩ |⟨u,rfl,_,hr⟩ <;>
 rcases j4 (P:=P) (w:=w) (code:=.sliceB) hl el h1 with⟨rfl,rfl⟩ |⟨u',rfl,_,hr'⟩ <;>simp_all [Instr.sliceBounds]
theorem AH{lo hi:Option SV}{m:SV}{lv hv:Option Value}{mv:Value}{l h mm len cap:Nat}{b:Bool}(hl:yX (SO c K hd) lo lv)(hh:yX (SO c K hd) hi hv)(hm:SO c K hd m mv)(el:bf lo 0=some l)(eh:bf hi len=some h)(em:bf (some m) 0=some mm)(hs:hi.isSome=true)(h1:l≤h)(h2:h≤mm)(h3:mm≤cap):
  (Instr.sliceBounds b len cap lv hv (some mv)).run P w=.ok (l,h,mm) w:=by
 rcases j4 (P:=P) (w:=w) (code:=if b then .slice3Acap else .slice3Alen) (x:=some m) (v:=some mv) (show yX (SO c K hd) (some m) (some mv)from hm) em h3 with⟨h0,_⟩ |⟨u2,h0,_,hr2⟩
 ·cases h0
 ·simp only[xJ]at h0
  subst h0
  rcases j4 (P:=P) (w:=w) (code:=.slice3B) hh eh h2 with⟨rfl,rfl⟩ |⟨u,rfl,_,hr⟩
  ·cases hi with
   |none=>cases hs
   |some x=>exact hh.elim
  ·rcases j4 (P:=P) (w:=w) (code:=.slice3C) hl el h1 with⟨rfl,rfl⟩ |⟨u',rfl,_,hr'⟩ <;>simp_all [Instr.sliceBounds]
theorem db{t e:TypeId}{a:Option Addr}{len cap l h m:Nat}{lv hv mv:Option Value}(hu:P.underlying t=some (.slice e))(hi:(P.info? e).isSome=true)(hb:(Instr.sliceBounds true len cap lv hv mv).run P w=.ok (l,h,m) w):
  (Instr.sliceAt t (.slice a len cap) lv hv mv).run P w=.ok (.slice (if m=l then a else a.map (·.add (l * P.cellsOf e))) (h - l) (m - l)) w:=by
 simp[Instr.sliceAt,run_underlying hu,Instr.slice,hb,iX hi]
theorem uG{t:TypeId}{s:ByteArray}{l h m:Nat}{lv hv:Option Value}(hu:P.underlying t=some .string)(hb:(Instr.sliceBounds false s.size s.size lv hv none).run P w=.ok (l,h,m) w):
  (Instr.sliceAt t (.string s) lv hv none).run P w=.ok (.string (s.extract l h)) w:=by
 simp[Instr.sliceAt,run_underlying hu,Instr.slice,hb]
theorem IQ{b:Bool}{xs:List D}{a:Option Addr}{len cap l h m n:Nat}(hv:VC c (.sl b xs) [.slice a len cap])(h1:l≤h)(h2:h≤xs.length)(h3:h≤m)(h4:m≤cap)(hn:headD n (win xs l (h - l))=true):
  VC c (.sl b (win xs l (h - l))) [.slice (if m=l then a else a.map (·.add (l * n))) (h - l) (m - l)]:=by
 simp only[VC,xC,Value.slice.injEq,and_true]at hv ⊢
 obtain⟨a',len',cap',⟨rfl,rfl,rfl⟩,q2,q3,q4⟩:=hv;have hwl:(win xs l (h - l)).length=h - l:=eC _ _ _ (by omega)
 refine⟨_,_,_,⟨rfl,rfl,rfl⟩,hwl.symm,by omega,fun hne=> ?_⟩
 have hpos:l<h:=by
  rcases Nat.lt_or_ge l h with h0 |h0
  ·exact h0
  ·exfalso;apply hne;exact yL (by omega)
 obtain⟨ad,sz,rfl,g1,g2,g3,g4⟩:=q4 (by rintro rfl;simp at h2;omega)
 have hhead:n=sz:=by
  cases hx:win xs l (h - l)with
  |nil=>exact absurd hx hne
  |cons y r=>
   rw[hx]at hn
   simp only[headD,beq_iff_eq]at hn
   have hy:xs[l]? =some y:=by
    have:(win xs l (h - l))[0]? =some y:=by rw[hx];rfl
    simpa using uN this
   rw[←hn];exact(VE.get xs ad 0 sz g4 l y hy).1
 refine⟨ad.add (l * n),sz,by rw[if_neg (by omega)];rfl,wD _ _ g1,by rw[eJ];exact g2,g3,?_⟩
 refine VE.shift _ (0+l * sz) 0 sz (fun j=> ?_) (g4.win l (h - l))
 rw[uO _ _ _ g1,hhead]
 simp
theorem Cg{s:List UInt8}{v:Value}{l h:Nat}(hv:VV c (.str s) v)(h1:l≤h)(h2:h≤s.length):∃a:ByteArray,v=.string a∧a.size=s.length∧VV c (.str (win s l (h - l))) (.string (a.extract l h)):=by
 obtain⟨a,rfl,rfl⟩:=hv.of_str
 refine⟨a,rfl,by simp,VV.mk_str ?_⟩
 have:(a.extract l h).data=a.data.extract l h:=by simp[ByteArray.data_extract]
 rw[this,Array.toList_extract,List.extract_eq_take_drop];rfl
end
section
variable{P:Program}{A:Av}{ρ:Nat→Nat}{S:Root→List Nat}{hd:Root→Value}{fl:List Nat}{k k':Wk}{vals:List (SV×Value)}{w:World}
theorem AI(h:KR A ρ S hd fl k vals w){r:Root}{p:aE}{off len:Nat}{v:Value}{l h' m n:Nat}(hv:SB (aa A k.H.length ρ S fl w) k.get hd (.bor r p off len) v)(h1:l≤h')(h2:h'≤len)(h3:h'≤m)(hn:lN n r p (off+l) (h' - l) k=true):
  ∃a cap,v=.slice a len cap∧len≤cap∧(m≤cap→SB (aa A k.H.length ρ S fl w) k.get hd (.bor r p (off+l) (h' - l)) (.slice (if m=l then a else a.map (·.add (l * n))) (h' - l) (m - l))):=by
 obtain⟨t0,es,hh,b1,b2,b3,b4,b5⟩:=id hv;obtain⟨a,mm,cap,a',cap',m1,m2,m3,m4,m5⟩:=b5;subst m2
 refine⟨a',cap',rfl,m3,fun hm=>⟨t0,es,hh,b1,b2,b3,by omega,a,mm,cap,_,m - l,m1,rfl,by omega,fun h0=> ?_,fun h0=> ?_⟩⟩
 ·obtain⟨q1,q2⟩:=m4 (by omega)
  have:l=0:=by omega
  subst this;subst q1
  refine⟨?_,by omega⟩
  split
  ·rfl
  ·cases a' with
   |none=>rfl
   |some ad=>
    simp only[xQ,xJ,Nat.zero_mul];rw[Addr.add_zero']
 ·obtain⟨g,el,n1,n2,n3⟩:=m5 (by omega)
  obtain⟨h0',L,Sn,R,hS,foc⟩:=TC.focus p t0 (hd r) (S r) (.own es) (h.cont r t0 b1) b2;have hlt:off+l<es.length:=by omega
  have hel:=xG hlt
  refine⟨g,es[off+l],n1,hel,?_⟩
  rw[if_neg (by omega),n3]
  simp only[xQ,xJ]
  have hnc:es[off+l].nc=n:=by
   simp only[lN,b1,b2,xS]at hn
   cases hx:win es (off+l) (h' - l)with
   |nil=>
    have:=eC es (off+l) (h' - l) (by omega)
    rw[hx]at this
    simp at this;omega
   |cons y q=>
    rw[hx]at hn
    simp only[headT,beq_iff_eq]at hn
    have:(win es (off+l) (h' - l))[0]? =some y:=by rw[hx];rfl
    have:=uN this
    rw[Nat.add_zero,hel]at this
    simp only[xJ]at this
    rw[this];exact hn
  rcases foc.tc with⟨a0,_,k2,_⟩ |⟨g',cap0,cur,e,sz,S',k1,k2,k3,k4,k5,k6,k7,k8⟩
  ·subst k2;simp at n2
  ·have e1:=(TE.len _ _ _ _ k8).2 el (yS n2)
   have e2:=(TE.len _ _ _ _ k8).2 _ (yS hel);rw[aL,e1,hnc.symm.trans e2,e2,Nat.add_mul]
theorem Gv(h:KR A ρ S hd fl k vals w){t:TypeId}{x sv:SV}{v:Value}{lo hi mx:Option SV}{lv hv mv:Option Value}(hx:SO (aa A k.H.length ρ S fl w) k.get hd x v)
  (hlo:yX (SO (aa A k.H.length ρ S fl w) k.get hd) lo lv) (hhi:yX (SO (aa A k.H.length ρ S fl w) k.get hd) hi hv) (hmx:yX (SO (aa A k.H.length ρ S fl w) k.get hd) mx mv) (e:fw P t x lo hi mx k=some sv):
  ∃u,(Instr.sliceAt t v lv hv mv).run P w=.ok u w∧SO (aa A k.H.length ρ S fl w) k.get hd sv u:=by
 unfold fw at e
 split at e
 ·split at e
  ·rename_i hu
   have:mv=none:=by cases mv with |none=>rfl |some y=>exact hmx.elim
   subst this;simp only[xB]at e
   obtain⟨l,e1,h',e2,e⟩:=e
   split at e
   ·rename_i hc
    simp only[xJ]at e;subst e
    obtain⟨a,rfl,ha,hr⟩:=Cg hx hc.1 hc.2;rw[ha.symm]at e2
    exact⟨_,uG hu (uP hlo hhi e1 e2 hc.1 (by omega) (Nat.le_refl _)),hr⟩
   ·cases e
  ·cases e
 ·rename_i b xs
  have hv':=VV.inv hx (by simp)
  have hs:∃a len cap,v=.slice a len cap∧len=xs.length∧len≤cap:=by
   simp only[VC,xC,and_true]at hv'
   obtain⟨a,len,cap,q1,q2,q3,_⟩:=hv'
   exact⟨a,len,cap,q1,q2,q3⟩
  obtain⟨a,len,cap,rfl,rfl,hcap⟩:=hs
  split at e
  ·rename_i el hu
   have:mv=none:=by cases mv with |none=>rfl |some y=>exact hmx.elim
   subst this;simp only[xB]at e
   obtain⟨l,e1,h',e2,e⟩:=e
   split at e
   ·rename_i hc
    simp only[xJ]at e;subst e
    exact⟨_,db hu hc.2.2.1 (uP hlo hhi e1 e2 hc.1 (by omega) hcap),VV.one (IQ hv' hc.1 hc.2.1 (by omega) (Nat.le_refl _) hc.2.2.2) (by simp)⟩
   ·cases e
  ·rename_i el m hu
   have:∃y,mv=some y∧SO (aa A k.H.length ρ S fl w) k.get hd m y:=by cases mv with |none=>exact hmx.elim |some y=>exact⟨y,rfl,hmx⟩
   obtain⟨y,rfl,hm⟩:=this;simp only[xB]at e
   obtain⟨l,e1,h',e2,mm,e3,e⟩:=e
   split at e
   ·rename_i hc
    obtain⟨c1,c2,c3,c4,c5,c6⟩:=hc;simp only[xJ]at e;subst e
    subst c2
    refine⟨_,db hu c5 (AH hlo hhi hm e1 e2 e3 c4 c1 (Nat.le_refl _) (by omega)),IQ hv' c1 c3 (Nat.le_refl _) (by omega) c6,?_⟩
    rw[eC _ _ _ (by omega)]
    exact⟨_,rfl⟩
   ·cases e
  ·cases e
 ·have hv':v=.slice none 0 0:=by have:=VV.inv hx (by simp);simpa [VC]using this
  subst hv'
  split at e
  ·rename_i el hu
   have:mv=none:=by cases mv with |none=>rfl |some y=>exact hmx.elim
   subst this;simp only[xB]at e
   obtain⟨l,e1,h',e2,e⟩:=e
   split at e
   ·rename_i hc
    obtain⟨rfl,rfl,c3⟩:=hc;simp only[xJ]at e;subst e
    refine⟨_,db hu c3 (uP hlo hhi e1 e2 (Nat.le_refl _) (Nat.le_refl _) (Nat.le_refl _)),VV.one (by simp[VC]) (by simp)⟩
   ·cases e
  ·rename_i el m hu
   have:∃y,mv=some y∧SO (aa A k.H.length ρ S fl w) k.get hd m y:=by cases mv with |none=>exact hmx.elim |some y=>exact⟨y,rfl,hmx⟩
   obtain⟨y,rfl,hm⟩:=this;simp only[xB]at e
   obtain⟨l,e1,h',e2,mm,e3,e⟩:=e
   split at e
   ·rename_i hc
    obtain⟨rfl,rfl,rfl,c4,c5⟩:=hc;simp only[xJ]at e;subst e
    refine⟨_,db hu c5 (AH hlo hhi hm e1 e2 e3 c4 (Nat.le_refl _) (Nat.le_refl _) (Nat.le_refl _)),VV.one (by simp[VC]) (by simp)⟩
   ·cases e
  ·cases e
 ·rename_i r p off len
  split at e
  ·rename_i el hu
   have:mv=none:=by cases mv with |none=>rfl |some y=>exact hmx.elim
   subst this;simp only[xB]at e
   obtain⟨l,e1,h',e2,e⟩:=e
   split at e
   ·rename_i hc
    obtain⟨c1,c2,c3,c4⟩:=hc;simp only[xJ]at e;subst e
    have hcap:∃a cap,v=.slice a len cap∧len≤cap:=by
     obtain⟨a,cap,q1,q2,_⟩:=AI h (m:=h') hx c1 c2 (Nat.le_refl _) c4
     exact⟨a,cap,q1,q2⟩
    obtain⟨a,cap,rfl,hlc⟩:=hcap;obtain⟨a',cap',q1,q2,q3⟩:=AI h (m:=cap) hx c1 c2 (by omega) c4
    simp only[Value.slice.injEq,true_and]at q1
    obtain⟨rfl,rfl⟩:=q1
    exact⟨_,db hu c3 (uP hlo hhi e1 e2 c1 (by omega) hlc),q3 (Nat.le_refl _)⟩
   ·cases e
  ·rename_i el m hu
   have:∃y,mv=some y∧SO (aa A k.H.length ρ S fl w) k.get hd m y:=by cases mv with |none=>exact hmx.elim |some y=>exact⟨y,rfl,hmx⟩
   obtain⟨y,rfl,hm⟩:=this;simp only[xB]at e
   obtain⟨l,e1,h',e2,mm,e3,e⟩:=e
   split at e
   ·rename_i hc
    obtain⟨c1,c2,c3,c4,c5,c6⟩:=hc;simp only[xJ]at e;subst e
    obtain⟨a,cap,rfl,q2,q3⟩:=AI h (m:=mm) hx c1 (by omega) c2 c6
    exact⟨_,db hu c5 (AH hlo hhi hm e1 e2 e3 c4 c1 c2 (by omega)),q3 (by omega)⟩
   ·cases e
  ·cases e
 ·cases e
theorem ML(h:KR A ρ S hd fl k vals w){t ty:TypeId}{x:SV}{v:Value}{n:Int}(hx:SO (aa A k.H.length ρ S fl w) k.get hd x v)(e:vZ P t k.H x=some n):(Builtin.len_ #[t] ty #[v]).run P w=.ok (.int .i64 n) w:=by
 unfold vZ at e
 split at e
 ·split at e
  ·rename_i hu
   simp only[xJ]at e;subst e
   obtain⟨a,rfl,rfl⟩:=VV.of_str hx;simp[Builtin.len_,run_underlying hu,goInt]
  ·cases e
 ·split at e
  ·rename_i hu
   simp only[xJ]at e;subst e
   have hv':v=.slice none 0 0:=by have:=VV.inv hx (by simp);simpa [VC]using this
   subst hv';simp[Builtin.len_,run_underlying hu,goInt]
  ·cases e
 ·split at e
  ·rename_i hu
   simp only[xJ]at e;subst e
   have hv':=VV.inv hx (by simp)
   simp only[VC,xC,and_true]at hv'
   obtain⟨a,len,cap,rfl,rfl,_⟩:=hv';simp[Builtin.len_,run_underlying hu,goInt]
  ·cases e
 ·split at e
  ·rename_i hu
   simp only[xJ]at e;subst e
   obtain⟨_,a,rfl⟩:=hx;simp[Builtin.len_,run_underlying hu,goInt]
  ·cases e
 ·split at e
  ·rename_i hu
   simp only[xJ]at e;subst e
   obtain⟨a,cap,rfl,_⟩:=hx;simp[Builtin.len_,run_underlying hu,goInt]
  ·cases e
 ·split at e
  ·rename_i hu
   simp only[xJ]at e;subst e
   obtain⟨t0,es,hh,b1,b2,b3,b4,b5⟩:=hx;obtain⟨a,mm,cap,a',cap',m1,rfl,m3,m4,m5⟩:=b5;simp[Builtin.len_,run_underlying hu,goInt]
  ·cases e
 ·split at e
  ·rename_i hu
   simp only[xJ]at e;subst e
   have hv':v=.map none:=by have:=VV.inv hx (by simp);simpa [VC]using this
   subst hv';simp[Builtin.len_,run_underlying hu,goInt]
  ·cases e
 ·rename_i o
  split at e
  ·rename_i hu ho
   simp only[xJ]at e;subst e
   have hv':=VV.inv hx (by simp)
   simp only[VC,xC,and_true]at hv'
   rw[hv'.2];obtain⟨M,m1,en,cl,m2,m3,_⟩:=h.map o _ ho rfl;have hl:=m3.len;have hb:w.heap[ρ o]? =some (.map en cl):=m2.1;simp only[yF]at hl
   simp[Builtin.len_,run_underlying hu,goInt,aa,getObj,Sem.run,hb,hl]
  ·cases e
 ·cases e
end
section
variable{P:Program}{c:Cx}{K:Root→Option T}{hd:Root→Value}{w:World}
theorem VCs.all2:∀(l:List D) (cs:List Value),VCs c l cs→All2 (CO c K hd) (l.map .d) cs
 | [],cs,h=>h
 |d::ds,cs,h=>by
  simp only[VCs]at h
  obtain⟨v,r,rfl,h2,h3⟩:=h
  exact⟨v,r,rfl,h2,VCs.all2 ds r h3⟩
theorem Ch{x:SV}{v:Value}(h:SO c K hd x v)(hs:x.solid=true):All2 (CO c K hd) x.cells v.cells.toList∧v.cells.size=x.nc:=by
 have one:∀(x:SV) (v:Value),SB c K hd x v→v.oneCell'=true→(∀l,x≠ .d (.agg l))→x.cells=[x]→x.nc=1→All2 (CO c K hd) x.cells v.cells.toList∧v.cells.size=x.nc:=fun x v h h1 h2 h3 h4=>by
  rw[h3,h4,fz h1]
  exact⟨⟨v,[],rfl,CO.of_SB h h2,rfl⟩,rfl⟩
 cases x with
 |d y=>
  by_cases hy:∃l,y=.agg l
  ·obtain⟨l,rfl⟩:=hy
   obtain⟨cs,rfl,h'⟩:=VV.inv_agg h
   exact⟨VCs.all2 l _ h',by simpa [SV.nc,D.nc,Value.cells]using VCs.len _ _ h'⟩
  ·have h1:=VV.inv h (fun l hl=>hy ⟨l,hl⟩)
   refine one _ v h (VC.one _ _ h1) (fun l hl=>by simp only[SV.d.injEq]at hl;exact hy ⟨l,hl⟩) ?_ ?_
   ·cases y <;>first |rfl |exact absurd ⟨_,rfl⟩ hy
   ·cases y <;>first |rfl |exact absurd ⟨_,rfl⟩ hy
 |agg l=>
  obtain⟨cs,rfl,h⟩:=h
  exact⟨h,by simpa [SV.nc,Value.cells]using h.len⟩
 |bor r p off len=>
  obtain⟨t0,es,hh,b1,b2,b3,b4,b5⟩:=id h;obtain⟨a,mm,cap,a',cap',m1,rfl,m3,m4,m5⟩:=b5;exact one _ _ h rfl (by simp) rfl rfl
 |loc r p i off=>
  obtain⟨t0,es,g,n,cap,el',h1,h2,h3,h4,h5,rfl⟩:=id h;exact one _ _ h rfl (by simp) rfl rfl
 |rp b cs=>
  obtain⟨a,vs,rfl,_⟩:=id h;exact one _ _ h rfl (by simp) rfl rfl
 |clip b l=>
  obtain⟨_,a,rfl⟩:=id h;exact one _ _ h rfl (by simp) rfl rfl
 |ns b=>
  obtain⟨a,cap,rfl,_⟩:=id h;exact one _ _ h rfl (by simp) rfl rfl
 |tup l=>cases hs
 |dead=>cases hs
theorem All2.drop{α β:Type}{R:α→β→Prop}:∀(n:Nat) {as:List α} {l:List β},All2 R as l→All2 R (as.drop n) (l.drop n)
 |0,_,_,h=>by simpa using h
 |n+1,[],_,h=>by rw[show _=[]from h];simp[All2]
 |n+1,a::as,_,h=>by
  obtain⟨b,r,rfl,_,h3⟩:=h
  simpa using All2.drop n h3
theorem All2.take{α β:Type}{R:α→β→Prop}:∀(n:Nat) {as:List α} {l:List β},All2 R as l→All2 R (as.take n) (l.take n)
 |0,_,_,_=>by simp[All2]
 |n+1,[],_,h=>by rw[show _=[]from h];simp[All2]
 |n+1,a::as,_,h=>by
  obtain⟨b,r,rfl,h2,h3⟩:=h;simp only[List.take_succ_cons]
  exact⟨b,_,rfl,h2,All2.take n h3⟩
theorem Ci{pl:Nat ⊕ List (Nat×Nat)}:∀(parts:List (Nat×SV)) (vs:List (Nat×Value)) (cs cs':List SV) (cells:Array Value),All2 (fun(a:Nat×SV) (b:Nat×Value)=>a.1=b.1∧SO c K hd a.2 b.2) parts vs→
  All2 (CO c K hd) cs cells.toList→qL pl cs parts=some cs'→∃cells',Instr.fill (nX pl) cells vs=some cells'∧All2 (CO c K hd) cs' cells'.toList
 | [],vs,cs,cs',cells,hp,hc,e=>by
  rw[show vs=[]from hp]
  simp only[qL,xJ]at e;subst e
  exact⟨cells,rfl,hc⟩
 |(i,x)::parts,vs,cs,cs',cells,hp,hc,e=>by
  obtain⟨⟨i',v⟩,r,rfl,⟨hi,hv⟩,hr⟩:=hp;simp only at hi hv;subst hi;simp only[qL,xB]at e
  obtain⟨⟨o,n⟩,h1,e⟩:=e;simp only at e
  split at e
  ·rename_i hh
   obtain⟨q1,q2⟩:=Ch hv hh.1;have hl:=hc.len;simp only[yF]at hl
   rw[zx h1 (by rw[q2];exact hh.2.1) (by omega)]
   refine Ci parts r _ cs' _ hr ?_ e
   simp only
   exact((hc.take o).append q1).append (hc.drop (o+n))
  ·cases e
theorem Gw{t:TypeId}{parts:List (Nat×SV)}{vs:List (Nat×Value)}{sv:SV}(hp:All2 (fun(a:Nat×SV) (b:Nat×Value)=>a.1=b.1∧SO c K hd a.2 b.2) parts vs)(e:sj P t parts=some sv):
  ∃u,(Instr.build t vs.toArray).run P w=.ok u w∧SO c K hd sv u:=by
 unfold sj at e
 split at e
 ·rename_i z hz
  obtain⟨i,zv,h1,h2,h3,_⟩:=fD hz;obtain⟨zc,rfl,hzc⟩:=VV.inv_agg (gj (c:=c) h3);simp only[xB,xM]at e
  obtain⟨pl,hpl,cs,hf,rfl⟩:=e;obtain⟨cells',f1,f2⟩:=Ci parts vs _ cs zc hp (VCs.all2 _ _ hzc) hf
  refine⟨.agg cells',run_build w t vs.toArray cells' ?_,by simpa using SV.mkAgg_ok f2⟩
  unfold cI at hpl
  split at hpl
  ·rename_i fs hu
   simp only[xM]at hpl
   obtain⟨ps,g1,rfl⟩:=hpl;simp only[Program.built,h1,hu,h2,g1]
   have:(fun x=>ps.toArray[x]?)=nX (.inr ps):=by funext j;simp[nX]
   rw[this];simpa [Value.cells]using f1
  ·rename_i n e hu
   simp only[xM]at hpl
   obtain⟨ie,g1,rfl⟩:=hpl;simp only[Program.built,h1,hu,h2,g1];exact f1
  ·cases hpl
 ·cases e
theorem SV.pures_VVs:∀(l:List SV) (ds:List D) (vs:List Value),SV.pures l=some ds→All2 (SO c K hd) l vs→VVs c ds vs
 | [],ds,vs,h,hv=>by
  simp only[SV.pures,xJ]at h;subst h
  exact hv
 |x::l,ds,vs,h,hv=>by
  obtain⟨v,r,rfl,h1,h2⟩:=hv
  cases x with
  |d y=>
   simp only[SV.pures,xM]at h
   obtain⟨ds',h3,rfl⟩:=h;simp only[VVs]
   exact⟨v,r,rfl,h1.1,h1.2,SV.pures_VVs l ds' r h3 h2⟩
  |_=>simp[SV.pures]at h
end
section
variable{P:Program}{A:Av}{ρ:Nat→Nat}{S:Root→List Nat}{hd:Root→Value}{fl:List Nat}{k k':Wk}{vals:List (SV×Value)}{w:World}
theorem Ext.refl'(c:Cx):Ext c c:=⟨fun _ _ hp=>⟨hp,rfl⟩,Nat.le_refl _,fun _ _=>rfl⟩
theorem KR.rename(h:KR A ρ S hd fl k vals w){n j m i:Nat}{t:T}(hne:(n,j)≠(m,i))(ht:k.get (.l n j)=some t):
  KR A ρ (upd (upd S (.l n j) []) (.l m i) (S (.l n j))) (upd hd (.l m i) (hd (.l n j))) fl (({k with ct:=((n,j),.dead)::k.ct}.new m i t).tell (.ren (n,j) (m,i))) vals w∧
   Ext (aa A k.H.length ρ S fl w) (aa A k.H.length ρ (upd (upd S (.l n j) []) (.l m i) (S (.l n j))) fl w):=by
 have hr:(Root.l n j)≠ .l m i:=fun e=>hne (by simp only[Root.l.injEq]at e;rw[e.1,e.2])
 have e1:S (.l m i)=[]++S (.l m i)++[]:=by simp
 have d1:=h.dis.drop e1;have e2:upd S (.l m i) ([]++[]) (.l n j)=[]++S (.l n j)++[]:=by rw[ai _ _ hr];simp
 have d2:=d1.detach e2;have e3:upd (upd S (.l m i) ([]++[])) (.l n j) ([]++[]) (.l m i)=[]++[]:=by rw[ai _ _ hr.symm,aG]
 have d3:=Dis.attach (r:=.l m i) (L:=[]) (R:=[]) (M:=S (.l n j)) (fl:=fl) d2 e3
 have eS:upd (upd (upd S (.l m i) ([]++[])) (.l n j) ([]++[])) (.l m i) ([]++S (.l n j)++[])=upd (upd S (.l n j) []) (.l m i) (S (.l n j)):=by
  funext r;simp only[upd,List.nil_append,List.append_nil];split
  ·rfl
  ·rfl
 rw[eS]at d3
 have own:∀b,Own (upd (upd S (.l n j) []) (.l m i) (S (.l n j))) fl b→Own S fl b:=fun b hb=>by
  rw[←eS]at hb
  have:=(Own.attach (S:=upd (upd S (.l m i) ([]++[])) (.l n j) ([]++[])) (r:=.l m i) (L:=[]) (R:=[]) (M:=S (.l n j)) e3).1 hb
  have:=(Own.detach (S:=upd S (.l m i) ([]++[])) e2).1 this
  exact Own.drop e1 this
 have ws:WS S fl w (upd (upd S (.l n j) []) (.l m i) (S (.l n j))) fl w:=WS.stay own;have ext:Ext (aa A k.H.length ρ S fl w) (aa A k.H.length ρ (upd (upd S (.l n j) []) (.l m i) (S (.l n j))) fl w):=ws.ext (Nat.le_refl _) (fun _ _=>rfl)
 have get:∀r,(({k with ct:=((n,j),.dead)::k.ct}.new m i t).tell (.ren (n,j) (m,i))).get r=if r=.l m i then some t else if r=.l n j then some .dead else k.get r:=fun r=>by
  show Go.Am.cont (((m,i),t)::((n,j),.dead)::k.ct) k.H r=_;rw[im,im];rfl
 have hlen:(({k with ct:=((n,j),.dead)::k.ct}.new m i t).tell (.ren (n,j) (m,i))).H.length=k.H.length:=rfl
 refine⟨⟨fun r t0 h0=> ?_,fun r h0 hm=> ?_,fun q=>by rw[ai _ _ (by simp)];exact h.obj q,fun q ob he hpl=> ?_,d3,ws.blk h,fun p hp=> ?_,h.fr,h.Fold,h.rho⟩,ext⟩
 ·rw[hlen]
  rw[get]at h0
  split at h0
  ·rename_i e;subst e
   simp only[xJ]at h0
   subst h0;rw[aG,aG];exact TC.ext ext _ _ _ (fun _ _=>rfl) (h.cont _ _ ht)
  ·rename_i e
   rw[ai _ _ e,ai _ _ e]
   split at h0
   ·rename_i e';subst e'
    simp only[xJ]at h0
    subst h0;rw[aG];simp only[TC]
    exact⟨trivial,_,rfl,TC.ones _ _ _ (h.cont _ _ ht) _ (by simp)⟩
   ·rename_i e'
    rw[ai _ _ e'];exact TC.ext ext _ _ _ (fun _ _=>rfl) (h.cont r t0 h0)
 ·rw[get]at h0
  split at h0
  ·cases h0
  ·rename_i e
   split at h0
   ·cases h0
   ·rename_i e'
    rw[ai _ _ e,ai _ _ e'];exact h.gone r h0 hm
 ·exact(h.map q ob he hpl).ext ext (fun _ _=>rfl) (by rw[ai _ _ (by simp),ai _ _ (by simp)]) rfl
 ·have e3:trv (({k with ct:=((n,j),.dead)::k.ct}.new m i t).tell (.ren (n,j) (m,i))).tr p.1=(Tr.ren (n,j) (m,i)).sv ((Tr.kill (.l m i) []).sv (trv k.tr p.1)):=by
   show trv ((k.tr++[Tr.kill (.l m i) []])++[Tr.ren (n,j) (m,i)]) p.1=_;rw[kA,kA]
  rw[e3];refine SO.ren (K:=fun r=>if r=.l m i then none else k.get r) (hd:=hd) ext (n,j) (m,i) (fun r q hrn=> ?_) (fun q t1 es h1 h2=> ?_) (SO.kill (Ext.refl' _) (.l m i) [] (fun r q hq=> ?_) (h.vals p hp))
  ·intro t1 es h1 h2
   simp only at h1
   split at h1
   ·cases h1
   ·rename_i e
    refine⟨t1,es,by rw[get,if_neg e,if_neg hrn];exact h1,h2,SameShape.refl _,fun h' hn=> ?_⟩
    rw[ai _ _ e];exact NodeH.ext q t1 _ h' _ (h.cont r t1 h1) (fun _ _=>rfl) hn
  ·simp only[if_neg hr]at h1
   rw[ht]at h1
   simp only[xJ]at h1
   subst h1
   refine⟨t,es,by rw[get,if_pos rfl],h2,SameShape.refl _,fun h' hn=> ?_⟩
   rw[aG];exact NodeH.ext q t _ h' _ (h.cont _ _ ht) (fun _ _=>rfl) hn
  ·intro t1 es h1 h2
   by_cases e:r=.l m i
   ·obtain⟨q1,q2⟩:=hq e
    exact absurd (yL (by simpa using q2)) q1
   ·exact⟨t1,es,by simp only[if_neg e];exact h1,h2,SameShape.refl _,fun h' hn=>hn⟩
theorem DY(h:KR A ρ S hd fl k vals w){dst:Nat}{b:Bool}{x sv:SV}{v:Value}(hx:SO (aa A k.H.length ρ S fl w) k.get hd x v)(e:bm dst b x k=some (sv,k')):
  ∃S' hd',KR A ρ S' hd' fl k' vals w∧SO (aa A k'.H.length ρ S' fl w) k'.get hd' sv v:=by
 unfold bm at e
 split at e
 ·have hv':v=.slice none 0 0:=by have:=VV.inv hx (by simp);simpa [VC]using this
  subst hv'
  split at e
  ·simp only[xJ,pJ]at e
   obtain⟨rfl,rfl⟩:=e;obtain⟨g1,g2⟩:=KR.newRoot (n:=dst) (j:=0) (t:=.own []) (hv:=.slice none 0 0) (M:=[]) (by simpa using h) (.inl ⟨none,rfl,rfl,rfl⟩)
   refine⟨_,_,g1,?_⟩
   exact qS (es:=[]) (M:=[]) (.inl ⟨none,rfl,rfl,rfl⟩) (by simp)
  ·simp only[xJ,pJ]at e
   obtain⟨rfl,rfl⟩:=e
   exact⟨S,hd,h,hx⟩
 ·rename_i n j len
  split at e
  ·simp only[xJ,pJ]at e
   obtain⟨rfl,rfl⟩:=e
   exact⟨S,hd,h,hx⟩
  ·rename_i hne
   obtain⟨t0,es,hh,b1,b2,b3,b4,b5⟩:=id hx;simp only[b1,xS]at e
   simp only[T.at,xJ]at b2
   subst b2;simp only at e
   split at e
   ·rename_i hlen
    simp only[xJ,pJ]at e
    obtain⟨rfl,rfl⟩:=e;obtain⟨g1,g2⟩:=h.rename (m:=dst) (i:=0) hne b1
    refine⟨_,_,g1,.own es,es,hh,?_,rfl,?_,b4,b5⟩
    ·show cont (((dst,0),T.own es)::((n,j),.dead)::k.ct) k.H (.l dst 0)=_
     rw[im,if_pos rfl]
    ·rw[aG];simpa [NodeH]using b3
   ·simp only[xJ,pJ]at e
    obtain⟨rfl,rfl⟩:=e
    exact⟨S,hd,h,hx⟩
 ·simp only[xJ,pJ]at e
  obtain⟨rfl,rfl⟩:=e
  exact⟨S,hd,h,hx⟩
theorem wE{o:Nat}{ob ob0:Ob}(hm:k.H[o]? =some ob0)(h0:∀c,ob0≠ .box c)(hob:∀c,ob≠ .box c)(r:Root):({k with H:=k.H.set o ob}:Wk).get r=k.get r:=by
 cases r with
 |l a b=>rfl
 |o n=>
  simp only[Wk.get,Go.Am.cont]
  by_cases hn:n=o
  ·subst hn
   have hlt:n<k.H.length:=(List.getElem?_eq_some_iff.1 hm).1;rw[yK hlt,hm]
   cases ob with
   |box c=>exact absurd rfl (hob c)
   |_=>cases ob0 with
    |box c=>exact absurd rfl (h0 c)
    |_=>rfl
  ·rw[List.getElem?_set_ne (Ne.symm hn)]
theorem iY{ob:Ob}(h:ob.plain=true):∀c,ob≠ .box c:=fun c e=>by subst e;cases h
theorem KR.reob(h:KR A ρ S hd fl k vals w){o:Nat}{ob ob':Ob}(hm:k.H[o]? =some ob)(hp:ob.plain=true)(hp':ob'.plain=true)(hok:PlOK (aa A k.H.length ρ S fl w) S ρ o ob'):
  KR A ρ S hd fl {k with H:=k.H.set o ob'} vals w:=by
 have get:=wE (ob:=ob') hm (iY hp) (iY hp');have hlen:({k with H:=k.H.set o ob'}:Wk).H.length=k.H.length:=by simp
 have hlt:=(List.getElem?_eq_some_iff.1 hm).1
 refine⟨fun r t ht=>by rw[hlen];rw[get]at ht;exact h.cont r t ht,fun r hr hmm=> ?_,h.obj,fun n ob1 he hpl=> ?_,h.dis,h.blk,fun p hp=> ?_,h.fr,h.Fold,by rw[hlen];exact h.rho⟩
 ·rw[get]at hr
  refine h.gone r hr (fun n ob1 e he=> ?_)
  by_cases hn:n=o
  ·subst hn
   have:=hmm n ob' e (yK hlt)
   rw[hp']at this;cases this
  ·exact hmm n ob1 e (by simp only;rw[List.getElem?_set_ne (Ne.symm hn)];exact he)
 ·rw[hlen]
  by_cases hn:n=o
  ·subst hn
   simp only at he;rw[yK hlt]at he
   simp only[xJ]at he
   subst he;exact hok
  ·simp only at he
   rw[List.getElem?_set_ne (Ne.symm hn)]at he
   exact h.map n ob1 he hpl
 ·rw[hlen,show({k with H:=k.H.set o ob'}:Wk).get=k.get from funext get]
  exact h.vals p hp
theorem KR.unset(h:KR A ρ S hd fl k vals w){o:Nat}{ks:List (List UInt8)}(hm:k.H[o]? =some (.sset ks)):∃es,SetOf es ks∧KR A ρ S hd fl {k with H:=k.H.set o (.map es)} vals w:=by
 obtain⟨M,m1,es,en,cl,q1,q2,q3,q4⟩:=h.map o _ hm rfl
 exact⟨es,q4,h.reob hm rfl rfl ⟨M,m1,en,cl,q1,q2,q3⟩⟩
theorem KR.reset(h:KR A ρ S hd fl k vals w){o:Nat}{es:List (D×T)}{ks:List (List UInt8)}(hm:k.H[o]? =some (.map es))(hs:SetOf es ks):KR A ρ S hd fl {k with H:=k.H.set o (.sset ks)} vals w:=by
 obtain⟨M,m1,en,cl,q1,q2,q3⟩:=h.map o _ hm rfl;exact h.reob hm rfl rfl ⟨M,m1,es,en,cl,q1,q2,q3,hs⟩
theorem zC{kt:TypeId}{s s':List UInt8}(hk:(aI P kt (.str s) (.str s)).isSome=true):aI P kt (.str s') (.str s)=some (s'==s)∧aI P kt (.str s) (.str s')=some (s==s'):=by
 unfold aI at hk ⊢
 simp only at hk ⊢
 cases hkk:dl P kt with
 |none=>rw[hkk]at hk;cases hk
 |some n=>
  rw[hkk]at hk
  simp only[xS]at hk ⊢
  match n,hk with
  |0,hk=>simp[eqK]at hk
  |1,hk=>exact⟨rfl,rfl⟩
  |2,hk=>simp[eqK]at hk
  |n+3,hk=>simp[eqK]at hk
abbrev yY(s:List UInt8):D×T:=(.str s,.d (.bool true))
theorem zD{kt:TypeId}{s:List UInt8}(hk:(aI P kt (.str s) (.str s)).isSome=true):∀es:List (D×T),(∀p∈es,∃s',p=yY s')→(yY s∈es∧ec (aI P kt) (.str s) es=some (some (.d (.bool true))))∨(yY s∉es∧ec (aI P kt) (.str s) es=some none)
 | [],_=>.inr ⟨by simp,rfl⟩
 |e::es,h=>by
  obtain⟨s',rfl⟩:=h e (by simp)
  simp only[ec,(zC (s':=s') hk).2,xS,beq_iff_eq]
  by_cases hs:s=s'
  ·subst hs
   exact .inl ⟨by simp,by simp⟩
  ·rw[if_neg hs]
   rcases zD hk es (fun p hp=>h p (by simp[hp]))with⟨a,b⟩ |⟨a,b⟩
   ·exact .inl ⟨by simp[a],b⟩
   ·refine .inr ⟨fun q=> ?_,b⟩
    rcases List.mem_cons.1 q with q |q
    ·simp only[yY,pJ,D.str.injEq,and_true]at q
     exact hs q
    ·exact a q
theorem Cj{kt:TypeId}{s:List UInt8}(hk:(aI P kt (.str s) (.str s)).isSome=true):∀es:List (D×T),(∀p∈es,∃s',p=yY s')→∃es',jX (aI P kt) (.str s) (.d (.bool true)) es=some es'∧∀p,p∈es'↔p=yY s∨p∈es
 | [],_=>⟨[yY s],rfl,by simp⟩
 |e::es,h=>by
  obtain⟨s',rfl⟩:=h e (by simp)
  simp only[jX,(zC (s':=s') hk).2,xS,beq_iff_eq]
  by_cases hs:s=s'
  ·subst hs
   exact⟨_,if_pos rfl,fun p=>by simp⟩
  ·obtain⟨es',h1,h2⟩:=Cj hk es (fun p hp=>h p (by simp[hp]))
   rw[if_neg hs,h1]
   refine⟨_,rfl,fun p=> ?_⟩
   simp only[xY,h2 p]
   exact⟨fun q=>by rcases q with q |q |q <;>simp[q],fun q=>by rcases q with q |q |q <;>simp[q]⟩
theorem SetOf.find{es:List (D×T)}{ks:List (List UInt8)}(h:SetOf es ks){kt:TypeId}{kd:D}{r:Option T}(hk:(aI P kt kd kd).isSome=true)(e:B5 ks kd=some r):ec (aI P kt) kd es=some r:=by
 unfold B5 at e
 split at e
 ·rename_i s
  simp only[xJ]at e
  subst e;have hsh:∀p∈es,∃s',p=yY s':=fun p hp=>by obtain⟨s',_,q⟩:=h.1 p hp;exact⟨s',q⟩
  rcases zD hk es hsh with⟨a,b⟩ |⟨a,b⟩
  ·obtain⟨s',h1,h2⟩:=h.1 _ a
   simp only[yY,pJ,D.str.injEq,and_true]at h2
   subst h2;rw[b,if_pos (by simpa using h1)]
  ·rw[b,if_neg (fun q=>a (h.2 s (by simpa using q)))]
 ·cases e
theorem SetOf.put{es:List (D×T)}{ks ks':List (List UInt8)}(h:SetOf es ks){kt:TypeId}{kd y:D}(hk:(aI P kt kd kd).isSome=true)(e:sk ks kd y=some ks'):∃es',jX (aI P kt) kd (.d y) es=some es'∧SetOf es' ks':=by
 unfold sk at e
 split at e
 ·rename_i s
  simp only[xJ]at e
  subst e;have hsh:∀p∈es,∃s',p=yY s':=fun p hp=>by obtain⟨s',_,q⟩:=h.1 p hp;exact⟨s',q⟩
  obtain⟨es',h1,h2⟩:=Cj hk es hsh
  refine⟨es',h1,fun p hp=> ?_,fun s' hs'=> ?_⟩
  ·rcases(h2 p).1 hp with rfl |q
   ·exact⟨s,by simp,rfl⟩
   ·obtain⟨s',q1,q2⟩:=h.1 p q
    exact⟨s',by simp[q1],q2⟩
  ·rw[h2]
   rcases List.mem_cons.1 hs' with rfl |q
   ·exact .inl rfl
   ·exact .inr (h.2 s' q)
 ·cases e
theorem KR.lockMap(h:KR A ρ S hd fl k vals w){o:Nat}{ob:Ob}(hm:k.H[o]? =some ob)(hpl:ob.plain=true){M:List Nat}(hS:S (.o o)=ρ o::M):
  KR A ρ (upd S (.o o) []) hd ((ρ o::M)++fl) {k with H:=k.H.set o .lock} vals w∧Ext (aa A k.H.length ρ S fl w) (aa A k.H.length ρ (upd S (.o o) []) ((ρ o::M)++fl) w):=by
 have get:=wE (ob:=.lock) hm (iY hpl) (by simp)
 have e2:S (.o o)=[]++(ρ o::M)++[]:=by simp[hS]
 have d2:=h.dis.detach e2;have own:∀b,Own (upd S (.o o) []) ((ρ o::M)++fl) b→Own S fl b:=fun b hb=>(Own.detach e2).1 (by simpa using hb)
 have ws:WS S fl w (upd S (.o o) []) ((ρ o::M)++fl) w:=WS.stay own;have ext:Ext (aa A k.H.length ρ S fl w) (aa A k.H.length ρ (upd S (.o o) []) ((ρ o::M)++fl) w):=ws.ext (Nat.le_refl _) (fun _ _=>rfl)
 have hlen:({k with H:=k.H.set o .lock}:Wk).H.length=k.H.length:=by simp
 have hnone:k.get (.o o)=none:=by
  simp only[Wk.get,Go.Am.cont,hm]
  cases ob with
  |box c=>cases hpl
  |_=>rfl
 refine⟨⟨fun r t ht=> ?_,fun r hr hmm=> ?_,h.obj,fun n ob' he hpl'=> ?_,by simpa using d2,ws.blk h,fun p hp=> ?_,h.fr,h.Fold,by rw[hlen];exact h.rho⟩,ext⟩
 ·rw[hlen]
  rw[get]at ht
  have hr:r≠ .o o:=fun e=>by subst e;rw[hnone]at ht;cases ht
  rw[ai _ _ hr];exact TC.ext ext _ _ _ (fun _ _=>rfl) (h.cont r t ht)
 ·by_cases hr':r=.o o
  ·subst hr';rw[aG]
  ·rw[ai _ _ hr']
   rw[get]at hr
   refine h.gone r hr (fun n ob' e he=>hmm n ob' e ?_)
   rw[List.getElem?_set_ne (fun e'=>hr' (by rw[e,e']))]
   exact he
 ·have hn:n≠o:=fun e=>by
   subst e;simp only at he;rw[yK (List.getElem?_eq_some_iff.1 hm).1]at he
   simp only[xJ]at he
   subst he;cases hpl'
  simp only at he;rw[List.getElem?_set_ne (Ne.symm hn)]at he
  rw[hlen]
  exact(h.map n ob' he hpl').ext ext (fun _ _=>rfl) (ai _ _ (by simpa using hn)) rfl
 ·rw[hlen]
  exact SO.keep ext (fun r q=>h.hold _ (get r) rfl (fun _ _=>rfl) q) (h.vals p hp)
theorem KR.unlockMap{o:Nat}{M:List Nat}(h:KR A ρ S hd ((ρ o::M)++fl) k vals w){ob:Ob}(hpl:ob.plain=true)(hl:k.H[o]? =some .lock)(hm:ObOK (aa A k.H.length ρ S ((ρ o::M)++fl) w) (ρ o) M ob):
  KR A ρ (upd S (.o o) (ρ o::M)) hd fl {k with H:=k.H.set o ob} vals w∧Ext (aa A k.H.length ρ S ((ρ o::M)++fl) w) (aa A k.H.length ρ (upd S (.o o) (ρ o::M)) fl w):=by
 have get:=wE (ob:=ob) hl (by simp) (iY hpl)
 have hnone:k.get (.o o)=none:=by simp[Wk.get,Go.Am.cont,hl]
 have hS:S (.o o)=[]++[]:=by
  simpa using h.gone _ hnone (fun n ob' e he=>by simp only[Root.o.injEq]at e;subst e;rw[hl]at he;simp only[xJ]at he;subst he;rfl)
 have d2:=Dis.attach h.dis hS;have own:∀b,Own (upd S (.o o) (ρ o::M)) fl b→Own S ((ρ o::M)++fl) b:=fun b hb=>(Own.attach hS).1 (by simpa using hb)
 have ws:WS S ((ρ o::M)++fl) w (upd S (.o o) (ρ o::M)) fl w:=WS.stay own;have ext:Ext (aa A k.H.length ρ S ((ρ o::M)++fl) w) (aa A k.H.length ρ (upd S (.o o) (ρ o::M)) fl w):=ws.ext (Nat.le_refl _) (fun _ _=>rfl)
 have hlen:({k with H:=k.H.set o ob}:Wk).H.length=k.H.length:=by simp
 refine⟨⟨fun r t ht=> ?_,fun r hr hmm=> ?_,h.obj,fun n ob' he hpl'=> ?_,by simpa using d2,ws.blk h,fun p hp=> ?_,h.fr,h.Fold,by rw[hlen];exact h.rho⟩,ext⟩
 ·rw[hlen]
  rw[get]at ht
  have hr:r≠ .o o:=fun e=>by subst e;rw[hnone]at ht;cases ht
  rw[ai _ _ hr];exact TC.ext ext _ _ _ (fun _ _=>rfl) (h.cont r t ht)
 ·by_cases hr':r=.o o
  ·subst hr'
   exfalso
   have:=hmm o ob rfl (yK (List.getElem?_eq_some_iff.1 hl).1)
   rw[hpl]at this;cases this
  ·rw[ai _ _ hr']
   rw[get]at hr
   refine h.gone r hr (fun n ob' e he=>hmm n ob' e ?_)
   simp only
   rw[List.getElem?_set_ne (fun e'=>hr' (by rw[e,e']))]
   exact he
 ·rw[hlen]
  by_cases hn:n=o
  ·subst hn
   simp only at he;rw[yK (List.getElem?_eq_some_iff.1 hl).1]at he
   simp only[xJ]at he
   subst he
   exact⟨M,aG _ _ _,hm.ext ext rfl (fun _ _=>rfl)⟩
  ·simp only at he
   rw[List.getElem?_set_ne (Ne.symm hn)]at he
   exact(h.map n ob' he hpl').ext ext (fun _ _=>rfl) (ai _ _ (by simpa using hn)) rfl
 ·rw[hlen]
  exact SO.keep ext (fun r q=>h.hold _ (get r) rfl (fun _ _=>rfl) q) (h.vals p hp)
theorem pS(h:KR A ρ S hd fl k vals w){t:TypeId}:(Instr.makeMap t none).run P w=.ok (.map (some w.heap.size)) (w.alloc (.map #[] 0))∧
  ∃ρ' S' hd',KR A ρ' S' hd' fl {k with H:=k.H++[.map []]} vals (w.alloc (.map #[] 0))∧SO (aa A (k.H.length+1) ρ' S' fl (w.alloc (.map #[] 0))) ({k with H:=k.H++[.map []]}:Wk).get hd' (.d (.map k.H.length)) (.map (some w.heap.size)):=by
 refine⟨by simp[Instr.makeMap],?_⟩
 obtain⟨g1,g2⟩:=KR.alloc (M:=[]) (by simpa using h) (.map #[] 0)
 obtain⟨n1,n2⟩:=g1.newOb (.map []) w.heap.size (fun x hx=>by cases hx) (fun _=>⟨[],rfl, #[],0,⟨by simpa [aa]using heap_alloc_new w _,.nil⟩,rfl,rfl,rfl⟩) (by simp)
 refine⟨_,_,_,n1,?_⟩
 refine VV.one ?_ (by simp)
 simp only[VC]
 exact⟨by simp[aa],by simp[aa]⟩
end
section
variable{P:Program}{c:Cx}{w:World}
theorem wF{t:TypeId}{n:Nat}{x y:D}{b:Bool}(h:dl P t=some n)(e:eqK n x y=some b):∃d,P.underlying t=some d∧
  ((∃k q a a',d=.int k∧x=.int q a∧y=.int q a'∧b=(a==a'))∨(∃a a',d=.string∧x=.str a∧y=.str a'∧b=(a==a'))∨(∃a a',d=.bool∧x=.bool a∧y=.bool a'∧b=(a==a'))):=by
 unfold eqK at e
 split at e
 ·split at e <;>simp only[xJ,reduceCtorEq]at e
  rename_i hk;subst hk
  rcases fE h with⟨_,k,hu⟩ |⟨h0,hu⟩ |⟨h0,hu⟩
  ·exact⟨_,hu,.inl ⟨k,_,_,_,rfl,rfl,rfl,e.symm⟩⟩
  ·cases h0
  ·cases h0
 ·simp only[xJ]at e
  rcases fE h with⟨h0,k,hu⟩ |⟨_,hu⟩ |⟨h0,hu⟩
  ·cases h0
  ·exact⟨_,hu,.inr (.inl ⟨_,_,rfl,rfl,rfl,e.symm⟩)⟩
  ·cases h0
 ·simp only[xJ]at e
  rcases fE h with⟨h0,k,hu⟩ |⟨h0,hu⟩ |⟨_,hu⟩
  ·cases h0
  ·cases h0
  ·exact⟨_,hu,.inr (.inr ⟨_,_,rfl,rfl,rfl,e.symm⟩)⟩
 ·cases e
theorem zE{t:TypeId}{n d0:Nat}{x:D}{v:Value}{b0:Bool}(h:dl P t=some n)(hx:VC c x [v])(e:(eqK n x x).isSome=true):(Instr.checkKey b0 (d0+1) t v).run P w=.ok () w:=by
 obtain⟨b,e⟩:=Option.isSome_iff_exists.1 e;obtain⟨d,hu,hh⟩:=wF h e;unfold Instr.checkKey
 rcases hh with⟨k,q,a,a',rfl,rfl,_,_⟩ |⟨a,a',rfl,rfl,_,_⟩ |⟨a,a',rfl,rfl,_,_⟩ <;>simp only[VC,xC,and_true]at hx
 ·subst hx;simp[run_underlying hu]
 ·obtain⟨a,rfl,_⟩:=hx;simp[run_underlying hu]
 ·subst hx;simp[run_underlying hu]
theorem mo{cs:Array Value}{b0:Bool}{d0:Nat}:∀(fs:List Field) (i:Nat) (ks:List Nat) (as:List D),mc P i fs=some ks→VCs c as (cs.toList.drop i)→(uD ks as as).isSome=true→
  (forIn fs PUnit.unit fun(f:Field) (_:PUnit)=>(if f.name≠ "_" then do
    let a ←part f.type cs f.offset
    Instr.checkKey b0 (d0+1) f.type a
    pure (ForInStep.yield PUnit.unit)
   else pure (ForInStep.yield PUnit.unit):Sem (ForInStep PUnit))).run P w=.ok PUnit.unit w
 | [],i,ks,as,_,_,_=>by simp
 |f::fs,i,ks,as,hk,ha,e=>by
  simp only[mc]at hk
  split at hk
  ·rename_i hf
   obtain⟨rfl,hn⟩:=hf;simp only[xB,xM]at hk
   obtain⟨n,h1,ns,h2,rfl⟩:=hk
   match as,e with
   |a::r,e=>
    obtain⟨b,e⟩:=Option.isSome_iff_exists.1 e;simp only[uD,xB,xM]at e
    obtain⟨x,e1,y,e2,rfl⟩:=e;simp only[VCs]at ha
    obtain⟨v,r1,k1,k2,k3⟩:=ha
    have g1:cs[f.offset]? =some v:=by
     have:(cs.toList.drop f.offset)[0]? =some v:=by rw[k1];rfl
     rw[List.getElem?_drop,Nat.add_zero,yM]at this
     exact this
    have g2:cs.toList.drop (f.offset+1)=r1:=by
     have:(cs.toList.drop f.offset).drop 1=r1:=by rw[k1];rfl
     rwa [List.drop_drop]at this
    have ih:=mo (b0:=b0) (d0:=d0) fs (f.offset+1) ns r h2 (by rw[g2];exact k3) (by rw[e2];rfl)
    have hck:=zE (w:=w) (b0:=b0) (d0:=d0) h1 k2 (by rw[e1];rfl)
    simp only[List.forIn_cons,ne_eq,hn,not_false_eq_true,if_true,Sem.run_bind,dP (wA h1) g1,Result.andThen_ok,hck,Sem.run_pure]
    simpa using ih
  ·cases hk
theorem Ck{kt:TypeId}{b0:Bool}{ks:List Nat}{l:List D}{cs:Array Value}(d0:Nat)(h1:sg P kt=some ks)(hv:VCs c l cs.toList)(e:(uD ks l l).isSome=true):(Instr.checkKey b0 (d0+2) kt (.agg cs)).run P w=.ok () w:=by
 obtain⟨fs,hu,_,_,h4⟩:=n7 h1
 have:=mo (w:=w) (b0:=b0) (d0:=d0) fs.toList 0 ks l h4 (by simpa using hv) e
 show(Instr.checkKey b0 ((d0+1)+1) kt (.agg cs)).run P w=_
 generalize d0+1=d1 at this ⊢
 simp only[Instr.checkKey,Sem.run_bind,run_underlying hu,Result.andThen_ok];rw[←Array.forIn_toList];rw[this]
 simp
theorem iZ{kt:TypeId}{kd:D}{key:Value}{b0:Bool}(hk:VV c kd key)(e:(aI P kt kd kd).isSome=true):(Instr.checkKey b0 10000 kt key).run P w=.ok () w:=by
 by_cases hag:∃l,kd=.agg l
 ·obtain⟨l,rfl⟩:=hag
  obtain⟨cs,rfl,hv⟩:=VV.inv_agg hk;obtain⟨b,e⟩:=Option.isSome_iff_exists.1 e;simp only[aI,xB]at e
  obtain⟨ks,h1,e⟩:=e;exact Ck 9998 h1 hv (by rw[e];rfl)
 ·have e':∃n,dl P kt=some n∧(eqK n kd kd).isSome=true:=by
   obtain⟨b,e⟩:=Option.isSome_iff_exists.1 e
   have:(dl P kt).bind (fun n=>eqK n kd kd)=some b:=by
    revert e;cases kd <;>intro e <;>first |exact e |exact absurd ⟨_,rfl⟩ hag
   simp only[xB]at this
   obtain⟨n,h1,h2⟩:=this
   exact⟨n,h1,by rw[h2];rfl⟩
  obtain⟨n,h1,h2⟩:=e';exact zE (d0:=9999) h1 (VV.inv hk (fun l hl=>hag ⟨l,hl⟩)) h2
theorem RetAll.get{c:Cx}:∀(ts:List T) (vs:List Value) (M:List Nat),RetAll c ts vs M→∀(i:Nat) (t:T) (v:Value),ts[i]? =some t→vs[i]? =some v→∃M',(∀b∈M',b∈M)∧TC c t v.cells.toList M'∧j3 t v
 | [],_,_,_,i,t,v,h,_=>by simp at h
 |a::ts,vs,M,hp,i,t,v,h1,h2=>by
  obtain⟨u,r,M1,M2,rfl,rfl,h3,h4,h5⟩:=hp
  cases i with
  |zero=>
   simp only[yE,xJ]at h1 h2
   subst h1;subst h2
   exact⟨M1,fun b hb=>xL _ hb,h3,h4⟩
  |succ i=>
   obtain⟨M',q1,q2,q3⟩:=RetAll.get ts r M2 h5 i t v (by simpa using h1) (by simpa using h2)
   exact⟨M',fun b hb=>xR _ (q1 b hb),q2,q3⟩
theorem MM{c:Cx}{y:D}{v:Value}{M:List Nat}(h:TC c (.d y) v.cells.toList M)(hf:j3 (.d y) v):VV c y v:=by
 simp only[TC]at h
 exact⟨h.2,hf⟩
def Found(eq:D→D→Option Bool)(kd:D)(es:List (D×T))(en:List MapEntry)(i0:Nat)(r:Option T)(res:Option (Nat×Value)):Prop:=
 (r=none∧res=none∧∀x,jX eq kd x es=some (es++[(kd,x)]))∨
 ∃i t k0 e0,r=some t∧es[i]? =some (k0,t)∧en[i]? =some e0∧res=some (i0+i,e0.val)∧eq kd k0=some true∧∀x,jX eq kd x es=some (es.set i (kd,x))
theorem Found.skip{eq:D→D→Option Bool}{kd:D}{e:D×T}{x:MapEntry}{es:List (D×T)}{en:List MapEntry}{i0:Nat}{r:Option T}{res:Option (Nat×Value)}(he:eq kd e.1=some false)(h:Found eq kd es en (i0+1) r res):Found eq kd (e::es) (x::en) i0 r res:=by
 rcases h with⟨h1,h2,h3⟩ |⟨i,t,k0,e0,h1,h2,h3,h4,h5,h6⟩
 ·exact .inl ⟨h1,h2,fun y=>by simp[jX,he,h3]⟩
 ·refine .inr ⟨i+1,t,k0,e0,h1,by simpa using h2,by simpa using h3,?_,h5,fun y=>by simp[jX,he,h6]⟩
  rw[h4,show i0+1+i=i0+(i+1)by omega]
theorem Found.here{eq:D→D→Option Bool}{kd k0:D}{t:T}{x:MapEntry}{es:List (D×T)}{en:List MapEntry}{i0:Nat}(he:eq kd k0=some true):Found eq kd ((k0,t)::es) (x::en) i0 (some t) (some (i0,x.val)):=
 .inr ⟨0,t,k0,x,rfl,rfl,rfl,rfl,he,fun y=>by simp[jX,he]⟩
theorem wG{eq:D→D→Option Bool}{d:TypeDesc}{kd:D}{key:Value}(hc:∀k0 u b,VV c k0 u→eq kd k0=some b→Instr.sameNow d key u=some b):∀(es:List (D×T)) (en:List MapEntry) (i0:Nat) (r:Option T),All2 (AG c) es en→ec eq kd es=some r→
  ∃res,Instr.findNow d key en i0=some res∧Found eq kd es en i0 r res
 | [],en,i0,r,ha,e=>by
  rw[show en=[]from ha]
  simp only[ec,xJ]at e;subst e
  exact⟨none,rfl,.inl ⟨rfl,rfl,fun x=>rfl⟩⟩
 |(k0,t)::es,en,i0,r,ha,e=>by
  obtain⟨x,en',rfl,h1,h3⟩:=ha;simp only[ec,xB]at e
  obtain⟨b,e1,e⟩:=e;have hs:=hc k0 x.key b h1 e1;cases b
  ·simp only[xH,if_false]at e
   obtain⟨res,g1,g2⟩:=wG hc es en' (i0+1) r h3 e
   exact⟨res,by simp[Instr.findNow,hs,g1],g2.skip e1⟩
  ·simp only[if_true,xJ]at e;subst e
   exact⟨some (i0,x.val),by simp[Instr.findNow,hs],Found.here e1⟩
theorem oD{eq:D→D→Option Bool}{kt:TypeId}{kd:D}{key:Value}(hc:∀k0 u b,VV c k0 u→eq kd k0=some b→(Op.equal kt key u).run P w=.ok b w):∀(es:List (D×T)) (en:List MapEntry) (i0:Nat) (r:Option T),All2 (AG c) es en→ec eq kd es=some r→
  ∃res,(Instr.findAsking kt key en i0).run P w=.ok res w∧Found eq kd es en i0 r res
 | [],en,i0,r,ha,e=>by
  rw[show en=[]from ha]
  simp only[ec,xJ]at e;subst e
  exact⟨none,rfl,.inl ⟨rfl,rfl,fun x=>rfl⟩⟩
 |(k0,t)::es,en,i0,r,ha,e=>by
  obtain⟨x,en',rfl,h1,h3⟩:=ha;simp only[ec,xB]at e
  obtain⟨b,e1,e⟩:=e;have hs:=hc k0 x.key b h1 e1;cases b
  ·simp only[xH,if_false]at e
   obtain⟨res,g1,g2⟩:=oD hc es en' (i0+1) r h3 e
   exact⟨res,by simp[Instr.findAsking,hs,g1],g2.skip e1⟩
  ·simp only[if_true,xJ]at e;subst e
   exact⟨some (i0,x.val),by simp[Instr.findAsking,hs],Found.here e1⟩
theorem pT{kt:TypeId}{kd:D}{key:Value}{es:List (D×T)}{en:List MapEntry}{r:Option T}(hk:VV c kd key)(hs:(aI P kt kd kd).isSome=true)(ha:All2 (AG c) es en)(e:ec (aI P kt) kd es=some r):
  ∃res,(Instr.findKey kt key en).run P w=.ok res w∧Found (aI P kt) kd es en 0 r res:=by
 by_cases hag:∃l,kd=.agg l
 ·obtain⟨l,rfl⟩:=hag
  obtain⟨cs,rfl,hv⟩:=VV.inv_agg hk;obtain⟨b,hs⟩:=Option.isSome_iff_exists.1 hs;simp only[aI,xB]at hs
  obtain⟨ks,h1,_⟩:=hs;obtain⟨fs,hu,_,_,h4⟩:=n7 h1
  obtain⟨res,g1,g2⟩:=oD (P:=P) (w:=w) (kt:=kt) (key:=.agg cs) (eq:=aI P kt) (kd:=.agg l) (fun k0 u b hu' he=>by
   cases k0 with
   |agg l'=>
    obtain⟨cs',rfl,hv'⟩:=VV.inv_agg hu';simp only[aI,xB]at he
    obtain⟨ks',h1',he⟩:=he;exact IO (d0:=9998) h1' hv hv' he
   |_=>
    simp only[aI,xB]at he
    obtain⟨n,h1',he⟩:=he;exfalso;unfold eqK at he
    split at he <;>simp_all) es en 0 r ha e
  cases es with
  |nil=>
   rw[show en=[]from ha]at g1 ⊢
   refine⟨res,?_,by rw[show en=[]from ha]at g2;exact g2⟩
   simp only[Instr.findAsking,Sem.run_pure,Result.ok.injEq,and_true]at g1
   subst g1;simp[Instr.findKey,run_underlying hu,Instr.findNow]
  |cons e0 es=>
   obtain⟨x,en',rfl,_,_⟩:=ha
   refine⟨res,?_,g2⟩
   simp[Instr.findKey,run_underlying hu,Instr.findNow,Instr.sameNow,g1]
 ·have e':∀y,aI P kt kd y=(dl P kt).bind fun n=>eqK n kd y:=fun y=>by
   cases kd <;>first |rfl |exact absurd ⟨_,rfl⟩ hag
  obtain⟨b,hs⟩:=Option.isSome_iff_exists.1 hs;rw[e',xB]at hs
  obtain⟨n,h1,h2⟩:=hs;obtain⟨d,hu,_⟩:=wF h1 h2;have hk1:=VV.inv hk (fun l hl=>hag ⟨l,hl⟩)
  obtain⟨res,g1,g2⟩:=wG (d:=d) (key:=key) (eq:=aI P kt) (kd:=kd) (fun k0 u b hu' he=>by
   rw[e',h1,xS]at he
   obtain⟨d',hd',hh⟩:=wF h1 he;rw[hu]at hd'
   simp only[xJ]at hd'
   subst hd'
   rcases hh with⟨k,q,a,a',rfl,rfl,rfl,rfl⟩ |⟨a,a',rfl,rfl,rfl,rfl⟩ |⟨a,a',rfl,rfl,rfl,rfl⟩
   ·simp only[VC,xC,and_true]at hk1
    rw[hk1,VV.of_int hu'];simp[Instr.sameNow]
   ·simp only[VC,xC,and_true]at hk1
    obtain⟨b1,rfl,rfl⟩:=hk1;obtain⟨b2,rfl,rfl⟩:=VV.of_str hu';simp only[Instr.sameNow,beq_toListBytes,ByteArray.toList_eq]
   ·simp only[VC,xC,and_true]at hk1
    rw[hk1,VV.of_bool hu'];simp[Instr.sameNow]) es en 0 r ha e
  exact⟨res,by simp[Instr.findKey,run_underlying hu,g1],g2⟩
theorem mq{t kt e:TypeId}(h:gg P t=some (kt,e)):P.underlying t=some (.map kt e):=by
 unfold gg at h
 split at h
 ·simp only[xJ,pJ]at h;obtain⟨rfl,rfl⟩:=h;assumption
 ·cases h
theorem Qj{n m:Nat}{x y:D}{u v:Value}(hx:VC c x [u])(hy:VC c y [v])(e:eqK n x y=some true):Instr.sameBits m v u=true:=by
 unfold eqK at e
 split at e
 ·split at e <;>simp only[xJ,reduceCtorEq,beq_iff_eq]at e
  subst_vars
  simp only[VC,xC,and_true]at hx hy
  subst hx;subst hy
  cases m <;>simp[Instr.sameBits]
 ·simp only[xJ,beq_iff_eq]at e
  subst e;simp only[VC,xC,and_true]at hx hy
  obtain⟨a,rfl,h1⟩:=hx;obtain⟨b,rfl,h2⟩:=hy
  have:b==a:=by rw[beq_toListBytes,ByteArray.toList_eq,ByteArray.toList_eq,h1,h2];simp
  cases m <;>simp only[Instr.sameBits] <;>exact this
 ·simp only[xJ,beq_iff_eq]at e
  subst e;simp only[VC,xC,and_true]at hx hy
  subst hx;subst hy
  cases m <;>simp[Instr.sameBits]
 ·cases e
theorem IR{m:Nat}:∀(ks:List Nat) (as bs:List D) (us vs:List Value),VCs c as us→VCs c bs vs→uD ks as bs=some true→vs.length=us.length∧((vs.zip us).all fun(x,y)=>Instr.sameBits m x y)=true
 | [],[],[],us,vs,h1,h2,_=>by simp only[VCs]at h1 h2;subst h1;subst h2;simp
 |n::ns,a::as,b::bs,us,vs,h1,h2,e=>by
  simp only[uD,xB,xM]at e
  obtain⟨x,e1,y,e2,e3⟩:=e;simp only[xA]at e3
  obtain⟨rfl,rfl⟩:=e3;simp only[VCs]at h1 h2
  obtain⟨u,r1,rfl,q1,q2⟩:=h1;obtain⟨v,r2,rfl,q3,q4⟩:=h2;obtain⟨i1,i2⟩:=IR (m:=m) ns as bs r1 r2 q2 q4 e2
  refine⟨by simp[i1],?_⟩
  simp only[List.zip_cons_cons,List.all_cons,xA]
  exact⟨Qj q1 q3 e1,i2⟩
theorem tJ{kt:TypeId}{kd k0:D}{key old:Value}(hk:VV c kd key)(h0:VV c k0 old)(e:aI P kt kd k0=some true):(Instr.keyThatStays old key).run P w=.ok key w:=by
 have:Instr.sameBits 10000 old key=true:=by
  by_cases hag:∃l,kd=.agg l
  ·obtain⟨l,rfl⟩:=hag
   obtain⟨cs,rfl,hv⟩:=VV.inv_agg hk
   cases k0 with
   |agg l'=>
    obtain⟨cs',rfl,hv'⟩:=VV.inv_agg h0;simp only[aI,xB]at e
    obtain⟨ks',h1',he⟩:=e;obtain⟨i1,i2⟩:=IR (m:=9999) ks' l l' _ _ hv hv' he;show Instr.sameBits (9999+1) _ _=true;simp only[yF]at i1
    simp only[Instr.sameBits,i1,BEq.rfl,Bool.true_and];exact i2
   |_=>
    simp only[aI,xB]at e
    obtain⟨n,h1',he⟩:=e;exfalso;unfold eqK at he
    split at he <;>simp_all
  ·have e':aI P kt kd k0=(dl P kt).bind fun n=>eqK n kd k0:=by
    cases kd <;>first |rfl |exact absurd ⟨_,rfl⟩ hag
   rw[e',xB]at e
   obtain⟨n,h1,h2⟩:=e;have h3:∀l,k0≠ .agg l:=fun l hl=>by subst hl;unfold eqK at h2;split at h2 <;>simp_all
   exact Qj (VV.inv hk (fun l hl=>hag ⟨l,hl⟩)) (VV.inv h0 h3) h2
 simp[Instr.keyThatStays,this]
theorem sC{eq:D→D→Option Bool}{kd:D}{x:T}:∀(es es':List (D×T)),jX eq kd x es=some es'→∃r,ec eq kd es=some r
 | [],_,_=>⟨none,rfl⟩
 |e::es,es',h=>by
  simp only[jX,xB]at h
  obtain⟨b,h1,h⟩:=h;cases b
  ·simp only[xH,if_false,xM]at h
   obtain⟨q,h2,_⟩:=h;obtain⟨r,h3⟩:=sC es q h2
   exact⟨r,by simp[ec,h1,h3]⟩
  ·exact⟨some e.2,by simp[ec,h1]⟩
end
section
variable{P:Program}{A:Av}{ρ:Nat→Nat}{S:Root→List Nat}{hd:Root→Value}{fl:List Nat}{k k':Wk}{vals:List (SV×Value)}{w:World}
theorem dq{r:Nat}{es:Array MapEntry}{clock:Nat}(h:w.heap[r]? =some (.map es clock)):(getObj r).run P w=.ok (.map es clock) w:=by
 simp[getObj,Sem.run,h]
theorem DZ(h:KR A ρ S hd fl k vals w){t:TypeId}{ok:Bool}{m x sv:SV}{mv xv:Value}(hm:SO (aa A k.H.length ρ S fl w) k.get hd m mv)(hx:SO (aa A k.H.length ρ S fl w) k.get hd x xv)(e:gO P t m x ok k.H=some sv):
  ∃v,(Instr.lookup t mv xv ok).run P w=.ok v w∧SO (aa A k.H.length ρ S fl w) k.get hd sv v:=by
 simp only[gO,xB]at e
 obtain⟨⟨kt,el⟩,h1,e⟩:=e;have hu:=mq h1;simp only at e
 split at e
 ·rename_i kd
  split at e
  ·rename_i hs
   simp only[xB,xM]at e
   obtain⟨r,e1,z,hz,⟨y,b⟩,e2,e3⟩:=e;simp only at e3;obtain⟨i,zv,z1,z2,z3,z4⟩:=fD hz;have hzv:=gj (c:=aa A k.H.length ρ S fl w) z3
   have ent:∃(en:Array MapEntry) (es:List (D×T)) (M:List Nat),All2 (AG (aa A k.H.length ρ S fl w)) es en.toList∧RetAll (aa A k.H.length ρ S fl w) (es.map (·.2)) (en.toList.map (·.val)) M∧ec (aI P kt) kd es=some r∧
     ((mv=.map none∧en= #[])∨∃b cl,mv=.map (some b)∧w.heap[b]? =some (.map en cl)):=by
    split at e1
    ·simp only[xJ]at e1;subst e1
     have:mv=.map none:=by have:=VV.inv hm (by simp);simpa [VC]using this
     exact⟨#[],[],[],rfl,⟨rfl,rfl⟩,rfl,.inl ⟨this,rfl⟩⟩
    ·rename_i o
     split at e1
     ·rename_i es ho
      have hv':=VV.inv hm (by simp)
      simp only[VC,xC,and_true]at hv'
      obtain⟨M,_,en,cl,m2,m3,m4⟩:=h.map o _ ho rfl
      exact⟨en,es,M,m3,m4,e1,.inr ⟨_,cl,hv'.2,m2.1⟩⟩
     ·rename_i ks ho
      have hv':=VV.inv hm (by simp)
      simp only[VC,xC,and_true]at hv'
      obtain⟨M,_,es,en,cl,m2,m3,m4,m5⟩:=h.map o _ ho rfl
      exact⟨en,es,M,m3,m4,m5.find hs e1,.inr ⟨_,cl,hv'.2,m2.1⟩⟩
     ·cases e1
    ·cases e1
   obtain⟨en,es,M,a1,a1',a2,hmv⟩:=ent;obtain⟨res,f1,f2⟩:=pT (w:=w) hx hs a1 a2;have hck:(Instr.checkKey en.isEmpty 10000 kt xv).run P w=.ok () w:=iZ hx hs
   have hrun:(Instr.lookup t mv xv ok).run P w=match res with
     |some (_,v)=>.ok (if ok then .tuple #[v,.bool true]else v) w
     |none=>.ok (if ok then .tuple #[zv,.bool false]else zv) w:=by
    rcases hmv with⟨rfl,rfl⟩ |⟨b,cl,rfl,hb⟩
    ·have hck':(Instr.checkKey true 10000 kt xv).run P w=.ok () w:=iZ hx hs
     rcases res with _ |⟨q,v⟩ <;>simp[Instr.lookup,run_underlying hu,hck',f1,z4 w]
     all_goals simp at f1
     all_goals simp[f1,z4 w]
    ·rcases res with _ |⟨q,v⟩ <;>simp[Instr.lookup,run_underlying hu,dq hb,hck,f1,z4 w]
   rw[hrun]
   rcases f2 with⟨rfl,rfl,_⟩ |⟨j,t0,k0,e0,rfl,g2,g3,rfl,_,_⟩
   ·simp only[xJ,pJ]at e2
    obtain⟨rfl,rfl⟩:=e2
    refine⟨if ok then .tuple #[zv,.bool false]else zv,rfl,?_⟩
    cases ok
    ·simp only[xH,if_false]at e3 ⊢
     subst e3;exact hzv
    ·simp only[if_true]at e3 ⊢
     subst e3
     exact⟨_,rfl,_,_,rfl,hzv,_,_,rfl,VV.mk_bool _,rfl⟩
   ·obtain⟨M',_,q2,q3⟩:=RetAll.get _ _ _ a1' j t0 e0.val (by simp[g2]) (by simp[g3])
    cases t0 with
    |d y'=> ?_
    |_=>cases e2
    have hy2:=MM q2 q3;simp only[xJ,pJ]at e2
    obtain⟨rfl,rfl⟩:=e2
    refine⟨if ok then .tuple #[e0.val,.bool true]else e0.val,rfl,?_⟩
    cases ok
    ·simp only[xH,if_false]at e3 ⊢
     subst e3;exact hy2
    ·simp only[if_true]at e3 ⊢
     subst e3
     exact⟨_,rfl,_,_,rfl,hy2,_,_,rfl,VV.mk_bool _,rfl⟩
  ·cases e
 ·cases e
end
theorem All2.set{α β:Type}{R:α→β→Prop}:∀{as:List α} {l:List β} (i:Nat) {a:α} {b:β},All2 R as l→R a b→All2 R (as.set i a) (l.set i b)
 | [],_,i,_,_,h,_=>by rw[show _=[]from h];simp[All2]
 |x::as,_,i,a,b,h,hab=>by
  obtain⟨y,r,rfl,h2,h3⟩:=h
  cases i with
  |zero=>exact⟨b,r,rfl,hab,h3⟩
  |succ i=>exact⟨y,_,rfl,h2,All2.set i h3 hab⟩
theorem Ext.trans{a b c:Cx}(x:Ext a b)(y:Ext b c):Ext a c:=
 ⟨fun t g h=>⟨(y.pm t g (x.pm t g h).1).1,((y.pm t g (x.pm t g h).1).2).trans (x.pm t g h).2⟩,Nat.le_trans x.nO y.nO,fun o ho=>(y.ρ o (yA ho x.nO)).trans (x.ρ o ho)⟩
theorem qU{α:Type}:∀{l:List α} {i:Nat} {a:α},l[i]? =some a→l.set i a=l
 | [],_,_,h=>by simp at h
 |x::l,0,a,h=>by simp at h;subst h;rfl
 |x::l,i+1,a,h=>by simp at h;simp[qU h]
theorem RetAll.out{c:Cx}:∀(ts:List T) (vs:List Value) (M:List Nat) (i:Nat) (t:T) (v:Value),RetAll c ts vs M→ts[i]? =some t→vs[i]? =some v→v.oneCell'=true→∃M1 Mi M2,M=M1++Mi++M2∧TC c t v.cells.toList Mi∧RetAll c (ts.set i .dead) vs (M1++M2)
 | [],_,_,i,t,v,_,h,_,_=>by simp at h
 |a::ts,vs,M,i,t,v,hp,h1,h2,ho=>by
  obtain⟨u,r,M1,M2,rfl,rfl,h3,h4,h5⟩:=hp
  cases i with
  |zero=>
   simp only[yE,xJ]at h1 h2
   subst h1;subst h2
   refine⟨[],M1,M2,by simp,h3,u,r,[],M2,rfl,by simp,?_,ho,h5⟩
   simp only[TC]
   exact⟨trivial,u,by rw[fz ho],ho⟩
  |succ i=>
   obtain⟨N1,Ni,N2,rfl,q1,q2⟩:=RetAll.out ts r M2 i t v h5 (by simpa using h1) (by simpa using h2) ho
   exact⟨M1++N1,Ni,N2,by simp,q1,u,r,M1,N1++N2,rfl,by simp,h3,h4,q2⟩
section
variable{P:Program}{A:Av}{ρ:Nat→Nat}{S:Root→List Nat}{hd:Root→Value}{fl:List Nat}{k k':Wk}{vals:List (SV×Value)}{w:World}
theorem KR.setMapM{M N N':List Nat}(h:KR A ρ S hd (M++fl) k vals w){o:Nat}{es es':List (D×T)}{en en':Array MapEntry}{cl cl':Nat}(hm:k.H[o]? =some (.map es))(hS:S (.o o)=ρ o::N)(hsub:∀b∈N',b∈N++M)(hnd:N'.Nodup)(hb:w.heap[ρ o]? =some (.map en cl))(hst:Stamps en' cl')
  (hk:All2 (AG (aa A k.H.length ρ S (M++fl) w)) es' en'.toList) (hv:RetAll (aa A k.H.length ρ S (M++fl) w) (es'.map (·.2)) (en'.toList.map (·.val)) N'):
  ∃S',KR A ρ S' hd fl {k with H:=k.H.set o (.map es')} vals {w with heap:=w.heap.setIfInBounds (ρ o) (.map en' cl')}:=by
 obtain⟨l1,l2⟩:=h.lockMap hm rfl hS;have hlt:ρ o<w.heap.size:=(Array.getElem?_eq_some_iff.1 hb).1;have hndN:(ρ o::N).Nodup:=by have:=h.dis.nd (.o o);rwa [hS]at this
 obtain⟨w1,w2⟩:=KR.world (w:=w) (w':={w with heap:=w.heap.setIfInBounds (ρ o) (.map en' cl')}) (M:=ρ o::N) (M':=ρ o::N) rfl rfl rfl (by simp) (Recs.other (g:=ρ o) (fun b hb=>by simp[Ne.symm hb]) (fun r=>by rw[hb];simp)) l1 (fun b hb' hbm=>by
  have:b≠ρ o:=fun e=>hbm (by simp[e])
  simp[Ne.symm this]) (fun b hb=>.inl hb) hndN
 have hlo:o<k.H.length:=(List.getElem?_eq_some_iff.1 hm).1;have hl:({k with H:=k.H.set o .lock}:Wk).H[o]? =some .lock:=yK hlo
 have hlen:({k with H:=k.H.set o .lock}:Wk).H.length=k.H.length:=by simp
 have hnF:=w1.dis.ndF
 have hno:∀b∈N',b≠ρ o:=fun b hb' e=>by
  subst e;rw[List.cons_append,List.nodup_cons]at hnF
  refine hnF.1 ?_
  rcases List.mem_append.1 (hsub _ hb')with q |q
  ·exact xL _ q
  ·exact xR _ (xL _ q)
 have hdf:∀b∈N',b∉fl:=fun b hb' hf=>by
  rw[List.cons_append,List.nodup_cons]at hnF
  rw[←xK,xT]at hnF
  exact hnF.2.2.2 b (hsub b hb') b hf rfl
 have hof:ρ o∉fl:=fun hf=>by
  rw[List.cons_append,List.nodup_cons]at hnF
  exact hnF.1 (xR _ (xR _ hf))
 have hfl:fl.Nodup:=by
  rw[List.cons_append,List.nodup_cons,←xK,xT]at hnF
  exact hnF.2.2.1
 obtain⟨g1,g2⟩:=w1.letGo (fl':=(ρ o::N')++fl) (by
  rw[List.cons_append,List.nodup_cons,xT]
  refine⟨fun q=> ?_,hnd,hfl,fun a ha b hb e=>hdf a ha (e▸hb)⟩
  rcases List.mem_append.1 q with q |q
  ·exact hno _ q rfl
  ·exact hof q) (fun b hb=>by
  rcases List.mem_append.1 hb with q |q
  ·rcases List.mem_cons.1 q with rfl |q
   ·simp
   ·rcases List.mem_append.1 (hsub b q)with q |q
    ·exact xL _ (List.mem_cons_of_mem _ q)
    ·exact xR _ (xL _ q)
  ·exact xR _ (xR _ q))
 rw[hlen]at w2 g2
 have e3:=(l2.trans w2).trans g2
 obtain⟨u1,u2⟩:=g1.unlockMap (M:=N') (ob:=.map es') rfl hl (by
  rw[hlen]
  refine⟨en',cl',⟨by simp[aa,hlt],hst⟩,hk.imp (fun _ _ _ q=>VV.ext e3 q),RetAll.ext e3 _ _ _ (fun g hg=> ?_) hv⟩
  have:g≠ρ o:=hno g hg
  simp[aa,Ne.symm this])
 simp only[List.set_set]at u1
 exact⟨_,u1⟩
theorem IS(h:KR A ρ S hd fl k vals w){dst:Nat}{t:TypeId}{m x sv:SV}{mv xv:Value}(hm:SO (aa A k.H.length ρ S fl w) k.get hd m mv)(hx:SO (aa A k.H.length ρ S fl w) k.get hd x xv)(e:v8 P dst t m x k=some (sv,k')):
  ∃v S' hd',(Instr.lookup t mv xv false).run P w=.ok v w∧KR A ρ S' hd' fl k' vals w∧SO (aa A k'.H.length ρ S' fl w) k'.get hd' sv v:=by simp[v8]at e
theorem Cl(h:KR A ρ S hd fl k vals w){t:TypeId}{m x sv:SV}{mv xv:Value}(hm:SO (aa A k.H.length ρ S fl w) k.get hd m mv)(hx:SO (aa A k.H.length ρ S fl w) k.get hd x xv)(e:ig P t m x k=some (sv,k')):
  ∃v S' hd',(Instr.lookup t mv xv false).run P w=.ok v w∧KR A ρ S' hd' fl k' vals w∧SO (aa A k'.H.length ρ S' fl w) k'.get hd' sv v:=by simp[ig]at e
end
section
variable{P:Program}{A:Av}{ρ:Nat→Nat}{S:Root→List Nat}{hd:Root→Value}{fl:List Nat}{k k':Wk}{vals:List (SV×Value)}{w:World}
theorem IT(h:KR A ρ S hd fl k vals w){dst:Nat}{v sv:SV}{val:Value}(hv:SO (aa A k.H.length ρ S fl w) k.get hd v val)(e:ow dst v k=some (sv,k')):
  ∃S' hd',KR A ρ S' hd' fl k' vals w∧SO (aa A k'.H.length ρ S' fl w) k'.get hd' sv val:=by
 unfold ow at e
 split at e
 ·rename_i r p len
  simp only[xB]at e
  obtain⟨c,e1,nd,e2,e⟩:=e
  split at e
  ·rename_i es
   split at e
   ·rename_i hc
    obtain⟨rfl,_⟩:=hc;simp only[xB,xM,pJ]at e
    obtain⟨c',e3,k1,e4,rfl,rfl⟩:=e;obtain⟨t0,es0,h',b1,b2,b3,b4,b5⟩:=hv;rw[e1]at b1
    simp only[xJ]at b1
    subst b1;rw[e2]at b2
    simp only[xJ,T.own.injEq]at b2
    subst b2;obtain⟨h0,L,Sn,R,hS,foc⟩:=TC.focus p c (hd r) (S r) (.own es) (h.cont r c e1) e2;have hh:h0=h':=NodeH.uniq p c (hd r) h0 h' foc.node b3;subst hh;obtain⟨g1,g2⟩:=h.takeOut e1 hS foc e3 e4;have ht:=TC.ext g2 _ _ _ (fun _ _=>rfl) (Win.whole b5 foc.tc)
    have hlen:(k1.tell (.kill r p)).H.length=k.H.length:=by show k1.H.length=_;exact mh e4
    obtain⟨n1,n2⟩:=KR.newRoot (n:=dst) (j:=0) (t:=.own es) (hv:=val) (M:=Sn) g1 (by rw[hlen];exact ht)
    refine⟨_,_,n1,qS (M:=Sn) (TC.ext n2 _ _ _ (fun _ _=>rfl) (by rw[hlen];exact ht)) (by simp)⟩
   ·cases e
  ·cases e
 ·cases e
theorem KR.newPl(h:KR A ρ S hd fl k vals w){ob:Ob}{o:Obj}(hp:ob.plain=true)(ho:∀c:Cx,c.nO=k.H.length→c.ρ=ρ→c.w=w.alloc o→ObOK c w.heap.size [] ob):
  ∃ρ' S' hd',KR A ρ' S' hd' fl {k with H:=k.H++[ob]} vals (w.alloc o)∧SO (aa A (k.H.length+1) ρ' S' fl (w.alloc o)) ({k with H:=k.H++[ob]}:Wk).get hd' (.d (.ptr k.H.length)) (.pointer (some ⟨w.heap.size,0,none⟩)):=by
 obtain⟨g1,g2⟩:=KR.alloc (M:=[]) (by simpa using h) o
 obtain⟨n1,n2⟩:=g1.newOb ob w.heap.size (fun y hy=>by subst hy;cases hp) (fun _=>⟨[],rfl,ho _ rfl rfl rfl⟩) (by rintro rfl;cases hp)
 refine⟨_,_,_,n1,VV.one ?_ (by simp)⟩
 simp only[VC]
 exact⟨by simp[aa],by simp[aa]⟩
theorem Gx(h:KR A ρ S hd fl k vals w){t:TypeId}{x sv:SV}{v:Value}(hx:SO (aa A k.H.length ρ S fl w) k.get hd x v)(e:mf P t x k=some (sv,k')):
  ∃val w' ρ' S' hd',(Instr.range t v).run P w=.ok val w'∧KR A ρ' S' hd' fl k' vals w'∧SO (aa A k'.H.length ρ' S' fl w') k'.get hd' sv val:=by
 unfold mf at e
 split at e
 ·rename_i s hu
  simp only[xJ,pJ]at e
  obtain⟨rfl,rfl⟩:=e;have hv:=VV.inv hx (by simp)
  simp only[VC,xC,and_true]at hv
  obtain⟨b,rfl,hb⟩:=hv;obtain⟨ρ',S',hd',g1,g2⟩:=h.newPl (ob:=.iter s 0) (o:=.stringIter b 0) rfl (fun c _ _ hw=>⟨rfl,b,by rw[hw];exact heap_alloc_new w _,hb⟩)
  refine⟨.pointer (some ⟨w.heap.size,0,none⟩),w.alloc (.stringIter b 0),ρ',S',hd',?_,g1,by simpa using g2⟩
  simp[Instr.range,Sem.run_bind,run_underlying hu,Result.andThen,run_newObj_alloc]
 ·rename_i kt el hu
  simp only[xJ,pJ]at e
  obtain⟨rfl,rfl⟩:=e;have hv:=VV.inv hx (by simp)
  simp only[VC,xC,and_true]at hv
  subst hv;obtain⟨ρ',S',hd',g1,g2⟩:=h.newPl (ob:=.miter none) (o:=.mapIter none 0 #[] 0) rfl (fun c _ _ hw=>⟨rfl,by simp,0,0,by rw[hw];exact heap_alloc_new w _⟩)
  refine⟨.pointer (some ⟨w.heap.size,0,none⟩),w.alloc (.mapIter none 0 #[] 0),ρ',S',hd',?_,g1,by simpa using g2⟩
  simp[Instr.range,Sem.run_bind,run_underlying hu,Result.andThen,run_newObj_alloc]
 ·rename_i kt el o hu
  split at e
  ·rename_i es hes
   simp only[xJ,pJ]at e
   obtain⟨rfl,rfl⟩:=e;have hv:=VV.inv hx (by simp)
   simp only[VC,xC,and_true]at hv
   obtain⟨ho,rfl⟩:=hv;obtain⟨N,m1,en,cl,m2,m3,m4⟩:=h.map o _ hes rfl;have hb:w.heap[ρ o]? =some (.map en cl):=m2.1;obtain⟨ρ',S',hd',g1,g2⟩:=h.newPl (ob:=.miter (some o)) (o:=.mapIter (some (ρ o)) cl #[] cl) rfl (fun c hn hr hw=>⟨rfl,fun o' e=>by simp only[xJ]at e;subst e;rw[hn];exact ho,cl,cl,by rw[hw,hr];exact heap_alloc_new w _⟩)
   refine⟨.pointer (some ⟨w.heap.size,0,none⟩),w.alloc (.mapIter (some (ρ o)) cl #[] cl),ρ',S',hd',?_,g1,by simpa using g2⟩
   simp[Instr.range,Sem.run_bind,run_underlying hu,Result.andThen,run_newObj_alloc,getObj,Sem.run,aa,hb]
  ·cases e
 ·cases e
theorem KR.setPl(h:KR A ρ S hd fl k vals w){n:Nat}{ob ob':Ob}{o':Obj}(hH:k.H[n]? =some ob)(hp:ob.plain=true)(hp':ob'.plain=true){N:List Nat}(hS:S (.o n)=ρ n::N)(hlt:ρ n<w.heap.size)(hnl:∀r,w.heap[ρ n]? ≠some (.loop r))
  (ho:∀c:Cx,c.nO=k.H.length→c.ρ=ρ→c.w={w with heap:=w.heap.setIfInBounds (ρ n) o'}→ObOK c (ρ n) [] ob'):
  ∃S',KR A ρ S' hd fl {k with H:=k.H.set n ob'} vals {w with heap:=w.heap.setIfInBounds (ρ n) o'}:=by
 obtain⟨l1,l2⟩:=h.lockMap hH hp hS;have hndN:(ρ n::N).Nodup:=by have:=h.dis.nd (.o n);rwa [hS]at this
 obtain⟨w1,w2⟩:=KR.world (w:=w) (w':={w with heap:=w.heap.setIfInBounds (ρ n) o'}) (M:=ρ n::N) (M':=ρ n::N) (fl:=fl) rfl rfl rfl (by simp) (Recs.other (g:=ρ n) (fun b hb=>by simp[Ne.symm hb]) hnl) (by simpa using l1) (fun b hb' hbm=>by
  have:b≠ρ n:=fun e=>hbm (by simp[e])
  simp[Ne.symm this]) (fun b hb=>.inl hb) hndN
 have hlo:n<k.H.length:=(List.getElem?_eq_some_iff.1 hH).1;have hl:({k with H:=k.H.set n .lock}:Wk).H[n]? =some .lock:=yK hlo
 have hlen:({k with H:=k.H.set n .lock}:Wk).H.length=k.H.length:=by simp
 have hnF:=w1.dis.ndF
 obtain⟨g1,g2⟩:=w1.letGo (fl':=(ρ n::[])++fl) (by
  simp only[List.cons_append,List.nodup_cons,xD,not_or,xT,List.nil_append]at hnF ⊢
  exact⟨hnF.1.2,hnF.2.2.1⟩) (fun b hb=>by
  rcases List.mem_append.1 hb with q |q
  ·rw[yQ]at q;subst q;simp
  ·exact xR _ q)
 obtain⟨u1,u2⟩:=g1.unlockMap (M:=[]) (ob:=ob') hp' hl (ho _ (by simp[aa]) rfl rfl)
 simp only[List.set_set]at u1
 exact⟨_,u1⟩
theorem Cm{y:ByteArray}{s:List UInt8}(h:y.data.toList=s):y=⟨s.toArray⟩∧y.size=s.length:=by
 obtain⟨d⟩:=y;subst h
 exact⟨congrArg ByteArray.mk (Array.toArray_toList (xs:=d)).symm,(yF (xs:=d)).symm⟩
theorem IU(h:KR A ρ S hd fl k vals w){t:TypeId}{x sv:SV}{v:Value}{str:Bool}(hx:SO (aa A k.H.length ρ S fl w) k.get hd x v)(e:tF x str k=some (sv,k')):
  ∃val w' ρ' S' hd',(Instr.next v str t).run P w=.ok val w'∧KR A ρ' S' hd' fl k' vals w'∧SO (aa A k'.H.length ρ' S' fl w') k'.get hd' sv val:=by
 have over:∀{c:Cx} {K:Root→Option T} {hd:Root→Value},SO c K hd (.tup [.d (.bool false)]) (.tuple #[.bool false]):=fun{c K hd}=>⟨_,rfl,_,_,rfl,VV.one (by simp[VC]) (by simp),rfl⟩
 unfold tF at e
 split at e
 ·rename_i i
  have hv:=VV.inv hx (by simp)
  simp only[VC,xC,and_true]at hv
  obtain⟨hi,rfl⟩:=hv
  split at e
  ·rename_i s p hH
   obtain⟨N,m1,m0,y,m2,m3⟩:=h.map i _ hH rfl;obtain⟨y1,y2⟩:=Cm m3;have hb:w.heap[ρ i]? =some (.stringIter y p):=m2;have hlt:ρ i<w.heap.size:=(Array.getElem?_eq_some_iff.1 hb).1
   split at e
   ·rename_i hp
    simp only[xJ,pJ]at e
    obtain⟨rfl,rfl⟩:=e;obtain⟨S',g1⟩:=h.setPl (ob':=.iter s (p+(Utf8.decode ⟨s.toArray⟩ p).2)) (o':=.stringIter y (p+(Utf8.decode y p).2)) hH rfl rfl m1 hlt (fun r=>by rw[hb];simp) (fun c _ _ hw=>⟨rfl,y,by rw[hw];simp[hlt,y1],m3⟩)
    refine⟨.tuple #[.bool true,.int .i64 p,.int .i32 (Utf8.decode ⟨s.toArray⟩ p).1],_,ρ,S',hd,?_,g1,?_⟩
    ·have hlt':p<y.size:=by omega
     simp only[Instr.next,aa];simp[Sem.run_bind,getObj,setObj,Sem.run,hb,Result.andThen,hlt',goInt,←y1]
    ·exact⟨_,rfl,_,_,rfl,VV.one (by simp[VC]) (by simp),_,_,rfl,VV.one (by simp[VC]) (by simp),_,_,rfl,VV.one (by simp[VC]) (by simp),rfl⟩
   ·rename_i hp
    simp only[xJ,pJ]at e
    obtain⟨rfl,rfl⟩:=e
    refine⟨.tuple #[.bool false],w,ρ,S,hd,?_,h,over⟩
    have hlt':¬p<y.size:=by omega
    simp only[Instr.next,aa];simp[Sem.run_bind,getObj,Sem.run,hb,Result.andThen,hlt']
  ·rename_i hH
   simp only[xJ,pJ]at e
   obtain⟨rfl,rfl⟩:=e;obtain⟨N,m1,m0,mn,since,last,m2⟩:=h.map i _ hH rfl;have hb:w.heap[ρ i]? =some (.mapIter none since #[] last):=m2
   refine⟨.tuple #[.bool false],w,ρ,S,hd,?_,h,over⟩
   simp only[Instr.next,aa];simp[Sem.run_bind,getObj,Sem.run,hb,Result.andThen]
  ·rename_i m hH
   split at e
   ·rename_i hm
    simp only[xJ,pJ]at e
    obtain⟨rfl,rfl⟩:=e;obtain⟨N,m1,m0,mn,since,last,m2⟩:=h.map i _ hH rfl;have hb:w.heap[ρ i]? =some (.mapIter (some (ρ m)) since #[] last):=m2;obtain⟨N2,q1,en,cl,q2,q3,q4⟩:=h.map m _ hm rfl;have hb2:w.heap[ρ m]? =some (.map en cl):=q2.1
    have hen:en= #[]:=by
     have:en.toList=[]:=q3
     simpa using this
    subst hen
    refine⟨.tuple #[.bool false],w,ρ,S,hd,?_,h,over⟩
    simp only[Instr.next,aa];simp[Sem.run_bind,getObj,Sem.run,hb,hb2,Result.andThen,choose,Question.forced]
   ·cases e
  ·cases e
 ·cases e
theorem Gy{c:Cx}{K:Root→Option T}{t:TypeId}{x sv:SV}{v:Value}(hx:SO c K hd x v)(e:pH P t x=some sv):(Instr.makeInterface t v).run P w=.ok (.iface t v) w∧SO c K hd sv (.iface t v):=by
 unfold pH at e
 split at e
 ·rename_i y
  split at e
  ·cases e
  ·rename_i d hd' hne
   simp only[xJ]at e
   subst e
   refine⟨?_,VV.one ?_ (by simp)⟩
   ·cases d with
    |interface m=>exact absurd rfl (hd' m)
    |_=>simp[Instr.makeInterface,Sem.run_bind,run_underlying hne,Result.andThen]
   ·simp only[VC]
    exact⟨v,rfl,hx.1,hx.2⟩
  ·cases e
 ·cases e
theorem D0{c:Cx}{K:Root→Option T}{xt u:TypeId}{ok:Bool}{x sv:SV}{v:Value}(hx:SO c K hd x v)(e:kq P u ok x=some sv):∃val,(Instr.typeAssert v xt u ok).run P w=.ok val w∧SO c K hd sv val:=by
 have fails:∀{z:D} {d:TypeDesc} {a b:Option TypeId},P.underlying u=some d→aO P u=some z→∃zv,(zeroValue u).run P w=.ok zv w∧SO c K hd (.tup [.d z,.d (.bool false)]) (.tuple #[zv,.bool false]):=by
  intro z d a b _ hz;obtain⟨i,zv,z1,z2,z3,z4⟩:=fD hz
  exact⟨zv,z4 w,_,rfl,_,_,rfl,gj z3,_,_,rfl,VV.one (by simp[VC]) (by simp),rfl⟩
 unfold kq at e
 split at e
 ·have hv:=VV.inv hx (by simp)
  simp only[VC,xC,and_true]at hv
  subst hv
  split at e
  ·cases e
  ·rename_i d hne hu
   split at e
   ·rename_i hok
    subst hok;simp only[xM]at e
    obtain⟨z,hz,rfl⟩:=e;obtain⟨zv,h1,h2⟩:=fails (a:=none) (b:=none) hu hz
    refine⟨_,?_,h2⟩
    cases d with
    |interface m=>exact absurd rfl (hne m)
    |_=>simp[Instr.typeAssert,Sem.run_bind,run_underlying hu,Result.andThen,h1]
   ·cases e
  ·cases e
 ·rename_i t y
  have hv:=VV.inv hx (by simp)
  simp only[VC,xC,and_true]at hv
  obtain⟨v',rfl,h1,h2⟩:=hv
  split at e
  ·cases e
  ·rename_i d hne hu
   split at e
   ·rename_i htu
    subst htu;simp only[xJ]at e
    subst e
    cases ok with
    |true=>
     refine⟨.tuple #[v',.bool true],?_,_,rfl,_,_,rfl,(⟨h1,h2⟩:VV c y v'),_,_,rfl,VV.one (by simp[VC]) (by simp),rfl⟩
     cases d with
     |interface m=>exact absurd rfl (hne m)
     |_=>simp[Instr.typeAssert,Sem.run_bind,run_underlying hu,Result.andThen]
    |false=>
     refine⟨v',?_,(⟨h1,h2⟩:VV c y v')⟩
     cases d with
     |interface m=>exact absurd rfl (hne m)
     |_=>simp[Instr.typeAssert,Sem.run_bind,run_underlying hu,Result.andThen]
   ·rename_i htu
    split at e
    ·rename_i hok
     subst hok;simp only[xM]at e
     obtain⟨z,hz,rfl⟩:=e;obtain⟨zv,q1,q2⟩:=fails (a:=none) (b:=none) hu hz
     refine⟨_,?_,q2⟩
     cases d with
     |interface m=>exact absurd rfl (hne m)
     |_=>simp[Instr.typeAssert,Sem.run_bind,run_underlying hu,Result.andThen,q1,htu]
    ·cases e
  ·cases e
 ·cases e
end
section
variable{P:Program}{A:Av}{ρ:Nat→Nat}{S:Root→List Nat}{hd:Root→Value}{fl:List Nat}{k:Wk}{vals:List (SV×Value)}{w:World}
theorem Cn{c:Cx}{b:Nat}(s:List UInt8):∀(l:List UInt8) (o:Nat),(∀j,j<l.length→c.w.cell? ⟨b,o+j,none⟩=some (.int .u8 (l.getD j 0).toNat))→VE c (l.map fun x=>D.int .u8 x.toNat) ⟨b,0,none⟩ o 1
 | [],o,_=>by simp[VE]
 |x::l,o,h=>by
  simp only[List.map_cons,VE]
  refine⟨⟨[.int .u8 x.toNat],rfl,fun j v hj=> ?_,by simp[VC]⟩,Cn s l (o+1) fun j hj=> ?_⟩
  ·cases j with
   |zero=>
    simp only[yE,xJ]at hj
    subst hj
    have:=h 0 (by simp)
    rw[aL,Nat.zero_add]
    simpa using this
   |succ j=>simp at hj
  ·have:=h (j+1) (by simp;omega)
   rw[show o+1+j=o+(j+1)by omega]
   simpa using this
theorem IV(h:KR A ρ S hd fl k vals w){src dst el:TypeId}{s:List UInt8}{v:Value}{d:D}(hx:SO (aa A k.H.length ρ S fl w) k.get hd (.d (.str s)) v)(hdst:P.underlying dst=some (.slice el))(e:tE P src dst (.d (.str s))=some d):
  ∃u w',(convert src dst v).run P w=.ok u w'∧KR A ρ S hd fl k vals w'∧VV (aa A k.H.length ρ S fl w') d u:=by
 obtain⟨b,rfl,hb⟩:=VV.of_str hx;simp only[tE,hdst]at e
 split at e
 ·rename_i h1 h2;cases h2
 ·rename_i e0 hs0 h2
  simp only[xJ,TypeDesc.slice.injEq]at h2
  subst h2
  split at e
  ·rename_i hu
   simp only[xJ]at e
   subst e
   have hu':P.underlying el=some (.int .u8):=by
    unfold Gl at hu
    split at hu
    ·assumption
    ·cases hu
   have hrun:=Lib.run_convert_string_bytes w src dst el b hs0 hdst hu';have hsz:b.size=s.length:=by rw[←hb];rfl
   have hsize:=Lib.bytesWorld_size w el b;obtain⟨q1,_⟩:=KR.world (w:=w) (w':=Lib.bytesWorld w el b) (M:=[]) (M':=[]) (fl:=fl) rfl rfl rfl (by rw[hsize];omega) (.old fun j hj=>Lib.bytesWorld_at_old w el b j hj) (by simpa using h) (fun j hj _=>Lib.bytesWorld_at_old w el b j hj) (by simp) (by simp)
   refine⟨_,_,hrun,by simpa using q1,⟨?_,?_⟩⟩
   ·show VC _ _ [_]
    simp only[VC]
    refine⟨some ⟨w.heap.size,0,none⟩,b.size,grownCap w b.size 0 el,rfl,by simp[hsz],?_,fun _=>⟨⟨w.heap.size,0,none⟩,1,rfl,rfl,⟨fun ho=> ?_,fun hF=> ?_,by show w.heap.size<(Lib.bytesWorld w el b).heap.size;rw[hsize];omega⟩,by omega,?_⟩⟩
    ·exact grownCap_ge _ _ _ _
    ·exact absurd (h.blk _ ho).1 (Nat.lt_irrefl _)
    ·exact absurd (yA (h.Fold _ _ hF) h.fr.size) (Nat.lt_irrefl _)
    ·refine Cn s s 0 fun j hj=> ?_
     have:=Lib.bytesWorld_cell w el b j (by omega)
     rw[hb]at this
     rw[Nat.zero_add];exact this
   ·rfl
  ·cases e
 ·cases e
end
section
variable{P:Program}{A:Av}{ρ:Nat→Nat}{S:Root→List Nat}{hd:Root→Value}{fl:List Nat}{k k':Wk}{vals:List (SV×Value)}{w:World}
theorem tK{c:Cx}{K:Root→Option T}{nv:Nat}{v:SV}{val:Value}{y:D}(e:bD nv v k=some (.d y,k'))(hv:SO c K hd (trv k.tr v) val):oq y val:=by
 have one:∀u:SV,SO c K hd u val→ar nv u k=some (.d y,k')→oq y val:=fun u hu e=>by
  cases u with
  |d x=>
   simp only[ar,xJ,pJ,T.d.injEq]at e
   rw[←e.1];exact hu.2
  |clip b l=>
   simp only[ar,xJ,pJ,T.d.injEq]at e
   obtain⟨_,a,rfl⟩:=hu;rw[←e.1];rfl
  |ns b=>
   simp only[ar,xJ,pJ,T.d.injEq]at e
   obtain⟨a,cap,rfl,_⟩:=hu;rw[←e.1];rfl
  |bor r p off len=>
   obtain⟨t0,es,hh,b1,b2,b3,b4,b5⟩:=hu;obtain⟨a,mm,cap,a',cap',m1,rfl,m3,m4,m5⟩:=b5
   have hsl:∃b l,y=.sl b l:=by
    simp only[ar,xB]at e
    obtain⟨c0,_,nd,_,e⟩:=e
    split at e
    ·split at e
     ·split at e
      ·simp only[xM,pJ]at e
       obtain⟨_,_,e,_⟩:=e;cases e
      ·simp only[xB,xM,pJ,T.d.injEq]at e
       obtain⟨l,_,k0,_,e,_⟩:=e
       exact⟨_,_,e.symm⟩
     ·simp only[xB,xM,pJ,T.d.injEq]at e
      obtain⟨l,_,c',_,k0,_,e,_⟩:=e
      exact⟨_,_,e.symm⟩
    ·cases e
   obtain⟨b,l,rfl⟩:=hsl;rfl
  |_=>simp[ar]at e
 by_cases hag:∃l,v=.agg l
 ·obtain⟨l,rfl⟩:=hag
  rw[uM]at hv
  obtain⟨cs,rfl,_⟩:=hv;simp only[bD,xM,pJ]at e
  obtain⟨⟨ts,k1⟩,_,e,_⟩:=e;unfold T.mkAgg at e
  split at e
  ·simp only[T.d.injEq]at e;rw[←e];exact⟨cs,rfl⟩
  ·cases e
 ·refine one _ hv ?_
  revert e
  cases v <;>intro e <;>first |exact e |exact absurd ⟨_,rfl⟩ hag
theorem eu{r:Nat}{es:Array MapEntry}{clock:Nat}{o:Obj}(h:w.heap[r]? =some (.map es clock)):(setObj r o).run P w=.ok () {w with heap:=w.heap.setIfInBounds r o}:=by
 simp[setObj,Sem.run,h]
theorem RetAll.snoc{c:Cx}{t:T}{v:Value}{Mt:List Nat}(ht:TC c t v.cells.toList Mt)(hf:j3 t v):∀(ts:List T) (vs:List Value) (M:List Nat),RetAll c ts vs M→RetAll c (ts++[t]) (vs++[v]) (M++Mt)
 | [],vs,M,hp=>by
  obtain⟨rfl,rfl⟩:=hp
  exact⟨v,[],Mt,[],rfl,by simp,ht,hf,rfl,rfl⟩
 |a::ts,vs,M,hp=>by
  obtain⟨u,r,M1,M2,rfl,rfl,h3,h4,h5⟩:=hp
  exact⟨u,r++[v],M1,M2++Mt,rfl,by simp,h3,h4,RetAll.snoc ht hf ts r M2 h5⟩
theorem RetAll.set{c:Cx}{t:T}{v:Value}{Mt:List Nat}(ht:TC c t v.cells.toList Mt)(hf:j3 t v):∀(ts:List T) (vs:List Value) (M:List Nat) (i:Nat),RetAll c ts vs M→i<ts.length→∃M1 Mi M2,M=M1++Mi++M2∧RetAll c (ts.set i t) (vs.set i v) (M1++Mt++M2)
 | [],vs,M,i,hp,hi=>by simp at hi
 |a::ts,vs,M,i,hp,hi=>by
  obtain⟨u,r,M1,M2,rfl,rfl,h3,h4,h5⟩:=hp
  cases i with
  |zero=>exact⟨[],M1,M2,by simp,v,r,Mt,M2,rfl,by simp,ht,hf,h5⟩
  |succ i=>
   obtain⟨N1,Ni,N2,rfl,q⟩:=RetAll.set ht hf ts r M2 i h5 (by simpa using hi)
   exact⟨M1++N1,Ni,N2,by simp,u,r.set i v,M1,N1++Mt++N2,rfl,by simp,h3,h4,q⟩
theorem KR.setMap{M N N':List Nat}(h:KR A ρ S hd (M++fl) k vals w){o:Nat}{es es':List (D×T)}{en en':Array MapEntry}{cl cl':Nat}(hm:k.H[o]? =some (.map es))(hS:S (.o o)=ρ o::N)(hsub:∀b∈N',b∈N)(hnd:N'.Nodup)(hb:w.heap[ρ o]? =some (.map en cl))(hst:Stamps en' cl')
  (hk:All2 (AG (aa A k.H.length ρ S (M++fl) w)) es' en'.toList) (hv:RetAll (aa A k.H.length ρ S (M++fl) w) (es'.map (·.2)) (en'.toList.map (·.val)) N'):
  ∃S',KR A ρ S' hd (M++fl) {k with H:=k.H.set o (.map es')} vals {w with heap:=w.heap.setIfInBounds (ρ o) (.map en' cl')}:=by
 obtain⟨l1,l2⟩:=h.lockMap hm rfl hS;have hlt:ρ o<w.heap.size:=(Array.getElem?_eq_some_iff.1 hb).1;have hndN:(ρ o::N).Nodup:=by have:=h.dis.nd (.o o);rwa [hS]at this
 obtain⟨w1,w2⟩:=KR.world (w:=w) (w':={w with heap:=w.heap.setIfInBounds (ρ o) (.map en' cl')}) (M:=ρ o::N) (M':=ρ o::N) rfl rfl rfl (by simp) (Recs.other (g:=ρ o) (fun b hb=>by simp[Ne.symm hb]) (fun r=>by rw[hb];simp)) l1 (fun b hb' hbm=>by
  have:b≠ρ o:=fun e=>hbm (by simp[e])
  simp[Ne.symm this]) (fun b hb=>.inl hb) hndN
 have hlo:o<k.H.length:=(List.getElem?_eq_some_iff.1 hm).1;have hl:({k with H:=k.H.set o .lock}:Wk).H[o]? =some .lock:=yK hlo
 have hlen:({k with H:=k.H.set o .lock}:Wk).H.length=k.H.length:=by simp
 have hnF:=w1.dis.ndF;rw[xT]at hnF
 have hsub':∀b∈ρ o::N',b∈ρ o::N:=fun b hb=>by
  rcases List.mem_cons.1 hb with rfl |hb
  ·simp
  ·exact List.mem_cons_of_mem _ (hsub b hb)
 obtain⟨g1,g2⟩:=w1.letGo (fl':=(ρ o::N')++(M++fl)) (by
  rw[xT]
  refine⟨List.nodup_cons.2 ⟨fun hc=>(List.nodup_cons.1 hndN).1 (hsub _ hc),hnd⟩,hnF.2.1,fun a ha b hb=>hnF.2.2 a (hsub' a ha) b hb⟩) (fun b hb=>by
  rcases List.mem_append.1 hb with q |q
  ·exact xL _ (hsub' b q)
  ·exact xR _ q)
 rw[hlen]at w2 g2
 have e3:Ext (aa A k.H.length ρ S (M++fl) w) (aa A k.H.length ρ (upd S (.o o) []) ((ρ o::N')++(M++fl)) {w with heap:=w.heap.setIfInBounds (ρ o) (.map en' cl')}):=by
  refine⟨fun b g hp=> ?_,Nat.le_refl _,fun _ _=>rfl⟩
  have q1:=l2.pm b g hp;have q2:=w2.pm b g q1.1;have q3:=g2.pm b g q2.1
  exact⟨q3.1,q3.2.trans (q2.2.trans q1.2)⟩
 obtain⟨u1,u2⟩:=g1.unlockMap (M:=N') (ob:=.map es') rfl hl (by
  rw[hlen]
  refine⟨en',cl',⟨by simp[aa,hlt],hst⟩,hk.imp (fun _ _ _ q=>VV.ext e3 q),RetAll.ext e3 _ _ _ (fun g hg=> ?_) hv⟩
  have:g≠ρ o:=fun e=>(List.nodup_cons.1 hndN).1 (e▸hsub g hg)
  simp[aa,Ne.symm this])
 simp only[List.set_set]at u1
 exact⟨_,u1⟩
theorem D1{c:Cx}{K:Root→Option T}{nv:Nat}{v:SV}{val:Value}{l:List T}(e:bD nv v k=some (.own l,k'))(hv:SO c K hd (trv k.tr v) val):val.oneCell'=true:=by
 by_cases hag:∃l,v=.agg l
 ·obtain⟨l,rfl⟩:=hag
  simp only[bD,xM,pJ]at e
  obtain⟨⟨ts,k1⟩,_,e,_⟩:=e;unfold T.mkAgg at e
  split at e <;>cases e
 ·have e':ar nv (trv k.tr v) k=some (.own l,k'):=by
   revert e
   cases v <;>intro e <;>first |exact e |exact absurd ⟨_,rfl⟩ hag
  revert e' hv
  generalize trv k.tr v=u;intro hu e
  cases u with
  |bor r p off len=>
   obtain⟨t0,es,hh,b1,b2,b3,b4,b5⟩:=hu;obtain⟨a,mm,cap,a',cap',m1,rfl,m3,m4,m5⟩:=b5;rfl
  |_=>simp[ar]at e
theorem sD{k1:Wk}{S1:Root→List Nat}(g1:KR A ρ S1 hd ([]++fl) k1 vals w){t kt el:TypeId}{kd y:D}{xv vv:Value}{o:Nat}{es es':List (D×T)}(hu:P.underlying t=some (.map kt el))(hs:(aI P kt kd kd).isSome=true)(hval:VV (aa A k1.H.length ρ S1 ([]++fl) w) y vv)(hkey:VV (aa A k1.H.length ρ S1 ([]++fl) w) kd xv)(hes:k1.H[o]? =some (.map es))(hp:jX (aI P kt) kd (.d y) es=some es'):
  ∃w' S',(Instr.mapUpdate t (.map (some (ρ o))) xv vv).run P w=.ok () w'∧KR A ρ S' hd fl {k1 with H:=k1.H.set o (.map es')} vals w'∧∀b,b≠ρ o→w'.heap[b]? =w.heap[b]? :=by
 obtain⟨N,m1,en,cl,m2,m3,m4⟩:=g1.map o _ hes rfl;have hndN:N.Nodup:=by have:=g1.dis.nd (.o o);rw[m1]at this;exact(List.nodup_cons.1 this).2
 have hb:w.heap[ρ o]? =some (.map en cl):=m2.1;obtain⟨r,hf⟩:=sC es es' hp;obtain⟨res,f1,f2⟩:=pT (w:=w) hkey hs m3 hf;have hck:(Instr.checkKey false 10000 kt xv).run P w=.ok () w:=iZ hkey hs
 rcases f2 with⟨rfl,rfl,f3⟩ |⟨j,t1,k0,e0,rfl,q2,q3,rfl,q5,q6⟩
 ·have:es'=es++[(kd,.d y)]:=by
   have:=f3 (.d y);rw[this]at hp;simpa using hp.symm
  subst this
  obtain⟨S',u1⟩:=g1.setMap (N':=N) (es':=es++[(kd,.d y)]) (en':=en.push {key:=xv,val:=vv,born:=cl}) (cl':=cl+1) hes m1 (fun _ h=>h) hndN hb (m2.2.push _ _) (by
   simp only[Array.toList_push]
   exact m3.append ⟨_,[],rfl,hkey,rfl⟩) (by
   simp only[Array.toList_push,List.map_append,List.map_cons,List.map_nil]
   have:=RetAll.snoc (t:=.d y) (v:=vv) (Mt:=[]) (by simp only[TC];exact⟨trivial,hval.1⟩) hval.2 _ _ _ m4
   rwa [List.append_nil]at this)
  refine⟨_,S',?_,by simpa using u1,fun b hb=>by simp[Ne.symm hb]⟩
  simp[Instr.mapUpdate,run_underlying hu,dq hb,hck,f1,eu hb]
 ·have:es'=es.set j (kd,.d y):=by
   have:=q6 (.d y);rw[this]at hp;simpa using hp.symm
  subst this;obtain⟨e0',r1,r2⟩:=m3.get q2;rw[q3]at r1
  simp only[xJ]at r1
  subst r1;have hks:=tJ (w:=w) hkey r2 q5;have hj:en[j]? =some e0:=by simpa using q3
  have hjl:j<en.size:=(Array.getElem?_eq_some_iff.1 hj).1
  have hmod:(en.modify j fun e=>{e with key:=xv,val:=vv}).toList=en.toList.set j {e0 with key:=xv,val:=vv}:=by
   apply List.ext_getElem?;intro i;rw[yM,Array.getElem?_modify,List.getElem?_set]
   by_cases hij:j=i
   ·subst hij;have hb:=(Array.getElem?_eq_some_iff.1 hj).2;simp[hj,hjl,hb]
   ·simp[hij]
  obtain⟨N1,Ni,N2,hN,hset⟩:=RetAll.set (t:=.d y) (v:=vv) (Mt:=[]) (by simp only[TC];exact⟨trivial,hval.1⟩) hval.2 _ _ _ j m4 (by simpa using(List.getElem?_eq_some_iff.1 q2).1)
  rw[List.append_nil]at hset
  have hnd':(N1++N2).Nodup:=by
   rw[hN,xK]at hndN
   rw[xT]at hndN ⊢
   obtain⟨p1,p2,p3⟩:=hndN;rw[xT]at p2
   exact⟨p1,p2.2.1,fun a ha b hb=>p3 a ha b (xR _ hb)⟩
  obtain⟨S',u1⟩:=g1.setMap (N':=N1++N2) (es':=es.set j (kd,.d y)) (en':=en.modify j fun e=>{e with key:=xv,val:=vv}) (cl':=cl) hes m1 (fun b hb=>by
   rw[hN]
   rcases List.mem_append.1 hb with q |q
   ·exact xL _ (xL _ q)
   ·exact xR _ q) hnd' hb (m2.2.same (by rw[hmod,List.map_set];exact qU (by simp[q3]))) (by
   rw[hmod]
   exact m3.set j hkey) (by
   rw[hmod,List.map_set,List.map_set]
   exact hset)
  refine⟨_,S',?_,by simpa using u1,fun b hb=>by simp[Ne.symm hb]⟩
  simp only[Nat.zero_add]at f1
  simp[Instr.mapUpdate,run_underlying hu,dq hb,hck,f1,hj,hks,eu hb]
theorem wH(h:KR A ρ S hd fl k vals w){nv:Nat}{t:TypeId}{m x v:SV}{mv xv vv:Value}(hm:SO (aa A k.H.length ρ S fl w) k.get hd m mv)(hx:SO (aa A k.H.length ρ S fl w) k.get hd x xv)(hv:(v,vv)∈vals)(e:cD P nv t m x v k=some k'):
  ∃w' S',(Instr.mapUpdate t mv xv vv).run P w=.ok () w'∧KR A ρ S' hd fl k' vals w':=by
 simp only[cD,xB]at e
 obtain⟨⟨kt,el⟩,h1,e⟩:=e;have hu:=mq h1;simp only at e
 split at e
 ·rename_i o kd
  split at e
  ·rename_i hs
   simp only[xB]at e
   obtain⟨⟨t0,k1⟩,e1,e⟩:=e;simp only at e
   split at e
   ·rename_i y es hes
    simp only[xM]at e
    obtain⟨es',hp,rfl⟩:=e;obtain⟨S1,M,g1,g2,g3,g4⟩:=hD h hv e1;have hfit:=tK e1 (h.vals _ hv);simp only[TC]at g3
    obtain⟨rfl,g3⟩:=g3;have hval:VV (aa A k1.H.length ρ S1 ([]++fl) w) y vv:=⟨g3,hfit⟩;have hkey:VV (aa A k1.H.length ρ S1 ([]++fl) w) kd xv:=VV.ext g2 hx;have hm':=VV.inv hm (by simp)
    simp only[VC,xC,and_true]at hm'
    have hmv:mv=.map (some (ρ o)):=hm'.2;subst hmv;obtain⟨w',S',r1,r2,_⟩:=sD g1 hu hs hval hkey hes hp
    exact⟨w',S',r1,r2⟩
   ·rename_i l es hes
    simp only[xM]at e
    obtain⟨es',hp,rfl⟩:=e;obtain⟨S1,M,g1,g2,g3,g4⟩:=hD h hv e1;have hone:vv.oneCell'=true:=D1 e1 (h.vals _ hv);have hkey:VV (aa A k1.H.length ρ S1 (M++fl) w) kd xv:=VV.ext g2 hx;have hm':=VV.inv hm (by simp)
    simp only[VC,xC,and_true]at hm'
    have hmv:mv=.map (some (ρ o)):=hm'.2;subst hmv;obtain⟨N,m1,en,cl,m2,m3,m4⟩:=g1.map o _ hes rfl;have hndN:N.Nodup:=by have:=g1.dis.nd (.o o);rw[m1]at this;exact(List.nodup_cons.1 this).2
    have hb:w.heap[ρ o]? =some (.map en cl):=m2.1;have hMnd:M.Nodup:=by have:=g1.dis.ndF;rw[xT]at this;exact this.1
    have hNd:∀b∈N,b∉M:=fun b hb hc=>g1.dis.oneF (.o o) b (by rw[m1];simp[hb]) (xL _ hc)
    have hNM:(N++M).Nodup:=by rw[xT];exact⟨hndN,hMnd,fun a ha b hb e=>hNd a ha (e▸hb)⟩
    obtain⟨r,hf⟩:=sC es es' hp;obtain⟨res,f1,f2⟩:=pT (w:=w) hkey hs m3 hf;have hck:(Instr.checkKey false 10000 kt xv).run P w=.ok () w:=iZ hkey hs
    rcases f2 with⟨rfl,rfl,f3⟩ |⟨j,t1,k0,e0,rfl,q2,q3,rfl,q5,q6⟩
    ·have:es'=es++[(kd,.own l)]:=by
      have:=f3 (.own l);rw[this]at hp;simpa using hp.symm
     subst this
     obtain⟨S',u1⟩:=g1.setMapM (N':=N++M) (es':=es++[(kd,.own l)]) (en':=en.push {key:=xv,val:=vv,born:=cl}) (cl':=cl+1) hes m1 (fun _ h=>h) hNM hb (m2.2.push _ _) (by
      simp only[Array.toList_push]
      exact m3.append ⟨_,[],rfl,hkey,rfl⟩) (by
      simp only[Array.toList_push,List.map_append,List.map_cons,List.map_nil]
      have:=RetAll.snoc (t:=.own l) (v:=vv) (Mt:=M) g3 hone _ _ _ m4
      exact this)
     refine⟨_,S',?_,by simpa using u1⟩
     simp[Instr.mapUpdate,run_underlying hu,dq hb,hck,f1,eu hb]
    ·have:es'=es.set j (kd,.own l):=by
      have:=q6 (.own l);rw[this]at hp;simpa using hp.symm
     subst this;obtain⟨e0',r1,r2⟩:=m3.get q2;rw[q3]at r1
     simp only[xJ]at r1
     subst r1;have hks:=tJ (w:=w) hkey r2 q5;have hj:en[j]? =some e0:=by simpa using q3
     have hjl:j<en.size:=(Array.getElem?_eq_some_iff.1 hj).1
     have hmod:(en.modify j fun e=>{e with key:=xv,val:=vv}).toList=en.toList.set j {e0 with key:=xv,val:=vv}:=by
      apply List.ext_getElem?;intro i;rw[yM,Array.getElem?_modify,List.getElem?_set]
      by_cases hij:j=i
      ·subst hij;have hb:=(Array.getElem?_eq_some_iff.1 hj).2;simp[hj,hjl,hb]
      ·simp[hij]
     obtain⟨N1,Ni,N2,hN,hset⟩:=RetAll.set (t:=.own l) (v:=vv) (Mt:=M) g3 hone _ _ _ j m4 (by simpa using(List.getElem?_eq_some_iff.1 q2).1)
     have hnd':(N1++M++N2).Nodup:=by
      rw[hN]at hNM
      simp only[xT,xD]at hNM ⊢
      grind
     obtain⟨S',u1⟩:=g1.setMapM (N':=N1++M++N2) (es':=es.set j (kd,.own l)) (en':=en.modify j fun e=>{e with key:=xv,val:=vv}) (cl':=cl) hes m1 (fun b hb=>by
      rw[hN];simp only[xD]at hb ⊢
      grind) hnd' hb (m2.2.same (by rw[hmod,List.map_set];exact qU (by simp[q3]))) (by
      rw[hmod]
      exact m3.set j hkey) (by
      rw[hmod,List.map_set,List.map_set]
      exact hset)
     refine⟨_,S',?_,by simpa using u1⟩
     simp only[Nat.zero_add]at f1
     simp[Instr.mapUpdate,run_underlying hu,dq hb,hck,f1,hj,hks,eu hb]
   ·rename_i y ks hes
    simp only[xM]at e
    obtain⟨ks',hp,rfl⟩:=e;obtain⟨S1,M,g1,g2,g3,g4⟩:=hD h hv e1;have hfit:=tK e1 (h.vals _ hv);simp only[TC]at g3
    obtain⟨rfl,g3⟩:=g3;have hval:VV (aa A k1.H.length ρ S1 ([]++fl) w) y vv:=⟨g3,hfit⟩;have hkey:VV (aa A k1.H.length ρ S1 ([]++fl) w) kd xv:=VV.ext g2 hx;have hm':=VV.inv hm (by simp)
    simp only[VC,xC,and_true]at hm'
    have hmv:mv=.map (some (ρ o)):=hm'.2;subst hmv;obtain⟨es,q1,g1'⟩:=g1.unset hes;obtain⟨es',q2,q3⟩:=q1.put hs hp;have hlt:=(List.getElem?_eq_some_iff.1 hes).1;obtain⟨w',S',r1,r2,_⟩:=sD (k1:={k1 with H:=k1.H.set o (.map es)}) g1' hu hs (by simpa using hval) (by simpa using hkey) (yK hlt) q2
    have r3:=r2.reset (o:=o) (es:=es') (ks:=ks') (by simp[hlt]) q3
    simp only[List.set_set]at r3
    exact⟨w',S',r1,r3⟩
   ·cases e
  ·cases e
 ·cases e
def zG(n:Next)(v:Value):Prop:=n=.value v∨(n=.skip∧v=undef)
theorem IW{G:Nat→Option D}(hG:GA G A)(h:KR A ρ S hd fl k vals w)(htr:k.tr=[]){hint:Hint}(hgl:∀g d,hint.gl g=some d→G g=some d){dst:Nat}{ty:TypeId}{o:Oper}{σ:Operand→SV}{ev:Operand→Value}{sv:SV}(hev:∀g,ev (.global g)=.pointer (some ⟨g,0,none⟩))(hv:∀x∈o.op.operands,(σ x,ev x)∈vals)(e:opE P hint dst ty o.op σ k=some (sv,k')):
  ∃n v w' ρ' S' hd',(execOp ev o).run P w=.ok n w'∧zG n v∧KR A ρ' S' hd' fl k' vals w'∧SO (aa A k'.H.length ρ' S' fl w') k'.get hd' sv v:=by
 have so:∀x∈o.op.operands,SO (aa A k.H.length ρ S fl w) k.get hd (σ x) (ev x):=fun x hx=>by
  have:=h.vals _ (hv x hx)
  rw[htr]at this
  exact this
 have pure:∀(f:Value→Next) (s:Sem Value) v,(execOp ev o=do Pure.pure (f (←s)))→(∀v,f v=.value v)→s.run P w=.ok v w→k'=k→SO (aa A k.H.length ρ S fl w) k.get hd sv v→
   ∃n v w' ρ' S' hd',(execOp ev o).run P w=.ok n w'∧zG n v∧KR A ρ' S' hd' fl k' vals w'∧SO (aa A k'.H.length ρ' S' fl w') k'.get hd' sv v:=by
  intro f s v h1 h2 h3 h4 h5;subst h4
  exact⟨.value v,v,w,ρ,S,hd,by rw[h1];simp[h3,h2],.inl rfl,h,h5⟩
 obtain⟨odst,op,oty,pos,after,guard⟩:=o;simp only at e hv so pure
 cases op with
 |move x=>
  simp only[opE,xJ,pJ]at e
  obtain⟨rfl,rfl⟩:=e
  exact⟨.value (ev x),ev x,w,ρ,S,hd,by simp[execOp],.inl rfl,h,so x (by simp[Op.operands])⟩
 |assign x=>
  obtain⟨S',hd',g1,g2⟩:=DY h (so x (by simp[Op.operands])) e
  exact⟨.value (ev x),ev x,w,ρ,S',hd',by simp[execOp],.inl rfl,g1,g2⟩
 |pick c a b=>
  simp only[opE]at e
  split at e
  ·rename_i t ht
   simp only[xJ,pJ]at e
   obtain⟨rfl,rfl⟩:=e;have hc:=so c (by simp[Op.operands])
   rw[ht]at hc
   have hc:=VV.of_bool hc
   refine⟨.value (if t then ev a else ev b),_,w,ρ,S,hd,by simp[execOp,hc,asBool],.inl rfl,h,?_⟩
   cases t
   ·exact so b (by simp[Op.operands])
   ·exact so a (by simp[Op.operands])
  ·cases e
 |alloc el=>
  simp only[opE,xB]at e
  obtain⟨z,hz,e⟩:=e;obtain⟨i,zv,z1,z2,z3,z4⟩:=fD hz;have hzv:=su (gj (c:=aa A k.H.length ρ S ([]++fl) w) z3).1;obtain⟨ρ',S',hd',g1,g2⟩:=Fw (cs:=zv.cells) (ty:=el) (M:=[]) (by simpa using h) hzv e
  exact⟨.value _,_,_,ρ',S',hd',by simp[execOp,Instr.alloc,z4 w,newVar,newRow,newObj,Sem.run],.inl rfl,g1,g2⟩
 |box el x=>
  simp only[opE,xB]at e
  obtain⟨⟨t,k1⟩,e1,e⟩:=e;simp only at e
  split at e
  ·obtain⟨S1,M,g1,g2,g3,g4⟩:=wq h (hv x (by simp[Op.operands])) e1
   obtain⟨ρ',S',hd',q1,q2⟩:=Fw (cs:=(ev x).cells) (ty:=el) g1 g3 e
   exact⟨.value _,_,_,ρ',S',hd',by simp[execOp,Instr.box,newVar,newRow,newObj,Sem.run],.inl rfl,q1,q2⟩
  ·cases e
 |build t parts=>
  simp only[opE,xM,pJ]at e
  obtain⟨sv',e,rfl,rfl⟩:=e
  have hp:All2 (fun(a:Nat×SV) (b:Nat×Value)=>a.1=b.1∧SO (aa A k.H.length ρ S fl w) k.get hd a.2 b.2) (parts.toList.map fun p=>(p.1,σ p.2)) (parts.toList.map fun p=>(p.1,ev p.2)):=by
   have hso:∀p∈parts.toList,SO (aa A k.H.length ρ S fl w) k.get hd (σ p.2) (ev p.2):=fun p hp=>so _ (by
    simp only[Op.operands,List.mem_toArray,List.mem_map]
    exact⟨p,hp,rfl⟩)
   revert hso
   generalize parts.toList=ps
   induction ps with
   |nil=>intro _;rfl
   |cons p ps ih=>intro hso;exact⟨_,_,rfl,⟨rfl,hso p (by simp)⟩,ih (fun q hq=>hso q (by simp[hq]))⟩
  obtain⟨u,h1,h2⟩:=Gw (P:=P) (w:=w) hp e
  have hpe:(parts.map fun(x:Nat×Operand)=>(x.1,ev x.2))=(parts.toList.map fun p=>(p.1,ev p.2)).toArray:=by
   rw[←Array.toList_inj];simp
  refine pure Next.value (Instr.build t (parts.map fun(x:Nat×Operand)=>(x.1,ev x.2))) u (by simp only[execOp]) (fun _=>rfl) ?_ rfl h2
  rw[←h1,←hpe]
 |buildSlice t len parts=>
  simp only[opE]at e
  have hp:All2 (fun(a:Nat×SV) (b:Nat×Value)=>a.1=b.1∧(a.2,b.2)∈vals) (parts.toList.map fun p=>(p.1,σ p.2)) (parts.toList.map fun p=>(p.1,ev p.2)):=by
   have hso:∀p∈parts.toList,(σ p.2,ev p.2)∈vals:=fun p hp=>hv _ (by
    simp only[Op.operands,List.mem_toArray,List.mem_map]
    exact⟨p,hp,rfl⟩)
   revert hso
   generalize parts.toList=ps
   induction ps with
   |nil=>intro _;rfl
   |cons p ps ih=>intro hso;exact⟨_,_,rfl,⟨rfl,hso p (by simp)⟩,ih (fun q hq=>hso q (by simp[hq]))⟩
  obtain⟨v,w',ρ',S',hd',h1,h2,h3⟩:=wz (P:=P) h hp e
  have hpe:(parts.map fun(x:Nat×Operand)=>(x.1,ev x.2))=(parts.toList.map fun p=>(p.1,ev p.2)).toArray:=by
   rw[←Array.toList_inj];simp
  rw[←hpe]at h1
  exact⟨.value v,v,w',ρ',S',hd',by simp[execOp,h1],.inl rfl,h2,h3⟩
 |load t a=>
  have main:(if hint.lits.contains dst=true then(dW P t (σ a) k).bind fun v=>ow dst v k else(dW P t (σ a) k).map (·,k))=some (sv,k')→
    ∃n v w' ρ' S' hd',(execOp ev {dst:=odst,op:=.load t a,type:=oty,pos:=pos,after:=after,guard:=guard}).run P w=.ok n w'∧zG n v∧KR A ρ' S' hd' fl k' vals w'∧SO (aa A k'.H.length ρ' S' fl w') k'.get hd' sv v:=fun e0=>by
   split at e0
   ·simp only[xB]at e0
    obtain⟨sv',e1,e2⟩:=e0;obtain⟨u,h1,h2⟩:=qR h (so a (by simp[Op.operands])) e1
    obtain⟨S',hd',q1,q2⟩:=IT h h2 e2
    exact⟨.value u,u,w,ρ,S',hd',by simp[execOp,h1],.inl rfl,q1,q2⟩
   ·simp only[xM,pJ]at e0
    obtain⟨sv',e1,rfl,rfl⟩:=e0;obtain⟨u,h1,h2⟩:=qR h (so a (by simp[Op.operands])) e1
    exact pure _ _ u (by simp only[execOp]) (fun _=>rfl) h1 rfl h2
  cases a with
  |global g=>
   simp only[opE,xB]at e
   obtain⟨d,e1,e⟩:=e
   split at e
   case isFalse=>cases e
   rename_i ho;simp only[xM,pJ]at e
   obtain⟨sv',e2,rfl,rfl⟩:=e;obtain⟨u,h1,h2⟩:=qR h (v:=ev (.global g)) (by rw[hev];exact hG.rp h (hgl g d e1) ho) e2
   exact pure _ _ u (by simp only[execOp]) (fun _=>rfl) h1 rfl h2
  |_=>exact main e
 |range t x=>
  obtain⟨val,w',ρ',S',hd',h1,h2,h3⟩:=Gx h (so x (by simp[Op.operands])) e
  exact⟨.value val,val,w',ρ',S',hd',by simp[execOp,h1],.inl rfl,h2,h3⟩
 |next x str=>
  obtain⟨val,w',ρ',S',hd',h1,h2,h3⟩:=IU (P:=P) (t:=oty) h (so x (by simp[Op.operands])) e
  exact⟨.value val,val,w',ρ',S',hd',by simp[execOp,h1],.inl rfl,h2,h3⟩
 |makeInterface t x=>
  simp only[opE,xM,pJ]at e
  obtain⟨sv',e,rfl,rfl⟩:=e;obtain⟨h1,h2⟩:=Gy (P:=P) (w:=w) (so x (by simp[Op.operands])) e
  exact pure _ _ _ (by simp only[execOp]) (fun _=>rfl) h1 rfl h2
 |typeAssert x xt u ok=>
  simp only[opE,xM,pJ]at e
  obtain⟨sv',e,rfl,rfl⟩:=e;obtain⟨val,h1,h2⟩:=D0 (P:=P) (w:=w) (xt:=xt) (so x (by simp[Op.operands])) e
  exact pure _ _ _ (by simp only[execOp]) (fun _=>rfl) h1 rfl h2
 |store t a x=>
  simp only[opE,xM,pJ]at e
  obtain⟨k1,e,rfl,rfl⟩:=e;obtain⟨w',S',h1,h2,h3⟩:=Gr h (hv a (by simp[Op.operands])) (hv x (by simp[Op.operands])) e
  exact⟨.skip,undef,w',ρ,S',hd,by simp[execOp,h1],.inr ⟨rfl,rfl⟩,h2,trivial⟩
 |nilCheck x=>
  have hx:=so x (by simp[Op.operands])
  simp only[opE]at e
  have fin:ev x≠ .pointer none→ev x≠ .nilIface→ev x≠ .nilFunc→(∀m a c,ev x≠ .func (.method m) a c)→σ x=sv→k=k'→∃n v w' ρ' S' hd',(execOp ev {dst:=odst,op:=.nilCheck x,type:=oty,pos:=pos,after:=after,guard:=guard}).run P w=.ok n w'∧zG n v∧KR A ρ' S' hd' fl k' vals w'∧SO (aa A k'.H.length ρ' S' fl w') k'.get hd' sv v:=by
   intro a1 a2 a3 a4 a5 a6;subst a5;subst a6
   have hrun:execOp ev {dst:=odst,op:=.nilCheck x,type:=oty,pos:=pos,after:=after,guard:=guard}=Pure.pure (.value (ev x)):=by
    simp only[execOp]
   exact⟨.value (ev x),ev x,w,ρ,S,hd,by rw[hrun];rfl,.inl rfl,h,hx⟩
  split at e <;>simp only[xJ,pJ,reduceCtorEq]at e <;>(try obtain⟨rfl,rfl⟩:=e) <;>rename_i hsx <;>rw[hsx]at hx
  ·obtain⟨t0,es,g,n,cap,el',h1,h2,h3,h4,h5,hv'⟩:=hx
   exact fin (by simp[hv']) (by simp[hv']) (by simp[hv']) (by simp[hv']) hsx rfl
  ·obtain⟨a,vs,hv',_⟩:=hx
   exact fin (by simp[hv']) (by simp[hv']) (by simp[hv']) (by simp[hv']) hsx rfl
  ·have hv':=VV.inv hx (by simp)
   simp only[VC,xC,and_true]at hv'
   exact fin (by simp[hv'.2]) (by simp[hv'.2]) (by simp[hv'.2]) (by simp[hv'.2]) hsx rfl
  ·have hv':=VV.inv hx (by simp)
   simp only[VC,xC,and_true]at hv'
   obtain⟨a,vs,hv',_⟩:=hv';exact fin (by simp[hv']) (by simp[hv']) (by simp[hv']) (by simp[hv']) hsx rfl
  ·have hv':=VV.inv hx (by simp)
   simp only[VC,xC,and_true]at hv'
   obtain⟨av,bv,hv',_⟩:=hv';exact fin (by simp[hv']) (by simp[hv']) (by simp[hv']) (by simp[hv']) hsx rfl
 |binOp op t x y q=>
  simp only[opE,xM,pJ]at e
  obtain⟨d,e,rfl,rfl⟩:=e;obtain⟨r,h1,h2⟩:=MJ (P:=P) (w:=w) (ox:=x) (oy:=y) (so x (by simp[Op.operands])) (so y (by simp[Op.operands])) (by simp) e
  exact pure _ _ r (by simp only[execOp]) (fun _=>rfl) h1 rfl h2
 |unOp op t x=>
  simp only[opE,xM,pJ]at e
  obtain⟨d,e,rfl,rfl⟩:=e;obtain⟨r,h1,h2⟩:=RS (P:=P) (w:=w) (so x (by simp[Op.operands])) e
  exact pure _ _ r (by simp only[execOp]) (fun _=>rfl) h1 rfl h2
 |convert s t x=>
  simp only[opE,xM,pJ]at e
  obtain⟨d,e,rfl,rfl⟩:=e
  by_cases hns:(∃s,σ x=.d (.str s))∧∃el,P.underlying t=some (.slice el)
  ·obtain⟨⟨s0,hs0⟩,el,hel⟩:=hns
   have hso:=so x (by simp[Op.operands])
   rw[hs0]at hso e
   obtain⟨u,w',h1,h2,h3⟩:=IV h hso hel e
   exact⟨.value u,u,w',ρ,S,hd,by simp[execOp,h1],.inl rfl,h2,h3⟩
  obtain⟨r,h1,h2⟩:=IN (P:=P) (w:=w) rfl hns (so x (by simp[Op.operands])) e
  exact pure _ _ r (by simp only[execOp]) (fun _=>rfl) h1 rfl h2
 |makeFunc f a c=>
  simp only[opE,xB,xM,pJ]at e
  obtain⟨da,e1,dc,e2,rfl,rfl⟩:=e
  have all:∀l:Array Operand,(∀x∈l,x∈a++c)→All2 (SO (aa A k.H.length ρ S fl w) k.get hd) (l.toList.map σ) (l.map ev).toList:=fun l hl=>by
   have hso:∀x∈l.toList,SO (aa A k.H.length ρ S fl w) k.get hd (σ x) (ev x):=fun x hx=>so x (by simp only[Op.operands];exact hl x (by simpa using hx))
   rw[Array.toList_map]
   revert hso
   generalize l.toList=ps
   induction ps with
   |nil=>intro _;rfl
   |cons p ps ih=>intro hso;exact⟨_,_,rfl,hso p (by simp),ih (fun q hq=>hso q (by simp[hq]))⟩
  refine pure Next.value (Instr.makeFunc f (a.map ev) (c.map ev)) (.func f (a.map ev) (c.map ev)) (by simp only[execOp]) (fun _=>rfl) (by simp[Instr.makeFunc]) rfl (VV.one ?_ (by simp))
  simp only[VC]
  exact⟨_,_,rfl,SV.pures_VVs _ _ _ e1 (all a (fun x hx=>by simp[hx])),SV.pures_VVs _ _ _ e2 (all c (fun x hx=>by simp[hx]))⟩
 |makeMap t r=>
  have fin:k'={k with H:=k.H++[.map []]}→sv=.d (.map k.H.length)→(Instr.makeMap t (r.map ev)).run P w=.ok (.map (some w.heap.size)) (w.alloc (.map #[] 0))→
    ∃n v w' ρ' S' hd',(execOp ev {dst:=odst,op:=.makeMap t r,type:=oty,pos:=pos,after:=after,guard:=guard}).run P w=.ok n w'∧zG n v∧KR A ρ' S' hd' fl k' vals w'∧SO (aa A k'.H.length ρ' S' fl w') k'.get hd' sv v:=by
   intro a1 a2 a3;subst a1;subst a2;obtain⟨_,ρ',S',hd',g1,g2⟩:=pS (P:=P) h (t:=t)
   exact⟨.value _,_,_,ρ',S',hd',by simp[execOp,a3];rfl,.inl rfl,g1,by simpa using g2⟩
  cases r with
  |none=>
   simp only[opE,xJ,pJ]at e
   obtain⟨e1,e2⟩:=e
   by_cases hl:hint.lits.contains dst=true
   ·rw[if_pos hl]at e2
    subst e1 e2;obtain⟨a3,ρ',S',hd',g1,g2⟩:=pS (P:=P) h (t:=t);have g3:=g1.reset (o:=k.H.length) (es:=[]) (ks:=[]) (by simp) ⟨by simp,by simp⟩
    simp only[List.set_append_right _ _ (Nat.le_refl k.H.length),Nat.sub_self,List.set_cons_zero]at g3
    have g4:VV (aa A (k.H.length+1) ρ' S' fl (w.alloc (.map #[] 0))) (.map k.H.length) (.map (some w.heap.size)):=g2
    refine⟨.value _,_,_,ρ',S',hd',by simp[execOp,a3];rfl,.inl rfl,g3,?_⟩
    show VV (aa A (k.H++[Ob.sset []]).length ρ' S' fl _) _ _;rw[xP];exact g4
   ·rw[if_neg hl]at e2
    exact fin e2.symm e1.symm (pS h).1
  |some n=>
   simp only[opE]at e
   split at e
   ·rename_i kv q z hkv hn
    simp only[xJ,pJ]at e
    obtain⟨rfl,rfl⟩:=e;have hn':=so n (by simp[Op.operands])
    rw[hn]at hn'
    have hn':=VV.of_int hn';obtain⟨kt,et⟩:=kv;exact fin rfl rfl (by simp[Instr.makeMap,run_underlying (mq hkv),hn',asInt,asIntOf])
   ·cases e
 |makeSlice t l c=>
  simp only[opE]at e
  obtain⟨v,w',ρ',S',hd',h1,h2,h3⟩:=II h (so l (by simp[Op.operands])) (so c (by simp[Op.operands])) e
  exact⟨.value v,v,w',ρ',S',hd',by simp[execOp,h1],.inl rfl,h2,h3⟩
 |slice t x lo hi mx=>
  simp only[opE,xM,pJ]at e
  obtain⟨sv',e,rfl,rfl⟩:=e
  have opt:∀z:Option Operand,(∀y,z=some y→y∈(Op.slice t x lo hi mx).operands)→yX (SO (aa A k.H.length ρ S fl w) k.get hd) (z.map σ) (z.map ev):=fun z hz=>by
   cases z with
   |none=>trivial
   |some y=>exact so y (hz y rfl)
  obtain⟨u,h1,h2⟩:=Gv h (so x (by simp[Op.operands])) (opt lo (fun y hy=>by simp[Op.operands,hy])) (opt hi (fun y hy=>by simp[Op.operands,hy])) (opt mx (fun y hy=>by simp[Op.operands,hy])) e
  exact pure _ _ u (by simp only[execOp]) (fun _=>rfl) h1 rfl h2
 |fieldAddr t x f=>
  simp only[opE,xM,pJ]at e
  obtain⟨sv',e,rfl,rfl⟩:=e;obtain⟨u,h1,h2⟩:=yV h (so x (by simp[Op.operands])) e
  exact pure _ _ u (by simp only[execOp]) (fun _=>rfl) h1 rfl h2
 |field t x f=>
  simp only[opE,xM,pJ]at e
  obtain⟨sv',e,rfl,rfl⟩:=e;obtain⟨u,h1,h2⟩:=Gt (P:=P) (w:=w) (so x (by simp[Op.operands])) e
  exact pure _ _ u (by simp only[execOp]) (fun _=>rfl) h1 rfl h2
 |indexAddr t x i=>
  simp only[opE,xM,pJ]at e
  obtain⟨sv',e,rfl,rfl⟩:=e;obtain⟨u,h1,h2⟩:=yW h (so x (by simp[Op.operands])) (so i (by simp[Op.operands])) e
  exact pure _ _ u (by simp only[execOp]) (fun _=>rfl) h1 rfl h2
 |index t x i=>
  simp only[opE,xM,pJ]at e
  obtain⟨sv',e,rfl,rfl⟩:=e;obtain⟨u,h1,h2⟩:=Gu (P:=P) (w:=w) (so x (by simp[Op.operands])) (so i (by simp[Op.operands])) e
  exact pure _ _ u (by simp only[execOp]) (fun _=>rfl) h1 rfl h2
 |lookup t m key ok=>
  simp only[opE]at e
  split at e
  ·split at e
   ·cases e
   ·rename_i hok
    obtain⟨u,S',hd',h1,h2,h3⟩:=IS h (so m (by simp[Op.operands])) (so key (by simp[Op.operands])) e
    have hok':ok=false:=by simpa using hok
    subst hok'
    exact⟨.value u,u,w,ρ,S',hd',by simp[execOp,h1],.inl rfl,h2,h3⟩
  split at e
  ·split at e
   ·cases e
   ·rename_i hok
    obtain⟨u,S',hd',h1,h2,h3⟩:=Cl h (so m (by simp[Op.operands])) (so key (by simp[Op.operands])) e
    have hok':ok=false:=by simpa using hok
    subst hok'
    exact⟨.value u,u,w,ρ,S',hd',by simp[execOp,h1],.inl rfl,h2,h3⟩
  simp only[xM,pJ]at e
  obtain⟨sv',e,rfl,rfl⟩:=e;obtain⟨u,h1,h2⟩:=DZ h (so m (by simp[Op.operands])) (so key (by simp[Op.operands])) e
  exact pure _ _ u (by simp only[execOp]) (fun _=>rfl) h1 rfl h2
 |mapUpdate t m key x=>
  simp only[opE,xM,pJ]at e
  obtain⟨k1,e,rfl,rfl⟩:=e;obtain⟨w',S',h1,h2⟩:=wH h (so m (by simp[Op.operands])) (so key (by simp[Op.operands])) (hv x (by simp[Op.operands])) e
  exact⟨.skip,undef,w',ρ,S',hd,by simp[execOp,h1],.inr ⟨rfl,rfl⟩,h2,trivial⟩
 |insert t m key x=>
  simp only[opE,xM,pJ]at e
  obtain⟨k1,e,rfl,rfl⟩:=e;obtain⟨w',S',h1,h2⟩:=wH h (so m (by simp[Op.operands])) (so key (by simp[Op.operands])) (hv x (by simp[Op.operands])) e
  exact⟨.skip,undef,w',ρ,S',hd,by simp[execOp,h1],.inr ⟨rfl,rfl⟩,h2,trivial⟩
 |extract x n=>
  simp only[opE]at e
  split at e
  ·rename_i l hl
   simp only[xM,pJ]at e
   obtain⟨sv',e,rfl,rfl⟩:=e;have hx:=so x (by simp[Op.operands])
   rw[hl]at hx
   obtain⟨vs,hvs,hx⟩:=hx;obtain⟨u,h1,h2⟩:=hx.get e;refine pure Next.value (Instr.extract (ev x) n) u (by simp only[execOp]) (fun _=>rfl) ?_ rfl (SO.of_S1 (fun l hl=> ?_) h2)
   ·have:vs[n]? =some u:=by simpa using h1
    simp[Instr.extract,hvs,this]
   ·subst hl;exact h2.elim
  ·cases e
 |call c=>
  obtain⟨callee,args,argTypes⟩:=c
  cases callee with
  |builtin b=>
   cases b with
   |len=>
    simp only[opE]at e
    split at e
    ·rename_i x t ha ht
     simp only[xM,pJ]at e
     obtain⟨n,e,rfl,rfl⟩:=e;have ha':args= #[x]:=by rw[←Array.toList_inj];exact ha
     have ht':argTypes= #[t]:=by rw[←Array.toList_inj];exact ht
     subst ha';subst ht';have hr:=ML h (ty:=oty) (so x (by simp[Op.operands,Call.operands])) e
     exact⟨.value _,_,w,ρ,S,hd,by simp[execOp,resolve,invoke,builtin,hr],.inl rfl,h,VV.mk_int _ _⟩
    ·cases e
   |min=>
    simp only[opE]at e
    split at e
    ·rename_i x y ha
     simp only[xM,pJ]at e
     obtain⟨n,e,rfl,rfl⟩:=e;have ha':args= #[x,y]:=by rw[←Array.toList_inj];exact ha
     subst ha';obtain⟨r,h1,h2⟩:=MH (P:=P) (w:=w) (ats:=argTypes) (ty:=oty) (so x (by simp[Op.operands,Call.operands])) (so y (by simp[Op.operands,Call.operands])) e
     exact⟨.value r,r,w,ρ,S,hd,by simp[execOp,resolve,invoke,builtin,h1],.inl rfl,h,h2⟩
    ·cases e
   |max=>
    simp only[opE]at e
    split at e
    ·rename_i x y ha
     simp only[xM,pJ]at e
     obtain⟨n,e,rfl,rfl⟩:=e;have ha':args= #[x,y]:=by rw[←Array.toList_inj];exact ha
     subst ha';obtain⟨r,h1,h2⟩:=MI (P:=P) (w:=w) (ats:=argTypes) (ty:=oty) (so x (by simp[Op.operands,Call.operands])) (so y (by simp[Op.operands,Call.operands])) e
     exact⟨.value r,r,w,ρ,S,hd,by simp[execOp,resolve,invoke,builtin,h1],.inl rfl,h,h2⟩
    ·cases e
   |append=>
    simp only[opE]at e
    split at e
    ·rename_i x y t u ha ht
     split at e
     ·rename_i htu
      subst htu;have ha':args= #[x,y]:=by rw[←Array.toList_inj];exact ha
      have ht':argTypes= #[t,t]:=by rw[←Array.toList_inj];exact ht
      subst ha';subst ht';obtain⟨v,w',ρ',S',hd',h1,h2,h3⟩:=DX h htr (ty:=oty) (hv x (by simp[Op.operands,Call.operands])) (hv y (by simp[Op.operands,Call.operands])) e
      exact⟨.value v,v,w',ρ',S',hd',by simp[execOp,resolve,invoke,builtin,h1],.inl rfl,h2,h3⟩
     ·cases e
    ·cases e
   |_=>simp[opE]at e
  |_=>simp[opE]at e
 |_=>simp[opE]at e
end
def cxS(sn:Bool)(lk:List Nat)(A:Av)(nO:Nat)(ρ:Nat→Nat)(S:Root→List Nat)(fl:List Nat)(w:World):Cx:=
 {w,pm:=fun t b=>(¬Own S fl b∧¬A.F t b∧b<w.heap.size)∨(sn=true∧t=true∧¬A.F true b∧b<w.heap.size∧∀n,b∈S (.o n)→n∈lk),nO,ρ}
section
variable{P:Program}{A:Av}{ρ:Nat→Nat}{S S':Root→List Nat}{hd:Root→Value}{fl:List Nat}{k k':Wk}{vals:List (SV×Value)}{w:World}{nv:Nat}
theorem kE(sn:Bool)(lk:List Nat)(nO:Nat):Ext (aa A nO ρ S fl w) (cxS sn lk A nO ρ S fl w):=⟨fun _ _ hp=>⟨.inl hp,rfl⟩,Nat.le_refl _,fun _ _=>rfl⟩
theorem AJ(sn:Bool)(lk:List Nat)(nO:Nat):∀b,(cxS sn lk A nO ρ S fl w).pm false b→(cxS sn lk A nO ρ S fl w).pm true b:=fun b h=>by
 rcases h with h |h
 ·exact .inl (zp A nO ρ S fl w b h)
 ·exact absurd h.2.1 (by simp)
theorem wI{b b':Lend}{nO:Nat}(h1:b.sn=true→b'.sn=true)(h2:∀n∈b.lk,n∈b'.lk)(h3:∀r b,b∈S' r→b∈S r):Ext (cxS b.sn b.lk A nO ρ S fl w) (cxS b'.sn b'.lk A nO ρ S' fl w):=
 ⟨fun t g hp=>⟨by
  rcases hp with⟨q1,q2,q3⟩ |⟨q1,q2,q3,q4,q5⟩
  ·exact .inl ⟨fun ho=>q1 (by rcases ho with⟨r,hr⟩ |hr;exact .inl ⟨r,h3 r g hr⟩;exact .inr hr),q2,q3⟩
  ·exact .inr ⟨h1 q1,q2,q3,q4,fun n hn=>h2 n (q5 n (h3 _ _ hn))⟩,rfl⟩,Nat.le_refl _,fun _ _=>rfl⟩
structure Snapped(A:Av)(ρ:Nat→Nat)(S:Root→List Nat)(hd:Root→Value)(fl:List Nat)(k:Wk)(vals:List (SV×Value))(w:World)(b:Lend)(S':Root→List Nat)(k':Wk)(b':Lend):Prop where
 kr:KR A ρ S' hd fl k' vals w
 sub:∀r b,b∈S' r→b∈S r
 H:k'.H=k.H
 sn:b.sn=true→b'.sn=true
 lk:∀n∈b.lk,n∈b'.lk
theorem Snapped.refl{b:Lend}(h:KR A ρ S hd fl k vals w):Snapped A ρ S hd fl k vals w b S k b:=⟨h,fun _ _ h=>h,rfl,id,fun _ h=>h⟩
theorem Co(h:KR A ρ S hd fl k vals w){v:SV}{val:Value}{x:D}{b b':Lend}(hv:CO (aa A k.H.length ρ S fl w) k.get hd v val)(e:bH nv v k b=some (x,k',b')):
  ∃S',Snapped A ρ S hd fl k vals w b S' k' b'∧VC (cxS b'.sn b'.lk A k'.H.length ρ S' fl w) x [val]:=by
 cases v with
 |d y=>
  simp only[bH,xJ,pJ]at e
  obtain⟨rfl,rfl,rfl⟩:=e
  refine⟨S,.refl h,VC.ext (kE _ _ _) _ _ ?_⟩
  split
  ·exact hv
  ·exact VC.norm hv
 |clip t l=>
  simp only[bH,xJ,pJ]at e
  obtain⟨rfl,rfl,rfl⟩:=e
  exact⟨S,.refl h,VC.ext (kE _ _ _) _ _ hv.1⟩
 |ns b=>
  simp only[bH,xJ,pJ]at e
  obtain⟨rfl,rfl,rfl⟩:=e
  exact⟨S,.refl h,VC.ext (kE _ _ _) _ _ (Fv hv)⟩
 |bor r p off len=>
  obtain⟨t0,es,h',b1,b2,b3,b4,b5⟩:=hv;obtain⟨h0,L,Sn,R,hS,foc⟩:=TC.focus p t0 (hd r) (S r) (.own es) (h.cont r t0 b1) b2;have hh:h0=h':=NodeH.uniq p t0 (hd r) h0 h' foc.node b3;subst hh;simp only[bH,b1,b2,xS]at e
  have lent:∀(l:List D) (b':Lend),T.frzs true es=some l→b'.sn=true→(∀n∈b.lk,n∈b'.lk)→(∀n,r=.o n→n∈b'.lk)→(D.sl true (win l off len),k,b')=(x,k',b')→ 
    ∃S',Snapped A ρ S hd fl k vals w b S' k' b'∧VC (cxS b'.sn b'.lk A k'.H.length ρ S' fl w) x [val]:=by
   intro l b' hl h1 h2 h3 h4;simp only[pJ,and_true]at h4
   obtain⟨rfl,rfl⟩:=h4
   refine⟨S,⟨h,fun _ _ h=>h,rfl,fun _=>h1,h2⟩,uL (c:=aa A k.H.length ρ S fl w) (Sn:=Sn) (kE _ _ _) hl (fun g hg=> ?_) foc.tc b4 b5⟩
   have hgS:g∈S r:=by rw[hS];simp[hg]
   have hb:=h.blk g (.inl ⟨r,hgS⟩)
   refine⟨.inr ⟨h1,rfl,hb.2.1 _,hb.1,fun n hn=>h3 n (h.dis.one _ _ g hgS hn)⟩,rfl⟩
  split at e
  ·rename_i hem
   rw[List.isEmpty_iff]at hem
   obtain⟨_,rfl⟩:=hem;simp only[xJ,pJ]at e
   obtain⟨rfl,rfl,rfl⟩:=e
   refine⟨S,.refl h,?_⟩
   obtain⟨a,n,cap,a',cap',_,rfl,_,_,_⟩:=b5;simp only[yN,Nat.le_zero,Nat.add_eq_zero_iff]at b4
   simp only[VC]
   exact⟨a',len,cap',rfl,b4.2,by omega,fun h=>absurd rfl h⟩
  split at e
  ·rename_i n j
   split at e
   ·rename_i hc
    obtain⟨_,rfl,rfl⟩:=hc;simp only[xB,xM,pJ]at e
    obtain⟨l,hl,k0,hs,rfl,rfl,rfl⟩:=e;obtain⟨g1,g2,g3⟩:=h.freeze b1 hS foc b2 hl (.inl rfl) rfl hs;have hH:k0.H=k.H:=by simp only[Wk.set,xJ]at hs;rw[←hs]
    refine⟨_,⟨g1,fun r' g hg=> ?_,hH,id,fun _ h=>h⟩,?_⟩
    ·by_cases hr:r'=.l n j
     ·subst hr;rw[aG]at hg;rw[hS];simp at hg ⊢;rcases hg with q |q <;>simp[q]
     ·rwa [ai _ _ hr]at hg
    ·have:=uL g2 hl g3 foc.tc b4 b5
     have hw:win l 0 es.length=l:=by
      have:=T.frzs_len false es l hl
      simp[win,←this]
     rw[hw]at this
     have e2:(k0.tell (.frz (.l n j) [] l)).H.length=k.H.length:=by show k0.H.length=_;rw[hH]
     rw[e2];exact VC.ext (kE _ _ _) _ _ this
   ·simp only[xM,pJ]at e
    obtain⟨l,hl,rfl,rfl,rfl⟩:=e;exact lent l _ hl rfl (fun _ h=>h) (by simp) rfl
  ·simp only[xM,pJ]at e
   obtain⟨l,hl,rfl,rfl,rfl⟩:=e;exact lent l _ hl rfl (fun _ h=>h) (by simp) rfl
  ·rename_i n _
   simp only[xM,pJ]at e
   obtain⟨l,hl,rfl,rfl,rfl⟩:=e;exact lent l _ hl rfl (fun _ h=>by simp[h]) (fun m hm=>by simp only[Root.o.injEq]at hm;subst hm;simp) rfl
 |agg l=>exact False.elim hv
 |tup l=>exact False.elim hv
 |_=>simp[bH]at e
theorem Snapped.trans{S1 S2:Root→List Nat}{k1 k2:Wk}{b b1 b2:Lend}(x:Snapped A ρ S hd fl k vals w b S1 k1 b1)(y:Snapped A ρ S1 hd fl k1 vals w b1 S2 k2 b2):Snapped A ρ S hd fl k vals w b S2 k2 b2:=
 ⟨y.kr,fun r b h=>x.sub r b (y.sub r b h),y.H.trans x.H,fun h=>y.sn (x.sn h),fun n h=>y.lk n (x.lk n h)⟩
theorem Snapped.ext{b b':Lend}{k0:Wk}{S0:Root→List Nat}(x:Snapped A ρ S0 hd fl k0 vals w b S' k' b'):Ext (cxS b.sn b.lk A k0.H.length ρ S0 fl w) (cxS b'.sn b'.lk A k'.H.length ρ S' fl w):=by
 rw[x.H];exact wI x.sn x.lk x.sub
theorem Cp:∀(l:List SV) (vs:List Value) (xs:List D) (k k':Wk) (S:Root→List Nat) (b b':Lend),KR A ρ S hd fl k vals w→
  (∀k0 S0,KR A ρ S0 hd fl k0 vals w→All2 (fun u v=>CO (aa A k0.H.length ρ S0 fl w) k0.get hd (trv k0.tr u) v) l vs)→ft nv l k b=some (xs,k',b')→
  ∃S',Snapped A ρ S hd fl k vals w b S' k' b'∧VCs (cxS b'.sn b'.lk A k'.H.length ρ S' fl w) xs vs
 | [],vs,xs,k,k',S,b,b',h,hall,e=>by
  simp only[ft,xJ,pJ]at e
  obtain⟨rfl,rfl,rfl⟩:=e;rw[show vs=[]from hall k S h]
  exact⟨S,.refl h,rfl⟩
 |u::l,vs,xs,k,k',S,b,b',h,hall,e=>by
  simp only[ft,xB,xM]at e
  obtain⟨⟨x,k1,b1⟩,e1,⟨xs',k2,b2⟩,e2,e3⟩:=e;simp only[pJ]at e3
  obtain⟨rfl,rfl,rfl⟩:=e3;obtain⟨v,r,rfl,hv,_⟩:=hall k S h;obtain⟨S1,g1,g2⟩:=Co h hv e1
  obtain⟨S2,p1,p2⟩:=Cp l r xs' k1 k2 S1 b1 b2 g1.kr (fun k0 S0 h0=>by
   obtain⟨b,r',q1,_,q3⟩:=hall k0 S0 h0;simp only[xC]at q1
   rw[q1.2];exact q3) e2
  refine⟨S2,g1.trans p1,?_⟩
  simp only[VCs]
  exact⟨v,r,rfl,VC.ext p1.ext _ _ g2,p2⟩
theorem MN(h:KR A ρ S hd fl k vals w){v:SV}{val:Value}{x:D}{b b':Lend}(hm:(v,val)∈vals)(e:om nv v k b=some (x,k',b')):
  ∃S',Snapped A ρ S hd fl k vals w b S' k' b'∧VV (cxS b'.sn b'.lk A k'.H.length ρ S' fl w) x val:=by
 have hv:=h.vals (v,val) hm
 by_cases hag:∃l,v=.agg l
 ·obtain⟨l,rfl⟩:=hag
  simp only[om,xM]at e
  obtain⟨⟨xs,k1,b1⟩,e1,e2⟩:=e;simp only[pJ]at e2
  obtain⟨rfl,rfl,rfl⟩:=e2
  have all:∀k0 S0,KR A ρ S0 hd fl k0 vals w→∃cs,val=.agg cs∧All2 (fun u v=>CO (aa A k0.H.length ρ S0 fl w) k0.get hd (trv k0.tr u) v) l cs.toList:=fun k0 S0 h0=>by
   have:=h0.vals _ hm
   simp only[uM]at this
   obtain⟨cs,h1,h2⟩:=this
   exact⟨cs,h1,h2.of_map⟩
  obtain⟨cs,rfl,_⟩:=all k S h
  obtain⟨S',g1,g2⟩:=Cp (nv:=nv) l cs.toList xs k k1 S b b1 h (fun k0 S0 h0=>by
   obtain⟨cs',h1,h2⟩:=all k0 S0 h0;simp only[Value.agg.injEq]at h1
   rw[h1];exact h2) e1
  exact⟨S',g1,VV.agg g2⟩
 ·have e':bH nv (trv k.tr v) k b=some (x,k',b'):=by
   revert e
   cases v <;>intro e <;>first |exact e |exact absurd ⟨_,rfl⟩ hag
  simp only at hv
  by_cases hd':∃y,trv k.tr v=.d y
  ·obtain⟨y,hy⟩:=hd'
   rw[hy]at e' hv
   simp only[bH,xJ,pJ]at e'
   obtain⟨rfl,rfl,rfl⟩:=e'
   refine⟨S,.refl h,VV.ext (kE _ _ _) ?_⟩
   split
   ·exact hv
   ·exact VV.norm hv
  ·have hnd:∀y,trv k.tr v≠ .d y:=fun y hy=>hd' ⟨y,hy⟩
   by_cases htu:∃l,trv k.tr v=.tup l
   ·obtain⟨l,hl⟩:=htu
    rw[hl]at e'
    simp[bH]at e'
   ·by_cases hag':∃l,trv k.tr v=.agg l
    ·obtain⟨l,hl⟩:=hag'
     rw[hl]at e'
     simp[bH]at e'
    ·have hsb:=S1.to_SB (fun l hl=>hag' ⟨l,hl⟩) (SO.to_S1 (fun l hl=>htu ⟨l,hl⟩) hv)
     obtain⟨S',g1,g2⟩:=Co h (CO.of_SB hsb (fun l=>hnd _)) e'
     refine⟨S',g1,VV.one g2 (fun l hl=> ?_)⟩
     subst hl
     revert e'
     generalize trv k.tr v=u at hnd ⊢
     intro e';unfold bH at e'
     split at e'
     ·exact hnd _ rfl
     ·simp at e'
     ·simp at e'
     ·simp only[xB]at e'
      obtain⟨c0,_,nd,_,e'⟩:=e'
      split at e'
      ·split at e'
       ·simp at e'
       split at e'
       ·split at e'
        ·simp only[xB,xM,pJ]at e'
         obtain⟨_,_,_,_,e',_⟩:=e';cases e'
        ·simp only[xM,pJ]at e'
         obtain⟨_,_,e',_⟩:=e';cases e'
       ·simp only[xM,pJ]at e'
        obtain⟨_,_,e',_⟩:=e';cases e'
       ·simp only[xM,pJ]at e'
        obtain⟨_,_,e',_⟩:=e';cases e'
      ·cases e'
     ·cases e'
theorem wJ:∀(l:List SV) (vs:List Value) (xs:List D) (k k':Wk) (S:Root→List Nat) (b b':Lend),KR A ρ S hd fl k vals w→
  All2 (fun u v=>(u,v)∈vals) l vs→dp nv l k b=some (xs,k',b')→
  ∃S',Snapped A ρ S hd fl k vals w b S' k' b'∧VVs (cxS b'.sn b'.lk A k'.H.length ρ S' fl w) xs vs
 | [],vs,xs,k,k',S,b,b',h,hall,e=>by
  simp only[dp,xJ,pJ]at e
  obtain⟨rfl,rfl,rfl⟩:=e;rw[show vs=[]from hall]
  exact⟨S,.refl h,rfl⟩
 |u::l,vs,xs,k,k',S,b,b',h,hall,e=>by
  simp only[dp,xB,xM]at e
  obtain⟨⟨x,k1,b1⟩,e1,⟨xs',k2,b2⟩,e2,e3⟩:=e;simp only[pJ]at e3
  obtain⟨rfl,rfl,rfl⟩:=e3;obtain⟨v,r,rfl,hv,hr⟩:=hall;obtain⟨S1,g1,g2⟩:=MN h hv e1;obtain⟨S2,p1,p2⟩:=wJ l r xs' k1 k2 S1 b1 b2 g1.kr hr e2
  refine⟨S2,g1.trans p1,?_⟩
  simp only[VVs]
  have:=VV.ext p1.ext g2
  exact⟨v,r,rfl,this.1,this.2,p2⟩
end
def Cq:List Value→Value
 | [x]=>x
 |vs=>.tuple vs.toArray
theorem Cr{t:T}{v:Value}(h:j3 t v):j3 (T.fresh t) v:=by
 cases t with
 |d x=>
  simp only[T.fresh,T.ofZero];split
  ·rename_i l
   split
   ·exact h
   ·exact h
  ·unfold T.ofD1
   split
   ·exact h
   ·exact h
 |agg l=>exact h
 |_=>exact h
theorem RetAll.fresh{c:Cx}:∀(ts:List T) (vs:List Value) (M:List Nat),RetAll c ts vs M→RetAll c (ts.map T.fresh) vs M
 | [],_,_,hp=>hp
 |t::ts,vs,M,hp=>by
  obtain⟨v,r,M1,M2,h1,rfl,h3,h4,h5⟩:=hp
  exact⟨v,r,M1,M2,h1,rfl,Ca h3,Cr h4,RetAll.fresh ts r M2 h5⟩
def Below(dst j:Nat)(u:SV):Prop:=∀i,j≤i→(Tr.kill (.l dst i) []).sv u=u
theorem Below.mono{dst j j':Nat}{u:SV}(h:Below dst j u)(hj:j≤j'):Below dst j' u:=fun i hi=>h i (Nat.le_trans hj hi)
theorem Below.d{dst j:Nat}(x:D):Below dst j (.d x):=fun _ _=>rfl
theorem Below.bor{dst j i:Nat}(h:i<j)(p:aE)(off len:Nat):Below dst j (.bor (.l dst i) p off len):=fun i' hi=>by
 simp only[Tr.sv,Root.l.injEq,true_and];rw[if_neg (by omega)]
section
variable{P:Program}{A:Av}{ρ:Nat→Nat}{S S':Root→List Nat}{hd:Root→Value}{fl:List Nat}{k k':Wk}{vals:List (SV×Value)}{w:World}
structure Laid(A:Av)(ρ:Nat→Nat)(S:Root→List Nat)(hd:Root→Value)(fl:List Nat)(k:Wk)(vals:List (SV×Value))(w:World)(dst j:Nat)(S':Root→List Nat)(hd':Root→Value)(fl':List Nat)(k':Wk)(j':Nat):Prop where
 kr:KR A ρ S' hd' fl' k' vals w
 ext:Ext (aa A k.H.length ρ S fl w) (aa A k'.H.length ρ S' fl' w)
 le:j≤j'
 H:k'.H=k.H
 stay:∀u v,Below dst j u→SO (aa A k.H.length ρ S fl w) k.get hd u v→SO (aa A k'.H.length ρ S' fl' w) k'.get hd' u v
theorem Laid.refl{dst j:Nat}(h:KR A ρ S hd fl k vals w):Laid A ρ S hd fl k vals w dst j S hd fl k j:=⟨h,Ext.refl' _,Nat.le_refl _,rfl,fun _ _ _ h=>h⟩
theorem Laid.trans{dst j j1 j2:Nat}{S1 S2:Root→List Nat}{hd1 hd2:Root→Value}{fl1 fl2:List Nat}{k1 k2:Wk}(x:Laid A ρ S hd fl k vals w dst j S1 hd1 fl1 k1 j1)(y:Laid A ρ S1 hd1 fl1 k1 vals w dst j1 S2 hd2 fl2 k2 j2):Laid A ρ S hd fl k vals w dst j S2 hd2 fl2 k2 j2:=
 ⟨y.kr,⟨fun t g hp=>⟨(y.ext.pm t g (x.ext.pm t g hp).1).1,rfl⟩,Nat.le_trans x.ext.nO y.ext.nO,fun _ _=>rfl⟩,Nat.le_trans x.le y.le,y.H.trans x.H,fun u v hb h=>y.stay u v (hb.mono x.le) (x.stay u v hb h)⟩
theorem Laid.stayC{dst j j':Nat}{hd':Root→Value}{fl':List Nat}(x:Laid A ρ S hd fl k vals w dst j S' hd' fl' k' j'){u:SV}{v:Value}(hb:Below dst j u)(h:CO (aa A k.H.length ρ S fl w) k.get hd u v):CO (aa A k'.H.length ρ S' fl' w) k'.get hd' u v:=by
 cases u with
 |d y=>exact VC.ext x.ext _ _ h
 |agg l=>exact False.elim h
 |tup l=>exact False.elim h
 |dead=>trivial
 |bor r p off len=>exact x.stay (.bor r p off len) v hb h
 |loc r p i off=>exact x.stay (.loc r p i off) v hb h
 |rp b cs=>exact x.stay (.rp b cs) v hb h
 |clip b l=>exact x.stay (.clip b l) v hb h
 |ns b=>exact h
theorem wK{M1:List Nat}(h:KR A ρ S hd (M1++fl) k vals w){dst j j':Nat}{t:T}{v:Value}{sv:SV}(ht:TC (aa A k.H.length ρ S (M1++fl) w) t [v] M1)(e:bV dst j t k=some (sv,j',k')):
  ∃S' hd',Laid A ρ S hd (M1++fl) k vals w dst j S' hd' fl k' j'∧CO (aa A k'.H.length ρ S' fl w) k'.get hd' sv v∧Below dst j' sv:=by
 cases t with
 |d x=>
  simp only[bV,xJ,pJ]at e
  obtain⟨rfl,rfl,rfl⟩:=e;simp only[TC]at ht
  obtain⟨rfl,ht⟩:=ht
  exact⟨S,hd,.refl (by simpa using h),ht,.d x⟩
 |own es=>
  simp only[bV,xJ,pJ]at e
  obtain⟨rfl,rfl,rfl⟩:=e;obtain⟨n1,n2⟩:=h.newRoot (n:=dst) (j:=j) ht;have hb:=TC.ext n2 _ _ _ (fun _ _=>rfl) ht
  refine⟨_,_,⟨n1,n2,by omega,rfl,fun u v' hu hso=> ?_⟩,?_,.bor (by omega) _ _ _⟩
  ·have:=SO.kill (K':=(k.new dst j (.own es)).get) (hd':=upd hd (.l dst j) v) (c':=aa A k.H.length ρ (upd S (.l dst j) M1) fl w) n2 (.l dst j) [] (fun r q hq=> ?_) hso
   ·rw[hu j (Nat.le_refl _)]at this
    exact this
   ·by_cases hr:r=.l dst j
    ·obtain⟨q1,q2⟩:=hq hr
     exact absurd (yL (by simpa using q2)) q1
    ·exact h.hold _ (by show cont (((dst,j),T.own es)::k.ct) k.H r=_;rw[im,if_neg hr];rfl) (ai _ _ hr) (fun _ _=>rfl) q
  ·refine⟨.own es,es,v,by show cont (((dst,j),T.own es)::k.ct) k.H (.l dst j)=_;rw[im,if_pos rfl],rfl,by simp[NodeH],by omega,?_⟩
   rcases hb with⟨a,k1,k2,_⟩ |⟨g',cap',cur',e',sz',S',k1,k2,k3,k4,k5,k6,k7,k8⟩
   ·simp only[xC,and_true]at k1
    subst k2
    exact⟨a,0,0,a,0,k1,by simpa using k1,Nat.le_refl _,fun _=>⟨rfl,Nat.le_refl _⟩,fun h0=>by simp at h0⟩
   ·simp only[xC,and_true]at k1
    refine⟨_,es.length,cap',_,cap',k1,k1,k4,fun _=>⟨rfl,Nat.le_refl _⟩,fun h0=> ?_⟩
    exact⟨g',es[0],rfl,by simp,by simp⟩
 |agg l=>simp[bV]at e
 |dead=>simp[bV]at e
theorem tL{dst:Nat}:∀(ts:List T) (vs:List Value) (M:List Nat) (S:Root→List Nat) (hd:Root→Value) (k k':Wk) (j j':Nat) (svs:List SV),KR A ρ S hd (M++fl) k vals w→TCs (aa A k.H.length ρ S (M++fl) w) ts vs M→bO dst j ts k=some (svs,j',k')→
  ∃S' hd',Laid A ρ S hd (M++fl) k vals w dst j S' hd' fl k' j'∧All2 (CO (aa A k'.H.length ρ S' fl w) k'.get hd') svs vs∧∀u∈svs,Below dst j' u
 | [],vs,M,S,hd,k,k',j,j',svs,h,ht,e=>by
  simp only[bO,xJ,pJ]at e
  obtain⟨rfl,rfl,rfl⟩:=e;simp only[TCs]at ht
  obtain⟨rfl,rfl⟩:=ht
  exact⟨S,hd,.refl (by simpa using h),rfl,by simp⟩
 |t::ts,vs,M,S,hd,k,k',j,j',svs,h,ht,e=>by
  simp only[bO,xB,xM]at e
  obtain⟨⟨sv,j1,k1⟩,e1,⟨svs',j2,k2⟩,e2,e3⟩:=e;simp only[pJ]at e3
  obtain⟨rfl,rfl,rfl⟩:=e3;simp only[TCs]at ht
  obtain⟨v,r,M1,M2,rfl,rfl,h3,h4⟩:=ht;rw[xK]at h h3 h4
  obtain⟨S1,hd1,g1,g2,g3⟩:=wK (fl:=M2++fl) h h3 e1;obtain⟨S2,hd2,p1,p2,p3⟩:=tL ts r M2 S1 hd1 k1 k2 j1 j2 svs' g1.kr (TCs.ext g1.ext _ _ _ (fun _ _=>rfl) h4) e2
  rw[xK]
  refine⟨S2,hd2,g1.trans p1,⟨v,r,rfl,p1.stayC g3 g2,p2⟩,fun u hu=> ?_⟩
  rcases List.mem_cons.1 hu with rfl |hu
  ·exact g3.mono p1.le
  ·exact p3 u hu
theorem Below.agg{dst j:Nat}{l:List SV}(h:∀u∈l,Below dst j u):Below dst j (.agg l):=fun i hi=>by
 have svs:∀l:List SV,Tr.svs (Tr.kill (.l dst i) []) l=l.map (Tr.kill (.l dst i) []).sv:=fun l=>by
  induction l with
  |nil=>rfl
  |cons a r ih=>simp[Tr.svs,ih]
 show SV.agg (Tr.svs _ l)=_;rw[svs];congr 1;rw[List.map_congr_left (g:=id) (fun u hu=>h u hu i hi)]
 simp
theorem MO{M1:List Nat}(h:KR A ρ S hd (M1++fl) k vals w){dst j j':Nat}{t:T}{v:Value}{sv:SV}(ht:TC (aa A k.H.length ρ S (M1++fl) w) t v.cells.toList M1)(hf:j3 t v)(e:eU dst j t k=some (sv,j',k')):
  ∃S' hd',Laid A ρ S hd (M1++fl) k vals w dst j S' hd' fl k' j'∧S1 (aa A k'.H.length ρ S' fl w) k'.get hd' sv v∧Below dst j' sv:=by
 cases t with
 |agg ts=>
  simp only[eU,xM]at e
  obtain⟨⟨svs,j1,k1⟩,e1,e2⟩:=e;simp only[pJ]at e2
  obtain⟨rfl,rfl,rfl⟩:=e2;obtain⟨cs,rfl⟩:=hf;simp only[TC]at ht
  obtain⟨S',hd',g1,g2,g3⟩:=tL ts _ M1 S hd k k1 j j1 svs h ht e1
  exact⟨S',hd',g1,⟨cs,rfl,g2⟩,.agg g3⟩
 |d x=>
  simp only[eU,bV,xJ,pJ]at e
  obtain⟨rfl,rfl,rfl⟩:=e;simp only[TC]at ht
  obtain⟨rfl,ht⟩:=ht
  exact⟨S,hd,.refl (by simpa using h),(⟨ht,hf⟩:VV _ x v),.d x⟩
 |own es=>
  have hv:v.cells= #[v]:=fz hf;rw[hv]at ht
  obtain⟨S',hd',g1,g2,g3⟩:=wK h ht e
  refine⟨S',hd',g1,?_,g3⟩
  simp only[eU,bV,xJ,pJ]at e
  obtain⟨rfl,rfl,rfl⟩:=e;exact g2
 |dead=>simp[eU,bV]at e
theorem zH{dst:Nat}:∀(ts:List T) (vs:List Value) (M:List Nat) (S:Root→List Nat) (hd:Root→Value) (k k':Wk) (j:Nat) (svs:List SV),KR A ρ S hd (M++fl) k vals w→RetAll (aa A k.H.length ρ S (M++fl) w) ts vs M→cS dst j ts k=some (svs,k')→
  ∃S' hd' j',Laid A ρ S hd (M++fl) k vals w dst j S' hd' fl k' j'∧All2 (S1 (aa A k'.H.length ρ S' fl w) k'.get hd') svs vs
 | [],vs,M,S,hd,k,k',j,svs,h,ht,e=>by
  simp only[cS,xJ,pJ]at e
  obtain⟨rfl,rfl⟩:=e;obtain⟨rfl,rfl⟩:=ht
  exact⟨S,hd,j,.refl (by simpa using h),rfl⟩
 |t::ts,vs,M,S,hd,k,k',j,svs,h,ht,e=>by
  simp only[cS,xB,xM]at e
  obtain⟨⟨sv,j1,k1⟩,e1,⟨svs',k2⟩,e2,e3⟩:=e;simp only[pJ]at e3
  obtain⟨rfl,rfl⟩:=e3;obtain⟨v,r,M1,M2,rfl,rfl,h3,h3',h4⟩:=ht;rw[xK]at h h3 h4
  obtain⟨S1,hd1,g1,g2,g3⟩:=MO (fl:=M2++fl) h h3 h3' e1;obtain⟨S2,hd2,j2,p1,p2⟩:=zH ts r M2 S1 hd1 k1 k2 j1 svs' g1.kr (RetAll.ext g1.ext _ _ _ (fun _ _=>rfl) h4) e2
  rw[xK]
  refine⟨S2,hd2,j2,g1.trans p1,⟨v,r,rfl,?_,p2⟩⟩
  have hnt:∀l,sv≠ .tup l:=fun l hl=>by subst hl;exact g2.elim
  exact SO.to_S1 hnt (p1.stay _ _ g3 (SO.of_S1 hnt g2))
theorem Fy{M:List Nat}(h:KR A ρ S hd (M++fl) k vals w){dst:Nat}{rs:List T}{vs:List Value}{sv:SV}(hr:RetAll (aa A k.H.length ρ S (M++fl) w) rs vs M)(e:iT dst rs k=some (sv,k')):
  ∃S' hd',KR A ρ S' hd' fl k' vals w∧SO (aa A k'.H.length ρ S' fl w) k'.get hd' sv (Cq vs)∧k'.H=k.H:=by
 simp only[iT,xM,pJ]at e
 obtain⟨⟨svs,k1⟩,e1,e2,rfl⟩:=e;obtain⟨S',hd',j',g1,g2⟩:=zH rs vs M S hd k k1 0 svs h hr e1
 refine⟨S',hd',g1.kr,?_,g1.H⟩
 have hl:=g2.len;simp only at e2
 split at e2
 ·rename_i u
  subst e2;obtain⟨v,r,rfl,q1,q2⟩:=g2;rw[show r=[]from q2]
  exact SO.of_S1 (fun l hl=>by subst hl;exact q1.elim) q1
 ·rename_i hne
  subst e2
  have:Cq vs=.tuple vs.toArray:=by
   match vs,hl with
   | [],_=>rfl
   | [x],hl=>exact absurd (List.length_eq_one_iff.1 (by simpa using hl.symm)) (fun⟨a,ha⟩=>hne a ha)
   |_::_::_,_=>rfl
  rw[this]
  exact⟨_,rfl,by simpa using g2⟩
def Over(A:Av)(H2:List Ob)(rs:List T)(v:Value)(w':World):Prop:=
 ∃ρ' S' hd' M vs,KR A ρ' S' hd' M {ct:=[],H:=H2} [] w'∧RetAll (aa A H2.length ρ' S' M w') rs vs M∧v=Cq vs
def wM(P:Program)(f:FuncId):Prop:=YB≤f∨∃fn,P.funcs[f]? =some fn∧fn.body.isSome=true∧(fn.name== "runtime.NumGoroutine")=false
def CallsY(P:Program)(ρ:Nat→Nat)(f:FuncId)(args:Array Value)(w:World)(R:Ending→World→Prop):Prop:=
 if YB≤f then ∃r:Loop,w.heap[ρ (f - YB)]? =some (.loop r)∧args.size=r.params.size∧RoundIn Fence.wide 0 P (ρ (f - YB)) r.fn ((r.params.zip args).foldl (fun tmps (t,a)=>tmps.setIfInBounds t a) r.tmps) r.assign r.body w R
 else Calls P f args w R
theorem CallsY.mono{P:Program}{ρ:Nat→Nat}{f:FuncId}{args:Array Value}{w:World}{R R':Ending→World→Prop}(h:CallsY P ρ f args w R)(hr:∀e w,R e w→R' e w):CallsY P ρ f args w R':=by
 unfold CallsY at h ⊢
 split
 ·rename_i hy
  rw[if_pos hy]at h
  obtain⟨r,h1,h2,h3⟩:=h
  exact⟨r,h1,h2,h3.mono hr⟩
 ·rename_i hy
  rw[if_neg hy]at h
  exact Calls.mono h hr
def Ends(p:Bool)(e:Ending)(v:Value):Prop:=if p=true then ∃x,v=.tuple #[x,.agg #[]]∧e=.panicked [{v:=x,recovered:=false}]else e=.returned v
abbrev CallT:=(Nat→Nat)→FuncId→Array Value→World→(Ending→World→Prop)→Prop
def CallT.mono(C:CallT):Prop:=∀ρ f args w (R R':Ending→World→Prop),C ρ f args w R→(∀e w,R e w→R' e w)→C ρ f args w R'
def uQ(C:CallT)(G:Nat→Option D)(call:ak):Prop:=
 ∀f ds H rs H2,call f ds H=some (rs,H2)→∀(A:Av) (S:Root→List Nat) (hd:Root→Value) (args:Array Value),A.n0=H.length→GA G A→KR A A.ρ0 S hd [] {ct:=[],H} [] A.w0→VVs (aa A H.length A.ρ0 S [] A.w0) ds args.toList→
   C A.ρ0 f args A.w0 fun e w'=>∃v,Ends (aQ rs) e v∧Over A H2 rs v w'
def Qk(P:Program)(G:Nat→Option D)(call:ak):Prop:=
 ∀f ds es rs H2,call f ds [.row es]=some (rs,H2)→H2.length=0→¬YB≤f→((P.funcs[f]?).map fun fn=>fn.params.size+fn.nfree)=some (ds.length+1)→
  ∀(A:Av) (S:Root→List Nat) (hd:Root→Value) (v:Value) (vs:List Value),A.n0=0→GA G A→KR A A.ρ0 S hd [] {ct:=[((0,0),.own es)],H:=[]} [] A.w0→
   SB (aa A 0 A.ρ0 S [] A.w0) ({ct:=[((0,0),.own es)],H:=[]}:Wk).get hd (.bor (.l 0 0) [] 0 es.length) v→VVs (aa A 0 A.ρ0 S [] A.w0) ds vs→
   Calls P f (v::vs).toArray A.w0 fun e w'=>∃u,Ends (aQ rs) e u∧Over A H2 rs u w'
def cH(P:Program)(G:Nat→Option D)(call:ak):Prop:=(∀f ds H r,call f ds H=some r→wM P f)∧uQ (CallsY P) G call∧Qk P G call
theorem Cs{dst:Nat}{rs:List T}{k k':Wk}{sv:SV}(e:iT dst rs k=some (sv,k')):sv.isPan=aQ rs:=by
 have one:∀{j:Nat} {t:T} {k:Wk} {v:SV} {j':Nat} {k':Wk},eU dst j t k=some (v,j',k')→(∀l,v≠ .tup l)∧((∃x,v=.d x)↔∃x,t=.d x)∧(v=.agg []↔t=.agg []):=by
  intro j t k v j' k' e
  cases t with
  |d x=>
   simp only[eU,bV,xJ,pJ]at e
   obtain⟨rfl,_,_⟩:=e
   simp
  |own es=>
   simp only[eU,bV,xJ,pJ]at e
   obtain⟨rfl,_,_⟩:=e
   simp
  |agg ts=>
   simp only[eU,xM]at e
   obtain⟨⟨vs,j1,k1⟩,e1,e2⟩:=e;simp only[pJ]at e2
   obtain⟨rfl,_,_⟩:=e2
   refine⟨by simp,by simp,?_⟩
   cases ts with
   |nil=>simp only[bO,xJ,pJ]at e1;simp[←e1.1]
   |cons a r=>
    simp only[bO,xB,xM]at e1
    obtain⟨⟨u,ju,ku⟩,_,⟨us,jus,kus⟩,_,e3⟩:=e1;simp only[pJ]at e3
    simp[←e3.1]
  |dead=>simp[eU,bV]at e
 have all:∀{j:Nat} {rs:List T} {k:Wk} {vs:List SV} {k':Wk},cS dst j rs k=some (vs,k')→vs.length=rs.length:=by
  intro j rs
  induction rs generalizing j with
  |nil=>intro k vs k' e;simp only[cS,xJ,pJ]at e;rw[←e.1];rfl
  |cons t r ih=>
   intro k vs k' e;simp only[cS,xB,xM]at e
   obtain⟨⟨v,j1,k1⟩,_,⟨us,k2⟩,e2,e3⟩:=e;simp only[pJ]at e3
   rw[←e3.1,xZ,ih e2,xZ]
 simp only[iT,xM]at e
 obtain⟨⟨vs,k1⟩,e1,e2⟩:=e;simp only[pJ]at e2
 obtain⟨rfl,_⟩:=e2;have hl:=all e1
 match rs,vs,hl with
 | [],[],_=>rfl
 | [t],[v],_=>
  simp only[cS,xB,xM]at e1
  obtain⟨⟨v',j1,k2⟩,e1,⟨us,k3⟩,_,e3⟩:=e1;simp only[pJ,xC]at e3
  obtain⟨⟨rfl,_⟩,_⟩:=e3
  have:=(one e1).1
  cases v' with
  |tup l=>exact absurd rfl (this l)
  |_=>cases t <;>rfl
 | [t,u],[v,x],_=>
  simp only[cS,xB,xM]at e1
  obtain⟨⟨v',j1,k2⟩,e1,⟨us,k3⟩,⟨⟨x',j2,k4⟩,e4,⟨us',k5⟩,_,e5⟩,e3⟩:=e1;simp only[pJ]at e5
  obtain⟨rfl,_⟩:=e5;simp only[pJ,xC]at e3
  obtain⟨⟨rfl,rfl,_⟩,_⟩:=e3;obtain⟨_,p2,_⟩:=one e1;obtain⟨_,_,q3⟩:=one e4
  have h1:SV.isPan (.tup [v',x'])=true↔(∃y,v'=.d y)∧x'=.agg []:=by
   constructor
   ·intro h
    unfold SV.isPan at h
    split at h
    ·rename_i y heq;simp only[SV.tup.injEq,xC,and_true]at heq;exact⟨⟨_,heq.1⟩,heq.2⟩
    ·cases h
   ·rintro⟨⟨y,rfl⟩,rfl⟩;rfl
  have h2:aQ [t,u]=true↔(∃y,t=.d y)∧u=.agg []:=by
   constructor
   ·intro h
    unfold aQ at h
    split at h
    ·rename_i y heq;simp only[xC,and_true]at heq;exact⟨⟨_,heq.1⟩,heq.2⟩
    ·cases h
   ·rintro⟨⟨y,rfl⟩,rfl⟩;rfl
  have:SV.isPan (.tup [v',x'])=true↔aQ [t,u]=true:=by rw[h1,h2,p2,q3]
  exact Bool.eq_iff_iff.2 this
 |_::_::_::_,_::_::_::_,_=>
  have h1:∀{a b c:SV} {r:List SV},SV.isPan (.tup (a::b::c::r))=false:=fun{a b c r}=>by
   unfold SV.isPan;split
   ·rename_i heq;simp at heq
   ·rfl
  have h2:∀{a b c:T} {r:List T},aQ (a::b::c::r)=false:=fun{a b c r}=>by
   unfold aQ;split
   ·rename_i heq;simp at heq
   ·rfl
  rw[h2];exact h1
end
end Go.Am
