/- A part of the proof: texts of mine, merged by a program (wip/dev/merge.py). -/
import Derived.Test.YteeabnledfmpjaaGreatDoorFn1
import Derived.Laws.BytesArg
import Derived.Laws.CopyRow
import Derived.Laws.IdiomCopy
import Derived.Lib.ConvBytes
import Derived.Laws.AppendOwn
set_option linter.unusedSimpArgs false
set_option linter.unusedVariables false
namespace Go.Am
open Go Go.RowKit
def PT(c:Cx):List (Nat×T)->List (Nat×Value)->List Nat->Prop
 | [],a,M=>a=[]/\M=[]
 |(i,t)::e,a,M=>∃v r b d,a=(i,v)::r/\M=b++d/\TC c t v.cells.toList b/\PT c e r d
theorem PT.ext{c c':Cx}(h:Ext c c'):∀(a:J (Nat×T)) (vs:J (Nat×Vz)) (M:J Nat),Kept c c' M->PT c a vs M->PT c' a vs M
 | [],_,_,_,b=>b
 |(i,t)::a,vs,M,hk,b=>by
  obtain⟨v,r,e,d,f,rfl,h3,h4⟩:=b
  exact⟨v,r,e,d,f,rfl,TC.ext h _ _ _ hk.left h3,PT.ext h a r d hk.right h4⟩
theorem IL(off:Nat):∀(l:J Vz) (n:Nat) (cells:Array Vz),off+n+l.length<=cells.size->
  ((l.zipIdx n).foldl (λ(cs:Array Vz) (p:Vz×Nat)=>cs.setIfInBounds (off+p.2) p.1) cells)=(cells.toList.take (off+n)++l++cells.toList.drop (off+n+l.length)).toArray
 | [],n,cells,_=>by simp
 |v::a,n,cells,h=>by
  simp only[List.zipIdx_cons,List.foldl_cons];rw[IL off a (n+1) _ (by grind)]
  have e:=list_seg_step cells.toList (off+n) v a (by grind)
  simp_all [v9]
theorem IM{a:Nat->U (Nat×Nat)}{cells:Array Vz}{i off size:Nat}{v:Vz}{b:J (Nat×Vz)}(hp:a i=some (off,size))(c:v.cells.size=size)(hf:off+size<=cells.size):
  Instr.fill a cells ((i,v)::b)=Instr.fill a (cells.toList.take off++v.cells.toList++cells.toList.drop (off+size)).toArray b:=by
 simp only[Instr.fill,hp];have d:(decide (v.cells.size≠size) || decide (off+v.cells.size >cells.size))=false:=by simp;omega
 rw[show(v.cells.size≠size || decide (off+v.cells.size >cells.size))=false from d]
 simp only[xH,if_false];congr 1
 have:=IL off v.cells.toList 0 cells (by simp;omega)
 simp only[kH,yF,c]at this
 rw[<-this,<-Array.foldl_toList]
 grind
theorem QO{c:Cx}{d:Nat}(A:0<d):∀(j:J (Nat×T)) (vs:J (Nat×Vz)) (M:J Nat) (es es':J T) (cells:Array Vz) (g:J Nat),PT c j vs M->(∀p∈j,p.2.nc=d)->TE c es d cells.toList g->(g++M).Nodup->tp es j=some es'->
  ∃(a:Array Vz) (M':J Nat),Instr.fill (λi=>some (i * d,d)) cells vs=some a/\TE c es' d a.toList M'/\M'.Nodup/\∀b∈M',b∈g++M
 | [],vs,M,es,es',cells,g,f,_,o,q,e=>by
  obtain⟨rfl,rfl⟩:=f;simp only[tp,xJ]at e
  subst e
  exact⟨cells,g,rfl,o,by simpa using q,by simp⟩
 |(i,t)::j,vs,M,es,es',cells,g,f,h,o,q,e=>by
  obtain⟨v,r,n,m,rfl,rfl,h3,h4⟩:=f;simp only[tp]at e
  split at e
  .rename_i s
   have C:=TE.len _ _ _ _ o;have x:v.cells.size=d:=by rw[<-yF,TC.len _ _ _ h3];exact h (i,t) (by simp)
   have u:i * d+d<=cells.size:=by
    have:(i+1) * d<=es.length * d:=i5 _ s
    rw[iN,Nat.one_mul]at this
    have:=C.1
    simp at this;omega
   rw[IM rfl x u];obtain⟨H,L,K,R,I,N,O,y,G,z,B⟩:=TE.get o (xG s);have l:=TE.put (c:=c) (c':=c) ⟨λ_ _ f=>⟨f,rfl⟩,dB _,λ_ _=>rfl⟩ s z B (λ_ _=>rfl) (by simp[x]) h3
   subst y
   have w:(L++n++R++m).Nodup:=by
    have k:(L++n++R++m).Perm (L++R++(n++m)):=by
     rw[xK,xK,xK];refine List.Perm.append_left L ?_;exact Eb n R m
    rw[k.nodup_iff];refine List.Nodup.sublist ?_ q;refine List.Sublist.append (List.Sublist.append ?_ (List.Sublist.refl _)) (List.Sublist.refl _);exact List.sublist_append_left _ _
   obtain⟨a,M',E,D,F,P⟩:=QO A j r m _ es' (cells.toList.take (i * d)++v.cells.toList++cells.toList.drop (i * d+d)).toArray _ h4 (λp f=>h p (by simp[f])) (by simpa using l) w e
   grind
  .cases e
section
variable{P:Pz}{A:Av}{ρ:Nat->Nat}{S:aj->J Nat}{hd:aj->Vz}{fl:J Nat}{k k':Wk}{ay:J (SV×Vz)}{w:Wz}
theorem Gp{nv:Nat}:∀(l:J (Nat×SV)) (vs:J (Nat×Vz)) (p:J (Nat×T)) (k k':Wk) (S:aj->J Nat) (fl:J Nat),KR A ρ S hd fl k ay w->All2 (λ(a:Nat×SV) (b:Nat×Vz)=>a.1=b.1/\(a.2,b.2)∈ay) l vs->gg nv l k=some (p,k')->
  ∃S' M,KR A ρ S' hd (M++fl) k' ay w/\Ext (am A k.H.length ρ S fl w) (am A k'.H.length ρ S' (M++fl) w)/\PT (am A k'.H.length ρ S' (M++fl) w) p vs M/\k'.H.length=k.H.length
 | [],vs,p,k,k',S,fl,h,c,e=>by
  simp only[gg,xJ,pJ]at e
  obtain⟨rfl,rfl⟩:=e;rw[show vs=[]from c]
  exact⟨S,[],by simpa using h,by simpa using(⟨λ_ _ y=>⟨y,rfl⟩,dB _,λ_ _=>rfl⟩:Ext _ _),⟨rfl,rfl⟩,rfl⟩
 |(i,u)::l,vs,p,k,k',S,fl,h,c,e=>by
  simp only[gg,xB,xM]at e
  obtain⟨⟨t,I⟩,G,⟨x,O⟩,R,D⟩:=e;simp only[pJ]at D
  obtain⟨rfl,rfl⟩:=D;obtain⟨⟨U,v⟩,r,rfl,⟨E,B⟩,d⟩:=c;simp only at E B;subst E;obtain⟨S1,j,H,z,Q,F⟩:=nF h B G;obtain⟨K,m,L,n,C,P⟩:=Gp l r x I O S1 (j++fl) H d R
  have f:(m++(j++fl)).Perm ((j++m)++fl):=by
   rw[xK];exact Eb m j fl
  obtain⟨q,s⟩:=L.perm f;rw[s]at n C
  refine⟨K,j++m,q,⟨λb g y=> ?_,ff z.nO n.nO,λo V=>rfl⟩,?_,P.trans F⟩
  .have N:=z.pm b g y
   have W:=n.pm b g N.1
   grind
  .exact⟨v,r,j,m,rfl,rfl,TC.ext n _ _ _ (λ_ _=>rfl) Q,C⟩
theorem B5{t e:TypeId}(h:elemOf P t=some e):P.underlying t=some (.slice e):=by
 grind [elemOf]
theorem Gq{nv dst:Nat}{af:Bool}{t:TypeId}{len:Nat}{l:J (Nat×SV)}{vs:J (Nat×Vz)}{sv:SV}(h:KR A ρ S hd fl k ay w)(I:All2 (λ(a:Nat×SV) (b:Nat×Vz)=>a.1=b.1/\(a.2,b.2)∈ay) l vs)
  (e:fZ P nv dst af t len l k=some (sv,k')):∃v w' s S' hd',(Instr.buildSlice t len vs.toArray).run P w=.ok v w'/\KR A s S' hd' fl k' ay w'/\SO (am A k'.H.length s S' fl w') k'.get hd' sv v:=by
 simp only[fZ,xB]at e
 obtain⟨L,h1,z,h2,⟨B,F⟩,h3,e⟩:=e
 split at e
 .rename_i hh
  obtain⟨a1,a2,a3,a4⟩:=hh;simp only[xB]at e
  obtain⟨u,R,e⟩:=e;have hu:=B5 h1;obtain⟨i,H,b1,b2,b3,al⟩:=lz h2;have f:P.cellsOf L=i.size:=by simp[Program.cellsOf,b1]
  obtain⟨S1,M,W,g2,g3,g4⟩:=Gp l vs B k F S fl h I h3;have O:=mj (c:=am A F.H.length ρ S1 (M++fl) w) b3;have ad:H.cells.size=i.size:=by rw[<-yF,VC.len _ _ O.1,a4,f]
  have q:0<i.size:=by rw[<-f];exact a1
  have hn:=W.bz.ndF;rw[xT]at hn
  have ai:=B3 O.1
  have ah:TE (am A F.H.length ρ S1 (M++fl) w) (List.replicate len (T.cj z)) i.size (madeCells H.cells (len * i.size)).toList []:=
   Gn ai (by simp[ad]) len _ (by simp[size_madeCells]) (λj hj=>by grind [wT])
  obtain⟨d,M',f1,f2,f3,f4⟩:=QO q B vs M _ u _ [] g3 (λp hp=>by
   grind) ah (by simpa using hn.1) R
  have m:u.length=len:=by
   have:∀(B:J (Nat×T)) (u K:J T),tp u B=some K->K.length=u.length:=by
    intro B
    induction B with
    |nil=>grind [tp]
    |cons p B ih=>
     grind [tp]
   rw[this B _ u R];simp
  have y:(Instr.buildSlice t len vs.toArray).run P w=.ok (.slice (some ⟨w.heap.size,0,none⟩) len len) (w.alloc (.cells d L)):=by
   have ag:¬(len * i.size >2 ^ 24):=by rw[<-f];simp only[Nat.not_lt];exact a3
   have hf:Instr.fill (λD=>some (D * i.size,i.size)) (madeCells H.cells (len * i.size)) vs=some d:=f1
   by_cases Y:len=0
   .simp_all [Array.eq_empty_of_size_eq_zero,size_madeCells,Instr.buildSlice,run_underlying,sizeOf,typeInfo,newRow]
   .have Q:¬(16777216<len * i.size):=by simpa using ag
    have Z:Instr.fill (λD=>some (D * i.size,i.size)) (Array.map (λx=>H.cells[x % H.cells.size]!) (Array.range (len * i.size))) vs=some d:=hf
    have aa:len * i.size≠0:=Nat.mul_ne_zero Y (by omega)
    simp[Instr.buildSlice,run_underlying hu,sizeOf,typeInfo,b1,Q,zeroValue,b2,newRow,Z,aa]
  obtain⟨V,g6⟩:=W.alloc (.cells d L);have ak:=TE.ext g6 _ _ _ _ (λb E=>Below.heap_alloc w _ b (W.bT b (.inr (by grind))).1) f2
  have bP:=(TE.len _ _ _ _ f2).1
  -- the row,and which dS float
  have U:∀N,N.Nodup->(∀b∈N,b∈w.heap.size::M)->TC (am A F.H.length ρ S1 ((w.heap.size::M)++fl) (w.alloc (.cells d L))) (.own u) [.slice (some ⟨w.heap.size,0,none⟩) len len] N->
    ∃v w' s S' hd',(Instr.buildSlice t len vs.toArray).run P w=.ok v w'/\KR A s S' hd' fl k' ay w'/\SO (am A k'.H.length s S' fl w') k'.get hd' sv v:=by
   intro N an ab C;have G:=V.bz.ndF;rw[xT]at G
   split at e
   .split at e
    .simp only[xM,pJ]at e
     obtain⟨ds,ac,rfl,rfl⟩:=e;obtain⟨g7,g8⟩:=V.letGo (fl':=fl) G.2.1 (λb E=>xR _ E)
     refine⟨_,_,ρ,_,_,y,g7,VV.one (T.frz_ok g8 false (.own u) (.sl false ds) _ N (by simp[T.cP,ac]) (λg hg=> ?_) C) (by simp)⟩
     have hm:=ab g hg;have E:=V.bT g (.inr (xL _ hm))
     refine⟨⟨λX=> ?_,E.2.1 _,E.1⟩,rfl⟩
     obtain⟨r,X⟩ |X:=X
     .exact V.bz.cq r g X (xL _ hm)
     grind
    .cases e
   simp only[xJ,pJ]at e
   obtain⟨rfl,rfl⟩:=e
   obtain⟨g7,g8⟩:=V.letGo (fl':=N++fl) (by
    grind) (λb E=>by
    grind)
   have o:=TC.ext g8 _ _ _ (λ_ _=>rfl) C
   obtain⟨n1,n2⟩:=g7.dt (n:=dst) (j:=0) o
   refine⟨_,_,ρ,_,_,y,n1,?_⟩
   have:=AA (dst:=dst) (k0:=F) (hd':=upd hd (.l dst 0) (.slice (some ⟨w.heap.size,0,none⟩) len len)) (TC.ext n2 _ _ _ (λ_ _=>rfl) o) (by simp)
   rw[m]at this
   exact this
  by_cases Y:len=0
  .refine U [] (by simp) (by simp) ?_
   have:u=[]:=yL (m.trans Y)
   subst this;subst Y;exact .inl ⟨_,rfl,rfl,rfl⟩
  .refine U (w.heap.size::M') (List.nodup_cons.2 ⟨λhc=> ?_,f3⟩) (λb E=> ?_) ?_
   .have:=f4 _ hc
    simp at this;exact absurd (W.bT _ (.inr (by simp[this]))).1 (Nat.lt_irrefl _)
   .grind
   .simp only[TC]
    refine .inr ⟨w.heap.size,len,d,L,i.size,M',by rw[m],rfl,by grind [am,heap_alloc_new],by omega,?_,?_,?_,?_⟩
    .rw[f]at a3
     refine B4 (ff (Nat.le_mul_of_pos_right len q) (ff a3 (by decide)))
    .grind
    .rw[m];exact Nat.mul_pos (by omega) q
    grind
 .cases e
end
def IN(w:Wz)(a:U Addr)(ns:J Vz):Prop:=∀j u,ns[j]? =some u->∃b,a=some b/\w.cell? (b.add j)=some u
section
variable{P:Pz}{w:Wz}
theorem wj{size m cap:Nat}{a:U Addr}{ns:J Vz}(hl:ns.length=m * size)(hr:IN w a ns)(hn:a=none->ns=[]):(Builtin.firstCells size m (.slice a m cap)).run P w=.ok ns.toArray w:=by
 cases a with
 |none=>grind [run_firstCells_none]
 |some b=>exact run_firstCells_some w size m b m cap ns hl (λj u d=>by obtain⟨c,e,f⟩:=hr j u d;grind)
theorem B6{t ty e h:TypeId}{i:TypeInfo}(ht:P.underlying t=some (.slice e))(hi:P.info? e=some i){g n cap:Nat}{a:Array Vz}(k:w.heap[g]? =some (.cells a h (0,0)))
  {f:U Addr} {m xc:Nat} {ns:J Vz} (hl:ns.length=m * i.size) (hr:IN w f ns) (hn:f=none->ns=[]) (h1:∀u∈ns,u.oneCell'=true) (b:n+m<=cap) (c:n * i.size+ns.length<=a.size):
  (Builtin.append_ #[t,t] ty #[.slice (some ⟨g,0,none⟩) n cap,.slice f m xc]).run P w=
   .ok (.slice (some ⟨g,0,none⟩) (n+m) cap) (w.setRow g (a.toList.take (n * i.size)++ns++a.toList.drop (n * i.size+ns.length)).toArray):=by
 have l:=wj (P:=P) (cap:=xc) hl hr hn;have d:=run_storeCells_at P g (n * i.size) h ns 0 a w k (by simpa using c) h1
 simp only[kH]at d
 have j:(⟨g,0,none⟩:Addr).add (n * i.size)=⟨g,n * i.size,none⟩:=by rw[fm];simp
 simp[Builtin.append_,run_underlying ht,sizeOf,typeInfo,hi,Builtin.lenOf,b,l,j,d]
theorem DW{t ty e:TypeId}{i:TypeInfo}(ht:P.underlying t=some (.slice e))(hi:P.info? e=some i){a b:U Addr}{xc:Nat}(hn:(Builtin.firstCells i.size 0 (.slice b 0 xc)).run P w=.ok #[] w):
  (Builtin.append_ #[t,t] ty #[.slice a 0 0,.slice b 0 xc]).run P w=.ok (.slice a 0 0) w:=by
 cases a <;>simp[Builtin.append_,run_underlying ht,sizeOf,typeInfo,hi,Builtin.lenOf,hn,storeCells]
theorem B7{t ty e:TypeId}{i:TypeInfo}{z:Vz}(ht:P.underlying t=some (.slice e))(hi:P.info? e=some i)(hz:i.zero=some z){d:U Addr}{n cap:Nat}{c:J Vz}(k:c.length=n * i.size)(f:IN w d c)(p:d=none->c=[])
  {g:U Addr} {m xc:Nat} {ns:J Vz} (hl:ns.length=m * i.size) (hr:IN w g ns) (hn:g=none->ns=[]) (v:cap<n+m) (r:((n+m:Nat):Int)<=9223372036854775807) (q:Builtin.nextslicecap (n+m) cap * i.bytes<=281474976710656):
  (Builtin.append_ #[t,t] ty #[.slice d n cap,.slice g m xc]).run P w=
   .ok (.slice (some ⟨w.heap.size,0,none⟩) (n+m) (grownCap w (n+m) cap e)) (w.drew.alloc (.cells (c.toArray++ns.toArray++Builtin.zeroCells z.cells (grownCap w (n+m) cap e - (n+m))) e)):=by
 have l:¬(n+m<=cap):=by omega
 have a:¬(9223372036854775807<((n:Int)+(m:Int))):=by omega
 have b:¬(281474976710656<Builtin.nextslicecap (n+m) cap * i.bytes):=by omega
 have s:=wj (P:=P) (w:=w.drew) (cap:=xc) hl (λj u o=>by simpa using hr j u o) hn
 have h:=wj (P:=P) (w:=w.drew) (cap:=cap) k (λj u o=>by simpa using f j u o) p
 simp[Builtin.append_,run_underlying ht,sizeOf,typeInfo,zeroValue,hi,hz,Builtin.lenOf,l,a,b,Question.forced,s,h,newRow,grownCap]
 grind
end
theorem VE.cells{c:Cx}{a:Addr}:∀(l:J D) (o b:Nat),VE c l a o b->∃ns,ns.length=l.length * b/\(∀j u,ns[j]? =some u->c.w.cell? (a.add (o+j))=some u)/\TE c (l.map .d) b ns []
 | [],o,b,_=>⟨[],by simp,by simp,by simp[TE]⟩
 |d::g,o,b,h=>by
  simp only[VE]at h
  obtain⟨⟨e,f,n,h3⟩,h4⟩:=h;obtain⟨ns,k,m,i⟩:=VE.cells g (o+b) b h4
  refine⟨e++ns,by grind,λj u p=> ?_,?_⟩
  .grind
  .simp only[eJ,TE]
   exact⟨e,ns,[],[],rfl,rfl,f,by grind [TC],i⟩
theorem TE.plain{c:Cx}:∀(a:J T) (b:Nat) (cs:J Vz) (S:J Nat),fS a=true->TE c a b cs S->S=[]
 | [],_,_,_,_,h=>by grind [TE]
 |t::a,b,cs,S,e,h=>by
  cases t with
  |d x=>
   simp only[TE,TC]at h
   obtain⟨i,g,S1,f,rfl,rfl,_,⟨rfl,_⟩,h5⟩:=h
   simpa using TE.plain a b g f e h5
  |_=>simp[fS]at e
theorem TE.nc_eq{c:Cx}{b:J T}{e a:Nat}{cs:J Vz}{S:J Nat}(h:TE c b e cs S)(hu:dW a b=true)(d:b≠[]):e=a:=by
 match b,d with
 |t::r,_=>
  have f:=(TE.len _ _ _ _ h).2 t (by simp)
  have g:=List.all_eq_true.1 hu t (by simp)
  grind
structure News(c:Cx)(news:List T)(sz:Nat)(v:Value)(xa:Option Addr)(xc:Nat)(ns:List Value)(M:List Nat):Prop where
 hv:v=.slice xa news.length xc
 te:TE c news sz ns M
 rd:IN c.w xa ns
 no:xa=none->ns=[]
section
variable{P:Pz}{A:Av}{ρ:Nat->Nat}{S:aj->J Nat}{hd:aj->Vz}{fl:J Nat}{k k':Wk}{ay:J (SV×Vz)}{w:Wz}
theorem r?{c:Cx}{es:J T}{t v:Vz}{Sn:J Nat}{off len q:Nat}(ht:TC c (.own es) [t] Sn)(o:off+len<=es.length)(hw:Win t es off len v)(l:fS (bw es off len)=true)(hu:dW q (bw es off len)=true):
  ∃z xc ns,News c (bw es off len) q v z xc ns []:=by
 have m:=kj es off len o;obtain⟨a,n,E,F,b,M,x,V,O,L⟩:=hw;subst x
 obtain h |h:=Aq len
 .subst h
  have:bw es off 0=[]:=by simp[bw]
  rw[this]
  exact⟨F,b,[],rfl,by simp[TE],λj u w=>by simp at w,λ_=>rfl⟩
 .obtain⟨g,r,K,y,H⟩:=L h
  obtain⟨R,f,G,_⟩ |⟨P,p,D,e,d,S',f,G,k3,Q,W,U,Y,s⟩:=ht
  .grind
  .subst K
   simp only[xC,and_true]at f
   rw[M]at f
   simp only[Value.slice.injEq,xJ,Addr.mk.injEq,and_true]at f
   obtain⟨rfl,_,_⟩:=f;have A:r.nc=d:=(TE.len _ _ _ _ s).2 r (yS y);obtain⟨S,I,_,_,N⟩:=TE.split off es d _ S' s;obtain⟨Z,X,_,t4,_⟩:=TE.split len _ d _ I N;have k:=TE.plain _ _ _ _ l t4;subst k;have i:bw es off len≠[]:=λB=>by grind
   have C:=TE.nc_eq t4 hu i;subst C
   refine⟨_,b,_,by rw[m],t4,λj u w=>⟨_,H,?_⟩,λB=>by grind⟩
   grind [fm,World.cell?]
theorem Mr{nv B:Nat}{v:SV}{val:Vz}{c:J T}(h:KR A ρ S hd fl k ay w)(hv:SO (am A k.H.length ρ S fl w) k.get hd v val)(e:fY nv v k=some (c,k'))(hu:dW B c=true):
  ∃S' M f xc ns,KR A ρ S' hd (M++fl) k' ay w/\Ext (am A k.H.length ρ S fl w) (am A k'.H.length ρ S' (M++fl) w)/\News (am A k'.H.length ρ S' (M++fl) w) c B val f xc ns M/\k'.H.length=k.H.length:=by
 have m:∀f xc ns,News (am A k.H.length ρ S fl w) c B val f xc ns []->k'=k->
   ∃S' M f xc ns,KR A ρ S' hd (M++fl) k' ay w/\Ext (am A k.H.length ρ S fl w) (am A k'.H.length ρ S' (M++fl) w)/\News (am A k'.H.length ρ S' (M++fl) w) c B val f xc ns M/\k'.H.length=k.H.length:=
  λf xc ns G hk=>by subst hk;exact⟨S,[],f,xc,ns,by simpa using h,by simpa using(⟨λ_ _ Y=>⟨Y,rfl⟩,dB _,λ_ _=>rfl⟩:Ext _ _),by simpa using G,rfl⟩
 have q:∀b l,VC (am A k.H.length ρ S fl w) (.sl b l) [val]->c=l.map .d->k'=k->
   ∃S' M f xc ns,KR A ρ S' hd (M++fl) k' ay w/\Ext (am A k.H.length ρ S fl w) (am A k'.H.length ρ S' (M++fl) w)/\News (am A k'.H.length ρ S' (M++fl) w) c B val f xc ns M/\k'.H.length=k.H.length:=by
  intro b l o G hk;subst G;simp only[VC,xC,and_true]at o
  obtain⟨a,z,s,rfl,rfl,h3,h4⟩:=o
  by_cases Z:l=[]
  .subst Z
   exact m a s [] ⟨rfl,by simp[TE],λj u i=>by simp at i,λ_=>rfl⟩ hk
  .obtain⟨ad,F,rfl,q2,q3,q4,q5⟩:=h4 Z
   obtain⟨ns,n1,n2,n3⟩:=VE.cells l 0 F q5;have W:=TE.nc_eq n3 hu (by simpa using Z)
   subst W;exact m (some ad) s ns ⟨by simp,n3,λj u i=>⟨ad,rfl,by grind⟩,λC=>by cases C⟩ hk
 cases v with
 |d x=>
  cases x with
  |aJ=>
   simp only[fY,xJ,pJ]at e
   obtain⟨rfl,rfl⟩:=e;have o:VC (am A k.H.length ρ S fl w) .aJ [val]:=VV.inv hv (by simp)
   simp only[VC,xC,and_true]at o
   exact m none 0 [] ⟨o,by simp[TE],λj u i=>by simp at i,λ_=>rfl⟩ rfl
  |sl b l=>
   simp only[fY,xJ,pJ]at e
   obtain⟨rfl,rfl⟩:=e;exact q b l (VV.inv hv (by simp)) rfl rfl
  |_=>simp[fY]at e
 |clip b l=>
  simp only[fY,xJ,pJ]at e
  obtain⟨rfl,rfl⟩:=e;exact q b l hv.1 rfl rfl
 |ns b=>
  simp only[fY,xJ,pJ]at e
  obtain⟨rfl,rfl⟩:=e;exact q false [] (QM hv) rfl rfl
 |aG r p D z=>
  obtain⟨t0,H,h',O,K,b3,b4,b5⟩:=hv;obtain⟨h0,L,Sn,R,hS,I⟩:=TC.focus p t0 (hd r) (S r) (.own H) (h.cont r t0 O) K;have hh:h0=h':=aI.uniq p t0 (hd r) h0 h' I.node b3;subst hh;simp only[fY,O,K,xS]at e
  have N:(if fS (bw H D z)=true then some (bw H D z,k)else none)=some (c,k')->
    ∃S' M f xc ns,KR A ρ S' hd (M++fl) k' ay w/\Ext (am A k.H.length ρ S fl w) (am A k'.H.length ρ S' (M++fl) w)/\News (am A k'.H.length ρ S' (M++fl) w) c B val f xc ns M/\k'.H.length=k.H.length:=by
   intro e
   split at e
   .rename_i Q
    simp only[xJ,pJ]at e
    obtain⟨rfl,rfl⟩:=e;obtain⟨f,xc,ns,G⟩:=r? I.tc b4 b5 Q hu
    grind
   .cases e
  split at e
  .rename_i n j
   split at e
   .rename_i C
    obtain⟨_,rfl,rfl⟩:=C;simp only[T.at,xJ]at K
    subst K;simp only[Wk.set,xQ,xJ,pJ]at e
    obtain⟨rfl,rfl⟩:=e;obtain⟨P,U⟩:=h.takeOut (k':={k with ct:=((n,j),.dead)::k.ct}) (t':=.dead) O hS I rfl rfl
    have ht:=TC.ext U _ _ _ (λ_ _=>rfl) I.tc
    have hw:=b5.whole ht
    obtain⟨a,E,k2,X⟩ |⟨g,s,aa,ty,F,S',E,k2,X,k4,k5,k6,k7,k8⟩:=hw
    .subst k2;subst X
     simp only[xC,and_true]at E
     exact⟨_,[],a,0,[],P,U,⟨E,by simp[TE],λj u i=>by simp at i,λ_=>rfl⟩,rfl⟩
    .simp only[xC,and_true]at E
     subst k2;have V:H≠[]:=λC=>by grind
     .have W:=TE.nc_eq k8 hu V
      subst W;have G:=P.bz.ndF;obtain⟨g3,g4⟩:=P.letGo (fl':=S'++fl) (by grind) (λb hb=>by grind)
      refine⟨_,S',some ⟨g,0,none⟩,s,_,g3,⟨λt b Y=>⟨(g4.pm t b (U.pm t b Y).1).1,rfl⟩,dB _,λ_ _=>rfl⟩,⟨E,TE.ext g4 _ _ _ _ (λ_ _=>rfl) k8,λj u i=>⟨_,rfl,?_⟩,λC=>by cases C⟩,rfl⟩
      have y:w.cell? ⟨g,0+j,none⟩=some u:=by
       rw[World.cell?,show w.heap[g]? =_ from X]
       simp only[Option.isSome_none,fp];rw[xU]at i
       split at i
       .simpa using i
       .cases i
      rw[fm];exact y
   grind
  grind
 |_=>simp[fY]at e
inductive Olds(c:Cx)(olds:List T)(sz:Nat)(v:Value):List Nat->Prop
 |empty (sa:Option Addr) (ho:olds=[]) (hv:v=.slice sa 0 0):Olds c olds sz v []
 |row (g cap:Nat) (cur:Array Value) (e0:TypeId) (S0:List Nat) (hv:v=.slice (some ⟨g,0,none⟩) olds.length cap) (hg:c.w.heap[g]? =some (.cells cur e0 (0,0))) (hle:olds.length<=cap) (cU:cap<=maxLen)
   (hcur:cap * sz<=cur.size) (te:TE c olds sz (cur.toList.take (olds.length * sz)) S0):Olds c olds sz v (g::S0)
theorem rq{t ty e:TypeId}{i:TypeInfo}{z:Vz}(ht:P.underlying t=some (.slice e))(hi:P.info? e=some i)(hz:i.zero=some z)(an:z.cells.size=i.size)(bP:0<i.size){dst:Nat}{c d:J T}{p G:Vz}{W:U Addr}{xc:Nat}{ns:J Vz}{N0 M:J Nat}(aq:N0=[]\/0<c.length+d.length)
  (h:KR A ρ S hd ((N0++M)++fl) k ay w) (ho:Olds (am A k.H.length ρ S ((N0++M)++fl) w) c i.size p N0) (hn:News (am A k.H.length ρ S ((N0++M)++fl) w) d i.size G W xc ns M)
  (hb:(c.length+d.length) * i.bytes<=140737488355328) (ao:c.length+d.length<=9223372036854775807):
  ∃v w' s S' hd',(Builtin.append_ #[t,t] ty #[p,G]).run P w=.ok v w'/\KR A s S' hd' fl (k.new dst 0 (.own (c++d))) ay w'/\
   SO (am A (k.new dst 0 (.own (c++d))).H.length s S' fl w') (k.new dst 0 (.own (c++d))).get hd' (.aG (.l dst 0) [] 0 (c++d).length) v:=by
 have O:=TE.len _ _ _ _ hn.te;have K:=TE.dq _ _ _ _ hn.te;have af:=hn.hv;subst af
 -- the row becomes a root
 have V:∀(w':Wz) (N:J Nat) (v:Vz),KR A ρ S hd (N++fl) k ay w'->TC (am A k.H.length ρ S (N++fl) w') (.own (c++d)) [v] N->(Builtin.append_ #[t,t] ty #[p,.slice W d.length xc]).run P w=.ok v w'->
   ∃v w' s S' hd',(Builtin.append_ #[t,t] ty #[p,.slice W d.length xc]).run P w=.ok v w'/\KR A s S' hd' fl (k.new dst 0 (.own (c++d))) ay w'/\
    SO (am A (k.new dst 0 (.own (c++d))).H.length s S' fl w') (k.new dst 0 (.own (c++d))).get hd' (.aG (.l dst 0) [] 0 (c++d).length) v:=by
  intro w' N v hk F l;obtain⟨n1,n2⟩:=hk.dt (n:=dst) (j:=0) F
  exact⟨v,w',ρ,_,_,l,n1,AA (dst:=dst) (k0:=k) (hd':=upd hd (.l dst 0) v) (TC.ext n2 _ _ _ (λ_ _=>rfl) F) (by simp)⟩
 -- a new block
 have E:∀(D:U Addr) (f:Nat) (Q:J Vz) (y:J Nat),p=.slice D c.length f->IN w D Q->(D=none->Q=[])->TE (am A k.H.length ρ S ((N0++M)++fl) w) c i.size Q y->(∀b∈y,b∈N0)->y.Nodup->f<c.length+d.length->
   ∃v w' s S' hd',(Builtin.append_ #[t,t] ty #[p,.slice W d.length xc]).run P w=.ok v w'/\KR A s S' hd' fl (k.new dst 0 (.own (c++d))) ay w'/\
    SO (am A (k.new dst 0 (.own (c++d))).H.length s S' fl w') (k.new dst 0 (.own (c++d))).get hd' (.aG (.l dst 0) [] 0 (c++d).length) v:=by
  intro D f Q y ai al ad Z ak B ab;have L:=TE.len _ _ _ _ Z;have l:=B7 (P:=P) (w:=w) (ty:=ty) (cap:=f) (xc:=xc) ht hi hz L.1 al ad O.1 hn.rd hn.no ab (by omega) (growslice_fits ab hb)
  rw[<-ai]at l
  obtain⟨d1,d2⟩:=h.drew;obtain⟨a1,a2⟩:=d1.alloc (.cells (Q.toArray++ns.toArray++Builtin.zeroCells z.cells (grownCap w (c.length+d.length) f e - (c.length+d.length))) e);have o:=a1.bz.ndF;rw[xT]at o
  have I:=(List.nodup_cons.1 o.1);have Y:=I.2;rw[xT]at Y
  obtain⟨l1,l2⟩:=a1.letGo (fl':=(w.heap.size::(y++M))++fl) (by
   rw[xT]
   refine⟨List.nodup_cons.2 ⟨λhc=>I.1 ?_,?_⟩,o.2.1,λa ha b hb=>o.2.2 a ?_ b hb⟩
   .simp_all
   .grind
   .obtain rfl |ha:=List.mem_cons.1 ha
    .simp
    grind) (λb hb=>by
   obtain q |q:=List.mem_append.1 hb
   .obtain rfl |q:=List.mem_cons.1 q
    .simp
    grind
   grind)
  have ex:Ext (am A k.H.length ρ S ((N0++M)++fl) w) (am A k.H.length ρ S ((w.heap.size::(y++M))++fl) (w.drew.alloc (.cells (Q.toArray++ns.toArray++Builtin.zeroCells z.cells (grownCap w (c.length+d.length) f e - (c.length+d.length))) e))):=
   ⟨λt b hp=>by
    have q1:=d2.pm t b hp;have q2:=a2.pm t b q1.1;have q3:=l2.pm t b q2.1
    grind,dB _,λ_ _=>rfl⟩
  have X:∀b,b∈N0++M->(w.drew.alloc (.cells (Q.toArray++ns.toArray++Builtin.zeroCells z.cells (grownCap w (c.length+d.length) f e - (c.length+d.length))) e)).heap[b]? =w.heap[b]? :=λb hb=>
   Below.heap_alloc w.drew _ b (h.bT b (.inr (xL _ hb))).1
  have t1:=TE.ext ex _ _ _ _ (λb hb=>X b (xL _ (ak b hb))) Z
  have t2:=TE.ext ex _ _ _ _ (λb hb=>X b (xR _ hb)) hn.te
  have hC:=grownCap_ge w (c.length+d.length) f e;refine V _ (w.heap.size::(y++M)) _ l1 ?_ l;simp only[TC];refine .inr ⟨w.heap.size,_,_,e,i.size,y++M,by rw[xP],rfl,by simpa [am]using heap_alloc_new w.drew _,by grind,grownCap_le_maxLen w _ _ e (B4 ao),?_,?_,?_⟩
  .simp only[Array.size_append,List.size_toArray,xP,size_zeroCells,an,L.1,O.1,<-iN]
   refine i5 _ ?_;omega
  .rw[xP];exact Nat.mul_pos (by omega) bP
  .grind [iN,TE.append]
 cases ho with
 |empty D ho hv=>
  subst ho;subst hv
  by_cases hm:d.length=0
  .have ac:d=[]:=yL hm
   have aa:ns=[]:=yL (by grind)
   have l:(Builtin.append_ #[t,t] ty #[.slice D 0 0,.slice W d.length xc]).run P w=.ok (.slice D 0 0) w:=by
    rw[hm];refine DW ht hi ?_
    have:=wj (P:=P) (w:=w) (size:=i.size) (m:=0) (a:=W) (cap:=xc) (ns:=ns) (by rw[aa];simp) hn.rd hn.no
    rw[aa]at this
    exact this
   have o:=h.bz.ndF;rw[xT]at o
   obtain⟨l1,_⟩:=h.letGo (fl':=[]++fl) (by simpa using o.2.1) (λb hb=>xR _ (by simpa using hb))
   refine V w [] (.slice D 0 0) l1 ?_ l;subst ac;exact .inl ⟨D,rfl,rfl,rfl⟩
  .exact E D 0 [] [] rfl (λj u hj=>by simp at hj) (λ_=>rfl) (by simp[TE]) (by simp) (by simp) (by simp;omega)
 |row g cap x e0 y hv hg ag cU H te=>
  subst hv;have o:=h.bz.ndF;rw[xT,xT]at o
  have B:=(List.nodup_cons.1 o.1.1);have L:=TE.len _ _ _ _ te;have ah:c.length * i.size<=x.size:=ff (i5 _ ag) H
  by_cases C:c.length+d.length<=cap
  .have R:(c.length+d.length) * i.size<=x.size:=ff (i5 _ C) H
   rw[iN]at R
   have l:=B6 (P:=P) (w:=w) (ty:=ty) (xc:=xc) (n:=c.length) ht hi (show w.heap[g]? =_ from hg) O.1 hn.rd hn.no K C (by grind)
   obtain⟨k1,k2⟩:=KR.world (w:=w) (w':=w.setRow g (x.toList.take (c.length * i.size)++ns++x.toList.drop (c.length * i.size+ns.length)).toArray) (M:=(g::y)++M) (M':=(g::y)++M) rfl rfl rfl (by simp) (cF.other (g:=g) (λb hb=>kK w g b _ hb) (λr=>by rw[show w.heap[g]? =_ from hg];simp)) h
    (λb _ hb=>kK w g b _ (λe=>hb (by simp[e]))) (λb hb=>.inl hb) (by grind)
   have X:∀b,b≠g->(w.setRow g (x.toList.take (c.length * i.size)++ns++x.toList.drop (c.length * i.size+ns.length)).toArray).heap[b]? =w.heap[b]? :=λb hb=>kK w g b _ hb
   have t1:=TE.ext k2 _ _ _ _ (λb hb=>X b (λe=>B.1 (e▸hb))) te
   have t2:=TE.ext k2 _ _ _ _ (λb hb=>X b (λe=>o.1.2.2 g (by simp) b hb e.symm)) hn.te
   refine V _ ((g::y)++M) _ k1 ?_ l;simp only[TC];refine .inr ⟨g,cap,_,e0,i.size,y++M,by grind,rfl,setRow_heap w g x _ e0 _ hg,by grind,cU,?_,by simp_all,?_⟩
   .grind
   grind [iN,TE.append]
  .refine E (some ⟨g,0,none⟩) cap _ y rfl (λj u hj=>⟨_,rfl,?_⟩) (λhc=>by cases hc) te (λb hb=>by simp[hb]) B.2 (by omega)
   rw[fm,World.cell?,show w.heap[g]? =_ from hg]
   grind
theorem O2{nv dst:Nat}{t ty:TypeId}{s x sv:SV}{f l:Vz}(h:KR A ρ S hd fl k ay w)(av:k.tr=[])(hs:(s,f)∈ay)(hx:(x,l)∈ay)(e:iu P nv dst t s x k=some (sv,k')):
  ∃v w' C S' hd',(Builtin.append_ #[t,t] ty #[f,l]).run P w=.ok v w'/\KR A C S' hd' fl k' ay w'/\SO (am A k'.H.length C S' fl w') k'.get hd' sv v:=by
 simp only[iu,qn,xB]at e
 obtain⟨et,h1,z,hz,⟨j,k1⟩,h2,e⟩:=e
 split at e
 .rename_i hh
  obtain⟨a1,a2,a3⟩:=hh;simp only[xB]at e
  obtain⟨⟨m,k2⟩,h3,e⟩:=e
  split at e
  .rename_i ak
   obtain⟨hb,N⟩:=ak;simp only[xJ,pJ]at e
   obtain⟨rfl,rfl⟩:=e;have hu:=B5 h1;obtain⟨i,zv,V,b2,b3,_⟩:=lz hz;have q:P.cellsOf et=i.size:=by simp[Program.cellsOf,V]
   have E:P.bytesOf et=i.bytes:=by simp[Program.bytesOf,V]
   rw[E]at hb
   rw[q]at a1 a2 a3
   have H:zv.cells.size=i.size:=by
    rw[<-yF,VC.len _ _ (mj (c:=am A k.H.length ρ S fl w) b3).1,a3]
   have Z:=h.ay (x,l) hx;rw[av]at Z
   obtain⟨S1,M,xa,xc,ns,g1,g2,g3,g4⟩:=Mr h Z h2 a2;have B:=g1.ay (s,f) hs;simp only at B h3
   have aM:∀(sa:U Addr),f=.slice sa 0 0->m=[]->k2=k1->∃v w' C S' hd',(Builtin.append_ #[t,t] ty #[f,l]).run P w=.ok v w'/\KR A C S' hd' fl (k2.new dst 0 (.own (m++j))) ay w'/\
     SO (am A (k2.new dst 0 (.own (m++j))).H.length C S' fl w') (k2.new dst 0 (.own (m++j))).get hd' (.aG (.l dst 0) [] 0 (m++j).length) v:=by
    intro sa q1 q2 q3;subst q2;subst q3;exact rq hu V b2 H a1 (N0:=[]) (M:=M) (.inl rfl) (by simpa using g1) (Olds.empty sa rfl q1) (by simpa using g3) hb N
   generalize aQ:aU k1.tr s=u at h3 B
   split at h3
   .simp only[xJ,pJ]at h3
    obtain⟨rfl,rfl⟩:=h3;have aY:VC (am A k1.H.length ρ S1 (M++fl) w) .aJ [f]:=VV.inv B (by simp)
    grind [VC]
   .simp only[xJ,pJ]at h3
    obtain⟨rfl,rfl⟩:=h3;obtain⟨_,a,ha⟩:=B
    grind
   .rename_i r p aN D
    split at h3
    .rename_i af
     subst af;simp only[xB]at h3
     obtain⟨t0,hc,nd,Y,h3⟩:=h3
     split at h3
     .rename_i W
      split at h3
      .rename_i I
       obtain⟨c1,c2,c3⟩:=I;simp only[xB,xM]at h3
       obtain⟨t1,ab,k3,F,h3⟩:=h3;simp only[pJ]at h3
       obtain⟨rfl,rfl⟩:=h3;obtain⟨aS,aX,h',d1,d2,d3,d4,d5⟩:=B;rw[hc]at d1
       simp only[xJ]at d1
       subst d1;rw[Y]at d2
       simp only[xJ,T.own.injEq]at d2
       subst d2;obtain⟨h0,L,Sn,R,hS,de⟩:=TC.focus p t0 (hd r) (S1 r) (.own W) (g1.cont r t0 hc) Y;have hh:h0=h':=aI.uniq p t0 (hd r) h0 h' de.node d3;subst hh;obtain⟨f1,f2⟩:=g1.takeOut hc hS de ab F;have y:(k3.tell (.kill r p)).H.length=k1.H.length:=uc (k':=k3) F;have ag:=TC.ext f2 _ _ _ (λ_ _=>rfl) de.tc
       have d:News (am A (k3.tell (.kill r p)).H.length ρ (upd S1 r (L++R)) (Sn++(M++fl)) w) j i.size l xa xc ns M:=by
        rw[y]
        exact⟨g3.hv,TE.ext f2 _ _ _ _ (λ_ _=>rfl) g3.te,g3.rd,g3.no⟩
       obtain⟨a,n,aO,a',G,m1,m2,m3,m4,m5⟩:=d5;obtain⟨q1,q2⟩:=m4 rfl;subst q1
       obtain⟨a0,o,O,X⟩ |⟨g,aL,ai,e0,sz,S',o,O,X,aZ,al,ao,aT,ac⟩:=ag
       .subst O;subst X
        rw[m1]at o
        simp only[xC,Value.slice.injEq,and_true]at o
        obtain⟨rfl,_,rfl⟩:=o;have aq:D=0:=by simp at c1;exact c1
        have ah:G=0:=by omega
        subst aq;subst ah;exact rq hu V b2 H a1 (N0:=[]) (M:=M) (.inl rfl) (by simpa using f1) (Olds.empty a' (by simp) m2) (by simpa using d) hb N
       .subst O
        rw[m1]at o
        simp only[xC,Value.slice.injEq,and_true]at o
        obtain⟨rfl,rfl,rfl⟩:=o;have an:W≠[]:=λhc=>by grind
        have bP:=TE.nc_eq ac c2 an;rw[q]at bP
        subst bP;obtain⟨Q,S3,ax,K,aV⟩:=TE.split D W i.size _ S' ac;rw[ax]at f1 d K
        have aC:=f1.bz.ndF
        have ad:((g::Q)++(M++fl)).Nodup:=by
         refine List.Nodup.sublist ?_ aC;rw[lN,lN];refine List.Sublist.cons_cons g ?_;rw[xK];exact List.Sublist.append (List.Sublist.refl _) (List.sublist_append_right _ _)
        obtain⟨l1,l2⟩:=f1.letGo (fl':=(g::Q)++(M++fl)) ad (λb hb=>by
         grind)
        have ea:(g::Q)++(M++fl)=((g::Q)++M)++fl:=(xK _ _ _).symm;rw[ea]at l1 l2
        have J:(W.take D).length=D:=by simp;omega
        refine rq hu V b2 H a1 (N0:=g::Q) (M:=M) (.inr ?_) l1 (Olds.row g G ai e0 Q (by rw[J];exact m2) (by grind [am]) (by rw[J];exact m3) (ff q2 al) (ff (i5 _ q2) ao) ?_) ⟨d.hv,TE.ext l2 _ _ _ _ (λ_ _=>rfl) d.te,d.rd,d.no⟩ hb N
        .grind [QI]
        .rw[J]
         rw[y]at l2 |-
         have aa:D * i.size<=W.length * i.size:=i5 _ c1;rw[List.take_take,oO aa]at K
         exact TE.ext l2 _ _ _ _ (λ_ _=>rfl) K
      .cases h3
     .cases h3
    .cases h3
   .cases h3
  .cases e
 .cases e
end
section
variable{P:Pz}{c:Cx}{K:aj->U T}{hd:aj->Vz}{w:Wz}
theorem VV.of_int{k:IntKind}{n:Int}{v:Vz}(h:VV c (.int k n) v):v=.int k n:=by have:=h.inv (by simp);grind [VC]
theorem VV.of_bool{b:Bool}{v:Vz}(h:VV c (.bool b) v):v=.bool b:=by have:=h.inv (by simp);grind [VC]
theorem VV.of_str{s:J UInt8}{v:Vz}(h:VV c (.str s) v):∃b:ByteArray,v=.string b/\b.data.toList=s:=by
 have:=h.inv (by simp)
 simp only[VC,xC,and_true]at this
 exact this
theorem VV.dj(k:IntKind)(n:Int):VV c (.int k n) (.int k n):=VV.one (by simp[VC]) (by simp)
theorem VV.cR(b:Bool):VV c (.bool b) (.bool b):=VV.one (by simp[VC]) (by simp)
theorem VV.mk_str{b:ByteArray}{s:J UInt8}(h:b.data.toList=s):VV c (.str s) (.string b):=VV.one (by grind [VC]) (by simp)
theorem Vv{cst:Bool}{op:BinOp}{t:TypeId}{k k':IntKind}{a b:Int}{d:D}(e:gO P cst op t (.d (.int k a)) (.d (.int k' b))=some d):
  ∃v,(binOp op t (.int k a) (.int k' b)).run P w=.ok v w/\VV c d v:=by
 cases op <;>simp only[gO,QG,me]at e <;>(repeat' split at e) <;>simp only[xJ,reduceCtorEq]at e <;>subst_vars <;>
  first
  |exact⟨_,by simp[binOp,Op.intArith,Op.intDiv,Op.intBits,Op.intCmp,Op.shift, *],VV.dj _ _⟩
  |exact⟨_,by simp[binOp,Op.intArith,Op.intDiv,Op.intBits,Op.intCmp,Op.shift, *],VV.dj _ _⟩
  |exact⟨_,by simp[binOp,Op.intArith,Op.intDiv,Op.intBits,Op.intCmp,Op.shift, *],VV.cR _⟩
  |exact⟨_,by simp[binOp,Op.intArith,Op.intDiv,Op.intBits,Op.intCmp,Op.shift, *],VV.cR _⟩
theorem s_{cu:Array TypeId}{ty:TypeId}{x y:SV}{v u:Vz}{d:D}(hx:SO c K hd x v)(a:SO c K hd y u)(e:Sj x y=some d):∃r,(Builtin.min_ cu ty #[v,u]).run P w=.ok r w/\VV c d r:=by
 unfold Sj at e
 split at e
 .rw[VV.of_int hx,VV.of_int a]
  simp only[xJ]at e;subst e
  simp_all [Builtin.min_,Builtin.min2,VV.dj]
 .cases e
theorem s?{cu:Array TypeId}{ty:TypeId}{x y:SV}{v u:Vz}{d:D}(hx:SO c K hd x v)(a:SO c K hd y u)(e:Sk x y=some d):∃r,(Builtin.max_ cu ty #[v,u]).run P w=.ok r w/\VV c d r:=by
 unfold Sk at e
 split at e
 .rw[VV.of_int hx,VV.of_int a]
  simp only[xJ]at e;subst e
  simp_all [Builtin.max_,Builtin.max2,VV.dj]
 .cases e
theorem Vw{op:BinOp}{t:TypeId}{x y:ByteArray}{d:D}(e:QH op x.data.toList y.data.toList=some d):∃v,(binOp op t (.string x) (.string y)).run P w=.ok v w/\VV c d v:=by
 cases op <;>simp only[QH]at e <;>(repeat' split at e) <;>simp only[xJ,reduceCtorEq]at e <;>subst_vars
 .simp_all [binOp,run_string_add_sum,VV.mk_str]
 all_goals simp_all [binOp,Op.stringOp,ByteArray.toList_eq,VV.cR]
theorem aeh{op:UnOp}{x:SV}{v:Vz}{d:D}(hx:SO c K hd x v)(e:unE op x=some d):∃u,(Op.unary op v).run P w=.ok u w/\VV c d u:=by
 unfold unE at e
 split at e
 .rw[VV.of_bool hx]
  split at e
  .simp only[xJ]at e;subst e;simp_all [Op.unary,VV.cR]
  .cases e
 .rw[VV.of_int hx]
  split at e
  .simp only[me,xJ]at e;subst e;simp_all [Op.unary,Op.intArith,VV.dj]
  .simp only[me,xJ]at e;subst e;simp_all [Op.unary,Op.intBits,VV.dj]
  .cases e
 .cases e
theorem Vx{a dst:TypeId}{x:SV}{v:Vz}{d:D}(hw:c.w=w)(b:¬((∃s,x=.d (.str s))/\∃f,P.underlying dst=some (.slice f)))(hx:SO c K hd x v)(e:F3 P a dst x=some d):∃u,(convert a dst v).run P w=.ok u w/\VV c d u:=by
 unfold F3 at e
 split at e
 .rw[VV.of_int hx]
  split at e
  .simp only[xJ]at e;subst e
   simp_all [convert,run_underlying,Conv.intToInt,VV.dj]
  .cases e
 .cases e
def wU(P:Pz)(w:Wz)(t:TypeId)(ox oy:Oz)(v u:Vz)(b:Bool):Prop:=
 ((do eqGuard .eql t ox oy v u;binOp .eql t v u:Sem Vz).run P w=.ok (.bool b) w)/\((do eqGuard .neq t ox oy v u;binOp .neq t v u:Sem Vz).run P w=.ok (.bool (!b)) w)
theorem lA{t:TypeId}{n:Nat}(h:iX P t=some n):(n=0/\∃k,P.underlying t=some (.int k))\/(n=1/\P.underlying t=some .string)\/(n=2/\P.underlying t=some .bool):=by
 grind [iX]
theorem Gr{t:TypeId}{n:Nat}(h:iX P t=some n):oE P t=some false:=by
 grind [lA,oE]
theorem aei{t:TypeId}{n d0:Nat}{x y:D}{u v:Vz}{b:Bool}(h:iX P t=some n)(hx:VC c x [u])(a:VC c y [v])(e:eqK n x y=some b):(Op.equalIn (d0+1) t u v).run P w=.ok b w:=by
 unfold eqK at e
 split at e
 .split at e <;>simp only[xJ,reduceCtorEq]at e
  subst e;simp only[VC,xC,and_true]at hx a
  subst hx;subst a
  rcases lA h with⟨_,k,d⟩ |⟨f,d⟩ |⟨f,d⟩ <;>first |grind [run_equalIn_int] |cases f
 .grind [VC,lA,run_equalIn_string,ByteArray.toList_eq]
 .grind [VC,lA,run_equalIn_bool']
 .cases e
theorem jt{t:TypeId}{cs:Array Vz}{off:Nat}{v:Vz}(h:oE P t=some false)(hc:cs[off]? =some v):(part t cs off).run P w=.ok v w:=by
 simp_all [part,qs]
theorem ru{t:TypeId}{cs:Array Vz}{off:Nat}(h:oE P t=some true):(part t cs off).run P w=.ok (.agg (cs.extract off (off+P.cellsOf t))) w:=by
 simp_all [part,qs]
theorem C2{xs k:Array Vz}{d0:Nat}:∀(j:J Field) (i:Nat) (ks:J Nat) (g bs:J D) (b:Bool),tX P i j=some ks->aR c g (xs.toList.drop i)->aR c bs (k.toList.drop i)->tT ks g bs=some b->
  (Op.eqFields (d0+1) xs k j).run P w=.ok b w
 | [],i,ks,g,bs,b,hk,_,_,e=>by
  simp only[tX,xJ]at hk
  subst hk
  cases g <;>cases bs <;>simp[tT]at e
  simp_all [Op.eqFields]
 |f::j,i,ks,g,bs,b,hk,l,m,e=>by
  simp only[tX]at hk
  split at hk
  .rename_i K
   obtain⟨rfl,E⟩:=K;simp only[xB,xM]at hk
   obtain⟨n,p,C,O,rfl⟩:=hk
   match g,bs,e with
   |a::r,V::q,e=>
    simp only[tT,xB,xM]at e
    obtain⟨x,G,y,U,rfl⟩:=e;simp only[aR]at l m
    obtain⟨v,t,L,N,R⟩:=l;obtain⟨u,M,T,A,H⟩:=m
    have s:∀(d:Array Vz) (z:Vz) (r:J Vz),d.toList.drop f.offset=z::r->d[f.offset]? =some z/\d.toList.drop (f.offset+1)=r:=λd z r o=>by
     constructor
     .have:(d.toList.drop f.offset)[0]? =some z:=by rw[o];rfl
      rw[jq,kH,yM]at this
      exact this
     .have:(d.toList.drop f.offset).drop 1=r:=by rw[o];rfl
      rwa [oP]at this
    obtain⟨I,B⟩:=s xs v t L;obtain⟨S,F⟩:=s k u M T;have W:=C2 (d0:=d0) j (f.offset+1) C r q y O (by rw[B];exact R) (by rw[F];exact H) U
    have Q:=aei (w:=w) (d0:=d0) p N A G;have h:=Gr p;simp only[Op.eqFields,ne_eq,E,not_false_eq_true,if_true,Sem.run_bind,jt h I,jt h S,Result.andThen_ok,Q];cases x
    .simp
    grind
  .cases hk
theorem wm{t:TypeId}{ks:J Nat}(h:rf P t=some ks):∃a,P.underlying t=some (.struct a)/\P.stoodInHeld t=false/\P.eqGuardType P.depth t=false/\tX P 0 a.toList=some ks:=by
 grind [rf]
theorem Vy{t:TypeId}{ks:J Nat}{d0:Nat}{a bs:J D}{xs d:Array Vz}{b:Bool}(h:rf P t=some ks)(ha:aR c a xs.toList)(hb:aR c bs d.toList)(e:tT ks a bs=some b):
  (Op.equalIn (d0+2) t (.agg xs) (.agg d)).run P w=.ok b w:=by
 obtain⟨i,f,j,_,h4⟩:=wm h;have g:P.fieldsOf t=i:=by simp[Program.fieldsOf,f]
 rw[run_equalIn_struct w (d0+1) t xs d (by rw[g];exact f) j,g]
 exact C2 (d0:=d0) i.toList 0 ks a bs b h4 (by simpa using ha) (by simpa using hb) e
end
def Gs(r:aj)(p:dP):Nat->List D->Wk->Option Wk
 |_,[],k=>some k
 |i,x::b,k=>(k.get r).bind λc=>(c.at p).bind λd=>match d with
  | .own a=>match a[i]? with
   |some (.d y)=>if x.nc=1/\y.nc=1 then(c.put p (.own (a.set i (.d x)))).bind λe=>(k.set r e).bind (Gs r p (i+1) b)else none
   |_=>none
  |_=>none
theorem t_{P:Pz}{w:Wz}{t:TypeId}{nm:String}{g:FuncId}{v:Vz}(h:wS P t nm=some g)(n:Nat):(method (n+1) t v nm).run P w=.ok (g,v) w:=by
 unfold wS at h;simp only[xB]at h
 obtain⟨i,a,m,b,h3⟩:=h
 split at h3
 .simp_all [method,typeInfo,follow,receiverAt,run_underlying,Place.get]
 .cases h3
mutual
theorem VC.flat{c c':Cx}:∀(d:D) (cs:List Value),d.flat=true->VC c d cs->VC c' d cs
 |.int _ _,_,_,b|.bool _,_,_,b|.str _,_,_,b=>by simpa [VC]using b
 | .agg l,cs,a,b=>by simp only[VC]at b |-;exact aR.flat l cs (by grind [D.flat]) b
 | .iface t x,cs,a,b=>by
  simp only[VC]at b |-
  obtain⟨v,e,f,h3⟩:=b
  exact⟨v,e,VC.flat x _ (by grind [D.flat]) f,h3⟩
 |.aJ,_,a,_|.sl _ _,_,a,_|.cQ,_,a,_|.ptr _,_,a,_|.df,_,a,_|.map _,_,a,_|.cX,_,a,_|.fn _ _ _,_,a,_|.bW,_,a,_|.bQ _,_,a,_|.yld _,_,a,_=>by simp[D.flat]at a
theorem aR.flat{c c':Cx}:∀(l:List D) (cs:List Value),D.flats l=true->aR c l cs->aR c' l cs
 | [],_,_,b=>by grind [aR]
 |d::g,cs,a,b=>by
  simp only[D.flats,xA]at a
  simp only[aR]at b |-
  obtain⟨v,r,e,f,h3⟩:=b
  exact⟨v,r,e,VC.flat d _ a.1 f,aR.flat g _ a.2 h3⟩
end
theorem C3:∀{l:J T} {xs:J D},t6 l=some xs->l=xs.map .d/\∀x∈xs,x.flat=true
 | [],xs,e=>by grind [t6]
 |t::r,xs,e=>by
  cases t with
  |d x=>
   simp only[t6]at e
   split at e
   .rename_i c
    simp only[xM]at e
    obtain⟨b,a,rfl⟩:=e
    have:=C3 a;grind
   .cases e
  |_=>simp[t6]at e
def bU(c:Cx):List D->List Value->Prop
 | [],a=>a=[]
 |x::b,a=>∃v r,a=v::r/\VC c x [v]/\bU c b r
theorem bU.len{c:Cx}:∀{xs:J D} {vs:J Vz},bU c xs vs->vs.length=xs.length
 | [],_,h=>by grind [bU]
 |_::_,_,h=>by obtain⟨v,r,rfl,_,h⟩:=h;simp[h.len]
theorem bU.take{c:Cx}:∀{xs:J D} {vs:J Vz} (n:Nat),bU c xs vs->bU c (xs.take n) (vs.take n)
 | [],_,n,h=>by grind [bU]
 |_::_,_,0,h=>by simp[bU]
 |x::xs,_,n+1,h=>by obtain⟨v,r,rfl,a,b⟩:=h;exact⟨v,r.take n,by simp,a,b.take n⟩
theorem bU.dq{c:Cx}:∀{xs:J D} {vs:J Vz},bU c xs vs->∀v∈vs,v.oneCell'=true
 | [],_,h=>by grind [bU]
 |x::xs,_,h=>by
  obtain⟨v,r,rfl,d,b⟩:=h;intro u a
  obtain rfl |q:=List.mem_cons.1 a
  .grind [VC.dq]
  .exact b.dq u q
theorem IP{c:Cx}{b:Nat}:∀{xs:J D} {vs:J Vz} {M:J Nat},b=1->TE c (xs.map .d) b vs M->bU c xs vs/\M=[]
 | [],vs,M,h,a=>by simp only[ir,TE]at a;exact a
 |x::xs,vs,M,h,a=>by
  simp only[eJ,TE,TC]at a
  obtain⟨g,f,S1,i,rfl,rfl,h3,⟨h4,h5⟩,h6⟩:=a;subst h;obtain⟨v,rfl⟩:=List.length_eq_one_iff.1 h3;obtain⟨d,e⟩:=IP rfl h6
  exact⟨⟨v,f,rfl,h5,d⟩,by rw[h4,e];rfl⟩
theorem bU.ext{c c':Cx}:∀{xs:J D} {vs:J Vz},(∀x∈xs,x.flat=true)->bU c xs vs->bU c' xs vs
 | [],_,_,h=>h
 |x::xs,_,a,h=>by
  obtain⟨v,r,rfl,d,e⟩:=h
  exact⟨v,r,rfl,VC.flat x _ (a x (by simp)) d,e.ext λy b=>a y (by simp[b])⟩
theorem Sw(l:J T)(off:Nat)(d:T):(T.bt l).aT off d=(T.bt l).setCells off [d]:=by
 unfold T.bt
 split <;>rfl
theorem AB(e c d:T)(off:Nat)(h:off<e.cells.length):(e.setCells off [c]).aT off d=e.setCells off [d]:=by
 show(T.bt _).aT off d=T.bt _
 rw[Sw];show T.bt _=T.bt _;rw[T.mkAgg_cells];have a:(e.cells.take off).length=off:=by rw[yR];omega
 congr 1;congr 1
 .grind
 grind [List.drop_left]
theorem DY{e c d x:T}{off:Nat}(h:e.cell off=some x)(h2:∀l,c≠ .agg l)(h3:∀l,c≠ .d (.agg l)):(e.aT off c).aT off d=e.aT off d:=by
 have b:=T.bV h
 have a:T.aT c off d=d:=by
  cases c with
  |d z=>cases z <;>first |rfl |grind
  |agg l=>grind
  |_=>rfl
 cases e with
 |agg l=>exact AB _ _ _ _ (by grind [T.cA])
 |d y=>cases y with
  |agg l=>exact AB _ _ _ _ (by grind [T.cA])
  |_=>exact a
 |_=>exact a
theorem B8:∀(p:dP) (t nd x y t':T),t.at p=some nd->(p=[]\/x.nc=1/\(∀l,x≠ .agg l)/\∀l,x≠ .d (.agg l))->t.put p x=some t'->t'.at p=some x/\t'.put p y=t.put p y
 | [],t,nd,x,y,t',_,_,g=>by simp only[T.put,xJ]at g;subst g;exact⟨rfl,rfl⟩
 |(i,o)::p,t,nd,x,y,t',h,k,g=>by
  have m:=k.resolve_left (by simp)
  cases t with
  |own w=>
   simp only[T.at,T.put,xB,xM]at h g
   obtain⟨e,j,c,r,h3⟩:=h;obtain⟨D,d,v,f,b,h4,rfl⟩:=g;rw[j]at d
   simp only[xJ]at d
   subst d;rw[r]at f
   simp only[xJ]at f
   subst f;obtain⟨s,C⟩:=B8 p c nd x y b h3 (.inr m) h4;have B:=(List.getElem?_eq_some_iff.1 j).1
   have A:b.nc=1/\(∀l,b≠ .agg l)/\∀l,b≠ .d (.agg l):=by
    cases p with
    |nil=>grind [T.put]
    |cons a q=>
     cases c with
     |own n=>
      obtain⟨u,z⟩:=a;simp only[T.put,xB,xM]at h4
      obtain⟨_,_,_,_,_,_,rfl⟩:=h4
      exact⟨rfl,by simp,by simp⟩
     |_=>grind [T.put]
   simp_all [T.cV,T.at,T.put,DY]
  |_=>simp[T.at]at h
structure Alike(k k':Wk):Prop where
 g:k'.get=k.get
 H:k'.H=k.H
 t:k'.tr=k.tr
theorem KR.alike{A:Av}{ρ:Nat->Nat}{S:aj->J Nat}{hd:aj->Vz}{fl:J Nat}{k k':Wk}{ay:J (SV×Vz)}{w:Wz}(h:KR A ρ S hd fl k ay w)(a:Alike k k'):KR A ρ S hd fl k' ay w:=by
 obtain⟨g,H,t⟩:=a
 exact⟨λr t e=>by rw[H];exact h.cont r t (by rw[<-g];exact e),λr e q=>h.gone r (by rw[<-g];exact e) (by rw[<-H];exact q),h.obj,λn ob e q=>by rw[H];exact h.map n ob (by rw[<-H];exact e) q,h.bz,h.bT,λp c=>by rw[H,g,t];exact h.ay p c,h.fr,h.Fold,by rw[H];exact h.cM⟩
theorem t?{k k':Wk}{r:aj}{c c0:T}(h0:k.get r=some c0)(h:k.set r c=some k'):k'.get r=some c/\∀d e,k'.set r d=some e->∃a,k.set r d=some a/\Alike e a:=by
 have i:=Wk.db h ⟨c0,h0,λ_ _=>trivial⟩
 have f:k'.get r=some c:=(i.1 r).trans (if_pos rfl)
 refine⟨f,λd e b=> ?_⟩
 have m:=Wk.db b ⟨c,f,λ_ _=>trivial⟩
 have hk:∃a,k.set r d=some a/\a.H=e.H:=by
  cases r with
  |l n j=>
   grind [Wk.set]
  |o n=>
   simp only[Wk.set]at h b |-
   split at h
   .simp only[xJ]at h
    subst h
    split at b
    .simp only[xJ]at b
     subst b
     exact⟨_,rfl,by simp⟩
    .cases b
   .cases h
 obtain⟨a,h3,g⟩:=hk;have s3:=Wk.db h3 ⟨c0,h0,λ_ _=>trivial⟩
 refine⟨a,h3,⟨funext λq=> ?_,g,by grind⟩⟩
 grind
theorem VA{es:J T}(h:fS es=true)(hu:dW 1 es=true){i:Nat}(hi:i<es.length):∃y,es[i]? =some (.d y)/\y.nc=1:=by
 have:∀(es:J T) (i:Nat),fS es=true->dW 1 es=true->i<es.length->∃y,es[i]? =some (.d y)/\y.nc=1:=by
  intro es
  induction es with
  |nil=>grind
  |cons e r b=>
   intro i a hu hi
   cases e with
   |d x=>
    simp only[fS]at a
    simp only[dW,kG,xA,beq_iff_eq]at hu
    cases i with
    |zero=>exact⟨x,rfl,hu.1⟩
    |succ i=>simpa using b i a hu.2 (by simpa using hi)
   |_=>simp[fS]at a
 grind
theorem IQ:∀{es:J T} {i:Nat} {x:D},fS es=true->fS (es.set i (.d x))=true
 | [],_,_,h=>h
 | .d y::r,0,x,h=>by grind [fS]
 | .d y::r,i+1,x,h=>by simp only[fS]at h;simp only[List.set_cons_succ,fS];exact IQ h
 |.own _::_,_,_,h|.agg _::_,_,_,h|.dead::_,_,_,h=>by simp[fS]at h
theorem Ms{es:J T}{i:Nat}{x:D}(h:dW 1 es=true)(hx:x.nc=1):dW 1 (es.set i (.d x))=true:=by
 simp only[dW,io,beq_iff_eq]at h |-
 intro t a
 obtain q |q:=List.mem_or_eq_of_mem_set a
 .exact h t q
 .subst q;exact hx
theorem t!{es:J T}{i:Nat}{x:T}{r:J T}(hi:i+(r.length+1)<=es.length):(es.set i x).take (i+1)++r++(es.set i x).drop (i+1+r.length)=es.take i++(x::r)++es.drop (i+(r.length+1)):=by
 have b:es.set i x=es.take i++x::es.drop (i+1):=by rw[List.set_eq_take_append_cons_drop,if_pos (by omega)]
 have a:(es.take i).length=i:=by rw[yR];omega
 rw[b]
 have c:(es.take i++x::es.drop (i+1)).take (i+1)=es.take i++[x]:=by
  rw[List.take_append,a,show i+1 - i=1 by omega,gr (by omega)];simp
 have d:(es.take i++x::es.drop (i+1)).drop (i+1+r.length)=es.drop (i+(r.length+1)):=by
  rw[List.drop_append,a,List.drop_of_length_le (by omega),show i+1+r.length - i=r.length+1 by omega,List.drop_succ_cons,oP]
  simp only[gD]
  congr 1;omega
 rw[c,d]
 simp
theorem Mu:∀(p:dP) (t nd x:T),t.at p=some nd->∃t',t.put p x=some t'
 | [],t,nd,x,_=>⟨x,rfl⟩
 |(i,a)::p,t,nd,x,h=>by
  cases t with
  |own d=>
   simp only[T.at,xB]at h
   obtain⟨e,b,c,f,h3⟩:=h
   have:=Mu p c nd x h3;grind [T.put]
  |_=>simp[T.at]at h
theorem Mv{k:Wk}{r:aj}{p:dP}{c d:T}{es es1:J T}(h0:k.get r=some c)(f:c.at p=some (.own es))(hl:es1.length=es.length)(hp:c.put p (.own es1)=some d):∃k1,k.set r d=some k1:=by
 cases r with
 |l n j=>exact⟨_,rfl⟩
 |o n=>
  have e:∃b,c=.own [b]:=by
   simp only[Wk.get,Go.Am.cont]at h0
   split at h0
   .grind
   .cases h0
  obtain⟨b,rfl⟩:=e
  have g:∃z,d=.own [z]:=by
   cases p with
   |nil=>
    grind [T.at,T.put,yI]
   |cons a q=>
    obtain⟨h,i⟩:=a;simp only[T.put,xB,xM]at hp
    grind
  obtain⟨z,rfl⟩:=g
  exact⟨_,rfl⟩
theorem C4{r:aj}{p:dP}:∀(xs:J D) (off:Nat) (k k':Wk),lx r p off xs k=some k'->∃m,Gs r p off xs k=some m/\Alike m k'
 | [],off,k,k',e=>by
  simp only[lx,if_true,xJ]at e
  subst e
  exact⟨k,rfl,⟨rfl,rfl,rfl⟩⟩
 |x::xs,off,k,k',e=>by
  unfold lx at e;rw[if_neg (by simp)]at e
  simp only[xB]at e
  obtain⟨c,A,Q,g,e⟩:=e
  split at e
  .rename_i es
   split at e
   .rename_i L
    obtain⟨K,C,h3,h4⟩:=L;simp only[xZ]at K
    simp only[kG,xA,beq_iff_eq]at h4
    simp only[xB]at e
    obtain⟨w,b,d⟩:=e;obtain⟨y,N,G⟩:=VA h3 C (i:=off) (by omega)
    have a:∃n,c.put p (.own (es.set off (.d x)))=some n:=Mu p c _ _ g
    obtain⟨n,a⟩:=a;obtain⟨O,P⟩:=B8 p c (.own es) (.own (es.set off (.d x))) (.own (es.take off++(x::xs).map .d++es.drop (off+(xs.length+1)))) n g (.inr ⟨rfl,by simp,by simp⟩) a
    have q:=B8 p c (.own es) (.own (es.set off (.d x))) (.own (es.take off++(x::xs).map .d++es.drop (off+(xs.length+1)))) n g (.inr ⟨rfl,by simp,by simp⟩) a
    obtain⟨s,f⟩:=Mv (es1:=es.set off (.d x)) A g (by simp) a
    obtain⟨B,F⟩:=t? A f
    have v:∃m,Gs r p (off+1) xs s=some m/\Alike m k':=by
     cases xs with
     |nil=>
      refine⟨s,rfl,?_⟩
      have H:es.take off++[T.d x]++es.drop (off+1)=es.set off (.d x):=by rw[List.set_eq_take_append_cons_drop,if_pos (by grind)];simp
      simp only[xZ,yN,fp,eJ,ir,H]at b
      rw[a]at b
      simp only[xJ]at b
      subst b;rw[f]at d
      simp only[xJ]at d
      subst d
      exact⟨rfl,rfl,rfl⟩
     |cons z j=>
      have E:n.put p (.own ((es.set off (.d x)).take (off+1)++(z::j).map .d++(es.set off (.d x)).drop (off+1+(z::j).length)))=some w:=by
       have:=t! (es:=es) (i:=off) (x:=.d x) (r:=(z::j).map T.d) (by grind)
       rw[lO]at this
       rw[this,<-eJ,q.2]
       simpa using b
      obtain⟨u,o⟩:=Mv (es1:=(es.set off (.d x)).take (off+1)++(z::j).map .d++(es.set off (.d x)).drop (off+1+(z::j).length)) B q.1 (by grind) E
      obtain⟨R,h,l⟩:=F w u o;rw[d]at h
      simp only[xJ]at h
      subst h
      have I:lx r p (off+1) (z::j) s=some u:=by
       unfold lx;rw[if_neg (by simp),B,xS,q.1,xS]
       simp only
       rw[if_pos ⟨by grind,Ms C h4.1,IQ h3,by simpa using h4.2⟩,E]
       exact o
      obtain⟨m,M,t⟩:=C4 (z::j) (off+1) s u I
      exact⟨m,M,⟨l.g.trans t.g,l.H.trans t.H,l.t.trans t.t⟩⟩
    grind [Gs]
   .cases e
  .cases e
section
variable{P:Pz}{A:Av}{ρ:Nat->Nat}{S:aj->J Nat}{hd:aj->Vz}{fl:J Nat}{k k':Wk}{ay:J (SV×Vz)}{w:Wz}
theorem O3{v:SV}{a:J T}(e:qp v k=some a):∃nv,fY nv v k=some (a,k):=by
 unfold qp at e
 split at e
 .rename_i r p b c
  simp only[xM]at e
  grind [fY,xB,aj.past]
 .simp_all [fY]
 .simp_all [fY]
 .simp_all [fY]
 .simp_all [fY]
 .cases e
theorem u_(h:KR A ρ S hd fl k ay w)(X:k.tr=[]){r:aj}{p:dP}{off len i o g dl dc:Nat}{c:T}{es:J T}{x y:D}{c':T}{u:Vz}{a:Array Vz}{ty:TypeId}{av:Vz}
  (ha:(.aG r p off len,av)∈ay) (K:av=.slice (some ⟨g,o,none⟩) dl dc) (hi:off<=i) (ak:i<off+len) (hc:k.get r=some c) (e:c.at p=some (.own es)) (E:es[i]? =some (.d y)) (ad:x.nc=1) (f:y.nc=1) (ah:x.flat=true) (hu:VC (am A k.H.length ρ S fl w) x [u])
  (z:c.put p (.own (es.set i (.d x)))=some c') (B:k.set r c'=some k') (hg:w.heap[g]? =some (.cells a ty (0,0))):
  o=off/\i<a.size/\∃S',KR A ρ S' hd fl k' ay (w.setRow g (a.toList.take i++[u]++a.toList.drop (i+1)).toArray)/\k'.H.length=k.H.length/\k'.tr=[]:=by
 have l:=h.ay _ ha;rw[X]at l
 simp only[aU]at l
 obtain⟨t,Q,h',P,W,q3,q4,q5⟩:=l;rw[hc]at P
 simp only[xJ]at P
 subst P;rw[e]at W
 simp only[xJ,T.own.injEq]at W
 subst W;obtain⟨b,n,O,a',aa,m1,G,m3,m4,m5⟩:=q5;obtain⟨I,v,n1,F,n3⟩:=m5 (by omega)
 subst n1;subst m1;have s:SB (am A k.H.length ρ S fl w) k.get hd (.loc r p i 0) (.pointer (some ⟨I,i * (T.d y).nc+0,none⟩)):=⟨c,es,I,n,O,.d y,hc,e,q3,E,by simp[T.nc,f],rfl⟩
 obtain⟨t1,Q,af,g1,ab,j,ai,sz,Z,L,Sn,R,L1,Se,R1,V,H,d⟩:=Gj (λt=>h.cont r t) s
 rw[hc]at V
 simp only[xJ]at V
 subst V;rw[e]at H
 simp only[xJ,T.own.injEq]at H
 subst H;have m:=d.hel;rw[E]at m
 simp only[xJ]at m
 subst m;have bP:sz=1:=by rw[<-d.hnc];exact f
 subst bP;have Y:=d.hv;simp only[T.nc,f,Nat.mul_one,kH,Value.pointer.injEq,xJ,Addr.mk.injEq,and_true]at Y
 subst Y
 have N:v.nc=1:=by
  obtain q |q:=gF off i
  .refine(TE.len _ _ _ _ d.hL1).2 v (yS (i:=off) ?_)
   rw[xU,if_pos q];exact F
  .have:off=i:=by omega
   subst this;rw[E]at F
   simp only[xJ]at F
   subst F;exact f
 have U:g=I/\o=off:=by
  rw[K,n3]at G
  simp only[Value.slice.injEq,xJ,Addr.mk.injEq,N,Nat.mul_one,and_true]at G
  exact G.1
 obtain⟨rfl,rfl⟩:=U;have ac:[u].length=1:=rfl
 obtain⟨S',w1,w2⟩:=KR.write (M:=[]) (vs:=[u]) (off:=0) (el':=.d x) h hc e d (by simp) (by grind [T.nc]) z B (La:=[]) (Mb:=Se) (Rc:=[]) (by simp) (λc' hx ag=>by
  have e0:Z.take 0++[u]++Z.drop (0+[u].length)=[u]:=by
   rw[List.drop_of_length_le (by rw[d.hc1];simp)];simp
  grind [TC,VC.flat])
 simp only[tm,xH,if_false,Nat.mul_one,kH,List.length_singleton]at w1
 have C:j=a:=by
  have:=d.hg
  simp only[am]at this
  rw[hg]at this
  simp only[xJ,Obj.cells.injEq]at this
  exact this.1.symm
 subst C
 have al:i<j.size:=by
  have h1:=(List.getElem?_eq_some_iff.1 E).1;have h2:=d.hle;have h3:=d.hcur;omega
 grind [Wk.db]
theorem u?{a:Array Vz}{i:Nat}{u:Vz}(h:i<a.size):(a.toList.take i++[u]++a.toList.drop (i+1)).toArray=a.setIfInBounds i u:=by
 grind
theorem QP{r:aj}{p:dP}{off len o g Q X:Nat}{ty:TypeId}{av:Vz}(ha:(.aG r p off len,av)∈ay)(j:av=.slice (some ⟨g,o,none⟩) Q X):
  ∀(xs:J D) (vs:J Vz) (i:Nat) (k:Wk) (S:aj->J Nat) (w:Wz) (d:Array Vz),KR A ρ S hd fl k ay w->k.tr=[]->off<=i->i+xs.length<=off+len->(∀x∈xs,x.flat=true)->bU (am A k.H.length ρ S fl w) xs vs->Gs r p i xs k=some k'->w.heap[g]? =some (.cells d ty (0,0))->
   (xs≠[]->o=off/\i+xs.length<=d.size)/\∃S',KR A ρ S' hd fl k' ay (w.setRow g (d.toList.take i++vs++d.toList.drop (i+vs.length)).toArray)/\k'.H.length=k.H.length/\k'.tr=[]
 | [],vs,i,k,S,w,d,h,f,K,N,v,t,e,H=>by
  simp only[bU]at t
  subst t;simp only[Gs,xJ]at e
  subst e
  refine⟨λq=>absurd rfl q,S,?_,rfl,f⟩
  simp only[gf,yN,kH,yP,Array.toArray_toList]
  grind [setRow_self]
 |x::xs,vs,i,k,S,w,d,h,f,K,N,v,t,e,H=>by
  obtain⟨u,s,rfl,Y,I⟩:=t;simp only[xZ]at N
  simp only[Gs,xB]at e
  obtain⟨c,R,nd,E,e⟩:=e
  split at e
  .rename_i es
   split at e
   .rename_i y T
    split at e
    .rename_i M
     simp only[xB]at e
     obtain⟨Z,m,V,n,e⟩:=e;obtain⟨rfl,C,S1,L,P,F⟩:=u_ h f ha j K (by omega) R E T M.1 M.2 (v x (by simp)) Y m n H
     rw[u? C]at L
     obtain⟨q0,W,U,G,B⟩:=QP ha j xs s (i+1) V S1 _ (d.setIfInBounds i u) L F (by omega) (by omega) (λx z=>v x (by simp[z])) (I.ext λx z=>v x (by simp[z])) e (setRow_heap w g d _ ty _ H)
     have l:i+(xs.length+1)<=d.size:=by
      cases xs with
      |nil=>grind
      |cons a b=>grind
     refine⟨λ_=>⟨rfl,by simpa using l⟩,W,?_,G.trans P,B⟩
     rw[setRow_setRow]at U
     have O:=I.len
     grind [list_seg_step]
    .cases e
   .cases e
  .cases e
theorem u!(h:KR A ρ S hd fl k ay w){r:aj}{p:dP}{off len:Nat}{v:Vz}(hv:SB (am A k.H.length ρ S fl w) k.get hd (.aG r p off len) v):
  ∃(es:J T) (f:U Addr) (c:Nat),off+len<=es.length/\v=.slice f len c/\(0<len->∃g o d ty,f=some ⟨g,o,none⟩/\w.heap[g]? =some (.cells d ty (0,0))):=by
 obtain⟨t,es,y,u,H,q3,q4,q5⟩:=hv;obtain⟨b,n,q,f,c,C,l,V,M,z⟩:=q5
 refine⟨es,f,c,q4,l,λF=> ?_⟩
 obtain⟨m,s,I,P,x⟩:=z F;obtain⟨D,L,X,R,W,j⟩:=TC.focus p t (hd r) (S r) (.own es) (h.cont r t u) H;have E:D=y:=aI.uniq p t (hd r) _ _ j.node q3;subst E
 obtain⟨a,_,G,_⟩ |⟨Q,O,d,e,K,S',i,G,B,N⟩:=j.tc
 .grind
 .rw[C,I]at i
  simp only[xC,Value.slice.injEq,xJ,Addr.mk.injEq,and_true]at i
  obtain⟨rfl,_⟩:=i
  exact⟨m,_,d,e,x,B⟩
theorem VB{t u ty:TypeId}{a b sv:SV}{f d:Vz}(h:KR A ρ S hd fl k ay w)(i:k.tr=[])(ha:(a,f)∈ay)(hb:(b,d)∈ay)(e:nP P t a b k=some (sv,k')):
  ∃v w' S',(Builtin.copy_ #[t,u] ty #[f,d]).run P w=.ok v w'/\KR A ρ S' hd fl k' ay w'/\k'.H.length=k.H.length/\k'.tr=[]/\∀c K,SO c K hd sv v:=by
 unfold nP at e
 split at e
 .rename_i r p H l
  simp only[xB]at e
  obtain⟨et,h1,ah,h2,y,h3,e⟩:=e
  split at e
  .rename_i h4
   simp only[xM,pJ]at e
   obtain⟨k1,e,rfl,rfl⟩:=e;obtain⟨nv,h5⟩:=O3 h2;obtain⟨rfl,ac⟩:=C3 h3;have C:=h.ay (b,d) hb;rw[i]at C
   simp only[aU]at C
   obtain⟨S1,M,xa,xc,R,O,g2,V,g4⟩:=Mr h C h5 h4.2;obtain⟨J,rfl⟩:=IP rfl V.te;have B:=O.ay (.aG r p H l,f) ha;rw[i]at B
   simp only[aU]at B
   have af:(P.info? et).map (·.size)=some 1:=by
    have:=h4.1
    unfold Program.cellsOf at this
    cases hq:P.info? et with
    |none=>grind
    |some ai=>grind
   have hu:=B5 h1;have I:=V.hv;have Y:R.length=y.length:=J.len;have Z:(y.map T.d).length=y.length:=by simp
   rw[Z]at I
   obtain⟨es,a',L,an,E,N⟩:=u! O B;obtain⟨n,q⟩:∃n,n=Nat.min y.length l:=⟨_,rfl⟩
   have al:n<=y.length:=q▸Nat.min_le_left _ _;have ak:n<=l:=q▸Nat.min_le_right _ _
   have s:∀{c:Cx} {K:aj->U T} {m:Nat},SO c K hd (.d (.int .i64 (m:Int))) (goInt m):=λ{c K m}=>by
    show VV _ _ _;exact VV.dj _ _
   rw[<-q]at e |-
   by_cases hn:n=0
   .rw[hn]at e
    simp only[jr,lx,if_true,xJ]at e
    subst e
    refine⟨goInt 0,w,S1,?_,by simpa using O,rfl,i,λc K=> ?_⟩
    .grind [run_copy_none]
    grind
   .obtain⟨k2,e,D⟩:=C4 _ _ _ _ e
    obtain⟨g,o,G,tt,rfl,hg⟩:=N (by omega)
    have z:=J.take (n);have aa:(y.take (n)).length=n:=by rw[yR];omega
    obtain⟨q0,S2,w2,hH,W⟩:=QP ha E (y.take (n)) (R.take (n)) H k S1 w G (by simpa using O) i (dB _) (by rw[aa];omega) (λx hx=>ac x (Ao hx)) (by simpa using z) e hg
    obtain⟨rfl,ag⟩:=q0 (λhc=>by grind)
    have X:(R.take (n)).length=n:=by rw[yR,Y];omega
    refine⟨goInt (n),_,S2,?_,w2.alike D,by rw[D.H];exact hH,by rw[D.t];exact W,λc K=>s⟩
    rw[E,I]
    have ab:∃F,xa=some F:=by
     cases xa with
     |some F=>exact⟨F,rfl⟩
     |none=>have:=V.no rfl;grind
    obtain⟨F,rfl⟩:=ab
    have:=run_copy_row (P:=P) w t u ty et g o l L F y.length xc G tt (R.take (n)) hu af hg (by rw[X];exact q) (λj v Q=>by
     rw[xU]at Q
     split at Q
     .obtain⟨ao,z1,z2⟩:=V.rd j v Q
      simp only[xJ]at z1
      subst z1;exact z2
     .cases Q) (by grind) z.dq
    grind
  .cases e
 .cases e
end
section
variable{P:Pz}{c:Cx}{K:aj->U T}{hd:aj->Vz}{w:Wz}
section
variable(d:Nat)(t:TypeId){b:Bool}
theorem Gt{e:TypeId}(hu:P.underlying t=some (.slice e))(a:U Addr)(l k:Nat):(Op.equalIn (d+1) t (.slice a l k) (.slice none 0 0)).run P w=.ok a.isNone w/\(Op.equalIn (d+1) t (.slice none 0 0) (.slice a l k)).run P w=.ok a.isNone w:=by
 constructor <;>cases a <;>simp[Op.equalIn,run_underlying hu]
theorem AC{e:TypeId}(hu:P.underlying t=some (.pointer e))(a:U Addr):(Op.equalIn (d+1) t (.pointer a) (.pointer none)).run P w=.ok a.isNone w/\(Op.equalIn (d+1) t (.pointer none) (.pointer a)).run P w=.ok a.isNone w:=by
 constructor <;>cases a <;>simp[Op.equalIn,run_underlying hu]
theorem Mw{x y:TypeId}(hu:P.underlying t=some (.map x y))(a:U Nat):(Op.equalIn (d+1) t (.map a) (.map none)).run P w=.ok a.isNone w/\(Op.equalIn (d+1) t (.map none) (.map a)).run P w=.ok a.isNone w:=by
 constructor <;>cases a <;>simp[Op.equalIn,run_underlying hu]
theorem wn{x y:Array TypeId}{z:Bool}(hu:P.underlying t=some (.func x y z))(f:Fn)(a c:Array Vz):(Op.equalIn (d+1) t (.func f a c) .nilFunc).run P w=.ok false w/\(Op.equalIn (d+1) t .nilFunc (.func f a c)).run P w=.ok false w/\(Op.equalIn (d+1) t .nilFunc .nilFunc).run P w=.ok true w:=by
 refine⟨?_,?_,?_⟩ <;>simp[Op.equalIn,run_underlying hu]
theorem ry{x:Array (String×TypeId)}(hu:P.underlying t=some (.interface x))(f:TypeId)(v:Vz):(Op.equalIn (d+1) t (.iface f v) .nilIface).run P w=.ok false w/\(Op.equalIn (d+1) t .nilIface (.iface f v)).run P w=.ok false w/\(Op.equalIn (d+1) t .nilIface .nilIface).run P w=.ok true w:=by
 refine⟨?_,?_,?_⟩ <;>simp[Op.equalIn,run_underlying hu]
end
theorem B9{cst b:Bool}{t:TypeId}{n:D}{x:SV}{ox oy:Oz}{v nv:Vz}(hn:VV c n nv)(hx:SO c K hd x v)(hc:cst=true->isConst ox=true\/isConst oy=true)(e:tY P cst t n x=some b):
  wU P w t ox oy v nv b/\wU P w t ox oy nv v b:=by
 have d:∀v u,(∀j,eqGuard j t ox oy v u=pure ())->(∀y a,¬(v=.int y a))->(∀y a,¬(u=.int y a))->(Op.equal t v u).run P w=.ok b w->(binOp .eql t v u=do pure (.bool (<-Op.equal t v u)))->(binOp .neq t v u=do pure (.bool (!(<-Op.equal t v u))))->wU P w t ox oy v u b:=by
  intro v u s _ _ z h3 h4
  refine⟨?_,?_⟩
  .simp[s,h3,z]
  .simp[s,h4,z]
 unfold tY at e
 split at e
 ·-- slices
  have f:nv=.slice none 0 0:=by have:=hn.inv (by simp);simpa [VC]using this
  subst f
  split at e
  .rename_i r i
   have p:∀a l k,(b=a.isNone)->wU P w t ox oy (.slice a l k) (.slice none 0 0) b/\wU P w t ox oy (.slice none 0 0) (.slice a l k) b:=λa l k m=>by
    subst m;constructor
    .exact d _ _ (λj=>eqGuard_at_slice ..) (by simp) (by simp) (Gt 9999 t i ..).1 rfl rfl
    .exact d _ _ (λj=>eqGuard_at_slice ..) (by simp) (by simp) (Gt 9999 t i ..).2 rfl rfl
   split at e <;>simp only[xJ,reduceCtorEq]at e <;>subst e
   .have:=VV.inv hx (by simp);grind [VC]
   .have:=VV.inv hx (by simp)
    grind [VC]
   .obtain⟨s,a,rfl⟩:=hx
    grind [VC]
   .obtain⟨a,q,rfl,m⟩:=hx
    grind
   .obtain⟨t0,C,O,H,R,b3,b4,b5⟩:=hx
    obtain⟨a,n,q,M,A,S,F,J,G,Q⟩:=b5
    grind
  .cases e
 .have f:nv=.pointer none:=by have:=hn.inv (by simp);simpa [VC]using this
  subst f
  split at e
  .rename_i r i
   have p:∀a,(b=a.isNone)->wU P w t ox oy (.pointer a) (.pointer none) b/\wU P w t ox oy (.pointer none) (.pointer a) b:=λa m=>by
    subst m;constructor
    .exact d _ _ (λj=>eqGuard_at_pointer ..) (by simp) (by simp) (AC 9999 t i ..).1 rfl rfl
    .exact d _ _ (λj=>eqGuard_at_pointer ..) (by simp) (by simp) (AC 9999 t i ..).2 rfl rfl
   split at e <;>simp only[xJ,reduceCtorEq]at e <;>subst e
   .have:=VV.inv hx (by simp);grind [VC]
   .have:=VV.inv hx (by simp);grind [VC]
   .have:=VV.inv hx (by simp);grind [VC]
   .obtain⟨t0,C,g,n,q,E,s,z,h3,h4,h5,rfl⟩:=hx;grind
   .obtain⟨a,N,rfl,_⟩:=hx;grind
  .cases e
 .have f:nv=.map none:=by have:=hn.inv (by simp);simpa [VC]using this
  subst f
  split at e
  .rename_i r i
   have p:∀a,(b=a.isNone)->wU P w t ox oy (.map a) (.map none) b/\wU P w t ox oy (.map none) (.map a) b:=λa m=>by
    subst m;constructor
    .exact d _ _ (λj=>eqGuard_at_map ..) (by simp) (by simp) (Mw 9999 t i ..).1 rfl rfl
    .exact d _ _ (λj=>eqGuard_at_map ..) (by simp) (by simp) (Mw 9999 t i ..).2 rfl rfl
   split at e <;>simp only[xJ,reduceCtorEq]at e <;>subst e
   .have:=VV.inv hx (by simp);grind [VC]
   .have:=VV.inv hx (by simp);grind [VC]
  .cases e
 .have f:nv=.nilFunc:=by have:=hn.inv (by simp);simpa [VC]using this
  subst f
  split at e
  .rename_i r i i
   split at e <;>simp only[xJ,reduceCtorEq]at e <;>subst e
   .have:=VV.inv hx (by simp);simp only[VC,xC,and_true]at this;subst this
    constructor
    .exact d _ _ (λj=>eqGuard_at_nilFunc ..) (by simp) (by simp) (wn 9999 t i (.func 0) #[] #[]).2.2 rfl rfl
    .exact d _ _ (λj=>eqGuard_at_nilFunc ..) (by simp) (by simp) (wn 9999 t i (.func 0) #[] #[]).2.2 rfl rfl
   .have:=VV.inv hx (by simp);simp only[VC,xC,and_true]at this
    obtain⟨I,L,rfl,_⟩:=this;constructor
    .exact d _ _ (λj=>eqGuard_at_func ..) (by simp) (by simp) (wn 9999 t i ..).1 rfl rfl
    .exact d _ _ (λj=>eqGuard_at_nilFunc ..) (by simp) (by simp) (wn 9999 t i ..).2.1 rfl rfl
  .cases e
 .have f:nv=.nilIface:=by have:=hn.inv (by simp);simpa [VC]using this
  subst f
  split at e
  .rename_i r i
   split at e
   .have:=VV.inv hx (by simp);simp only[VC,xC,and_true]at this;subst this
    split at e
    .rename_i o
     simp only[xJ]at e;subst e
     have B:∀j,eqGuard j t ox oy .nilIface .nilIface=pure ():=λj=>by
      obtain h |h:=hc o
      .cases ox with
       |const x=>exact eqGuard_nil_constL ..
       |_=>simp[isConst]at h
      .cases oy with
       |const x=>exact eqGuard_nil_constR ..
       |_=>simp[isConst]at h
     constructor
     .exact d _ _ B (by simp) (by simp) (ry 9999 t i 0 .nilIface).2.2 rfl rfl
     .exact d _ _ B (by simp) (by simp) (ry 9999 t i 0 .nilIface).2.2 rfl rfl
    .cases e
   .simp only[xJ]at e;subst e
    have:=VV.inv hx (by simp);simp only[VC,xC,and_true]at this
    obtain⟨v,rfl,_⟩:=this;constructor
    .exact d _ _ (λj=>eqGuard_at_iface ..) (by simp) (by simp) (ry 9999 t i ..).1 rfl rfl
    .exact d _ _ (λj=>eqGuard_nil_iface ..) (by simp) (by simp) (ry 9999 t i ..).2.1 rfl rfl
   .cases e
  .cases e
 .cases e
theorem VD{cst b:Bool}{t:TypeId}{x y:SV}{ox oy:Oz}{v u:Vz}(hx:SO c K hd x v)(a:SO c K hd y u)(hc:cst=true->isConst ox=true\/isConst oy=true)(e:eqV P cst t x y=some b):wU P w t ox oy v u b:=by
 unfold eqV at e
 split at e
 .split at e
  .rename_i h
   simp only[xJ]at e;subst e
   rw[VV.of_bool hx,VV.of_bool a]
   refine⟨?_,?_⟩ <;>simp[eqGuard_at_bool,binOp,Op.equal,Op.maxDepth,run_equalIn_bool' w _ _ _ _ h]
  .cases e
 .simp only[xB]at e
  obtain⟨i,d,e⟩:=e;obtain⟨l,rfl,g⟩:=VV.cE hx;obtain⟨j,rfl,f⟩:=VV.cE a;obtain⟨_,_,_,k,_⟩:=wm d
  have:=Vy (w:=w) (d0:=9998) d g f e
  refine⟨?_,?_⟩
  .simp_all [run_eqGuard_agg,run_eql_struct]
  simp_all [run_eqGuard_agg,run_neq_struct]
 .split at e
  .rename_i d
   simp only[xJ]at e;subst e
   exact(B9 a hx hc d).1
  .split at e
   .exact(B9 hx a hc e).2
   .cases e
 .exact(B9 hx a hc e).2
 .cases e
theorem v_{cst:Bool}{op:BinOp}{t:TypeId}{x y:SV}{ox oy:Oz}{v u:Vz}{d:D}(hx:SO c K hd x v)(f:SO c K hd y u)(hc:cst=true->isConst ox=true\/isConst oy=true)(e:gO P cst op t x y=some d):
  ∃r,(do eqGuard op t ox oy v u;binOp op t v u:Sem Vz).run P w=.ok r w/\VV c d r:=by
 unfold gO at e
 split at e
 .rw[VV.of_int hx,VV.of_int f,eqGuard_at_int]
  obtain⟨r,g,i⟩:=Vv (P:=P) (c:=c) (w:=w) (cst:=cst) (op:=op) (t:=t) (d:=d) (by unfold gO;exact e)
  grind
 .obtain⟨a,rfl,rfl⟩:=VV.of_str hx
  obtain⟨h,rfl,rfl⟩:=VV.of_str f
  simp_all [eqGuard_at_string,Vw]
 .split at e
  .simp only[xM]at e
   obtain⟨b,e,rfl⟩:=e
   exact⟨_,(VD hx f hc e).1,VV.cR _⟩
  .simp only[xM]at e
   obtain⟨b,e,rfl⟩:=e
   exact⟨_,(VD hx f hc e).2,VV.cR _⟩
  .cases e
end
theorem Gu{P:Pz}{t:TypeId}{f o n:Nat}{a:Bool}(h:dx P t f=some (o,n,a)):∃(b:Array Field) (x:Field),P.underlying t=some (.struct b)/\b[f]? =some x/\o=x.offset/\n=P.cellsOf x.type/\oE P x.type=some a:=by
 grind [dx,xM]
theorem Ei(a:Addr)(m n:Nat)(h:a.spot=none):(a.add m).add n=a.add (m+n):=by
 obtain⟨b,o,s⟩:=a
 grind [fm]
theorem Gv(a:Addr)(m:Nat)(h:a.spot=none):(a.add m).spot=none:=by
 obtain⟨b,o,s⟩:=a
 grind [fm]
theorem VC.cells{c:Cx}{x:D}{cs:J Vz}(h:VC c x cs):aR c x.cells cs:=by
 have a:=VC.len _ _ h
 cases x with
 |agg l=>grind [VC,D.cells]
 |_=>
  simp only[D.nc]at a
  match cs,a with
  | [v],_=>grind [D.cells,aR]
theorem aR.drop{c:Cx}:∀(n:Nat) (l:J D) (cs:J Vz),aR c l cs->aR c (l.drop n) (cs.drop n)
 |0,_,_,h=>by simpa using h
 |n+1,[],_,h=>by grind [aR]
 |n+1,d::a,_,h=>by
  simp only[aR]at h
  obtain⟨v,r,rfl,_,h3⟩:=h
  simpa using aR.drop n a r h3
section
variable{P:Pz}{A:Av}{ρ:Nat->Nat}{S:aj->J Nat}{hd:aj->Vz}{fl:J Nat}{k k':Wk}{ay:J (SV×Vz)}{w:Wz}
theorem SB.rp_drop{c:Cx}{K:aj->U T}{b:Bool}{cs:J D}{a:Addr}(h:SB c K hd (.rp b cs) (.pointer (some a)))(n:Nat):SB c K hd (.rp b (cs.drop n)) (.pointer (some (a.add n))):=by
 obtain⟨g,e,d,f,h3,h4,h5⟩:=h;simp only[Value.pointer.injEq,xJ]at d
 subst d
 refine⟨_,e.drop n,rfl,Gv a n f,by grind [kw],λj u i=> ?_,aR.drop n _ _ h5⟩
 grind [Ei]
theorem C5(h:KR A ρ S hd fl k ay w){r:aj}{p:dP}{i off b:Nat}{v:Vz}(hv:SB (am A k.H.length ρ S fl w) k.get hd (.loc r p i off) v)(hl:oR k r p i b=true)(l:off<=b):
  ∃a:Addr,v=.pointer (some a)/\a.spot=none/\SB (am A k.H.length ρ S fl w) k.get hd (.loc r p i b) (.pointer (some (a.add (b - off)))):=by
 obtain⟨t,f,g,n,c,j,d,e,h3,h4,h5,rfl⟩:=hv;simp only[oR,d,xS,e,h4,yD]at hl
 refine⟨_,rfl,rfl,t,f,g,n,c,j,d,e,h3,h4,hl,?_⟩
 grind [fm]
theorem IR{r:aj}{p:dP}{i off:Nat}(hl:oR k r p i off=true):∃t,k.get r=some t:=by
 unfold oR at hl
 cases h:k.get r with
 |none=>simp[h]at hl
 |some t=>exact⟨t,rfl⟩
theorem Il(h:KR A ρ S hd fl k ay w){t:TypeId}{f:Nat}{u sv:SV}{v:Vz}(hu:SO (am A k.H.length ρ S fl w) k.get hd u v)(e:eE P t u f k=some sv):
  ∃x,(Instr.fieldAt t v f).run P w=.ok x w/\SO (am A k.H.length ρ S fl w) k.get hd sv x:=by
 simp only[eE,xB]at e
 obtain⟨⟨o,n,q⟩,l,e⟩:=e;obtain⟨B,x,C,h3,h4,h5,h6⟩:=Gu l;simp only at e
 split at e
 .rename_i y
  have c:∀a:Addr,(Instr.fieldAt t (.pointer (some a)) f).run P w=.ok (.pointer (some (a.add o))) w:=λa=>by
   have:P.cellsOf x.type≠0:=by omega
   simp_all [Instr.fieldAt,run_underlying,Instr.sureAddr,fieldPlace,qs]
  split at e
  .rename_i r p i m d
   split at e
   .rename_i hk
    simp only[xJ]at e;subst e
    obtain⟨t0,g⟩:=IR hk;obtain⟨a,rfl,_,j⟩:=C5 h (Ay h hu d g) hk (rc _ _);rw[qX]at j
    exact⟨_,c a,j⟩
   .cases e
  .rename_i b s d
   simp only[xJ]at e;subst e
   replace hu:=Gl d hu
   obtain⟨a,z,rfl,_⟩:=id hu
   exact⟨_,c a,SB.rp_drop (K:=k.get) (hd:=hd) hu o⟩
  .cases e
 .cases e
theorem oS{e:TypeId}(h:(P.info? e).isSome=true):(sizeOf e).run P w=.ok (P.cellsOf e) w:=by
 cases a:P.info? e with
 |none=>simp[a]at h
 |some i=>simp[sizeOf,typeInfo,a,Program.cellsOf]
theorem ud{e:TypeId}(h:0<P.cellsOf e):(P.info? e).isSome=true:=by
 cases a:P.info? e with
 |none=>grind [Program.cellsOf]
 |some i=>rfl
theorem ue{t e:TypeId}{a:Addr}{len cap:Nat}{q:IntKind}{n:Int}(hu:P.underlying t=some (.slice e))(h0:0<=n)(hn:n<len)(hi:(P.info? e).isSome=true):
  (Instr.indexAt t (.slice (some a) len cap) (.int q n)).run P w=.ok (.pointer (some (a.add (n.toNat * P.cellsOf e)))) w:=by
 simp[Instr.indexAt,asIntOf,run_underlying hu,h0,hn,oS hi]
theorem tx{t e:TypeId}{a:Addr}{len:Nat}{q:IntKind}{n:Int}(hu:P.underlying t=some (.array len e))(h0:0<=n)(hn:n<len)(hi:(P.info? e).isSome=true):
  (Instr.indexAt t (.pointer (some a)) (.int q n)).run P w=.ok (.pointer (some (a.add (n.toNat * P.cellsOf e)))) w:=by
 simp[Instr.indexAt,asIntOf,run_underlying hu,h0,hn,oS hi,Instr.sureAddr]
theorem v?{c:Cx}{K:aj->U T}{b:Bool}{l:J D}{v:Vz}(h:VC c (.sl b l) [v]){n:Nat}{y:D}(f:l[n]? =some y):
  ∃d len cap,v=.slice (some d) len cap/\len=l.length/\0<y.nc/\SB c K hd (.rp b y.cells) (.pointer (some (d.add (n * y.nc)))):=by
 simp only[VC,xC,and_true]at h
 obtain⟨a,len,cap,rfl,i,h3,h4⟩:=h;obtain⟨d,e,rfl,h6,h7,p,h9⟩:=h4 (by grind)
 obtain⟨o,g,m,k⟩:=VE.get l d 0 e h9 n y f
 refine⟨d,len,cap,rfl,i,by omega,_,g,rfl,Gv _ _ h6,by grind [kw],λj u q=> ?_,VC.cells k⟩
 grind [Ei]
theorem Im(h:KR A ρ S hd fl k ay w){t:TypeId}{u i sv:SV}{v O:Vz}(hu:SO (am A k.H.length ρ S fl w) k.get hd u v)(hi:SO (am A k.H.length ρ S fl w) k.get hd i O)(e:gR P t u i k=some sv):
  ∃x,(Instr.indexAt t v O).run P w=.ok x w/\SO (am A k.H.length ρ S fl w) k.get hd sv x:=by
 unfold gR at e
 split at e
 .rename_i q n
  rw[VV.of_int hi]
  split at e
  .rename_i W c
   -- an element of d data
   have d:∀b l,VC (am A k.H.length ρ S fl w) (.sl b l) [v]->(if 0<=n then(l[n.toNat]?).bind λy=>if y.nc=P.cellsOf W then some (SV.rp b y.cells)else none else none)=some sv->
     ∃x,(Instr.indexAt t v (.int q n)).run P w=.ok x w/\SO (am A k.H.length ρ S fl w) k.get hd sv x:=by
    intro b l hv e
    split at e
    .rename_i U
     simp only[xB]at e
     obtain⟨y,z,e⟩:=e
     split at e
     .rename_i o
      simp only[xJ]at e;subst e
      obtain⟨ad,C,s,rfl,h2,h3,h4⟩:=v? (K:=k.get) (hd:=hd) hv z;have ab:=(List.getElem?_eq_some_iff.1 z).1
      refine⟨_,ue c U (by omega) (ud (by omega)),?_⟩
      rw[<-o];exact h4
     .cases e
    .cases e
   split at e
   .exact d _ _ (VV.inv hu (by simp)) e
   .exact d _ _ hu.1 e
   .rename_i r p E C
    split at e
    .rename_i V
     obtain⟨t0,N,h',D,I,b3,b4,b5⟩:=id hu;simp only[D,I,xS,xB]at e
     obtain⟨y,z,e⟩:=e
     split at e
     .rename_i o
      simp only[xJ]at e;subst e
      obtain⟨a,m,s,a',B,m1,Y,m3,m4,m5⟩:=b5;obtain⟨g,F,n1,n2,n3⟩:=m5 (by omega)
      subst Y;subst n3;subst n1;subst m1;obtain⟨U,L,Sn,R,hS,Q⟩:=TC.focus p t0 (hd r) (S r) (.own N) (h.cont r t0 D) I;have hh:=aI.uniq p t0 (hd r) _ _ Q.node b3;subst hh
      obtain⟨a,_,k2,_⟩ |⟨g',B,aa,e,Z,S',k1,k2,k3,k4,k5,k6,k7,X⟩:=Q.tc
      .grind
      .have H:=(TE.len _ _ _ _ X).2 F (yS n2)
       have G:=(TE.len _ _ _ _ X).2 y (yS z);have bP:0<Z:=Ee k7
       refine⟨_,ue c V.1 V.2 (ud (by omega)),t0,N,g,m,s,y,D,I,b3,z,by omega,?_⟩
       rw[fm,H,<-o,G,iN]
       simp
     .cases e
    .cases e
   .cases e
  .rename_i C W c
   split at e
   .rename_i r p j E M
    split at e
    .rename_i f
     simp only[xJ]at e;subst e
     obtain⟨t0,J⟩:=IR f.2.2.2;obtain⟨a,rfl,_,T⟩:=C5 h (Ay h hu M J) f.2.2.2 (rc _ _);rw[qX]at T
     exact⟨_,tx c f.1 f.2.1 f.2.2.1,T⟩
    .cases e
   .rename_i b cs M
    split at e
    .rename_i f
     simp only[xJ]at e;subst e
     replace hu:=Gl M hu
     obtain⟨a,vs,rfl,_⟩:=id hu
     exact⟨_,tx c f.1 f.2.1 f.2.2,SB.rp_drop (K:=k.get) (hd:=hd) hu _⟩
    .cases e
   .cases e
  .cases e
 .cases e
end
section
variable{P:Pz}{c:Cx}{K:aj->U T}{hd:aj->Vz}{w:Wz}
theorem CO.cell1{x sv:SV}{v:Vz}(h:CO c K hd x v)(e:Go.Am.cell1 x=some sv):SO c K hd sv v:=by
 cases x with
 |d y=>
  by_cases a:∃l,y=.agg l
  .grind [Go.Am.cell1]
  .have:Go.Am.cell1 (.d y)=some (.d y):=by cases y <;>first |rfl |grind
   rw[this]at e
   simp only[xJ]at e;subst e
   exact VV.one h (λl b=>a ⟨l,b⟩)
 |agg l=>exact False.elim h
 |aS l=>exact False.elim h
 |_=>simp only[Go.Am.cell1,xJ]at e;subst e;exact h
theorem uf(cs:Array Vz)(o n:Nat):(cs.extract o (o+n)).toList=bw cs.toList o n:=by
 grind [bw,Array.toList_extract]
theorem Sy{t:TypeId}{f:Nat}{u sv:SV}{v:Vz}(hu:SO c K hd u v)(e:F4 P t u f=some sv):
  ∃x,(Instr.field t v f).run P w=.ok x w/\SO c K hd sv x:=by
 simp only[F4,xB]at e
 obtain⟨⟨o,n,p⟩,q,e⟩:=e;obtain⟨r,x,s,h3,h4,h5,h6⟩:=Gu q;simp only at e
 have b:∀(d:Array Vz),(Instr.field t (.agg d) f).run P w=(part x.type d o).run P w:=λd=>by
  simp_all [Instr.field,run_underlying,asAgg]
 split at e
 .rename_i l
  obtain⟨d,rfl,g⟩:=VV.cE hu;rw[b]
  split at e
  .rename_i a
   subst a
   split at e
   .rename_i j
    simp only[xJ]at e;subst e
    refine⟨_,ru h6,VV.agg ?_⟩
    grind [uf,aR.bw]
   .cases e
  .rename_i a
   have a:p=false:=by simpa using a
   subst a;simp only[xB]at e
   obtain⟨y,h,e⟩:=e;obtain⟨rfl,k⟩:=D.sv1_ok e;obtain⟨z,m,i⟩:=aR.get l _ g o y h
   exact⟨z,jt h6 (by simpa using m),VV.one i k⟩
 .rename_i l
  obtain⟨d,rfl,g⟩:=hu;rw[b];unfold ab1 at e
  split at e
  .rename_i a
   subst a
   split at e
   .rename_i j
    simp only[xJ]at e;subst e
    refine⟨_,ru h6,?_⟩
    have:=SV.mkAgg_ok (g.bw o n)
    rw[<-h5];rw[<-uf,Array.toArray_toList]at this
    exact this
   .cases e
  .rename_i a
   have a:p=false:=by simpa using a
   subst a;simp only[xB]at e
   obtain⟨y,h,e⟩:=e;obtain⟨z,m,i⟩:=g.get h
   exact⟨z,jt h6 (by simpa using m),i.cell1 e⟩
 .cases e
theorem SA{t:TypeId}{u i sv:SV}{v A:Vz}(hu:SO c K hd u v)(hi:SO c K hd i A)(e:tZ P t u i=some sv):
  ∃x,(Instr.index t v A).run P w=.ok x w/\SO c K hd sv x:=by
 unfold tZ at e
 split at e
 .rename_i q n
  rw[VV.of_int hi]
  split at e
  .rename_i s
   split at e
   .rename_i I
    split at e
    .rename_i B
     simp only[xM]at e
     obtain⟨b,o,rfl⟩:=e;obtain⟨a,rfl,rfl⟩:=VV.of_str hu
     have m:n.toNat<a.size:=by
      have:=(List.getElem?_eq_some_iff.1 o).1
      simpa using this
     refine⟨.int .u8 b.toNat,?_,VV.dj _ _⟩
     rw[run_index_string w t a q n I,dif_pos ⟨B,by omega⟩]
     have:a[n.toNat]'m=b:=by
      have:=(List.getElem?_eq_some_iff.1 o).2
      rw[Array.getElem_toList]at this
      exact this
     rw[this]
    .cases e
   .cases e
  .rename_i l
   obtain⟨r,rfl,F⟩:=VV.cE hu
   split at e
   .rename_i J p j
    split at e
    .rename_i h
     simp only[xB]at e
     obtain⟨C,g,e⟩:=e
     have f:(Instr.index t (.agg r) (.int q n)).run P w=(part p r (n.toNat * P.cellsOf p)).run P w:=by
      simp[Instr.index,asIntOf,run_underlying j,h.1,h.2.1,oS (ud h.2.2)]
     rw[f]
     split at e
     .rename_i d
      subst d
      split at e
      .simp only[xJ]at e;subst e
       refine⟨_,ru g,VV.agg ?_⟩
       rw[uf]
       grind [aR.bw]
      .cases e
     .rename_i d
      have d:C=false:=by simpa using d
      subst d;simp only[xB]at e
      obtain⟨y,H,e⟩:=e;obtain⟨rfl,k⟩:=D.sv1_ok e;obtain⟨z,G,E⟩:=aR.get l _ F _ y H
      exact⟨z,jt g (by simpa using G),VV.one E k⟩
    .cases e
   .cases e
  .cases e
 .cases e
end
def In(R:SV->Vz->Prop):U SV->U Vz->Prop
 |none,none=>True
 |some s,some v=>R s v
 |_,_=>False
section
variable{P:Pz}{c:Cx}{K:aj->U T}{hd:aj->Vz}{w:Wz}
theorem qt{x:U SV}{v:U Vz}{d n y:Nat}{code:BoundsCode}(hx:In (SO c K hd) x v)(e:eU x d=some n)(a:n<=y):
  (v=none/\n=d)\/∃u,v=some u/\x.isSome=true/\(Instr.sliceBound u y code).run P w=.ok n w:=by
 unfold eU at e
 split at e
 .simp only[xJ]at e
  cases v with
  |none=>grind
  |some u=>exact hx.elim
 .rename_i q z
  split at e
  .simp only[xJ]at e
   cases v with
   |none=>exact hx.elim
   |some u=>
    rw[VV.of_int hx]
    grind [run_sliceBound]
  .cases e
 .cases e
theorem Ej{lo hi:U SV}{lv hv:U Vz}{l h len cap:Nat}{b:Bool}(hl:In (SO c K hd) lo lv)(d:In (SO c K hd) hi hv)(e:eU lo 0=some l)(a:eU hi len=some h)(h1:l<=h)(h2:h<=cap)(h3:len<=cap):
  (Instr.sliceBounds b len cap lv hv none).run P w=.ok (l,h,cap) w:=by
 rcases qt (P:=P) (w:=w) (code:=if b then .sliceAcap else .sliceAlen) d a h2 with⟨rfl,rfl⟩ |⟨u,rfl,_,hr⟩ <;>
 rcases qt (P:=P) (w:=w) (code:=.sliceB) hl e h1 with⟨rfl,rfl⟩ |⟨u',rfl,_,hr'⟩ <;>simp_all [Instr.sliceBounds]
theorem JT{lo hi:U SV}{m:SV}{lv hv:U Vz}{a:Vz}{l h e len cap:Nat}{b:Bool}(hl:In (SO c K hd) lo lv)(f:In (SO c K hd) hi hv)(j:SO c K hd m a)(n:eU lo 0=some l)(i:eU hi len=some h)(k:eU (some m) 0=some e)(g:hi.isSome=true)(h1:l<=h)(h2:h<=e)(h3:e<=cap):
  (Instr.sliceBounds b len cap lv hv (some a)).run P w=.ok (l,h,e) w:=by
 rcases qt (P:=P) (w:=w) (code:=if b then .slice3Acap else .slice3Alen) (x:=some m) (v:=some a) (show In (SO c K hd) (some m) (some a)from j) k h3 with⟨d,_⟩ |⟨p,d,_,o⟩
 .cases d
 .simp only[xJ]at d
  subst d
  rcases qt (P:=P) (w:=w) (code:=.slice3B) f i h2 with⟨rfl,rfl⟩ |⟨u,rfl,_,hr⟩
  .cases hi with
   |none=>cases g
   |some x=>exact f.elim
  .rcases qt (P:=P) (w:=w) (code:=.slice3C) hl n h1 with⟨rfl,rfl⟩ |⟨u',rfl,_,hr'⟩ <;>simp_all [Instr.sliceBounds]
theorem iA{t e:TypeId}{a:U Addr}{len cap l h m:Nat}{lv hv b:U Vz}(hu:P.underlying t=some (.slice e))(hi:(P.info? e).isSome=true)(hb:(Instr.sliceBounds true len cap lv hv b).run P w=.ok (l,h,m) w):
  (Instr.sliceAt t (.slice a len cap) lv hv b).run P w=.ok (.slice (if m=l then a else a.map (·.add (l * P.cellsOf e))) (h - l) (m - l)) w:=by
 simp[Instr.sliceAt,run_underlying hu,Instr.slice,hb,oS hi]
theorem DZ{t:TypeId}{s:ByteArray}{l h m:Nat}{lv hv:U Vz}(hu:P.underlying t=some .string)(hb:(Instr.sliceBounds false s.size s.size lv hv none).run P w=.ok (l,h,m) w):
  (Instr.sliceAt t (.string s) lv hv none).run P w=.ok (.string (s.extract l h)) w:=by
 simp[Instr.sliceAt,run_underlying hu,Instr.slice,hb]
theorem VF{b:Bool}{xs:J D}{a:U Addr}{len cap l h m n:Nat}(hv:VC c (.sl b xs) [.slice a len cap])(h1:l<=h)(h2:h<=xs.length)(h3:h<=m)(h4:m<=cap)(hn:headD n (bw xs l (h - l))=true):
  VC c (.sl b (bw xs l (h - l))) [.slice (if m=l then a else a.map (·.add (l * n))) (h - l) (m - l)]:=by
 simp only[VC,xC,Value.slice.injEq,and_true]at hv |-
 obtain⟨z,p,o,⟨rfl,rfl,rfl⟩,A,q3,q4⟩:=hv;have g:(bw xs l (h - l)).length=h - l:=kj _ _ _ (by omega)
 refine⟨_,_,_,⟨rfl,rfl,rfl⟩,g.symm,by omega,λf=> ?_⟩
 have q:l<h:=by
  obtain k |k:=gF l h
  .exact k
  .simp_all
 obtain⟨t,d,rfl,u,w,v,s⟩:=q4 (by grind)
 have i:n=d:=by
  cases e:bw xs l (h - l)with
  |nil=>exact absurd e f
  |cons y r=>
   rw[e]at hn
   simp only[headD,beq_iff_eq]at hn
   have x:xs[l]? =some y:=by
    have:(bw xs l (h - l))[0]? =some y:=by rw[e];rfl
    simpa using Eh this
   grind [VE.get]
 refine⟨t.add (l * n),d,by grind,Gv _ _ u,by grind [kw],v,?_⟩
 refine VE.shift _ (0+l * d) 0 d (λj=> ?_) (s.bw l (h - l))
 grind [Ei]
theorem Mx{s:J UInt8}{v:Vz}{l h:Nat}(hv:VV c (.str s) v)(h1:l<=h)(h2:h<=s.length):∃a:ByteArray,v=.string a/\a.size=s.length/\VV c (.str (bw s l (h - l))) (.string (a.extract l h)):=by
 obtain⟨a,rfl,rfl⟩:=hv.of_str
 refine⟨a,rfl,by simp,VV.mk_str ?_⟩
 have:(a.extract l h).data=a.data.extract l h:=by simp[ByteArray.data_extract]
 rw[this,Array.toList_extract,List.extract_eq_take_drop];rfl
end
section
variable{P:Pz}{A:Av}{ρ:Nat->Nat}{S:aj->J Nat}{hd:aj->Vz}{fl:J Nat}{k k':Wk}{ay:J (SV×Vz)}{w:Wz}
theorem JU(h:KR A ρ S hd fl k ay w){r:aj}{p:dP}{off len:Nat}{v:Vz}{l b m n:Nat}(hv:SB (am A k.H.length ρ S fl w) k.get hd (.aG r p off len) v)(h1:l<=b)(h2:b<=len)(h3:b<=m)(hn:tn n r p (off+l) (b - l) k=true):
  ∃a cap,v=.slice a len cap/\len<=cap/\(m<=cap->SB (am A k.H.length ρ S fl w) k.get hd (.aG r p (off+l) (b - l)) (.slice (if m=l then a else a.map (·.add (l * n))) (b - l) (m - l))):=by
 obtain⟨t0,c,J,i,o,b3,b4,b5⟩:=id hv;obtain⟨a,T,cap,K,f,U,x,F,z,Q⟩:=b5;subst x
 refine⟨K,f,rfl,F,λY=>⟨t0,c,J,i,o,b3,by omega,a,T,cap,_,m - l,U,rfl,by omega,λB=> ?_,λB=> ?_⟩⟩
 .obtain⟨M,q2⟩:=z (by omega)
  have:l=0:=by omega
  subst this;subst M
  refine⟨?_,by omega⟩
  split
  .rfl
  simp_all [Addr.add_zero']
 .obtain⟨g,H,P,C,O⟩:=Q (by omega)
  obtain⟨G,L,Sn,R,hS,E⟩:=TC.focus p t0 (hd r) (S r) (.own c) (h.cont r t0 i) o;have j:off+l<c.length:=by omega
  have d:=xG j
  refine⟨g,c[off+l],P,d,?_⟩
  rw[if_neg (by omega),O]
  simp only[xQ,xJ]
  have D:c[off+l].nc=n:=by
   simp only[tn,i,o,xS]at hn
   cases t:bw c (off+l) (b - l)with
   |nil=>
    grind [kj]
   |cons y q=>
    rw[t]at hn
    simp only[IC,beq_iff_eq]at hn
    have:(bw c (off+l) (b - l))[0]? =some y:=by rw[t];rfl
    have:=Eh this
    grind
  obtain⟨Z,_,N,_⟩ |⟨W,s,I,e,X,S',k1,N,k3,V,k5,k6,k7,u⟩:=E.tc
  .grind
  .have e1:=(TE.len _ _ _ _ u).2 H (yS C)
   have e2:=(TE.len _ _ _ _ u).2 _ (yS d)
   grind [fm]
theorem SD(h:KR A ρ S hd fl k ay w){t:TypeId}{x sv:SV}{v:Vz}{lo hi R:U SV}{lv hv i:U Vz}(hx:SO (am A k.H.length ρ S fl w) k.get hd x v)
  (j:In (SO (am A k.H.length ρ S fl w) k.get hd) lo lv) (n:In (SO (am A k.H.length ρ S fl w) k.get hd) hi hv) (d:In (SO (am A k.H.length ρ S fl w) k.get hd) R i) (e:kh P t x lo hi R k=some sv):
  ∃u,(Instr.sliceAt t v lv hv i).run P w=.ok u w/\SO (am A k.H.length ρ S fl w) k.get hd sv u:=by
 unfold kh at e
 split at e
 .split at e
  .rename_i s
   have:i=none:=by cases i with |none=>rfl |some y=>exact d.elim
   subst this;simp only[xB]at e
   obtain⟨l,q,D,o,e⟩:=e
   split at e
   .rename_i f
    simp only[xJ]at e;subst e
    obtain⟨a,rfl,V,W⟩:=Mx hx f.1 f.2;rw[V.symm]at o
    exact⟨_,DZ s (Ej j n q o f.1 (by omega) (dB _)),W⟩
   .cases e
  .cases e
 .rename_i b Z
  have z:=VV.inv hx (by simp)
  have X:∃a g c,v=.slice a g c/\g=Z.length/\g<=c:=by
   simp only[VC,xC,and_true]at z
   obtain⟨a,g,c,G,L,q3,_⟩:=z
   exact⟨a,g,c,G,L,q3⟩
  obtain⟨a,g,c,rfl,rfl,N⟩:=X
  split at e
  .rename_i K s
   have:i=none:=by cases i with |none=>rfl |some y=>exact d.elim
   subst this;simp only[xB]at e
   obtain⟨l,q,D,o,e⟩:=e
   split at e
   .rename_i f
    simp only[xJ]at e;subst e
    exact⟨_,iA s f.2.2.1 (Ej j n q o f.1 (by omega) N),VV.one (VF z f.1 f.2.1 (by omega) (dB _) f.2.2.2) (by simp)⟩
   .cases e
  .rename_i K m s
   have:∃y,i=some y/\SO (am A k.H.length ρ S fl w) k.get hd m y:=by cases i with |none=>exact d.elim |some y=>exact⟨y,rfl,d⟩
   obtain⟨y,rfl,I⟩:=this;simp only[xB]at e
   obtain⟨l,q,D,o,O,J,e⟩:=e
   split at e
   .rename_i f
    obtain⟨B,E,F,C,H,M⟩:=f;simp only[xJ]at e;subst e
    subst E
    refine⟨_,iA s H (JT j n I q o J C B (dB _) (by omega)),VF z B F (dB _) (by omega) M,?_⟩
    rw[kj _ _ _ (by omega)]
    grind
   .cases e
  .cases e
 .have z:v=.slice none 0 0:=by have:=VV.inv hx (by simp);simpa [VC]using this
  subst z
  split at e
  .rename_i K s
   have:i=none:=by cases i with |none=>rfl |some y=>exact d.elim
   subst this;simp only[xB]at e
   obtain⟨l,q,D,o,e⟩:=e
   split at e
   .rename_i f
    obtain⟨rfl,rfl,F⟩:=f;simp only[xJ]at e;subst e
    refine⟨_,iA s F (Ej j n q o (dB _) (dB _) (dB _)),VV.one (by simp[VC]) (by simp)⟩
   .cases e
  .rename_i K m s
   have:∃y,i=some y/\SO (am A k.H.length ρ S fl w) k.get hd m y:=by cases i with |none=>exact d.elim |some y=>exact⟨y,rfl,d⟩
   obtain⟨y,rfl,I⟩:=this;simp only[xB]at e
   obtain⟨l,q,D,o,O,J,e⟩:=e
   split at e
   .rename_i f
    obtain⟨rfl,rfl,rfl,C,H⟩:=f;simp only[xJ]at e;subst e
    refine⟨_,iA s H (JT j n I q o J C (dB _) (dB _) (dB _)),VV.one (by simp[VC]) (by simp)⟩
   .cases e
  .cases e
 .rename_i r p Y g
  split at e
  .rename_i K s
   have:i=none:=by cases i with |none=>rfl |some y=>exact d.elim
   subst this;simp only[xB]at e
   obtain⟨l,q,D,o,e⟩:=e
   split at e
   .rename_i f
    obtain⟨B,E,F,C⟩:=f;simp only[xJ]at e;subst e
    have N:∃a c,v=.slice a g c/\g<=c:=by
     obtain⟨a,c,G,L,_⟩:=JU h (m:=D) hx B E (dB _) C
     exact⟨a,c,G,L⟩
    obtain⟨a,c,rfl,Q⟩:=N;obtain⟨a',T,G,L,q3⟩:=JU h (m:=c) hx B E (by omega) C
    simp only[Value.slice.injEq,true_and]at G
    obtain⟨rfl,rfl⟩:=G
    exact⟨_,iA s F (Ej j n q o B (by omega) Q),q3 (dB _)⟩
   .cases e
  .rename_i K m s
   have:∃y,i=some y/\SO (am A k.H.length ρ S fl w) k.get hd m y:=by cases i with |none=>exact d.elim |some y=>exact⟨y,rfl,d⟩
   obtain⟨y,rfl,I⟩:=this;simp only[xB]at e
   obtain⟨l,q,D,o,O,J,e⟩:=e
   split at e
   .rename_i f
    obtain⟨B,E,F,C,H,M⟩:=f;simp only[xJ]at e;subst e
    obtain⟨a,c,rfl,L,q3⟩:=JU h (m:=O) hx B (by omega) E M
    exact⟨_,iA s H (JT j n I q o J C B E (by omega)),q3 (by omega)⟩
   .cases e
  .cases e
 .cases e
theorem v!(h:KR A ρ S hd fl k ay w){t ty:TypeId}{x:SV}{v:Vz}{n:Int}(hx:SO (am A k.H.length ρ S fl w) k.get hd x v)(e:F5 P t k.H x=some n):(Builtin.len_ #[t] ty #[v]).run P w=.ok (.int .i64 n) w:=by
 unfold F5 at e
 split at e
 .split at e
  .rename_i c
   simp only[xJ]at e;subst e
   obtain⟨a,rfl,rfl⟩:=VV.of_str hx;simp[Builtin.len_,run_underlying c,goInt]
  .cases e
 .split at e
  .rename_i c
   simp only[xJ]at e;subst e
   have b:v=.slice none 0 0:=by have:=VV.inv hx (by simp);simpa [VC]using this
   subst b;simp[Builtin.len_,run_underlying c,goInt]
  .cases e
 .split at e
  .rename_i c
   simp only[xJ]at e;subst e
   have b:=VV.inv hx (by simp)
   simp only[VC,xC,and_true]at b
   obtain⟨a,l,d,rfl,rfl,_⟩:=b;simp[Builtin.len_,run_underlying c,goInt]
  .cases e
 .split at e
  .rename_i c
   simp only[xJ]at e;subst e
   obtain⟨_,a,rfl⟩:=hx;simp[Builtin.len_,run_underlying c,goInt]
  .cases e
 .split at e
  .rename_i c
   simp only[xJ]at e;subst e
   obtain⟨a,d,rfl,_⟩:=hx;simp[Builtin.len_,run_underlying c,goInt]
  .cases e
 .split at e
  .rename_i c
   simp only[xJ]at e;subst e
   obtain⟨t0,B,s,z,E,b3,b4,b5⟩:=hx;obtain⟨a,F,d,u,f,q,rfl,g,r,D⟩:=b5;simp[Builtin.len_,run_underlying c,goInt]
  .cases e
 .split at e
  .rename_i c
   simp only[xJ]at e;subst e
   have b:v=.map none:=by have:=VV.inv hx (by simp);simpa [VC]using this
   subst b;simp[Builtin.len_,run_underlying c,goInt]
  .cases e
 .rename_i o
  split at e
  .rename_i c m
   simp only[xJ]at e;subst e
   have b:=VV.inv hx (by simp)
   simp only[VC,xC,and_true]at b
   rw[b.2];obtain⟨M,q,j,p,i,g,_⟩:=h.map o _ m rfl;have y:=g.len;have C:w.heap[ρ o]? =some (.map j p):=i.1
   simp_all [Builtin.len_,run_underlying,goInt,am,getObj,Sem.run]
  .cases e
 .cases e
end
section
variable{P:Pz}{c:Cx}{K:aj->U T}{hd:aj->Vz}{w:Wz}
theorem aR.all2:∀(l:J D) (cs:J Vz),aR c l cs->All2 (CO c K hd) (l.map .d) cs
 | [],cs,h=>h
 |d::a,cs,h=>by
  simp only[aR]at h
  obtain⟨v,r,rfl,b,h3⟩:=h
  exact⟨v,r,rfl,b,aR.all2 a r h3⟩
theorem My{x:SV}{v:Vz}(h:SO c K hd x v)(o:x.solid=true):All2 (CO c K hd) x.cells v.cells.toList/\v.cells.size=x.nc:=by
 have e:∀(x:SV) (v:Vz),SB c K hd x v->v.oneCell'=true->(∀l,x≠ .d (.agg l))->x.cells=[x]->x.nc=1->All2 (CO c K hd) x.cells v.cells.toList/\v.cells.size=x.nc:=λx v h j w h3 h4=>by
  rw[h3,h4,ly j]
  exact⟨⟨v,[],rfl,CO.of_SB h w,rfl⟩,rfl⟩
 cases x with
 |d y=>
  by_cases m:∃l,y=.agg l
  .obtain⟨l,rfl⟩:=m
   obtain⟨q,rfl,u⟩:=VV.cE h
   exact⟨aR.all2 l _ u,by simpa [SV.nc,D.nc,Value.cells]using aR.len _ _ u⟩
  .have j:=VV.inv h (λl s=>m ⟨l,s⟩)
   refine e _ v h (VC.one _ _ j) (λl s=>by grind) ?_ ?_
   .cases y <;>first |rfl |grind
   .cases y <;>first |rfl |grind
 |agg l=>
  obtain⟨q,rfl,h⟩:=h
  exact⟨h,by simpa [SV.nc,Value.cells]using h.len⟩
 |aG r p k B=>
  obtain⟨t0,z,G,E,L,b3,b4,b5⟩:=id h;obtain⟨a,M,f,H,t,N,rfl,F,C,J⟩:=b5;exact e _ _ h rfl (by simp) rfl rfl
 |loc r p i k=>
  obtain⟨t0,z,g,n,f,A,j,w,h3,h4,h5,rfl⟩:=id h;exact e _ _ h rfl (by simp) rfl rfl
 |rp b q=>
  obtain⟨a,I,rfl,_⟩:=id h;exact e _ _ h rfl (by simp) rfl rfl
 |clip b l=>
  obtain⟨_,a,rfl⟩:=id h;exact e _ _ h rfl (by simp) rfl rfl
 |ns b=>
  obtain⟨a,f,rfl,_⟩:=id h;exact e _ _ h rfl (by simp) rfl rfl
 |aS l=>cases o
 |dead=>cases o
theorem All2.drop{d e:Type}{R:d->e->Prop}:∀(n:Nat) {c:J d} {l:J e},All2 R c l->All2 R (c.drop n) (l.drop n)
 |0,_,_,h=>by simpa using h
 |n+1,[],_,h=>by grind [All2]
 |n+1,a::c,_,h=>by
  obtain⟨b,r,rfl,_,h3⟩:=h
  simpa using All2.drop n h3
theorem All2.take{d e:Type}{R:d->e->Prop}:∀(n:Nat) {c:J d} {l:J e},All2 R c l->All2 R (c.take n) (l.take n)
 |0,_,_,_=>by simp[All2]
 |n+1,[],_,h=>by grind [All2]
 |n+1,a::c,_,h=>by
  obtain⟨b,r,rfl,f,h3⟩:=h;simp only[Ed]
  exact⟨b,_,rfl,f,All2.take n h3⟩
theorem Mz{k:Nat ⊕ J (Nat×Nat)}:∀(d:J (Nat×SV)) (vs:J (Nat×Vz)) (cs g:J SV) (cells:Array Vz),All2 (λ(a:Nat×SV) (b:Nat×Vz)=>a.1=b.1/\SO c K hd a.2 b.2) d vs->
  All2 (CO c K hd) cs cells.toList->Au k cs d=some g->∃f,Instr.fill (wb k) cells vs=some f/\All2 (CO c K hd) g f.toList
 | [],vs,cs,g,cells,j,h,e=>by
  rw[show vs=[]from j]
  simp only[Au,xJ]at e;subst e
  exact⟨cells,rfl,h⟩
 |(i,x)::d,vs,cs,g,cells,j,h,e=>by
  obtain⟨⟨w,v⟩,r,rfl,⟨m,l⟩,p⟩:=j;simp only at m l;subst m;simp only[Au,xB]at e
  obtain⟨⟨o,n⟩,q,e⟩:=e;simp only at e
  split at e
  .rename_i s
   obtain⟨u,y⟩:=My l s.1;have t:=h.len;simp only[yF]at t
   rw[IM q (by grind) (by omega)]
   refine Mz d r _ g _ p ?_ e
   simp only
   exact((h.take o).append u).append (h.drop (o+n))
  .cases e
theorem SF{t:TypeId}{d:J (Nat×SV)}{vs:J (Nat×Vz)}{sv:SV}(hp:All2 (λ(a:Nat×SV) (b:Nat×Vz)=>a.1=b.1/\SO c K hd a.2 b.2) d vs)(e:BT P t d=some sv):
  ∃u,(Instr.build t vs.toArray).run P w=.ok u w/\SO c K hd sv u:=by
 unfold BT at e
 split at e
 .rename_i z q
  obtain⟨i,B,m,o,h3,_⟩:=lz q;obtain⟨y,rfl,h⟩:=VV.cE (mj (c:=c) h3);simp only[xB,xM]at e
  obtain⟨D,g,r,A,rfl⟩:=e;obtain⟨f,v,s⟩:=Mz d vs _ r y hp (aR.all2 _ _ h) A
  refine⟨.agg f,run_build w t vs.toArray f ?_,by simpa using SV.mkAgg_ok s⟩
  unfold dX at g
  split at g
  .rename_i C k
   simp only[xM]at g
   obtain⟨p,l,rfl⟩:=g;simp only[Program.built,m,k,o,l]
   have:(λx=>p.toArray[x]?)=wb (.inr p):=by funext j;simp[wb]
   grind [Value.cells]
  .rename_i n e k
   simp only[xM]at g
   obtain⟨E,l,rfl⟩:=g;simp only[Program.built,m,k,o,l];exact v
  grind
 .cases e
theorem SV.pures_VVs:∀(l:J SV) (ds:J D) (vs:J Vz),SV.bG l=some ds->All2 (SO c K hd) l vs->bf c ds vs
 | [],ds,vs,h,a=>by
  simp only[SV.bG,xJ]at h;subst h
  exact a
 |x::l,ds,vs,h,a=>by
  obtain⟨v,r,rfl,e,f⟩:=a
  cases x with
  |d y=>
   simp only[SV.bG,xM]at h
   obtain⟨b,h3,rfl⟩:=h;simp only[bf]
   exact⟨v,r,rfl,e.1,e.2,SV.pures_VVs l b r h3 f⟩
  |_=>simp[SV.bG]at h
end
section
variable{P:Pz}{A:Av}{ρ:Nat->Nat}{S:aj->J Nat}{hd:aj->Vz}{fl:J Nat}{k k':Wk}{ay:J (SV×Vz)}{w:Wz}
theorem Ext.refl'(c:Cx):Ext c c:=⟨λ_ _ hp=>⟨hp,rfl⟩,dB _,λ_ _=>rfl⟩
theorem KR.rename(h:KR A ρ S hd fl k ay w){n j m i:Nat}{t:T}(z:(n,j)≠(m,i))(ht:k.get (.l n j)=some t):
  KR A ρ (upd (upd S (.l n j) []) (.l m i) (S (.l n j))) (upd hd (.l m i) (hd (.l n j))) fl (({k with ct:=((n,j),.dead)::k.ct}.new m i t).tell (.dm (n,j) (m,i))) ay w/\
   Ext (am A k.H.length ρ S fl w) (am A k.H.length ρ (upd (upd S (.l n j) []) (.l m i) (S (.l n j))) fl w):=by
 have y:(aj.l n j)≠ .l m i:=λe=>z (by grind)
 have J:S (.l m i)=[]++S (.l m i)++[]:=by simp
 have P:=h.bz.drop J;have O:upd S (.l m i) ([]++[]) (.l n j)=[]++S (.l n j)++[]:=by rw[dE _ _ y];simp
 have D:=P.detach O;have x:upd (upd S (.l m i) ([]++[])) (.l n j) ([]++[]) (.l m i)=[]++[]:=by rw[dE _ _ y.symm,eg]
 have B:=Dis.attach (r:=.l m i) (L:=[]) (R:=[]) (M:=S (.l n j)) (fl:=fl) D x
 have eS:upd (upd (upd S (.l m i) ([]++[])) (.l n j) ([]++[])) (.l m i) ([]++S (.l n j)++[])=upd (upd S (.l n j) []) (.l m i) (S (.l n j)):=by
  funext r;simp only[upd,gD,gf];split
  .rfl
  .rfl
 rw[eS]at B
 have own:∀b,bS (upd (upd S (.l n j) []) (.l m i) (S (.l n j))) fl b->bS S fl b:=λb Q=>by
  grind [bS.attach,bS.detach,bS.drop]
 have C:WS S fl w (upd (upd S (.l n j) []) (.l m i) (S (.l n j))) fl w:=WS.stay own;have ext:Ext (am A k.H.length ρ S fl w) (am A k.H.length ρ (upd (upd S (.l n j) []) (.l m i) (S (.l n j))) fl w):=C.ext (dB _) (λ_ _=>rfl)
 have get:∀r,(({k with ct:=((n,j),.dead)::k.ct}.new m i t).tell (.dm (n,j) (m,i))).get r=if r=.l m i then some t else if r=.l n j then some .dead else k.get r:=λr=>by
  show Go.Am.cont (((m,i),t)::((n,j),.dead)::k.ct) k.H r=_;rw[jm,jm];rfl
 have f:(({k with ct:=((n,j),.dead)::k.ct}.new m i t).tell (.dm (n,j) (m,i))).H.length=k.H.length:=rfl
 refine⟨⟨λr t0 a=> ?_,λr a E=> ?_,λq=>by rw[dE _ _ (by simp)];exact h.obj q,λq ob G s=> ?_,B,C.bT h,λp I=> ?_,h.fr,h.Fold,h.cM⟩,ext⟩
 .rw[f]
  rw[get]at a
  split at a
  .rename_i e;subst e
   simp only[xJ]at a
   subst a;rw[eg,eg];exact TC.ext ext _ _ _ (λ_ _=>rfl) (h.cont _ _ ht)
  .rename_i e
   rw[dE _ _ e,dE _ _ e]
   split at a
   .rename_i d;subst d
    simp only[xJ]at a
    subst a;rw[eg];simp only[TC]
    exact⟨trivial,_,rfl,TC.dq _ _ _ (h.cont _ _ ht) _ (by simp)⟩
   .rename_i d
    rw[dE _ _ d];exact TC.ext ext _ _ _ (λ_ _=>rfl) (h.cont r t0 a)
 .rw[get]at a
  split at a
  .cases a
  .rename_i e
   split at a
   .cases a
   .rename_i d
    rw[dE _ _ e,dE _ _ d];exact h.gone r a E
 .exact(h.map q ob G s).ext ext (λ_ _=>rfl) (by grind [dE]) rfl
 .have x:aU (({k with ct:=((n,j),.dead)::k.ct}.new m i t).tell (.dm (n,j) (m,i))).tr p.1=(Tr.dm (n,j) (m,i)).sv ((Tr.kill (.l m i) []).sv (aU k.tr p.1)):=by
   show aU ((k.tr++[Tr.kill (.l m i) []])++[Tr.dm (n,j) (m,i)]) p.1=_;rw[rm,rm]
  rw[x];refine SO.dm (K:=λr=>if r=.l m i then none else k.get r) (hd:=hd) ext (n,j) (m,i) (λr q N=> ?_) (λq t1 g c l=> ?_) (SO.kill (Ext.refl' _) (.l m i) [] (λr q U=> ?_) (h.ay p I))
  .intro t1 g c l
   simp only at c
   split at c
   .cases c
   .rename_i e
    refine⟨t1,g,by grind,l,bh.refl _,λu v=> ?_⟩
    rw[dE _ _ e];exact aI.ext q t1 _ u _ (h.cont r t1 c) (λ_ _=>rfl) v
  .simp only[if_neg y]at c
   rw[ht]at c
   simp only[xJ]at c
   subst c
   refine⟨t,g,by grind,l,bh.refl _,λu v=> ?_⟩
   rw[eg];exact aI.ext q t _ u _ (h.cont _ _ ht) (λ_ _=>rfl) v
  .intro t1 g c l
   by_cases e:r=.l m i
   .simp_all
   grind [bh.refl]
theorem O4(h:KR A ρ S hd fl k ay w){dst:Nat}{b:Bool}{x sv:SV}{v:Vz}(hx:SO (am A k.H.length ρ S fl w) k.get hd x v)(e:fb dst b x k=some (sv,k')):
  ∃S' hd',KR A ρ S' hd' fl k' ay w/\SO (am A k'.H.length ρ S' fl w) k'.get hd' sv v:=by
 unfold fb at e
 split at e
 .have a:v=.slice none 0 0:=by have:=VV.inv hx (by simp);simpa [VC]using this
  subst a
  split at e
  .simp only[xJ,pJ]at e
   obtain⟨rfl,rfl⟩:=e;obtain⟨d,o⟩:=KR.dt (n:=dst) (j:=0) (t:=.own []) (hv:=.slice none 0 0) (M:=[]) (by simpa using h) (.inl ⟨none,rfl,rfl,rfl⟩)
   refine⟨_,_,d,?_⟩
   exact AA (es:=[]) (M:=[]) (.inl ⟨none,rfl,rfl,rfl⟩) (by simp)
  grind
 .rename_i n j q
  split at e
  .grind
  .rename_i c
   obtain⟨t0,es,p,f,l,b3,b4,b5⟩:=id hx;simp only[f,xS]at e
   simp only[T.at,xJ]at l
   subst l;simp only at e
   split at e
   .rename_i g
    simp only[xJ,pJ]at e
    obtain⟨rfl,rfl⟩:=e;obtain⟨d,o⟩:=h.rename (m:=dst) (i:=0) c f
    refine⟨_,_,d,.own es,es,p,?_,rfl,?_,b4,b5⟩
    .show cont (((dst,0),T.own es)::((n,j),.dead)::k.ct) k.H (.l dst 0)=_
     grind [jm]
    grind [eg,aI]
   grind
 grind
theorem Gw{o:Nat}{ob d:Ob}(f:k.H[o]? =some d)(h0:∀c,d≠ .box c)(e:∀c,ob≠ .box c)(r:aj):({k with H:=k.H.set o ob}:Wk).get r=k.get r:=by
 cases r with
 |l a b=>rfl
 |o n=>
  grind [Wk.get,Go.Am.cont]
theorem oT{ob:Ob}(h:ob.plain=true):∀c,ob≠ .box c:=λc e=>by subst e;cases h
theorem KR.reob(h:KR A ρ S hd fl k ay w){o:Nat}{ob ob':Ob}(l:k.H[o]? =some ob)(hp:ob.plain=true)(f:ob'.plain=true)(q:PlOK (am A k.H.length ρ S fl w) S ρ o ob'):
  KR A ρ S hd fl {k with H:=k.H.set o ob'} ay w:=by
 have get:=Gw (ob:=ob') l (oT hp) (oT f);have a:({k with H:=k.H.set o ob'}:Wk).H.length=k.H.length:=by simp
 have u:=(List.getElem?_eq_some_iff.1 l).1
 refine⟨λr t i=>by rw[a];rw[get]at i;exact h.cont r t i,λr m s=> ?_,h.obj,λn c d g=> ?_,h.bz,h.bT,λp hp=> ?_,h.fr,h.Fold,by rw[a];exact h.cM⟩
 .rw[get]at m
  refine h.gone r m (λn c e d=> ?_)
  by_cases j:n=o
  .grind
  grind
 .rw[a]
  by_cases j:n=o
  .grind
  .simp only at d
   rw[vW (Ne.symm j)]at d
   exact h.map n c d g
 .rw[a,show({k with H:=k.H.set o ob'}:Wk).get=k.get from funext get]
  exact h.ay p hp
theorem KR.unset(h:KR A ρ S hd fl k ay w){o:Nat}{ks:J (J UInt8)}(a:k.H[o]? =some (.sset ks)):∃es,SetOf es ks/\KR A ρ S hd fl {k with H:=k.H.set o (.map es)} ay w:=by
 obtain⟨M,f,es,c,d,e,g,q3,q4⟩:=h.map o _ a rfl
 exact⟨es,q4,h.reob a rfl rfl ⟨M,f,c,d,e,g,q3⟩⟩
theorem KR.reset(h:KR A ρ S hd fl k ay w){o:Nat}{es:J (D×T)}{ks:J (J UInt8)}(a:k.H[o]? =some (.map es))(c:SetOf es ks):KR A ρ S hd fl {k with H:=k.H.set o (.sset ks)} ay w:=by
 obtain⟨M,i,d,g,e,f,q3⟩:=h.map o _ a rfl;exact h.reob a rfl rfl ⟨M,i,es,d,g,e,f,q3,c⟩
theorem IS{kt:TypeId}{s s':J UInt8}(hk:(ew P kt (.str s) (.str s)).isSome=true):ew P kt (.str s') (.str s)=some (s'==s)/\ew P kt (.str s) (.str s')=some (s==s'):=by
 grind [ew,iX,eqK]
abbrev MA(s:J UInt8):D×T:=(.str s,.d (.bool true))
theorem IT{kt:TypeId}{s:J UInt8}(hk:(ew P kt (.str s) (.str s)).isSome=true):∀es:J (D×T),(∀p∈es,∃s',p=MA s')->(MA s∈es/\jO (ew P kt) (.str s) es=some (some (.d (.bool true))))\/(MA s∉es/\jO (ew P kt) (.str s) es=some none)
 | [],_=>.inr ⟨by simp,rfl⟩
 |e::es,h=>by
  obtain⟨s',rfl⟩:=h e (by simp)
  simp only[jO,(IS (s':=s') hk).2,xS,beq_iff_eq]
  by_cases a:s=s'
  .grind
  have:=IT hk es;grind
theorem MB{kt:TypeId}{s:J UInt8}(hk:(ew P kt (.str s) (.str s)).isSome=true):∀es:J (D×T),(∀p∈es,∃s',p=MA s')->∃es',qo (ew P kt) (.str s) (.d (.bool true)) es=some es'/\∀p,p∈es'↔p=MA s\/p∈es
 | [],_=>⟨[MA s],rfl,by simp⟩
 |e::es,h=>by
  obtain⟨s',rfl⟩:=h e (by simp)
  simp only[qo,(IS (s':=s') hk).2,xS,beq_iff_eq]
  by_cases a:s=s'
  .subst a
   grind
  have:=MB hk es;grind
theorem SetOf.find{es:J (D×T)}{ks:J (J UInt8)}(h:SetOf es ks){kt:TypeId}{kd:D}{r:U T}(hk:(ew P kt kd kd).isSome=true)(e:Mh ks kd=some r):jO (ew P kt) kd es=some r:=by
 unfold Mh at e
 split at e
 .rename_i s
  simp only[xJ]at e
  subst e;have c:∀p∈es,∃d,p=MA d:=λp f=>by obtain⟨d,_,q⟩:=h.1 p f;grind
  obtain⟨a,b⟩ |⟨a,b⟩:=IT hk es c
  .obtain⟨d,g,i⟩:=h.1 _ a
   grind
  .rw[b,if_neg (λq=>a (h.2 s (by simpa using q)))]
 .cases e
theorem SetOf.put{es:J (D×T)}{ks ks':J (J UInt8)}(h:SetOf es ks){kt:TypeId}{kd y:D}(hk:(ew P kt kd kd).isSome=true)(e:BU ks kd y=some ks'):∃es',qo (ew P kt) kd (.d y) es=some es'/\SetOf es' ks':=by
 unfold BU at e
 split at e
 .rename_i s
  simp only[xJ]at e
  subst e;have b:∀p∈es,∃a,p=MA a:=λp d=>by obtain⟨a,_,q⟩:=h.1 p d;grind
  obtain⟨es',g,f⟩:=MB hk es b
  refine⟨es',g,λp d=> ?_,λa c=> ?_⟩
  .rcases(f p).1 d with rfl |q
   .grind
   .obtain⟨a,i,j⟩:=h.1 p q
    grind
  .rw[f]
   obtain rfl |q:=List.mem_cons.1 c
   .exact .inl rfl
   .exact .inr (h.2 a q)
 .cases e
theorem KR.lockMap(h:KR A ρ S hd fl k ay w){o:Nat}{ob:Ob}(l:k.H[o]? =some ob)(i:ob.plain=true){M:J Nat}(D:S (.o o)=ρ o::M):
  KR A ρ (upd S (.o o) []) hd ((ρ o::M)++fl) {k with H:=k.H.set o .lock} ay w/\Ext (am A k.H.length ρ S fl w) (am A k.H.length ρ (upd S (.o o) []) ((ρ o::M)++fl) w):=by
 have get:=Gw (ob:=.lock) l (oT i) (by simp)
 have z:S (.o o)=[]++(ρ o::M)++[]:=by simp[D]
 have B:=h.bz.detach z;have own:∀b,bS (upd S (.o o) []) ((ρ o::M)++fl) b->bS S fl b:=λb C=>(bS.detach z).1 (by simpa using C)
 have y:WS S fl w (upd S (.o o) []) ((ρ o::M)++fl) w:=WS.stay own;have ext:Ext (am A k.H.length ρ S fl w) (am A k.H.length ρ (upd S (.o o) []) ((ρ o::M)++fl) w):=y.ext (dB _) (λ_ _=>rfl)
 have a:({k with H:=k.H.set o .lock}:Wk).H.length=k.H.length:=by simp
 have s:k.get (.o o)=none:=by
  simp only[Wk.get,Go.Am.cont,l]
  cases ob with
  |box c=>cases i
  |_=>rfl
 refine⟨⟨λr t x=> ?_,λr j m=> ?_,h.obj,λn g f d=> ?_,by simpa using B,y.bT h,λp E=> ?_,h.fr,h.Fold,by rw[a];exact h.cM⟩,ext⟩
 .rw[a]
  rw[get]at x
  have j:r≠ .o o:=λe=>by grind
  rw[dE _ _ j];exact TC.ext ext _ _ _ (λ_ _=>rfl) (h.cont r t x)
 .by_cases u:r=.o o
  .grind [eg]
  .rw[dE _ _ u]
   rw[get]at j
   refine h.gone r j (λn g e f=>m n g e ?_)
   grind
 .have v:n≠o:=λe=>by
   subst e;simp only at f;rw[yK (List.getElem?_eq_some_iff.1 l).1]at f
   simp only[xJ]at f
   subst f;cases d
  simp only at f;rw[vW (Ne.symm v)]at f
  rw[a]
  exact(h.map n g f d).ext ext (λ_ _=>rfl) (dE _ _ (by simpa using v)) rfl
 .rw[a]
  exact SO.aV ext (λr q=>h.hold _ (get r) rfl (λ_ _=>rfl) q) (h.ay p E)
theorem KR.unlockMap{o:Nat}{M:J Nat}(h:KR A ρ S hd ((ρ o::M)++fl) k ay w){ob:Ob}(m:ob.plain=true)(hl:k.H[o]? =some .lock)(z:ObOK (am A k.H.length ρ S ((ρ o::M)++fl) w) (ρ o) M ob):
  KR A ρ (upd S (.o o) (ρ o::M)) hd fl {k with H:=k.H.set o ob} ay w/\Ext (am A k.H.length ρ S ((ρ o::M)++fl) w) (am A k.H.length ρ (upd S (.o o) (ρ o::M)) fl w):=by
 have get:=Gw (ob:=ob) hl (by simp) (oT m)
 have f:k.get (.o o)=none:=by simp[Wk.get,Go.Am.cont,hl]
 have u:S (.o o)=[]++[]:=by
  simpa using h.gone _ f (λn d e c=>by simp only[aj.o.injEq]at e;subst e;rw[hl]at c;simp only[xJ]at c;subst c;rfl)
 have y:=Dis.attach h.bz u;have own:∀b,bS (upd S (.o o) (ρ o::M)) fl b->bS S ((ρ o::M)++fl) b:=λb B=>(bS.attach u).1 (by simpa using B)
 have x:WS S ((ρ o::M)++fl) w (upd S (.o o) (ρ o::M)) fl w:=WS.stay own;have ext:Ext (am A k.H.length ρ S ((ρ o::M)++fl) w) (am A k.H.length ρ (upd S (.o o) (ρ o::M)) fl w):=x.ext (dB _) (λ_ _=>rfl)
 have a:({k with H:=k.H.set o ob}:Wk).H.length=k.H.length:=by simp
 refine⟨⟨λr t v=> ?_,λr i l=> ?_,h.obj,λn d c g=> ?_,by simpa using y,x.bT h,λp C=> ?_,h.fr,h.Fold,by rw[a];exact h.cM⟩,ext⟩
 .rw[a]
  rw[get]at v
  have i:r≠ .o o:=λe=>by grind
  rw[dE _ _ i];exact TC.ext ext _ _ _ (λ_ _=>rfl) (h.cont r t v)
 .by_cases s:r=.o o
  .grind
  .rw[dE _ _ s]
   rw[get]at i
   refine h.gone r i (λn d e c=>l n d e ?_)
   grind
 .rw[a]
  by_cases j:n=o
  .subst j
   simp only at c;rw[yK (List.getElem?_eq_some_iff.1 hl).1]at c
   simp only[xJ]at c
   subst c
   exact⟨M,eg _ _ _,z.ext ext rfl (λ_ _=>rfl)⟩
  .simp only at c
   rw[vW (Ne.symm j)]at c
   exact(h.map n d c g).ext ext (λ_ _=>rfl) (dE _ _ (by simpa using j)) rfl
 .rw[a]
  exact SO.aV ext (λr q=>h.hold _ (get r) rfl (λ_ _=>rfl) q) (h.ay p C)
theorem y4(h:KR A ρ S hd fl k ay w){t:TypeId}:(Instr.makeMap t none).run P w=.ok (.map (some w.heap.size)) (w.alloc (.map #[] 0))/\
  ∃a S' hd',KR A a S' hd' fl {k with H:=k.H++[.map []]} ay (w.alloc (.map #[] 0))/\SO (am A (k.H.length+1) a S' fl (w.alloc (.map #[] 0))) ({k with H:=k.H++[.map []]}:Wk).get hd' (.d (.map k.H.length)) (.map (some w.heap.size)):=by
 refine⟨by simp[Instr.makeMap],?_⟩
 obtain⟨d,e⟩:=KR.alloc (M:=[]) (by simpa using h) (.map #[] 0)
 obtain⟨b,f⟩:=d.newOb (.map []) w.heap.size (λx c=>by cases c) (λ_=>⟨[],rfl, #[],0,⟨by grind [am,heap_alloc_new],.nil⟩,rfl,rfl,rfl⟩) (by simp)
 refine⟨_,_,_,b,?_⟩
 refine VV.one ?_ (by simp)
 grind [VC,am]
end
section
variable{P:Pz}{c:Cx}{w:Wz}
theorem Gx{t:TypeId}{n:Nat}{x y:D}{b:Bool}(h:iX P t=some n)(e:eqK n x y=some b):∃d,P.underlying t=some d/\
  ((∃k q a c,d=.int k/\x=.int q a/\y=.int q c/\b=(a==c))\/(∃a c,d=.string/\x=.str a/\y=.str c/\b=(a==c))\/(∃a c,d=.bool/\x=.bool a/\y=.bool c/\b=(a==c))):=by
 unfold eqK at e
 split at e
 .split at e <;>simp only[xJ,reduceCtorEq]at e
  rename_i hk;subst hk
  obtain⟨_,k,g⟩ |⟨f,g⟩ |⟨f,g⟩:=lA h
  .grind
  .cases f
  .cases f
 .grind [lA]
 .grind [lA]
 .cases e
theorem IU{t:TypeId}{n d0:Nat}{x:D}{v:Vz}{b0:Bool}(h:iX P t=some n)(hx:VC c x [v])(e:(eqK n x x).isSome=true):(Instr.checkKey b0 (d0+1) t v).run P w=.ok () w:=by
 obtain⟨b,e⟩:=Option.isSome_iff_exists.1 e;obtain⟨d,g,i⟩:=Gx h e;unfold Instr.checkKey
 rcases i with⟨k,q,a,f,rfl,rfl,_,_⟩ |⟨a,f,rfl,rfl,_,_⟩ |⟨a,f,rfl,rfl,_,_⟩ <;>simp only[VC,xC,and_true]at hx
 .simp_all [run_underlying]
 .obtain⟨a,rfl,_⟩:=hx;simp[run_underlying g]
 simp_all [run_underlying]
theorem ug{cs:Array Vz}{b0:Bool}{d0:Nat}:∀(g:J Field) (i:Nat) (ks:J Nat) (d:J D),tX P i g=some ks->aR c d (cs.toList.drop i)->(tT ks d d).isSome=true->
  (forIn g PUnit.unit λ(f:Field) (_:PUnit)=>(if f.name≠ "_" then do
    let a <-part f.type cs f.offset
    Instr.checkKey b0 (d0+1) f.type a
    pure (ForInStep.yield PUnit.unit)
   else pure (ForInStep.yield PUnit.unit):Sem (ForInStep PUnit))).run P w=.ok PUnit.unit w
 | [],i,ks,d,_,_,_=>by simp
 |f::g,i,ks,d,hk,j,e=>by
  simp only[tX]at hk
  split at hk
  .rename_i p
   obtain⟨rfl,B⟩:=p;simp only[xB,xM]at hk
   obtain⟨n,q,m,t,rfl⟩:=hk
   match d,e with
   |a::r,e=>
    obtain⟨b,e⟩:=Option.isSome_iff_exists.1 e;simp only[tT,xB,xM]at e
    obtain⟨x,o,y,A,rfl⟩:=e;simp only[aR]at j
    obtain⟨v,h,k,s,u⟩:=j
    have E:cs[f.offset]? =some v:=by
     have:(cs.toList.drop f.offset)[0]? =some v:=by rw[k];rfl
     rw[jq,kH,yM]at this
     exact this
    have l:cs.toList.drop (f.offset+1)=h:=by
     have:(cs.toList.drop f.offset).drop 1=h:=by rw[k];rfl
     rwa [oP]at this
    have C:=ug (b0:=b0) (d0:=d0) g (f.offset+1) m r t (by rw[l];exact u) (by rw[A];rfl)
    have z:=IU (w:=w) (b0:=b0) (d0:=d0) q s (by rw[o];rfl)
    simp_all [jt,Gr]
  .cases hk
theorem MC{kt:TypeId}{b0:Bool}{ks:J Nat}{l:J D}{cs:Array Vz}(d0:Nat)(h1:rf P kt=some ks)(hv:aR c l cs.toList)(e:(tT ks l l).isSome=true):(Instr.checkKey b0 (d0+2) kt (.agg cs)).run P w=.ok () w:=by
 obtain⟨a,b,_,_,h4⟩:=wm h1
 have:=ug (w:=w) (b0:=b0) (d0:=d0) a.toList 0 ks l h4 (by simpa using hv) e
 show(Instr.checkKey b0 ((d0+1)+1) kt (.agg cs)).run P w=_
 generalize d0+1=d1 at this |-
 simp_all [Instr.checkKey,run_underlying]
theorem oU{kt:TypeId}{kd:D}{key:Vz}{b0:Bool}(hk:VV c kd key)(e:(ew P kt kd kd).isSome=true):(Instr.checkKey b0 10000 kt key).run P w=.ok () w:=by
 by_cases d:∃l,kd=.agg l
 .grind [VV.cE,Option.isSome_iff_exists,ew,xB,MC]
 .have h:∃n,iX P kt=some n/\(eqK n kd kd).isSome=true:=by
   obtain⟨b,e⟩:=Option.isSome_iff_exists.1 e
   have:(iX P kt).bind (λn=>eqK n kd kd)=some b:=by
    revert e;cases kd <;>intro e <;>first |exact e |grind
   simp only[xB]at this
   obtain⟨n,a,f⟩:=this
   exact⟨n,a,by rw[f];rfl⟩
  obtain⟨n,a,f⟩:=h;exact IU (d0:=9999) a (VV.inv hk (λl g=>d ⟨l,g⟩)) f
theorem RetAll.get{c:Cx}:∀(d:J T) (vs:J Vz) (M:J Nat),RetAll c d vs M->∀(i:Nat) (t:T) (v:Vz),d[i]? =some t->vs[i]? =some v->∃M',(∀b∈M',b∈M)/\TC c t v.cells.toList M'/\qr t v
 | [],_,_,_,i,t,v,h,_=>by simp at h
 |a::d,vs,M,f,i,t,v,g,k=>by
  obtain⟨u,r,j,e,rfl,rfl,h3,h4,h5⟩:=f
  cases i with
  |zero=>
   grind
  |succ i=>
   have:=RetAll.get d r e h5 i t v;grind
theorem w_{c:Cx}{y:D}{v:Vz}{M:J Nat}(h:TC c (.d y) v.cells.toList M)(hf:qr (.d y) v):VV c y v:=by
 simp only[TC]at h
 exact⟨h.2,hf⟩
def Found(eq:D->D->U Bool)(kd:D)(es:J (D×T))(d:J MapEntry)(e:Nat)(r:U T)(a:U (Nat×Vz)):Prop:=
 (r=none/\a=none/\∀x,qo eq kd x es=some (es++[(kd,x)]))\/
 ∃i t b c,r=some t/\es[i]? =some (b,t)/\d[i]? =some c/\a=some (e+i,c.val)/\eq kd b=some true/\∀x,qo eq kd x es=some (es.set i (kd,x))
theorem Found.skip{eq:D->D->U Bool}{kd:D}{e:D×T}{x:MapEntry}{es:J (D×T)}{d:J MapEntry}{f:Nat}{r:U T}{a:U (Nat×Vz)}(g:eq kd e.1=some false)(h:Found eq kd es d (f+1) r a):Found eq kd (e::es) (x::d) f r a:=by
 obtain⟨b,c,h3⟩ |⟨i,t,j,k,b,c,h3,h4,h5,h6⟩:=h
 .exact .inl ⟨b,c,λy=>by simp[qo,g,h3]⟩
 .refine .inr ⟨i+1,t,j,k,b,by simpa using c,by simpa using h3,?_,h5,λy=>by simp[qo,g,h6]⟩
  grind
theorem Found.here{eq:D->D->U Bool}{kd k0:D}{t:T}{x:MapEntry}{es:J (D×T)}{c:J MapEntry}{a:Nat}(b:eq kd k0=some true):Found eq kd ((k0,t)::es) (x::c) a (some t) (some (a,x.val)):=
 .inr ⟨0,t,k0,x,rfl,rfl,rfl,rfl,b,λy=>by simp[qo,b]⟩
theorem Gy{eq:D->D->U Bool}{d:TypeDesc}{kd:D}{key:Vz}(hc:∀k0 u b,VV c k0 u->eq kd k0=some b->Instr.sameNow d key u=some b):∀(es:J (D×T)) (f:J MapEntry) (g:Nat) (r:U T),All2 (JS c) es f->jO eq kd es=some r->
  ∃a,Instr.findNow d key f g=some a/\Found eq kd es f g r a
 | [],f,g,r,h,e=>by
  rw[show f=[]from h]
  simp only[jO,xJ]at e;subst e
  exact⟨none,rfl,.inl ⟨rfl,rfl,λx=>rfl⟩⟩
 |(k0,t)::es,f,g,r,h,e=>by
  obtain⟨x,i,rfl,l,h3⟩:=h;simp only[jO,xB]at e
  obtain⟨b,j,e⟩:=e;have m:=hc k0 x.key b l j;cases b
  .simp only[xH,if_false]at e
   obtain⟨a,n,k⟩:=Gy hc es i (g+1) r h3 e
   exact⟨a,by grind [Instr.findNow],k.skip j⟩
  .simp only[if_true,xJ]at e;subst e
   simp_all [Instr.findNow,Found.here]
theorem wV{eq:D->D->U Bool}{kt:TypeId}{kd:D}{key:Vz}(hc:∀k0 u b,VV c k0 u->eq kd k0=some b->(Op.equal kt key u).run P w=.ok b w):∀(es:J (D×T)) (d:J MapEntry) (f:Nat) (r:U T),All2 (JS c) es d->jO eq kd es=some r->
  ∃a,(Instr.findAsking kt key d f).run P w=.ok a w/\Found eq kd es d f r a
 | [],d,f,r,g,e=>by
  rw[show d=[]from g]
  simp only[jO,xJ]at e;subst e
  exact⟨none,rfl,.inl ⟨rfl,rfl,λx=>rfl⟩⟩
 |(k0,t)::es,d,f,r,g,e=>by
  obtain⟨x,h,rfl,l,h3⟩:=g;simp only[jO,xB]at e
  obtain⟨b,i,e⟩:=e;have j:=hc k0 x.key b l i;cases b
  .simp only[xH,if_false]at e
   obtain⟨a,m,k⟩:=wV hc es h (f+1) r h3 e
   exact⟨a,by simp[Instr.findAsking,j,m],k.skip i⟩
  .simp only[if_true,xJ]at e;subst e
   simp_all [Instr.findAsking,Found.here]
theorem y5{kt:TypeId}{kd:D}{key:Vz}{es:J (D×T)}{j:J MapEntry}{r:U T}(hk:VV c kd key)(i:(ew P kt kd kd).isSome=true)(ha:All2 (JS c) es j)(e:jO (ew P kt) kd es=some r):
  ∃f,(Instr.findKey kt key j).run P w=.ok f w/\Found (ew P kt) kd es j 0 r f:=by
 by_cases s:∃l,kd=.agg l
 .obtain⟨l,rfl⟩:=s
  obtain⟨I,rfl,G⟩:=VV.cE hk;obtain⟨b,i⟩:=Option.isSome_iff_exists.1 i;simp only[ew,xB]at i
  obtain⟨R,p,_⟩:=i;obtain⟨S,A,_,_,h4⟩:=wm p
  obtain⟨f,z,t⟩:=wV (P:=P) (w:=w) (kt:=kt) (key:=.agg I) (eq:=ew P kt) (kd:=.agg l) (λC u b h o=>by
   cases C with
   |agg Q=>
    obtain⟨N,rfl,B⟩:=VV.cE h;simp only[ew,xB]at o
    obtain⟨H,v,o⟩:=o;exact Vy (d0:=9998) v G B o
   |_=>
    grind [ew,xB,eqK]) es j 0 r ha e
  cases es with
  |nil=>
   rw[show j=[]from ha]at z |-
   refine⟨f,?_,by rw[show j=[]from ha]at t;exact t⟩
   simp_all [Instr.findAsking,Instr.findKey,run_underlying,Instr.findNow]
  |cons W es=>
   obtain⟨x,M,rfl,_,_⟩:=ha
   refine⟨f,?_,t⟩
   simp[Instr.findKey,run_underlying A,Instr.findNow,Instr.sameNow,z]
 .have F:∀y,ew P kt kd y=(iX P kt).bind λn=>eqK n kd y:=λy=>by
   cases kd <;>first |rfl |grind
  obtain⟨b,i⟩:=Option.isSome_iff_exists.1 i;rw[F,xB]at i
  obtain⟨n,p,O⟩:=i;obtain⟨d,A,_⟩:=Gx p O;have g:=VV.inv hk (λl L=>s ⟨l,L⟩)
  obtain⟨f,z,t⟩:=Gy (d:=d) (key:=key) (eq:=ew P kt) (kd:=kd) (λC u b h o=>by
   rw[F,p,xS]at o
   obtain⟨V,m,K⟩:=Gx p o;rw[A]at m
   simp only[xJ]at m
   subst m
   obtain⟨k,q,a,E,rfl,rfl,rfl,rfl⟩ |⟨a,E,rfl,rfl,rfl,rfl⟩ |⟨a,E,rfl,rfl,rfl,rfl⟩:=K
   .simp only[VC,xC,and_true]at g
    rw[g,VV.of_int h];simp[Instr.sameNow]
   .grind [VV.of_str,Instr.sameNow,beq_toListBytes,ByteArray.toList_eq]
   .simp only[VC,xC,and_true]at g
    rw[g,VV.of_bool h];simp[Instr.sameNow]) es j 0 r ha e
  simp_all [Instr.findKey,run_underlying]
theorem uh{t kt e:TypeId}(h:mf P t=some (kt,e)):P.underlying t=some (.map kt e):=by
 grind [mf]
theorem ab4{n m:Nat}{x y:D}{u v:Vz}(hx:VC c x [u])(a:VC c y [v])(e:eqK n x y=some true):Instr.sameBits m v u=true:=by
 unfold eqK at e
 split at e
 .grind [VC,Instr.sameBits]
 .grind [VC,beq_toListBytes,ByteArray.toList_eq,Instr.sameBits]
 .grind [VC,Instr.sameBits]
 .cases e
theorem VG{m:Nat}:∀(ks:J Nat) (f bs:J D) (d vs:J Vz),aR c f d->aR c bs vs->tT ks f bs=some true->vs.length=d.length/\((vs.zip d).all λ(x,y)=>Instr.sameBits m x y)=true
 | [],[],[],d,vs,g,i,_=>by simp_all [aR]
 |n::h,a::f,b::bs,d,vs,g,i,e=>by
  have:=VG (m:=m) h f bs;grind [tT,xB,xM,aR,List.zip_cons_cons,ab4]
theorem C6{kt:TypeId}{kd k0:D}{key a:Vz}(hk:VV c kd key)(h0:VV c k0 a)(e:ew P kt kd k0=some true):(Instr.keyThatStays a key).run P w=.ok key w:=by
 have:Instr.sameBits 10000 a key=true:=by
  by_cases b:∃l,kd=.agg l
  .obtain⟨l,rfl⟩:=b
   obtain⟨t,rfl,j⟩:=VV.cE hk
   cases k0 with
   |agg h=>
    obtain⟨p,rfl,f⟩:=VV.cE h0;simp only[ew,xB]at e
    obtain⟨d,i,o⟩:=e;obtain⟨r,u⟩:=VG (m:=9999) d l h _ _ j f o
    grind [Instr.sameBits]
   |_=>
    grind [ew,xB,eqK]
  .have k:ew P kt kd k0=(iX P kt).bind λn=>eqK n kd k0:=by
    cases kd <;>first |rfl |grind
   rw[k,xB]at e
   obtain⟨n,s,q⟩:=e;have h3:∀l,k0≠ .agg l:=λl g=>by grind [eqK]
   exact ab4 (VV.inv hk (λl g=>b ⟨l,g⟩)) (VV.inv h0 h3) q
 simp[Instr.keyThatStays,this]
theorem Ca{eq:D->D->U Bool}{kd:D}{x:T}:∀(es es':J (D×T)),qo eq kd x es=some es'->∃r,jO eq kd es=some r
 | [],_,_=>⟨none,rfl⟩
 |e::es,es',h=>by
  simp only[qo,xB]at h
  obtain⟨b,c,h⟩:=h;cases b
  .simp only[xH,if_false,xM]at h
   obtain⟨q,a,_⟩:=h
   have:=Ca es q a;grind [jO]
  simp_all [jO]
end
section
variable{P:Pz}{A:Av}{ρ:Nat->Nat}{S:aj->J Nat}{hd:aj->Vz}{fl:J Nat}{k k':Wk}{ay:J (SV×Vz)}{w:Wz}
theorem iQ{r:Nat}{es:Array MapEntry}{a:Nat}(h:w.heap[r]? =some (.map es a)):(getObj r).run P w=.ok (.map es a) w:=by
 simp[getObj,Sem.run,h]
theorem O5(h:KR A ρ S hd fl k ay w){t:TypeId}{l:Bool}{m x sv:SV}{B xv:Vz}(R:SO (am A k.H.length ρ S fl w) k.get hd m B)(hx:SO (am A k.H.length ρ S fl w) k.get hd x xv)(e:nb P t m x l k.H=some sv):
  ∃v,(Instr.lookup t B xv l).run P w=.ok v w/\SO (am A k.H.length ρ S fl w) k.get hd sv v:=by
 simp only[nb,xB]at e
 obtain⟨⟨X,el⟩,h1,e⟩:=e;have hu:=uh h1;simp only at e
 split at e
 .rename_i kd
  split at e
  .rename_i L
   simp only[xB,xM]at e
   obtain⟨r,n,z,hz,⟨y,b⟩,H,g⟩:=e;simp only at g;obtain⟨i,I,z1,z2,z3,Q⟩:=lz hz;have C:=mj (c:=am A k.H.length ρ S fl w) z3
   -- the entries
   have Y:∃(f:Array MapEntry) (p:J (D×T)) (M:J Nat),All2 (JS (am A k.H.length ρ S fl w)) p f.toList/\RetAll (am A k.H.length ρ S fl w) (p.map (·.2)) (f.toList.map (·.val)) M/\jO (ew P X) kd p=some r/\
     ((B=.map none/\f= #[])\/∃b u,B=.map (some b)/\w.heap[b]? =some (.map f u)):=by
    split at n
    .simp only[xJ]at n;subst n
     have:B=.map none:=by have:=VV.inv R (by simp);simpa [VC]using this
     exact⟨#[],[],[],rfl,⟨rfl,rfl⟩,rfl,.inl ⟨this,rfl⟩⟩
    .rename_i o
     split at n
     .rename_i p Z
      have a:=VV.inv R (by simp)
      simp only[VC,xC,and_true]at a
      obtain⟨M,_,f,u,N,W,O⟩:=h.map o _ Z rfl
      exact⟨f,p,M,W,O,n,.inr ⟨_,u,a.2,N.1⟩⟩
     .rename_i ks Z
      have a:=VV.inv R (by simp)
      simp only[VC,xC,and_true]at a
      obtain⟨M,_,p,f,u,N,W,O,m5⟩:=h.map o _ Z rfl
      exact⟨f,p,M,W,O,m5.find L n,.inr ⟨_,u,a.2,N.1⟩⟩
     .cases n
    .cases n
   obtain⟨f,p,M,a1,V,a2,U⟩:=Y;obtain⟨s,K,f2⟩:=y5 (w:=w) hx L a1 a2;have aa:(Instr.checkKey f.isEmpty 10000 X xv).run P w=.ok () w:=oU hx L
   have E:(Instr.lookup t B xv l).run P w=match s with
     |some (_,v)=>.ok (if l then .tuple #[v,.bool true]else v) w
     |none=>.ok (if l then .tuple #[I,.bool false]else I) w:=by
    obtain⟨rfl,rfl⟩ |⟨b,u,rfl,hb⟩:=U
    .have G:(Instr.checkKey true 10000 X xv).run P w=.ok () w:=oU hx L
     rcases s with _ |⟨q,v⟩ <;>simp[Instr.lookup,run_underlying hu,G,K,Q w]
     all_goals simp at K
     all_goals simp[K,Q w]
    .rcases s with _ |⟨q,v⟩ <;>simp[Instr.lookup,run_underlying hu,iQ hb,aa,K,Q w]
   rw[E]
   obtain⟨rfl,rfl,_⟩ |⟨j,t0,k0,e0,rfl,g2,g3,rfl,_,_⟩:=f2
   .simp only[xJ,pJ]at H
    obtain⟨rfl,rfl⟩:=H
    refine⟨if l then .tuple #[I,.bool false]else I,rfl,?_⟩
    cases l
    .simp only[xH,if_false]at g |-
     subst g;exact C
    .simp only[if_true]at g |-
     subst g
     exact⟨_,rfl,_,_,rfl,C,_,_,rfl,VV.cR _,rfl⟩
   .obtain⟨M',_,q2,q3⟩:=RetAll.get _ _ _ V j t0 e0.val (by simp[g2]) (by simp[g3])
    cases t0 with
    |d y'=> ?_
    |_=>cases H
    have F:=w_ q2 q3;simp only[xJ,pJ]at H
    obtain⟨rfl,rfl⟩:=H
    refine⟨if l then .tuple #[e0.val,.bool true]else e0.val,rfl,?_⟩
    cases l
    .simp only[xH,if_false]at g |-
     subst g;exact F
    .simp only[if_true]at g |-
     subst g
     exact⟨_,rfl,_,_,rfl,F,_,_,rfl,VV.cR _,rfl⟩
  .cases e
 .cases e
end
theorem All2.set{d f:Type}{R:d->f->Prop}:∀{e:J d} {l:J f} (i:Nat) {a:d} {b:f},All2 R e l->R a b->All2 R (e.set i a) (l.set i b)
 | [],_,i,_,_,h,_=>by grind [All2]
 |x::e,_,i,a,b,h,c=>by
  obtain⟨y,r,rfl,g,h3⟩:=h
  cases i with
  |zero=>exact⟨b,r,rfl,c,h3⟩
  |succ i=>exact⟨y,_,rfl,g,All2.set i h3 c⟩
theorem Ext.trans{a b c:Cx}(x:Ext a b)(y:Ext b c):Ext a c:=
 ⟨λt g h=>⟨(y.pm t g (x.pm t g h).1).1,((y.pm t g (x.pm t g h).1).2).trans (x.pm t g h).2⟩,ff x.nO y.nO,λo d=>(y.ρ o (yA d x.nO)).trans (x.ρ o d)⟩
theorem AD{b:Type}:∀{l:J b} {i:Nat} {a:b},l[i]? =some a->l.set i a=l
 | [],_,_,h=>by simp at h
 |x::l,0,a,h=>by grind
 |x::l,i+1,a,h=>by simp at h;simp[AD h]
theorem RetAll.out{c:Cx}:∀(e:J T) (vs:J Vz) (M:J Nat) (i:Nat) (t:T) (v:Vz),RetAll c e vs M->e[i]? =some t->vs[i]? =some v->v.oneCell'=true->∃b l d,M=b++l++d/\TC c t v.cells.toList l/\RetAll c (e.set i .dead) vs (b++d)
 | [],_,_,i,t,v,_,h,_,_=>by simp at h
 |a::e,vs,M,i,t,v,q,f,g,m=>by
  obtain⟨u,r,b,d,rfl,rfl,h3,h4,h5⟩:=q
  cases i with
  |zero=>
   simp only[yE,xJ]at f g
   subst f;subst g
   refine⟨[],b,d,by simp,h3,u,r,[],d,rfl,by simp,?_,m,h5⟩
   grind [TC,ly]
  |succ i=>
   obtain⟨j,n,k,rfl,o,p⟩:=RetAll.out e r d i t v h5 (by simpa using f) (by simpa using g) m
   exact⟨b++j,n,k,by simp,o,u,r,b,j++k,rfl,by simp,h3,h4,p⟩
section
variable{P:Pz}{A:Av}{ρ:Nat->Nat}{S:aj->J Nat}{hd:aj->Vz}{fl:J Nat}{k k':Wk}{ay:J (SV×Vz)}{w:Wz}
theorem KR.setMapM{M N N':J Nat}(h:KR A ρ S hd (M++fl) k ay w){o:Nat}{es es':J (D×T)}{O en':Array MapEntry}{E cl':Nat}(m:k.H[o]? =some (.map es))(z:S (.o o)=ρ o::N)(u:∀b∈N',b∈N++M)(K:N'.Nodup)(hb:w.heap[ρ o]? =some (.map O E))(l:cZ en' cl')
  (hk:All2 (JS (am A k.H.length ρ S (M++fl) w)) es' en'.toList) (hv:RetAll (am A k.H.length ρ S (M++fl) w) (es'.map (·.2)) (en'.toList.map (·.val)) N'):
  ∃S',KR A ρ S' hd fl {k with H:=k.H.set o (.map es')} ay {w with heap:=w.heap.setIfInBounds (ρ o) (.map en' cl')}:=by
 obtain⟨Q,R⟩:=h.lockMap m rfl z;have j:ρ o<w.heap.size:=(Array.getElem?_eq_some_iff.1 hb).1;have f:(ρ o::N).Nodup:=by have:=h.bz.nd (.o o);rwa [z]at this
 obtain⟨s,y⟩:=KR.world (w:=w) (w':={w with heap:=w.heap.setIfInBounds (ρ o) (.map en' cl')}) (M:=ρ o::N) (M':=ρ o::N) rfl rfl rfl (by simp) (cF.other (g:=ρ o) (λb hb=>by simp[Ne.symm hb]) (λr=>by rw[hb];simp)) Q (λb c P=>by
  grind) (λb hb=>.inl hb) f
 have i:o<k.H.length:=(List.getElem?_eq_some_iff.1 m).1;have U:({k with H:=k.H.set o .lock}:Wk).H[o]? =some .lock:=yK i
 have a:({k with H:=k.H.set o .lock}:Wk).H.length=k.H.length:=by simp
 have d:=s.bz.ndF
 have I:∀b∈N',b≠ρ o:=λb c e=>by
  grind
 have V:∀b∈N',b∉fl:=λb c G=>by
  grind
 have B:ρ o∉fl:=λG=>by
  grind
 have L:fl.Nodup:=by
  rw[lN,List.nodup_cons,<-xK,xT]at d
  exact d.2.2.1
 obtain⟨C,v⟩:=s.letGo (fl':=(ρ o::N')++fl) (by
  grind) (λb hb=>by
  grind)
 rw[a]at y v
 have x:=(R.trans y).trans v
 obtain⟨W,Y⟩:=C.unlockMap (M:=N') (ob:=.map es') rfl U (by
  rw[a]
  refine⟨en',cl',⟨by simp[am,j],l⟩,hk.imp (λ_ _ _ q=>VV.ext x q),RetAll.ext x _ _ _ (λg X=> ?_) hv⟩
  grind [am])
 grind [List.set_set]
theorem VH(h:KR A ρ S hd fl k ay w){dst:Nat}{t:TypeId}{m x sv:SV}{a xv:Vz}(b:SO (am A k.H.length ρ S fl w) k.get hd m a)(hx:SO (am A k.H.length ρ S fl w) k.get hd x xv)(e:F7 P dst t m x k=some (sv,k')):
  ∃v S' hd',(Instr.lookup t a xv false).run P w=.ok v w/\KR A ρ S' hd' fl k' ay w/\SO (am A k'.H.length ρ S' fl w) k'.get hd' sv v:=by simp[F7]at e
theorem MD(h:KR A ρ S hd fl k ay w){t:TypeId}{m x sv:SV}{a xv:Vz}(b:SO (am A k.H.length ρ S fl w) k.get hd m a)(hx:SO (am A k.H.length ρ S fl w) k.get hd x xv)(e:nN P t m x k=some (sv,k')):
  ∃v S' hd',(Instr.lookup t a xv false).run P w=.ok v w/\KR A ρ S' hd' fl k' ay w/\SO (am A k'.H.length ρ S' fl w) k'.get hd' sv v:=by simp[nN]at e
theorem VI(h:KR A ρ S hd fl k ay w){dst:Nat}{v sv:SV}{val:Vz}(hv:SO (am A k.H.length ρ S fl w) k.get hd v val)(e:tW dst v k=some (sv,k')):
  ∃S' hd',KR A ρ S' hd' fl k' ay w/\SO (am A k'.H.length ρ S' fl w) k'.get hd' sv val:=by
 unfold tW at e
 split at e
 .rename_i r p B
  simp only[xB]at e
  obtain⟨c,d,K,x,e⟩:=e
  split at e
  .rename_i i
   split at e
   .rename_i E
    obtain⟨rfl,_⟩:=E;simp only[xB,xM,pJ]at e
    obtain⟨J,F,l,o,rfl,rfl⟩:=e;obtain⟨t0,z,m,b,g,b3,b4,b5⟩:=hv;rw[d]at b
    simp only[xJ]at b
    subst b;rw[x]at g
    simp only[xJ,T.own.injEq]at g
    subst g;obtain⟨q,L,u,R,G,f⟩:=TC.focus p c (hd r) (S r) (.own i) (h.cont r c d) x;have H:q=m:=aI.uniq p c (hd r) q m f.node b3;subst H;obtain⟨y,C⟩:=h.takeOut d G f F o;have s:=TC.ext C _ _ _ (λ_ _=>rfl) (Win.whole b5 f.tc)
    have a:(l.tell (.kill r p)).H.length=k.H.length:=by show l.H.length=_;exact uc o
    obtain⟨I,D⟩:=KR.dt (n:=dst) (j:=0) (t:=.own i) (hv:=val) (M:=u) y (by rw[a];exact s)
    refine⟨_,_,I,AA (M:=u) (TC.ext D _ _ _ (λ_ _=>rfl) (by rw[a];exact s)) (by simp)⟩
   .cases e
  .cases e
 .cases e
theorem KR.newPl(h:KR A ρ S hd fl k ay w){ob:Ob}{o:Obj}(hp:ob.plain=true)(ho:∀c:Cx,c.nO=k.H.length->c.ρ=ρ->c.w=w.alloc o->ObOK c w.heap.size [] ob):
  ∃a S' hd',KR A a S' hd' fl {k with H:=k.H++[ob]} ay (w.alloc o)/\SO (am A (k.H.length+1) a S' fl (w.alloc o)) ({k with H:=k.H++[ob]}:Wk).get hd' (.d (.ptr k.H.length)) (.pointer (some ⟨w.heap.size,0,none⟩)):=by
 obtain⟨f,g⟩:=KR.alloc (M:=[]) (by simpa using h) o
 obtain⟨e,i⟩:=f.newOb ob w.heap.size (λy d=>by subst d;cases hp) (λ_=>⟨[],rfl,ho _ rfl rfl rfl⟩) (by rintro rfl;cases hp)
 refine⟨_,_,_,e,VV.one ?_ (by simp)⟩
 grind [VC,am]
theorem SG(h:KR A ρ S hd fl k ay w){t:TypeId}{x sv:SV}{v:Vz}(hx:SO (am A k.H.length ρ S fl w) k.get hd x v)(e:t5 P t x k=some (sv,k')):
  ∃val w' a S' hd',(Instr.range t v).run P w=.ok val w'/\KR A a S' hd' fl k' ay w'/\SO (am A k'.H.length a S' fl w') k'.get hd' sv val:=by
 unfold t5 at e
 split at e
 .rename_i s n
  simp only[xJ,pJ]at e
  obtain⟨rfl,rfl⟩:=e;have d:=VV.inv hx (by simp)
  simp only[VC,xC,and_true]at d
  obtain⟨b,rfl,m⟩:=d;obtain⟨a,S',hd',i,g⟩:=h.newPl (ob:=.iter s 0) (o:=.stringIter b 0) rfl (λc _ _ l=>⟨rfl,b,by grind [heap_alloc_new],m⟩)
  refine⟨.pointer (some ⟨w.heap.size,0,none⟩),w.alloc (.stringIter b 0),a,S',hd',?_,i,by simpa using g⟩
  simp_all [Instr.range,run_underlying]
 .rename_i u r n
  simp only[xJ,pJ]at e
  obtain⟨rfl,rfl⟩:=e;have d:=VV.inv hx (by simp)
  simp only[VC,xC,and_true]at d
  subst d;obtain⟨a,S',hd',i,g⟩:=h.newPl (ob:=.bY none) (o:=.mapIter none 0 #[] 0) rfl (λc _ _ l=>⟨rfl,by simp,0,0,by grind [heap_alloc_new]⟩)
  refine⟨.pointer (some ⟨w.heap.size,0,none⟩),w.alloc (.mapIter none 0 #[] 0),a,S',hd',?_,i,by simpa using g⟩
  simp_all [Instr.range,run_underlying]
 .rename_i u r o n
  split at e
  .rename_i D j
   simp only[xJ,pJ]at e
   obtain⟨rfl,rfl⟩:=e;have d:=VV.inv hx (by simp)
   simp only[VC,xC,and_true]at d
   obtain⟨C,rfl⟩:=d;obtain⟨N,G,q,f,p,E,y⟩:=h.map o _ j rfl;have m:w.heap[ρ o]? =some (.map q f):=p.1;obtain⟨a,S',hd',i,g⟩:=h.newPl (ob:=.bY (some o)) (o:=.mapIter (some (ρ o)) f #[] f) rfl (λc B F l=>⟨rfl,λz e=>by grind,f,f,by grind [heap_alloc_new]⟩)
   refine⟨.pointer (some ⟨w.heap.size,0,none⟩),w.alloc (.mapIter (some (ρ o)) f #[] f),a,S',hd',?_,i,by simpa using g⟩
   simp_all [Instr.range,run_underlying,getObj,Sem.run,am]
  .cases e
 .cases e
theorem KR.setPl(h:KR A ρ S hd fl k ay w){n:Nat}{ob ob':Ob}{o':Obj}(j:k.H[n]? =some ob)(hp:ob.plain=true)(e:ob'.plain=true){N:J Nat}(m:S (.o n)=ρ n::N)(z:ρ n<w.heap.size)(i:∀r,w.heap[ρ n]? ≠some (.loop r))
  (ho:∀c:Cx,c.nO=k.H.length->c.ρ=ρ->c.w={w with heap:=w.heap.setIfInBounds (ρ n) o'}->ObOK c (ρ n) [] ob'):
  ∃S',KR A ρ S' hd fl {k with H:=k.H.set n ob'} ay {w with heap:=w.heap.setIfInBounds (ρ n) o'}:=by
 obtain⟨v,I⟩:=h.lockMap j hp m;have a:(ρ n::N).Nodup:=by have:=h.bz.nd (.o n);rwa [m]at this
 obtain⟨l,G⟩:=KR.world (w:=w) (w':={w with heap:=w.heap.setIfInBounds (ρ n) o'}) (M:=ρ n::N) (M':=ρ n::N) (fl:=fl) rfl rfl rfl (by simp) (cF.other (g:=ρ n) (λb d=>by simp[Ne.symm d]) i) (by simpa using v) (λb s u=>by
  grind) (λb d=>.inl d) a
 have f:n<k.H.length:=(List.getElem?_eq_some_iff.1 j).1;have B:({k with H:=k.H.set n .lock}:Wk).H[n]? =some .lock:=yK f
 have q:({k with H:=k.H.set n .lock}:Wk).H.length=k.H.length:=by simp
 have x:=l.bz.ndF
 obtain⟨y,C⟩:=l.letGo (fl':=(ρ n::[])++fl) (by
  grind) (λb d=>by
  grind)
 obtain⟨D,E⟩:=y.unlockMap (M:=[]) (ob:=ob') e B (ho _ (by simp[am]) rfl rfl)
 grind [List.set_set]
theorem ME{y:ByteArray}{s:J UInt8}(h:y.data.toList=s):y=⟨s.toArray⟩/\y.size=s.length:=by
 obtain⟨d⟩:=y;subst h
 exact⟨congrArg ByteArray.mk (Array.toArray_toList (xs:=d)).symm,(yF (xs:=d)).symm⟩
theorem VJ(h:KR A ρ S hd fl k ay w){t:TypeId}{x sv:SV}{v:Vz}{str:Bool}(hx:SO (am A k.H.length ρ S fl w) k.get hd x v)(e:CZ x str k=some (sv,k')):
  ∃val w' l S' hd',(Instr.next v str t).run P w=.ok val w'/\KR A l S' hd' fl k' ay w'/\SO (am A k'.H.length l S' fl w') k'.get hd' sv val:=by
 have d:∀{c:Cx} {K:aj->U T} {hd:aj->Vz},SO c K hd (.aS [.d (.bool false)]) (.tuple #[.bool false]):=λ{c K hd}=>⟨_,rfl,_,_,rfl,VV.one (by simp[VC]) (by simp),rfl⟩
 unfold CZ at e
 split at e
 .rename_i i
  have B:=VV.inv hx (by simp)
  simp only[VC,xC,and_true]at B
  obtain⟨O,rfl⟩:=B
  split at e
  .rename_i s p f
   obtain⟨N,q,D,y,g,C⟩:=h.map i _ f rfl;obtain⟨M,V⟩:=ME C;have j:w.heap[ρ i]? =some (.stringIter y p):=g;have z:ρ i<w.heap.size:=(Array.getElem?_eq_some_iff.1 j).1
   split at e
   .rename_i I
    simp only[xJ,pJ]at e
    obtain⟨rfl,rfl⟩:=e;obtain⟨S',F⟩:=h.setPl (ob':=.iter s (p+(Utf8.decode ⟨s.toArray⟩ p).2)) (o':=.stringIter y (p+(Utf8.decode y p).2)) f rfl rfl q z (λr=>by rw[j];simp) (λc _ _ W=>⟨rfl,y,by grind,C⟩)
    refine⟨.tuple #[.bool true,.int .i64 p,.int .i32 (Utf8.decode ⟨s.toArray⟩ p).1],_,ρ,S',hd,?_,F,?_⟩
    .simp_all [Instr.next,am,getObj,setObj,Sem.run,goInt]
    .exact⟨_,rfl,_,_,rfl,VV.one (by simp[VC]) (by simp),_,_,rfl,VV.one (by simp[VC]) (by simp),_,_,rfl,VV.one (by simp[VC]) (by simp),rfl⟩
   .rename_i I
    simp only[xJ,pJ]at e
    obtain⟨rfl,rfl⟩:=e
    refine⟨.tuple #[.bool false],w,ρ,S,hd,?_,h,d⟩
    have n:¬p<y.size:=by omega
    simp only[Instr.next,am];simp[Sem.run_bind,getObj,Sem.run,j,Result.andThen,n]
  .rename_i f
   simp only[xJ,pJ]at e
   obtain⟨rfl,rfl⟩:=e;obtain⟨N,q,D,J,a,b,g⟩:=h.map i _ f rfl;have j:w.heap[ρ i]? =some (.mapIter none a #[] b):=g
   refine⟨.tuple #[.bool false],w,ρ,S,hd,?_,h,d⟩
   simp_all [Instr.next,am,getObj,Sem.run]
  .rename_i m f
   split at e
   .rename_i E
    simp only[xJ,pJ]at e
    obtain⟨rfl,rfl⟩:=e;obtain⟨N,q,D,J,a,b,g⟩:=h.map i _ f rfl;have j:w.heap[ρ i]? =some (.mapIter (some (ρ m)) a #[] b):=g;obtain⟨Q,R,u,G,L,q3,q4⟩:=h.map m _ E rfl;have H:w.heap[ρ m]? =some (.map u G):=L.1
    have o:u= #[]:=by
     have:u.toList=[]:=q3
     simpa using this
    subst o
    refine⟨.tuple #[.bool false],w,ρ,S,hd,?_,h,d⟩
    simp_all [Instr.next,am,getObj,Sem.run,Question.forced]
   .cases e
  .cases e
 .cases e
theorem SH{c:Cx}{K:aj->U T}{t:TypeId}{x sv:SV}{v:Vz}(hx:SO c K hd x v)(e:mH P t x=some sv):(Instr.makeInterface t v).run P w=.ok (.iface t v) w/\SO c K hd sv (.iface t v):=by
 unfold mH at e
 split at e
 .rename_i y
  split at e
  .cases e
  .rename_i d a b
   simp only[xJ]at e
   subst e
   refine⟨?_,VV.one ?_ (by simp)⟩
   .cases d with
    |interface m=>grind
    |_=>simp_all [Instr.makeInterface,run_underlying]
   .simp only[VC]
    exact⟨v,rfl,hx.1,hx.2⟩
  .cases e
 .cases e
theorem O6{c:Cx}{K:aj->U T}{xt u:TypeId}{r:Bool}{x sv:SV}{v:Vz}(hx:SO c K hd x v)(e:rh P u r x=some sv):∃val,(Instr.typeAssert v xt u r).run P w=.ok val w/\SO c K hd sv val:=by
 have f:∀{z:D} {d:TypeDesc} {a b:U TypeId},P.underlying u=some d->dQ P u=some z->∃h,(zeroValue u).run P w=.ok h w/\SO c K hd (.aS [.d z,.d (.bool false)]) (.tuple #[h,.bool false]):=by
  intro z d a b _ l;obtain⟨i,h,F,E,A,C⟩:=lz l
  exact⟨h,C w,_,rfl,_,_,rfl,mj A,_,_,rfl,VV.one (by simp[VC]) (by simp),rfl⟩
 unfold rh at e
 split at e
 .have j:=VV.inv hx (by simp)
  simp only[VC,xC,and_true]at j
  subst j
  split at e
  .cases e
  .rename_i d p s
   split at e
   .rename_i g
    subst g;simp only[xM]at e
    obtain⟨z,l,rfl⟩:=e;obtain⟨h,q,o⟩:=f (a:=none) (b:=none) s l
    refine⟨_,?_,o⟩
    cases d with
    |interface m=>grind
    |_=>simp_all [Instr.typeAssert,run_underlying]
   .cases e
  .cases e
 .rename_i t y
  have j:=VV.inv hx (by simp)
  simp only[VC,xC,and_true]at j
  obtain⟨n,rfl,q,o⟩:=j
  split at e
  .cases e
  .rename_i d p s
   split at e
   .rename_i k
    subst k;simp only[xJ]at e
    subst e
    cases r with
    |true=>
     refine⟨.tuple #[n,.bool true],?_,_,rfl,_,_,rfl,(⟨q,o⟩:VV c y n),_,_,rfl,VV.one (by simp[VC]) (by simp),rfl⟩
     cases d with
     |interface m=>grind
     |_=>simp_all [Instr.typeAssert,run_underlying]
    |false=>
     refine⟨n,?_,(⟨q,o⟩:VV c y n)⟩
     cases d with
     |interface m=>grind
     |_=>simp_all [Instr.typeAssert,run_underlying]
   .rename_i k
    split at e
    .rename_i g
     subst g;simp only[xM]at e
     obtain⟨z,l,rfl⟩:=e;obtain⟨h,G,B⟩:=f (a:=none) (b:=none) s l
     refine⟨_,?_,B⟩
     cases d with
     |interface m=>grind
     |_=>simp_all [Instr.typeAssert,run_underlying]
    .cases e
  .cases e
 .cases e
end
section
variable{P:Pz}{A:Av}{ρ:Nat->Nat}{S:aj->J Nat}{hd:aj->Vz}{fl:J Nat}{k:Wk}{ay:J (SV×Vz)}{w:Wz}
theorem VK(h:KR A ρ S hd fl k ay w){a dst c:TypeId}{s:J UInt8}{v:Vz}{d:D}(hx:SO (am A k.H.length ρ S fl w) k.get hd (.d (.str s)) v)(b:P.underlying dst=some (.slice c))(e:F3 P a dst (.d (.str s))=some d):
  ∃u w',(convert a dst v).run P w=.ok u w'/\KR A ρ S hd fl k ay w'/\VV (am A k.H.length ρ S fl w') d u:=by simp[F3]at e
end
section
variable{P:Pz}{A:Av}{ρ:Nat->Nat}{S:aj->J Nat}{hd:aj->Vz}{fl:J Nat}{k k':Wk}{ay:J (SV×Vz)}{w:Wz}
theorem C7{c:Cx}{K:aj->U T}{nv:Nat}{v:SV}{val:Vz}{y:D}(e:fR nv v k=some (.d y,k'))(hv:SO c K hd (aU k.tr v) val):wM y val:=by
 have i:∀u:SV,SO c K hd u val->dL nv u k=some (.d y,k')->wM y val:=λu f e=>by
  cases u with
  |d x=>
   simp only[dL,xJ,pJ,T.d.injEq]at e
   rw[<-e.1];exact f.2
  |clip b l=>
   simp only[dL,xJ,pJ,T.d.injEq]at e
   obtain⟨_,a,rfl⟩:=f;rw[<-e.1];rfl
  |ns b=>
   simp only[dL,xJ,pJ,T.d.injEq]at e
   obtain⟨a,h,rfl,_⟩:=f;rw[<-e.1];rfl
  |aG r p n o=>
   obtain⟨t0,w,H,t,I,b3,b4,b5⟩:=f;obtain⟨a,J,h,A,m,E,rfl,G,F,B⟩:=b5
   have j:∃b l,y=.sl b l:=by
    simp only[dL,xB]at e
    obtain⟨c0,_,C,_,e⟩:=e
    split at e
    .grind [xM,xB]
    .cases e
   obtain⟨b,l,rfl⟩:=j;rfl
  |_=>simp[dL]at e
 by_cases g:∃l,v=.agg l
 .obtain⟨l,rfl⟩:=g
  rw[Eg]at hv
  obtain⟨q,rfl,_⟩:=hv;simp only[fR,xM,pJ]at e
  obtain⟨⟨s,z⟩,_,e,_⟩:=e;unfold T.bt at e
  split at e
  .simp only[T.d.injEq]at e;rw[<-e];exact⟨q,rfl⟩
  .cases e
 .refine i _ hv ?_
  revert e
  cases v <;>intro e <;>first |exact e |grind
theorem j7{r:Nat}{es:Array MapEntry}{a:Nat}{o:Obj}(h:w.heap[r]? =some (.map es a)):(setObj r o).run P w=.ok () {w with heap:=w.heap.setIfInBounds r o}:=by
 simp[setObj,Sem.run,h]
theorem RetAll.snoc{c:Cx}{t:T}{v:Vz}{Mt:J Nat}(ht:TC c t v.cells.toList Mt)(hf:qr t v):∀(b:J T) (vs:J Vz) (M:J Nat),RetAll c b vs M->RetAll c (b++[t]) (vs++[v]) (M++Mt)
 | [],vs,M,d=>by
  obtain⟨rfl,rfl⟩:=d
  exact⟨v,[],Mt,[],rfl,by simp,ht,hf,rfl,rfl⟩
 |a::b,vs,M,d=>by
  obtain⟨u,r,f,e,rfl,rfl,h3,h4,h5⟩:=d
  exact⟨u,r++[v],f,e++Mt,rfl,by simp,h3,h4,RetAll.snoc ht hf b r e h5⟩
theorem RetAll.set{c:Cx}{t:T}{v:Vz}{Mt:J Nat}(ht:TC c t v.cells.toList Mt)(hf:qr t v):∀(e:J T) (vs:J Vz) (M:J Nat) (i:Nat),RetAll c e vs M->i<e.length->∃b k d,M=b++k++d/\RetAll c (e.set i t) (vs.set i v) (b++Mt++d)
 | [],vs,M,i,h,f=>by simp at f
 |a::e,vs,M,i,h,f=>by
  obtain⟨u,r,b,d,rfl,rfl,h3,h4,h5⟩:=h
  cases i with
  |zero=>exact⟨[],b,d,by simp,v,r,Mt,d,rfl,by simp,ht,hf,h5⟩
  |succ i=>
   obtain⟨g,l,j,rfl,q⟩:=RetAll.set ht hf e r d i h5 (by simpa using f)
   exact⟨b++g,l,j,by simp,u,r.set i v,b,g++Mt++j,rfl,by simp,h3,h4,q⟩
theorem KR.setMap{M N N':J Nat}(h:KR A ρ S hd (M++fl) k ay w){o:Nat}{es es':J (D×T)}{L en':Array MapEntry}{G cl':Nat}(l:k.H[o]? =some (.map es))(z:S (.o o)=ρ o::N)(s:∀b∈N',b∈N)(I:N'.Nodup)(hb:w.heap[ρ o]? =some (.map L G))(j:cZ en' cl')
  (hk:All2 (JS (am A k.H.length ρ S (M++fl) w)) es' en'.toList) (hv:RetAll (am A k.H.length ρ S (M++fl) w) (es'.map (·.2)) (en'.toList.map (·.val)) N'):
  ∃S',KR A ρ S' hd (M++fl) {k with H:=k.H.set o (.map es')} ay {w with heap:=w.heap.setIfInBounds (ρ o) (.map en' cl')}:=by
 obtain⟨P,Q⟩:=h.lockMap l rfl z;have i:ρ o<w.heap.size:=(Array.getElem?_eq_some_iff.1 hb).1;have c:(ρ o::N).Nodup:=by have:=h.bz.nd (.o o);rwa [z]at this
 obtain⟨m,y⟩:=KR.world (w:=w) (w':={w with heap:=w.heap.setIfInBounds (ρ o) (.map en' cl')}) (M:=ρ o::N) (M':=ρ o::N) rfl rfl rfl (by simp) (cF.other (g:=ρ o) (λb hb=>by simp[Ne.symm hb]) (λr=>by rw[hb];simp)) P (λb C O=>by
  grind) (λb hb=>.inl hb) c
 have f:o<k.H.length:=(List.getElem?_eq_some_iff.1 l).1;have R:({k with H:=k.H.set o .lock}:Wk).H[o]? =some .lock:=yK f
 have a:({k with H:=k.H.set o .lock}:Wk).H.length=k.H.length:=by simp
 have d:=m.bz.ndF;rw[xT]at d
 have e:∀b∈ρ o::N',b∈ρ o::N:=λb hb=>by
  grind
 obtain⟨E,v⟩:=m.letGo (fl':=(ρ o::N')++(M++fl)) (by
  grind) (λb hb=>by
  grind)
 rw[a]at y v
 have x:Ext (am A k.H.length ρ S (M++fl) w) (am A k.H.length ρ (upd S (.o o) []) ((ρ o::N')++(M++fl)) {w with heap:=w.heap.setIfInBounds (ρ o) (.map en' cl')}):=by
  refine⟨λb g K=> ?_,dB _,λ_ _=>rfl⟩
  have u:=Q.pm b g K;have B:=y.pm b g u.1;have q3:=v.pm b g B.1
  exact⟨q3.1,q3.2.trans (B.2.trans u.2)⟩
 obtain⟨U,W⟩:=E.unlockMap (M:=N') (ob:=.map es') rfl R (by
  rw[a]
  refine⟨en',cl',⟨by simp[am,i],j⟩,hk.imp (λ_ _ _ q=>VV.ext x q),RetAll.ext x _ _ _ (λg V=> ?_) hv⟩
  grind [am])
 grind [List.set_set]
theorem O7{c:Cx}{K:aj->U T}{nv:Nat}{v:SV}{val:Vz}{l:J T}(e:fR nv v k=some (.own l,k'))(hv:SO c K hd (aU k.tr v) val):val.oneCell'=true:=by
 by_cases f:∃l,v=.agg l
 .grind [fR,xM,T.bt]
 .have i:dL nv (aU k.tr v) k=some (.own l,k'):=by
   revert e
   cases v <;>intro e <;>first |exact e |grind
  revert i hv
  generalize aU k.tr v=u;intro j e
  cases u with
  |aG r p d h=>
   obtain⟨t0,t,n,s,y,b3,b4,b5⟩:=j;obtain⟨a,z,g,o,b,q,rfl,w,m,x⟩:=b5;rfl
  |_=>simp[dL]at e
theorem Cb{k1:Wk}{S1:aj->J Nat}(s:KR A ρ S1 hd ([]++fl) k1 ay w){t kt Y:TypeId}{kd y:D}{xv vv:Vz}{o:Nat}{es es':J (D×T)}(hu:P.underlying t=some (.map kt Y))(M:(ew P kt kd kd).isSome=true)(d:VV (am A k1.H.length ρ S1 ([]++fl) w) y vv)(c:VV (am A k1.H.length ρ S1 ([]++fl) w) kd xv)(k:k1.H[o]? =some (.map es))(hp:qo (ew P kt) kd (.d y) es=some es'):
  ∃w' S',(Instr.mapUpdate t (.map (some (ρ o))) xv vv).run P w=.ok () w'/\KR A ρ S' hd fl {k1 with H:=k1.H.set o (.map es')} ay w'/\∀b,b≠ρ o->w'.heap[b]? =w.heap[b]? :=by
 obtain⟨N,G,l,u,z,x,Q⟩:=s.map o _ k rfl;have f:N.Nodup:=by have:=s.bz.nd (.o o);rw[G]at this;exact(List.nodup_cons.1 this).2
 have g:w.heap[ρ o]? =some (.map l u):=z.1;obtain⟨r,V⟩:=Ca es es' hp;obtain⟨aa,E,S⟩:=y5 (w:=w) c M x V;have q:(Instr.checkKey false 10000 kt xv).run P w=.ok () w:=oU c M
 obtain⟨rfl,rfl,f3⟩ |⟨j,t1,k0,e0,rfl,q2,q3,rfl,q5,q6⟩:=S
 .have:es'=es++[(kd,.d y)]:=by
   have:=f3 (.d y);rw[this]at hp;simpa using hp.symm
  subst this
  obtain⟨S',C⟩:=s.setMap (N':=N) (es':=es++[(kd,.d y)]) (en':=l.push {key:=xv,val:=vv,born:=u}) (cl':=u+1) k G (λ_ h=>h) f g (z.2.push _ _) (by
   simp only[vX]
   exact x.append ⟨_,[],rfl,c,rfl⟩) (by
   simp only[vX,pE,eJ,ir]
   have:=RetAll.snoc (t:=.d y) (v:=vv) (Mt:=[]) (by simp only[TC];exact⟨trivial,d.1⟩) d.2 _ _ _ Q
   grind)
  refine⟨_,S',?_,by simpa using C,λb g=>by simp[Ne.symm g]⟩
  simp[Instr.mapUpdate,run_underlying hu,iQ g,q,E,j7 g]
 .have:es'=es.set j (kd,.d y):=by
   have:=q6 (.d y);rw[this]at hp;simpa using hp.symm
  subst this;obtain⟨Z,B,r2⟩:=x.get q2;rw[q3]at B
  simp only[xJ]at B
  subst B;have F:=C6 (w:=w) c r2 q5;have O:l[j]? =some e0:=by simpa using q3
  have ab:j<l.size:=(Array.getElem?_eq_some_iff.1 O).1
  have n:(l.modify j λe=>{e with key:=xv,val:=vv}).toList=l.toList.set j {e0 with key:=xv,val:=vv}:=by
   apply As;intro i;rw[yM,Array.getElem?_modify,List.getElem?_set]
   by_cases I:j=i
   .grind
   .simp[I]
  obtain⟨R,Ni,L,U,m⟩:=RetAll.set (t:=.d y) (v:=vv) (Mt:=[]) (by simp only[TC];exact⟨trivial,d.1⟩) d.2 _ _ _ j Q (by grind)
  rw[gf]at m
  have p:(R++L).Nodup:=by
   rw[U,xK]at f
   rw[xT]at f |-
   obtain⟨p1,K,X⟩:=f;rw[xT]at K
   exact⟨p1,K.2.1,λa W b g=>X a W b (xR _ g)⟩
  obtain⟨S',C⟩:=s.setMap (N':=R++L) (es':=es.set j (kd,.d y)) (en':=l.modify j λe=>{e with key:=xv,val:=vv}) (cl':=u) k G (λb g=>by
   grind) p g (z.2.same (by grind [BR,AD])) (by
   rw[n]
   exact x.set j c) (by
   grind [BR])
  refine⟨_,S',?_,by simpa using C,λb g=>by simp[Ne.symm g]⟩
  simp only[fp]at E
  simp[Instr.mapUpdate,run_underlying hu,iQ g,q,E,O,F,j7 g]
theorem Gz(h:KR A ρ S hd fl k ay w){nv:Nat}{t:TypeId}{m x v:SV}{K xv vv:Vz}(hm:SO (am A k.H.length ρ S fl w) k.get hd m K)(hx:SO (am A k.H.length ρ S fl w) k.get hd x xv)(hv:(v,vv)∈ay)(e:gX P nv t m x v k=some k'):
  ∃w' S',(Instr.mapUpdate t K xv vv).run P w=.ok () w'/\KR A ρ S' hd fl k' ay w':=by
 simp only[gX,xB]at e
 obtain⟨⟨kt,el⟩,h1,e⟩:=e;have hu:=uh h1;simp only at e
 split at e
 .rename_i o D
  split at e
  .rename_i W
   simp only[xB]at e
   obtain⟨⟨t0,k1⟩,F,e⟩:=e;simp only at e
   split at e
   .rename_i y es f
    simp only[xM]at e
    obtain⟨es',B,rfl⟩:=e;obtain⟨S1,M,q,G,g,g4⟩:=nF h hv F;have n:=C7 F (h.ay _ hv);simp only[TC]at g
    obtain⟨rfl,g⟩:=g;have u:VV (am A k1.H.length ρ S1 ([]++fl) w) y vv:=⟨g,n⟩;have c:VV (am A k1.H.length ρ S1 ([]++fl) w) D xv:=VV.ext G hx;have d:=VV.inv hm (by simp)
    simp only[VC,xC,and_true]at d
    have s:K=.map (some (ρ o)):=d.2
    grind [Cb]
   .rename_i l es f
    simp only[xM]at e
    obtain⟨es',B,rfl⟩:=e;obtain⟨S1,M,q,G,g,g4⟩:=nF h hv F;have z:vv.oneCell'=true:=O7 F (h.ay _ hv);have c:VV (am A k1.H.length ρ S1 (M++fl) w) D xv:=VV.ext G hx;have d:=VV.inv hm (by simp)
    simp only[VC,xC,and_true]at d
    have s:K=.map (some (ρ o)):=d.2;subst s;obtain⟨N,T,C,V,Y,X,m4⟩:=q.map o _ f rfl;have O:N.Nodup:=by have:=q.bz.nd (.o o);rw[T]at this;exact(List.nodup_cons.1 this).2
    have p:w.heap[ρ o]? =some (.map C V):=Y.1;have R:M.Nodup:=by have:=q.bz.ndF;rw[xT]at this;exact this.1
    have ab:∀b∈N,b∉M:=λb p hc=>q.bz.cq (.o o) b (by rw[T];simp[p]) (xL _ hc)
    have E:(N++M).Nodup:=by rw[xT];exact⟨O,R,λa ha b p e=>ab a ha (e▸p)⟩
    obtain⟨r,hf⟩:=Ca es es' B;obtain⟨ai,f1,f2⟩:=y5 (w:=w) c W X hf;have Q:(Instr.checkKey false 10000 kt xv).run P w=.ok () w:=oU c W
    obtain⟨rfl,rfl,f3⟩ |⟨j,t1,k0,e0,rfl,q2,q3,rfl,q5,q6⟩:=f2
    .have:es'=es++[(D,.own l)]:=by
      have:=f3 (.own l);rw[this]at B;simpa using B.symm
     subst this
     obtain⟨S',Z⟩:=q.setMapM (N':=N++M) (es':=es++[(D,.own l)]) (en':=C.push {key:=xv,val:=vv,born:=V}) (cl':=V+1) f T (λ_ h=>h) E p (Y.2.push _ _) (by
      simp only[vX]
      exact X.append ⟨_,[],rfl,c,rfl⟩) (by
      simp only[vX,pE,eJ,ir]
      have:=RetAll.snoc (t:=.own l) (v:=vv) (Mt:=M) g z _ _ _ m4
      exact this)
     refine⟨_,S',?_,by simpa using Z⟩
     simp[Instr.mapUpdate,run_underlying hu,iQ p,Q,f1,j7 p]
    .have:es'=es.set j (D,.own l):=by
      have:=q6 (.own l);rw[this]at B;simpa using B.symm
     subst this;obtain⟨ah,U,r2⟩:=X.get q2;rw[q3]at U
     simp only[xJ]at U
     subst U;have ad:=C6 (w:=w) c r2 q5;have hj:C[j]? =some e0:=by simpa using q3
     have ak:j<C.size:=(Array.getElem?_eq_some_iff.1 hj).1
     have I:(C.modify j λe=>{e with key:=xv,val:=vv}).toList=C.toList.set j {e0 with key:=xv,val:=vv}:=by
      apply As;intro i;rw[yM,Array.getElem?_modify,List.getElem?_set]
      by_cases aa:j=i
      .grind
      .simp[aa]
     obtain⟨N1,Ni,N2,hN,ag⟩:=RetAll.set (t:=.own l) (v:=vv) (Mt:=M) g z _ _ _ j m4 (by grind)
     have L:(N1++M++N2).Nodup:=by
      rw[hN]at E
      simp only[xT,xD]at E |-
      grind
     obtain⟨S',Z⟩:=q.setMapM (N':=N1++M++N2) (es':=es.set j (D,.own l)) (en':=C.modify j λe=>{e with key:=xv,val:=vv}) (cl':=V) f T (λb p=>by
      grind) L p (Y.2.same (by grind [BR,AD])) (by
      rw[I]
      exact X.set j c) (by
      grind [BR])
     refine⟨_,S',?_,by simpa using Z⟩
     simp only[fp]at f1
     simp[Instr.mapUpdate,run_underlying hu,iQ p,Q,f1,hj,ad,j7 p]
   .rename_i y ks f
    simp only[xM]at e
    obtain⟨ac,B,rfl⟩:=e;obtain⟨S1,M,q,G,g,g4⟩:=nF h hv F;have n:=C7 F (h.ay _ hv);simp only[TC]at g
    obtain⟨rfl,g⟩:=g;have u:VV (am A k1.H.length ρ S1 ([]++fl) w) y vv:=⟨g,n⟩;have c:VV (am A k1.H.length ρ S1 ([]++fl) w) D xv:=VV.ext G hx;have d:=VV.inv hm (by simp)
    simp only[VC,xC,and_true]at d
    have s:K=.map (some (ρ o)):=d.2;subst s;obtain⟨es,q1,af⟩:=q.unset f;obtain⟨es',q2,q3⟩:=q1.put W B;have J:=(List.getElem?_eq_some_iff.1 f).1;obtain⟨w',S',U,r2,_⟩:=Cb (k1:={k1 with H:=k1.H.set o (.map es)}) af hu W (by simpa using u) (by simpa using c) (yK J) q2
    have r3:=r2.reset (o:=o) (es:=es') (ks:=ac) (by simp[J]) q3
    grind [List.set_set]
   .cases e
  .cases e
 .cases e
def IV(n:Next)(v:Vz):Prop:=n=.value v\/(n=.skip/\v=undef)
theorem VL{G:Nat->U D}(hG:GA G A)(h:KR A ρ S hd fl k ay w)(ag:k.tr=[]){hint:Hint}(aG:∀g d,hint.gl g=some d->G g=some d){dst:Nat}{ty:TypeId}{o:Qz}{W:Oz->SV}{ev:Oz->Vz}{sv:SV}(aM:∀g,ev (.global g)=.pointer (some ⟨g,0,none⟩))(hv:∀x∈o.op.operands,(W x,ev x)∈ay)(e:opE P hint dst ty o.op W k=some (sv,k')):
  ∃n v w' j S' hd',(execOp ev o).run P w=.ok n w'/\IV n v/\KR A j S' hd' fl k' ay w'/\SO (am A k'.H.length j S' fl w') k'.get hd' sv v:=by
 have J:∀x∈o.op.operands,SO (am A k.H.length ρ S fl w) k.get hd (W x) (ev x):=λx T=>by
  have:=h.ay _ (hv x T)
  rw[ag]at this
  exact this
 -- an operation that changes nothing
 have F:∀(f:Vz->Next) (s:Sem Vz) v,(execOp ev o=do Pure.pure (f (<-s)))->(∀v,f v=.value v)->s.run P w=.ok v w->k'=k->SO (am A k.H.length ρ S fl w) k.get hd sv v->
   ∃n v w' j S' hd',(execOp ev o).run P w=.ok n w'/\IV n v/\KR A j S' hd' fl k' ay w'/\SO (am A k'.H.length j S' fl w') k'.get hd' sv v:=by
  intro f s v C B h3 h4 h5;subst h4
  exact⟨.value v,v,w,ρ,S,hd,by simp_all,.inl rfl,h,h5⟩
 obtain⟨X,op,O,pos,after,guard⟩:=o;simp only at e hv J F
 cases op with
 |move x=>
  simp only[opE,xJ,pJ]at e
  obtain⟨rfl,rfl⟩:=e
  exact⟨.value (ev x),ev x,w,ρ,S,hd,by simp[execOp],.inl rfl,h,J x (by simp[Op.operands])⟩
 |assign x=>
  obtain⟨S',hd',g1,g2⟩:=O4 h (J x (by simp[Op.operands])) e
  exact⟨.value (ev x),ev x,w,ρ,S',hd',by simp[execOp],.inl rfl,g1,g2⟩
 |pick c a b=>
  simp only[opE]at e
  split at e
  .rename_i t ht
   simp only[xJ,pJ]at e
   obtain⟨rfl,rfl⟩:=e;have hc:=J c (by simp[Op.operands])
   rw[ht]at hc
   have hc:=VV.of_bool hc
   refine⟨.value (if t then ev a else ev b),_,w,ρ,S,hd,by simp[execOp,hc,asBool],.inl rfl,h,?_⟩
   cases t
   .grind [Op.operands]
   grind [Op.operands]
  .cases e
 |alloc el=>
  simp only[opE,xB]at e
  obtain⟨z,hz,e⟩:=e;obtain⟨i,zv,z1,z2,z3,z4⟩:=lz hz;have aC:=B3 (mj (c:=am A k.H.length ρ S ([]++fl) w) z3).1;obtain⟨j,S',hd',g1,g2⟩:=QN (cs:=zv.cells) (ty:=el) (M:=[]) (by simpa using h) aC e
  exact⟨.value _,_,_,j,S',hd',by simp_all [execOp,Instr.alloc,newVar,newRow],.inl rfl,g1,g2⟩
 |box el x=>
  simp only[opE,xB]at e
  obtain⟨⟨t,k1⟩,e1,e⟩:=e;simp only at e
  split at e
  .obtain⟨S1,M,g1,g2,g3,g4⟩:=Gi h (hv x (by simp[Op.operands])) e1
   obtain⟨j,S',hd',q1,q2⟩:=QN (cs:=(ev x).cells) (ty:=el) g1 g3 e
   exact⟨.value _,_,_,j,S',hd',by simp_all [execOp,Instr.box,newVar,newRow],.inl rfl,q1,q2⟩
  .cases e
 |build t E=>
  simp only[opE,xM,pJ]at e
  obtain⟨N,e,rfl,rfl⟩:=e
  have hp:All2 (λ(a:Nat×SV) (b:Nat×Vz)=>a.1=b.1/\SO (am A k.H.length ρ S fl w) k.get hd a.2 b.2) (E.toList.map λp=>(p.1,W p.2)) (E.toList.map λp=>(p.1,ev p.2)):=by
   have L:∀p∈E.toList,SO (am A k.H.length ρ S fl w) k.get hd (W p.2) (ev p.2):=λp hp=>J _ (by
    grind [Op.operands])
   revert L
   generalize E.toList=ps
   induction ps with
   |nil=>intro _;rfl
   |cons p ps ih=>intro L;exact⟨_,_,rfl,⟨rfl,L p (by simp)⟩,ih (λq hq=>L q (by simp[hq]))⟩
  obtain⟨u,C,B⟩:=SF (P:=P) (w:=w) hp e
  have al:(E.map λ(x:Nat×Oz)=>(x.1,ev x.2))=(E.toList.map λp=>(p.1,ev p.2)).toArray:=by
   rw[<-lP];simp
  refine F Next.value (Instr.build t (E.map λ(x:Nat×Oz)=>(x.1,ev x.2))) u (by simp only[execOp]) (λ_=>rfl) ?_ rfl B
  grind
 |buildSlice t len E=>
  simp only[opE]at e
  have hp:All2 (λ(a:Nat×SV) (b:Nat×Vz)=>a.1=b.1/\(a.2,b.2)∈ay) (E.toList.map λp=>(p.1,W p.2)) (E.toList.map λp=>(p.1,ev p.2)):=by
   have L:∀p∈E.toList,(W p.2,ev p.2)∈ay:=λp hp=>hv _ (by
    grind [Op.operands])
   revert L
   generalize E.toList=ps
   induction ps with
   |nil=>intro _;rfl
   |cons p ps ih=>intro L;exact⟨_,_,rfl,⟨rfl,L p (by simp)⟩,ih (λq hq=>L q (by simp[hq]))⟩
  obtain⟨v,w',j,S',hd',C,B,h3⟩:=Gq (P:=P) h hp e
  have al:(E.map λ(x:Nat×Oz)=>(x.1,ev x.2))=(E.toList.map λp=>(p.1,ev p.2)).toArray:=by
   rw[<-lP];simp
  rw[<-al]at C
  exact⟨.value v,v,w',j,S',hd',by simp[execOp,C],.inl rfl,B,h3⟩
 |load t a=>
  have aq:(if hint.lits.contains dst=true then(gY P t (W a) k).bind λv=>tW dst v k else(gY P t (W a) k).map (·,k))=some (sv,k')->
    ∃n v w' j S' hd',(execOp ev {dst:=X,op:=.load t a,type:=O,pos:=pos,after:=after,guard:=guard}).run P w=.ok n w'/\IV n v/\KR A j S' hd' fl k' ay w'/\SO (am A k'.H.length j S' fl w') k'.get hd' sv v:=λe0=>by
   split at e0
   .simp only[xB]at e0
    obtain⟨N,e1,e2⟩:=e0;obtain⟨u,C,B⟩:=Az h (J a (by simp[Op.operands])) e1
    obtain⟨S',hd',q1,q2⟩:=VI h B e2
    exact⟨.value u,u,w,ρ,S',hd',by simp[execOp,C],.inl rfl,q1,q2⟩
   .simp only[xM,pJ]at e0
    obtain⟨N,e1,rfl,rfl⟩:=e0;obtain⟨u,C,B⟩:=Az h (J a (by simp[Op.operands])) e1
    exact F _ _ u (by simp only[execOp]) (λ_=>rfl) C rfl B
  cases a with
  |global g=>
   simp only[opE,xB]at e
   obtain⟨d,e1,e⟩:=e
   split at e
   case isFalse=>cases e
   rename_i ho;simp only[xM,pJ]at e
   obtain⟨N,e2,rfl,rfl⟩:=e;obtain⟨u,C,B⟩:=Az h (v:=ev (.global g)) (by rw[aM];exact hG.rp h (aG g d e1) ho) e2
   exact F _ _ u (by simp only[execOp]) (λ_=>rfl) C rfl B
  |_=>exact aq e
 |range t x=>
  obtain⟨Y,w',j,S',hd',C,B,h3⟩:=SG h (J x (by simp[Op.operands])) e
  exact⟨.value Y,Y,w',j,S',hd',by simp[execOp,C],.inl rfl,B,h3⟩
 |next x aS=>
  obtain⟨Y,w',j,S',hd',C,B,h3⟩:=VJ (P:=P) (t:=O) h (J x (by simp[Op.operands])) e
  exact⟨.value Y,Y,w',j,S',hd',by simp[execOp,C],.inl rfl,B,h3⟩
 |makeInterface t x=>
  simp only[opE,xM,pJ]at e
  obtain⟨N,e,rfl,rfl⟩:=e;obtain⟨C,B⟩:=SH (P:=P) (w:=w) (J x (by simp[Op.operands])) e
  exact F _ _ _ (by simp only[execOp]) (λ_=>rfl) C rfl B
 |typeAssert x xt u ok=>
  simp only[opE,xM,pJ]at e
  obtain⟨N,e,rfl,rfl⟩:=e;obtain⟨Y,C,B⟩:=O6 (P:=P) (w:=w) (xt:=xt) (J x (by simp[Op.operands])) e
  exact F _ _ _ (by simp only[execOp]) (λ_=>rfl) C rfl B
 |store t a x=>
  simp only[opE,xM,pJ]at e
  obtain⟨k1,e,rfl,rfl⟩:=e;obtain⟨w',S',C,B,h3⟩:=Ss h (hv a (by simp[Op.operands])) (hv x (by simp[Op.operands])) e
  exact⟨.skip,undef,w',ρ,S',hd,by simp[execOp,C],.inr ⟨rfl,rfl⟩,B,trivial⟩
 |nilCheck x=>
  have T:=J x (by simp[Op.operands])
  simp only[opE]at e
  have Z:ev x≠ .pointer none->ev x≠ .nilIface->ev x≠ .nilFunc->(∀m a c,ev x≠ .func (.method m) a c)->W x=sv->k=k'->∃n v w' j S' hd',(execOp ev {dst:=X,op:=.nilCheck x,type:=O,pos:=pos,after:=after,guard:=guard}).run P w=.ok n w'/\IV n v/\KR A j S' hd' fl k' ay w'/\SO (am A k'.H.length j S' fl w') k'.get hd' sv v:=by
   intro a1 a2 a3 a4 a5 a6;subst a5;subst a6
   have ao:execOp ev {dst:=X,op:=.nilCheck x,type:=O,pos:=pos,after:=after,guard:=guard}=Pure.pure (.value (ev x)):=by
    simp only[execOp]
   exact⟨.value (ev x),ev x,w,ρ,S,hd,by rw[ao];rfl,.inl rfl,h,T⟩
  split at e <;>simp only[xJ,pJ,reduceCtorEq]at e <;>(try obtain⟨rfl,rfl⟩:=e) <;>rename_i ab <;>rw[ab]at T
  .obtain⟨t0,es,g,n,aQ,aT,C,B,h3,h4,h5,I⟩:=T
   exact Z (by simp[I]) (by simp[I]) (by simp[I]) (by simp[I]) ab rfl
  .obtain⟨a,vs,I,_⟩:=T
   exact Z (by simp[I]) (by simp[I]) (by simp[I]) (by simp[I]) ab rfl
  .have I:=VV.inv T (by simp)
   simp only[VC,xC,and_true]at I
   exact Z (by simp[I.2]) (by simp[I.2]) (by simp[I.2]) (by simp[I.2]) ab rfl
  .have I:=VV.inv T (by simp)
   simp only[VC,xC,and_true]at I
   obtain⟨a,vs,I,_⟩:=I;exact Z (by simp[I]) (by simp[I]) (by simp[I]) (by simp[I]) ab rfl
  .have I:=VV.inv T (by simp)
   grind [VC]
 |binOp op t x y q=>
  simp only[opE,xM,pJ]at e
  obtain⟨d,e,rfl,rfl⟩:=e;obtain⟨r,C,B⟩:=v_ (P:=P) (w:=w) (ox:=x) (oy:=y) (J x (by simp[Op.operands])) (J y (by simp[Op.operands])) (by simp) e
  exact F _ _ r (by simp only[execOp]) (λ_=>rfl) C rfl B
 |unOp op t x=>
  simp only[opE,xM,pJ]at e
  obtain⟨d,e,rfl,rfl⟩:=e;obtain⟨r,C,B⟩:=aeh (P:=P) (w:=w) (J x (by simp[Op.operands])) e
  exact F _ _ r (by simp only[execOp]) (λ_=>rfl) C rfl B
 |convert s t x=>
  simp only[opE,xM,pJ]at e
  obtain⟨d,e,rfl,rfl⟩:=e
  by_cases ak:(∃s,W x=.d (.str s))/\∃el,P.underlying t=some (.slice el)
  .obtain⟨⟨s0,aL⟩,el,ax⟩:=ak
   have L:=J x (by simp[Op.operands])
   rw[aL]at L e
   obtain⟨u,w',C,B,h3⟩:=VK h L ax e
   exact⟨.value u,u,w',ρ,S,hd,by simp[execOp,C],.inl rfl,B,h3⟩
  obtain⟨r,C,B⟩:=Vx (P:=P) (w:=w) rfl ak (J x (by simp[Op.operands])) e
  exact F _ _ r (by simp only[execOp]) (λ_=>rfl) C rfl B
 |makeFunc f a c=>
  simp only[opE,xB,xM,pJ]at e
  obtain⟨da,e1,dc,e2,rfl,rfl⟩:=e
  have aO:∀l:Array Oz,(∀x∈l,x∈a++c)->All2 (SO (am A k.H.length ρ S fl w) k.get hd) (l.toList.map W) (l.map ev).toList:=λl hl=>by
   have L:∀x∈l.toList,SO (am A k.H.length ρ S fl w) k.get hd (W x) (ev x):=λx T=>J x (by grind [Op.operands])
   rw[Array.toList_map]
   revert L
   generalize l.toList=ps
   induction ps with
   |nil=>intro _;rfl
   |cons p ps ih=>intro L;exact⟨_,_,rfl,L p (by simp),ih (λq hq=>L q (by simp[hq]))⟩
  refine F Next.value (Instr.makeFunc f (a.map ev) (c.map ev)) (.func f (a.map ev) (c.map ev)) (by simp only[execOp]) (λ_=>rfl) (by simp[Instr.makeFunc]) rfl (VV.one ?_ (by simp))
  grind [VC,SV.pures_VVs]
 |makeMap t r=>
  have Z:k'={k with H:=k.H++[.map []]}->sv=.d (.map k.H.length)->(Instr.makeMap t (r.map ev)).run P w=.ok (.map (some w.heap.size)) (w.alloc (.map #[] 0))->
    ∃n v w' j S' hd',(execOp ev {dst:=X,op:=.makeMap t r,type:=O,pos:=pos,after:=after,guard:=guard}).run P w=.ok n w'/\IV n v/\KR A j S' hd' fl k' ay w'/\SO (am A k'.H.length j S' fl w') k'.get hd' sv v:=by
   intro a1 a2 a3;subst a1;subst a2;obtain⟨_,j,S',hd',g1,g2⟩:=y4 (P:=P) h (t:=t)
   exact⟨.value _,_,_,j,S',hd',by simp[execOp,a3];rfl,.inl rfl,g1,by simpa using g2⟩
  cases r with
  |none=>
   simp only[opE,xJ,pJ]at e
   obtain⟨e1,e2⟩:=e
   by_cases hl:hint.lits.contains dst=true
   .rw[if_pos hl]at e2
    subst e1 e2;obtain⟨a3,j,S',hd',g1,g2⟩:=y4 (P:=P) h (t:=t);have g3:=g1.reset (o:=k.H.length) (es:=[]) (ks:=[]) (by simp) ⟨by simp,by simp⟩
    simp only[List.set_append_right _ _ (dB k.H.length),re,List.set_cons_zero]at g3
    have g4:VV (am A (k.H.length+1) j S' fl (w.alloc (.map #[] 0))) (.map k.H.length) (.map (some w.heap.size)):=g2
    refine⟨.value _,_,_,j,S',hd',by simp[execOp,a3];rfl,.inl rfl,g3,?_⟩
    show VV (am A (k.H++[Ob.sset []]).length j S' fl _) _ _
    grind
   grind [y4]
  |some n=>
   simp only[opE]at e
   split at e
   .rename_i kv q z av hn
    simp only[xJ,pJ]at e
    obtain⟨rfl,rfl⟩:=e;have af:=J n (by simp[Op.operands])
    rw[hn]at af
    have af:=VV.of_int af;obtain⟨kt,et⟩:=kv;exact Z rfl rfl (by simp[Instr.makeMap,run_underlying (uh av),af,asInt,asIntOf])
   .cases e
 |makeSlice t l c=>
  simp only[opE]at e
  obtain⟨v,w',j,S',hd',C,B,h3⟩:=Vu h (J l (by simp[Op.operands])) (J c (by simp[Op.operands])) e
  exact⟨.value v,v,w',j,S',hd',by simp[execOp,C],.inl rfl,B,h3⟩
 |slice t x lo hi mx=>
  simp only[opE,xM,pJ]at e
  obtain⟨N,e,rfl,rfl⟩:=e
  have ai:∀z:U Oz,(∀y,z=some y->y∈(Op.slice t x lo hi mx).operands)->In (SO (am A k.H.length ρ S fl w) k.get hd) (z.map W) (z.map ev):=λz hz=>by
   cases z with
   |none=>trivial
   |some y=>exact J y (hz y rfl)
  obtain⟨u,C,B⟩:=SD h (J x (by simp[Op.operands])) (ai lo (λy hy=>by simp[Op.operands,hy])) (ai hi (λy hy=>by simp[Op.operands,hy])) (ai mx (λy hy=>by simp[Op.operands,hy])) e
  exact F _ _ u (by simp only[execOp]) (λ_=>rfl) C rfl B
 |fieldAddr t x f=>
  simp only[opE,xM,pJ]at e
  obtain⟨N,e,rfl,rfl⟩:=e;obtain⟨u,C,B⟩:=Il h (J x (by simp[Op.operands])) e
  exact F _ _ u (by simp only[execOp]) (λ_=>rfl) C rfl B
 |field t x f=>
  simp only[opE,xM,pJ]at e
  obtain⟨N,e,rfl,rfl⟩:=e;obtain⟨u,C,B⟩:=Sy (P:=P) (w:=w) (J x (by simp[Op.operands])) e
  exact F _ _ u (by simp only[execOp]) (λ_=>rfl) C rfl B
 |indexAddr t x i=>
  simp only[opE,xM,pJ]at e
  obtain⟨N,e,rfl,rfl⟩:=e;obtain⟨u,C,B⟩:=Im h (J x (by simp[Op.operands])) (J i (by simp[Op.operands])) e
  exact F _ _ u (by simp only[execOp]) (λ_=>rfl) C rfl B
 |index t x i=>
  simp only[opE,xM,pJ]at e
  obtain⟨N,e,rfl,rfl⟩:=e;obtain⟨u,C,B⟩:=SA (P:=P) (w:=w) (J x (by simp[Op.operands])) (J i (by simp[Op.operands])) e
  exact F _ _ u (by simp only[execOp]) (λ_=>rfl) C rfl B
 |lookup t m V ok=>
  simp only[opE]at e
  split at e
  .split at e
   .cases e
   .rename_i ah
    obtain⟨u,S',hd',C,B,h3⟩:=VH h (J m (by simp[Op.operands])) (J V (by simp[Op.operands])) e
    have aa:ok=false:=by simpa using ah
    subst aa
    exact⟨.value u,u,w,ρ,S',hd',by simp[execOp,C],.inl rfl,B,h3⟩
  split at e
  .split at e
   .cases e
   .rename_i ah
    obtain⟨u,S',hd',C,B,h3⟩:=MD h (J m (by simp[Op.operands])) (J V (by simp[Op.operands])) e
    have aa:ok=false:=by simpa using ah
    subst aa
    exact⟨.value u,u,w,ρ,S',hd',by simp[execOp,C],.inl rfl,B,h3⟩
  simp only[xM,pJ]at e
  obtain⟨N,e,rfl,rfl⟩:=e;obtain⟨u,C,B⟩:=O5 h (J m (by simp[Op.operands])) (J V (by simp[Op.operands])) e
  exact F _ _ u (by simp only[execOp]) (λ_=>rfl) C rfl B
 |mapUpdate t m V x=>
  simp only[opE,xM,pJ]at e
  obtain⟨k1,e,rfl,rfl⟩:=e;obtain⟨w',S',C,B⟩:=Gz h (J m (by simp[Op.operands])) (J V (by simp[Op.operands])) (hv x (by simp[Op.operands])) e
  exact⟨.skip,undef,w',ρ,S',hd,by simp[execOp,C],.inr ⟨rfl,rfl⟩,B,trivial⟩
 |insert t m V x=>
  simp only[opE,xM,pJ]at e
  obtain⟨k1,e,rfl,rfl⟩:=e;obtain⟨w',S',C,B⟩:=Gz h (J m (by simp[Op.operands])) (J V (by simp[Op.operands])) (hv x (by simp[Op.operands])) e
  exact⟨.skip,undef,w',ρ,S',hd,by simp[execOp,C],.inr ⟨rfl,rfl⟩,B,trivial⟩
 |extract x n=>
  simp only[opE]at e
  split at e
  .rename_i l hl
   simp only[xM,pJ]at e
   obtain⟨N,e,rfl,rfl⟩:=e;have T:=J x (by simp[Op.operands])
   rw[hl]at T
   obtain⟨vs,aN,T⟩:=T;obtain⟨u,C,B⟩:=T.get e;refine F Next.value (Instr.extract (ev x) n) u (by simp only[execOp]) (λ_=>rfl) ?_ rfl (SO.of_S1 (λl hl=> ?_) B)
   .simp_all [Instr.extract]
   .subst hl;exact B.elim
  .cases e
 |call c=>
  obtain⟨ad,R,K⟩:=c
  cases ad with
  |builtin b=>
   cases b with
   |len=>
    simp only[opE]at e
    split at e
    .rename_i x t ha ht
     simp only[xM,pJ]at e
     obtain⟨n,e,rfl,rfl⟩:=e;have Q:R= #[x]:=by rw[<-lP];exact ha
     have ac:K= #[t]:=by rw[<-lP];exact ht
     subst Q;subst ac;have hr:=v! h (ty:=O) (J x (by simp[Op.operands,Call.operands])) e
     exact⟨.value _,_,w,ρ,S,hd,by simp[execOp,resolve,invoke,builtin,hr],.inl rfl,h,VV.dj _ _⟩
    .cases e
   |min=>
    simp only[opE]at e
    split at e
    .rename_i x y ha
     simp only[xM,pJ]at e
     obtain⟨n,e,rfl,rfl⟩:=e;have Q:R= #[x,y]:=by rw[<-lP];exact ha
     subst Q;obtain⟨r,C,B⟩:=s_ (P:=P) (w:=w) (cu:=K) (ty:=O) (J x (by simp[Op.operands,Call.operands])) (J y (by simp[Op.operands,Call.operands])) e
     exact⟨.value r,r,w,ρ,S,hd,by simp[execOp,resolve,invoke,builtin,C],.inl rfl,h,B⟩
    .cases e
   |max=>
    simp only[opE]at e
    split at e
    .rename_i x y ha
     simp only[xM,pJ]at e
     obtain⟨n,e,rfl,rfl⟩:=e;have Q:R= #[x,y]:=by rw[<-lP];exact ha
     subst Q;obtain⟨r,C,B⟩:=s? (P:=P) (w:=w) (cu:=K) (ty:=O) (J x (by simp[Op.operands,Call.operands])) (J y (by simp[Op.operands,Call.operands])) e
     exact⟨.value r,r,w,ρ,S,hd,by simp[execOp,resolve,invoke,builtin,C],.inl rfl,h,B⟩
    .cases e
   |copy=>
    simp only[opE]at e
    split at e
    .rename_i x y t u ha ht
     have Q:R= #[x,y]:=by rw[<-lP];exact ha
     have ac:K= #[t,u]:=by rw[<-lP];exact ht
     subst Q;subst ac;obtain⟨v,w',S',C,B,h3,h4,h5⟩:=VB (u:=u) (ty:=O) h ag (hv x (by simp[Op.operands,Call.operands])) (hv y (by simp[Op.operands,Call.operands])) e
     exact⟨.value v,v,w',ρ,S',hd,by simp[execOp,resolve,invoke,builtin,C],.inl rfl,B,h5 _ _⟩
    .cases e
   |append=>
    simp only[opE]at e
    split at e
    .rename_i x y t u ha ht
     split at e
     .rename_i aJ
      subst aJ;have Q:R= #[x,y]:=by rw[<-lP];exact ha
      have ac:K= #[t,t]:=by rw[<-lP];exact ht
      subst Q;subst ac;obtain⟨v,w',j,S',hd',C,B,h3⟩:=O2 h ag (ty:=O) (hv x (by simp[Op.operands,Call.operands])) (hv y (by simp[Op.operands,Call.operands])) e
      exact⟨.value v,v,w',j,S',hd',by simp[execOp,resolve,invoke,builtin,C],.inl rfl,B,h3⟩
     .cases e
    .cases e
   |_=>simp[opE]at e
  |_=>simp[opE]at e
 |_=>simp[opE]at e
end
def cxS(sn:Bool)(lk:J Nat)(A:Av)(nO:Nat)(ρ:Nat->Nat)(S:aj->J Nat)(fl:J Nat)(w:Wz):Cx:=
 {w,pm:=λt b=>(¬bS S fl b/\¬A.F t b/\b<w.heap.size)\/(sn=true/\t=true/\¬A.F true b/\b<w.heap.size/\∀n,b∈S (.o n)->n∈lk),nO,ρ}
section
variable{P:Pz}{A:Av}{ρ:Nat->Nat}{S S':aj->J Nat}{hd:aj->Vz}{fl:J Nat}{k k':Wk}{ay:J (SV×Vz)}{w:Wz}{nv:Nat}
theorem rz(sn:Bool)(lk:J Nat)(nO:Nat):Ext (am A nO ρ S fl w) (cxS sn lk A nO ρ S fl w):=⟨λ_ _ hp=>⟨.inl hp,rfl⟩,dB _,λ_ _=>rfl⟩
theorem JV(sn:Bool)(lk:J Nat)(nO:Nat):∀b,(cxS sn lk A nO ρ S fl w).pm false b->(cxS sn lk A nO ρ S fl w).pm true b:=λb h=>by
 obtain h |h:=h
 .exact .inl (IG A nO ρ S fl w b h)
 grind
theorem GB{b b':bq}{nO:Nat}(h1:b.sn=true->b'.sn=true)(h2:∀n∈b.lk,n∈b'.lk)(h3:∀r b,b∈S' r->b∈S r):Ext (cxS b.sn b.lk A nO ρ S fl w) (cxS b'.sn b'.lk A nO ρ S' fl w):=
 ⟨λt g h=>⟨by
  obtain⟨a,c,q3⟩ |⟨a,c,q3,q4,q5⟩:=h
  .exact .inl ⟨λf=>a (by rcases f with⟨r,d⟩ |d;exact .inl ⟨r,h3 r g d⟩;exact .inr d),c,q3⟩
  .exact .inr ⟨h1 a,c,q3,q4,λn e=>h2 n (q5 n (h3 _ _ e))⟩,rfl⟩,dB _,λ_ _=>rfl⟩
structure bZ(A:Av)(ρ:Nat->Nat)(S:aj->List Nat)(hd:aj->Value)(fl:List Nat)(k:Wk)(ay:List (SV×Value))(w:World)(b:bq)(S':aj->List Nat)(k':Wk)(b':bq):Prop where
 kr:KR A ρ S' hd fl k' ay w
 sub:∀r b,b∈S' r->b∈S r
 H:k'.H=k.H
 sn:b.sn=true->b'.sn=true
 lk:∀n∈b.lk,n∈b'.lk
theorem bZ.refl{b:bq}(h:KR A ρ S hd fl k ay w):bZ A ρ S hd fl k ay w b S k b:=⟨h,λ_ _ h=>h,rfl,id,λ_ h=>h⟩
theorem MF(h:KR A ρ S hd fl k ay w){v:SV}{val:Vz}{x:D}{b b':bq}(hv:CO (am A k.H.length ρ S fl w) k.get hd v val)(e:fE nv v k b=some (x,k',b')):
  ∃S',bZ A ρ S hd fl k ay w b S' k' b'/\VC (cxS b'.sn b'.lk A k'.H.length ρ S' fl w) x [val]:=by
 cases v with
 |d y=>
  simp only[fE,xJ,pJ]at e
  obtain⟨rfl,rfl,rfl⟩:=e
  refine⟨S,.refl h,VC.ext (rz _ _ _) _ _ ?_⟩
  split
  .exact hv
  .exact VC.norm hv
 |clip t l=>
  simp only[fE,xJ,pJ]at e
  obtain⟨rfl,rfl,rfl⟩:=e
  exact⟨S,.refl h,VC.ext (rz _ _ _) _ _ hv.1⟩
 |ns b=>
  simp only[fE,xJ,pJ]at e
  obtain⟨rfl,rfl,rfl⟩:=e
  exact⟨S,.refl h,VC.ext (rz _ _ _) _ _ (QM hv)⟩
 |aG r p B C=>
  obtain⟨t0,q,K,u,F,b3,b4,b5⟩:=hv;obtain⟨M,L,Sn,R,P,s⟩:=TC.focus p t0 (hd r) (S r) (.own q) (h.cont r t0 u) F;have hh:M=K:=aI.uniq p t0 (hd r) M K s.node b3;subst hh;simp only[fE,u,F,xS]at e
  -- f
  have f:∀(l:J D) (b':bq),T.aY true q=some l->b'.sn=true->(∀n∈b.lk,n∈b'.lk)->(∀n,r=.o n->n∈b'.lk)->(D.sl true (bw l B C),k,b')=(x,k',b')-> 
    ∃S',bZ A ρ S hd fl k ay w b S' k' b'/\VC (cxS b'.sn b'.lk A k'.H.length ρ S' fl w) x [val]:=by
   intro l b' i O V h3 h4;simp only[pJ,and_true]at h4
   obtain⟨rfl,rfl⟩:=h4
   refine⟨S,⟨h,λ_ _ h=>h,rfl,λ_=>O,V⟩,Ef (c:=am A k.H.length ρ S fl w) (Sn:=Sn) (rz _ _ _) i (λg H=> ?_) s.tc b4 b5⟩
   have o:g∈S r:=by rw[P];simp[H]
   have G:=h.bT g (.inl ⟨r,o⟩)
   refine⟨.inr ⟨O,rfl,G.2.1 _,G.1,λn X=>h3 n (h.bz.one _ _ g o X)⟩,rfl⟩
  split at e
  .rename_i m
   rw[List.isEmpty_iff]at m
   obtain⟨_,rfl⟩:=m;simp only[xJ,pJ]at e
   obtain⟨rfl,rfl,rfl⟩:=e
   refine⟨S,.refl h,?_⟩
   obtain⟨a,n,U,a',I,_,rfl,_,_,_⟩:=b5
   grind [VC]
  split at e
  .rename_i n j
   split at e
   .rename_i Z
    obtain⟨_,rfl,rfl⟩:=Z;simp only[xB,xM,pJ]at e
    obtain⟨l,i,E,z,rfl,rfl,rfl⟩:=e;obtain⟨Q,W,g3⟩:=h.freeze u P s F i (.inl rfl) rfl z;have N:E.H=k.H:=by simp only[Wk.set,xJ]at z;rw[<-z]
    refine⟨_,⟨Q,λY g H=> ?_,N,id,λ_ h=>h⟩,?_⟩
    .by_cases hr:Y=.l n j
     .grind [eg]
     grind [dE]
    .have:=Ef W i g3 s.tc b4 b5
     have hw:bw l 0 q.length=l:=by
      have:=T.frzs_len false q l i
      simp[bw,<-this]
     rw[hw]at this
     have e2:(E.tell (.cP (.l n j) [] l)).H.length=k.H.length:=by show E.H.length=_;rw[N]
     grind [VC.ext,rz]
   .simp only[xM,pJ]at e
    obtain⟨l,i,rfl,rfl,rfl⟩:=e;exact f l _ i rfl (λ_ h=>h) (by simp) rfl
  .simp only[xM,pJ]at e
   obtain⟨l,i,rfl,rfl,rfl⟩:=e;exact f l _ i rfl (λ_ h=>h) (by simp) rfl
  grind [xM]
 |agg l=>exact False.elim hv
 |aS l=>exact False.elim hv
 |_=>simp[fE]at e
theorem bZ.trans{S1 a:aj->J Nat}{k1 e:Wk}{b d c:bq}(x:bZ A ρ S hd fl k ay w b S1 k1 d)(y:bZ A ρ S1 hd fl k1 ay w d a e c):bZ A ρ S hd fl k ay w b a e c:=
 ⟨y.kr,λr b h=>x.sub r b (y.sub r b h),y.H.trans x.H,λh=>y.sn (x.sn h),λn h=>y.lk n (x.lk n h)⟩
theorem bZ.ext{b b':bq}{k0:Wk}{a:aj->J Nat}(x:bZ A ρ a hd fl k0 ay w b S' k' b'):Ext (cxS b.sn b.lk A k0.H.length ρ a fl w) (cxS b'.sn b'.lk A k'.H.length ρ S' fl w):=by
 rw[x.H];exact GB x.sn x.lk x.sub
theorem MG:∀(l:J SV) (vs:J Vz) (xs:J D) (k k':Wk) (S:aj->J Nat) (b b':bq),KR A ρ S hd fl k ay w->
  (∀k0 c,KR A ρ c hd fl k0 ay w->All2 (λu v=>CO (am A k0.H.length ρ c fl w) k0.get hd (aU k0.tr u) v) l vs)->lr nv l k b=some (xs,k',b')->
  ∃S',bZ A ρ S hd fl k ay w b S' k' b'/\aR (cxS b'.sn b'.lk A k'.H.length ρ S' fl w) xs vs
 | [],vs,xs,k,k',S,b,b',h,a,e=>by
  simp only[lr,xJ,pJ]at e
  obtain⟨rfl,rfl,rfl⟩:=e;rw[show vs=[]from a k S h]
  exact⟨S,.refl h,rfl⟩
 |u::l,vs,xs,k,k',S,b,b',h,a,e=>by
  simp only[lr,xB,xM]at e
  obtain⟨⟨x,s,o⟩,p,⟨d,y,z⟩,B,f⟩:=e;simp only[pJ]at f
  obtain⟨rfl,rfl,rfl⟩:=f;obtain⟨v,r,rfl,q,_⟩:=a k S h;obtain⟨S1,g,n⟩:=MF h q p
  obtain⟨t,i,j⟩:=MG l r d s y S1 o z g.kr (λk0 c m=>by
   obtain⟨b,C,E,_,q3⟩:=a k0 c m
   grind) B
  refine⟨t,g.trans i,?_⟩
  simp only[aR]
  exact⟨v,r,rfl,VC.ext i.ext _ _ n,j⟩
theorem w?(h:KR A ρ S hd fl k ay w){v:SV}{val:Vz}{x:D}{b b':bq}(C:(v,val)∈ay)(e:wK nv v k b=some (x,k',b')):
  ∃S',bZ A ρ S hd fl k ay w b S' k' b'/\VV (cxS b'.sn b'.lk A k'.H.length ρ S' fl w) x val:=by
 have j:=h.ay (v,val) C
 by_cases p:∃l,v=.agg l
 .obtain⟨l,rfl⟩:=p
  simp only[wK,xM]at e
  obtain⟨⟨H,G,I⟩,J,B⟩:=e;simp only[pJ]at B
  obtain⟨rfl,rfl,rfl⟩:=B
  have q:∀f n,KR A ρ n hd fl f ay w->∃d,val=.agg d/\All2 (λu v=>CO (am A f.H.length ρ n fl w) f.get hd (aU f.tr u) v) l d.toList:=λf n t=>by
   have:=t.ay _ C
   simp only[Eg]at this
   obtain⟨d,F,K⟩:=this
   exact⟨d,F,K.of_map⟩
  obtain⟨d,rfl,_⟩:=q k S h
  obtain⟨S',E,z⟩:=MG (nv:=nv) l d.toList H k G S b I h (λf n t=>by
   grind) J
  grind [VV.agg]
 .have a:fE nv (aU k.tr v) k b=some (x,k',b'):=by
   revert e
   cases v <;>intro e <;>first |exact e |grind
  simp only at j
  by_cases m:∃y,aU k.tr v=.d y
  .obtain⟨y,o⟩:=m
   rw[o]at a j
   simp only[fE,xJ,pJ]at a
   obtain⟨rfl,rfl,rfl⟩:=a
   refine⟨S,.refl h,VV.ext (rz _ _ _) ?_⟩
   split
   .exact j
   .exact VV.norm j
  .have c:∀y,aU k.tr v≠ .d y:=λy o=>m ⟨y,o⟩
   by_cases r:∃l,aU k.tr v=.aS l
   .grind [fE]
   .by_cases i:∃l,aU k.tr v=.agg l
    .grind [fE]
    .have s:=S1.to_SB (λl g=>i ⟨l,g⟩) (SO.to_S1 (λl g=>r ⟨l,g⟩) j)
     obtain⟨S',E,z⟩:=MF h (CO.of_SB s (λl=>c _)) a
     refine⟨S',E,VV.one z (λl g=> ?_)⟩
     subst g
     revert a
     generalize aU k.tr v=u at c |-
     intro a;unfold fE at a
     split at a
     .exact c _ rfl
     .simp at a
     .simp at a
     .grind [xB,xM]
     .cases a
theorem GC:∀(l:J SV) (vs:J Vz) (xs:J D) (k k':Wk) (S:aj->J Nat) (b b':bq),KR A ρ S hd fl k ay w->
  All2 (λu v=>(u,v)∈ay) l vs->gS nv l k b=some (xs,k',b')->
  ∃S',bZ A ρ S hd fl k ay w b S' k' b'/\bf (cxS b'.sn b'.lk A k'.H.length ρ S' fl w) xs vs
 | [],vs,xs,k,k',S,b,b',h,a,e=>by
  simp only[gS,xJ,pJ]at e
  obtain⟨rfl,rfl,rfl⟩:=e;rw[show vs=[]from a]
  exact⟨S,.refl h,rfl⟩
 |u::l,vs,xs,k,k',S,b,b',h,a,e=>by
  simp only[gS,xB,xM]at e
  obtain⟨⟨x,q,m⟩,n,⟨c,t,y⟩,z,d⟩:=e;simp only[pJ]at d
  obtain⟨rfl,rfl,rfl⟩:=d;obtain⟨v,r,rfl,o,p⟩:=a;obtain⟨S1,f,j⟩:=w? h o n;obtain⟨s,g,i⟩:=GC l r c q t S1 m y f.kr p z
  refine⟨s,f.trans g,?_⟩
  simp only[bf]
  have:=VV.ext g.ext j
  exact⟨v,r,rfl,this.1,this.2,i⟩
end
def SJ:J Vz->Vz
 | [x]=>x
 |vs=>.tuple vs.toArray
theorem MH{t:T}{v:Vz}(h:qr t v):qr (T.fresh t) v:=by
 cases t with
 |d x=>
  simp only[T.fresh,T.cj];split
  .rename_i l
   split
   .exact h
   .exact h
  .unfold T.ofD1
   split
   .exact h
   .exact h
 |agg l=>exact h
 |_=>exact h
theorem RetAll.fresh{c:Cx}:∀(a:J T) (vs:J Vz) (M:J Nat),RetAll c a vs M->RetAll c (a.map T.fresh) vs M
 | [],_,_,b=>b
 |t::a,vs,M,b=>by
  obtain⟨v,r,f,d,e,rfl,h3,h4,h5⟩:=b
  exact⟨v,r,f,d,e,rfl,Mo h3,MH h4,RetAll.fresh a r d h5⟩
def Below(dst j:Nat)(u:SV):Prop:=∀i,j<=i->(Tr.kill (.l dst i) []).sv u=u
theorem Below.mono{dst j a:Nat}{u:SV}(h:Below dst j u)(b:j<=a):Below dst a u:=λi c=>h i (ff b c)
theorem Below.d{dst j:Nat}(x:D):Below dst j (.d x):=λ_ _=>rfl
theorem Below.aG{dst j i:Nat}(h:i<j)(p:dP)(off len:Nat):Below dst j (.aG (.l dst i) p off len):=λa b=>by
 grind [Tr.sv]
section
variable{P:Pz}{A:Av}{ρ:Nat->Nat}{S S':aj->J Nat}{hd:aj->Vz}{fl:J Nat}{k k':Wk}{ay:J (SV×Vz)}{w:Wz}
structure Laid(A:Av)(ρ:Nat->Nat)(S:aj->List Nat)(hd:aj->Value)(fl:List Nat)(k:Wk)(ay:List (SV×Value))(w:World)(dst j:Nat)(S':aj->List Nat)(hd':aj->Value)(fl':List Nat)(k':Wk)(j':Nat):Prop where
 kr:KR A ρ S' hd' fl' k' ay w
 ext:Ext (am A k.H.length ρ S fl w) (am A k'.H.length ρ S' fl' w)
 le:j<=j'
 H:k'.H=k.H
 stay:∀u v,Below dst j u->SO (am A k.H.length ρ S fl w) k.get hd u v->SO (am A k'.H.length ρ S' fl' w) k'.get hd' u v
theorem Laid.refl{dst j:Nat}(h:KR A ρ S hd fl k ay w):Laid A ρ S hd fl k ay w dst j S hd fl k j:=⟨h,Ext.refl' _,dB _,rfl,λ_ _ _ h=>h⟩
theorem Laid.trans{dst j m i:Nat}{S1 f:aj->J Nat}{c b:aj->Vz}{d a:J Nat}{k1 l:Wk}(x:Laid A ρ S hd fl k ay w dst j S1 c d k1 m)(y:Laid A ρ S1 c d k1 ay w dst m f b a l i):Laid A ρ S hd fl k ay w dst j f b a l i:=
 ⟨y.kr,⟨λt g n=>⟨(y.ext.pm t g (x.ext.pm t g n).1).1,rfl⟩,ff x.ext.nO y.ext.nO,λ_ _=>rfl⟩,ff x.le y.le,y.H.trans x.H,λu v e h=>y.stay u v (e.mono x.le) (x.stay u v e h)⟩
theorem Laid.stayC{dst j j':Nat}{hd':aj->Vz}{fl':J Nat}(x:Laid A ρ S hd fl k ay w dst j S' hd' fl' k' j'){u:SV}{v:Vz}(hb:Below dst j u)(h:CO (am A k.H.length ρ S fl w) k.get hd u v):CO (am A k'.H.length ρ S' fl' w) k'.get hd' u v:=by
 cases u with
 |d y=>exact VC.ext x.ext _ _ h
 |agg l=>exact False.elim h
 |aS l=>exact False.elim h
 |dead=>trivial
 |aG r p a c=>exact x.stay (.aG r p a c) v hb h
 |loc r p i a=>exact x.stay (.loc r p i a) v hb h
 |rp b e=>exact x.stay (.rp b e) v hb h
 |clip b l=>exact x.stay (.clip b l) v hb h
 |ns b=>exact h
theorem GD{g:J Nat}(h:KR A ρ S hd (g++fl) k ay w){dst j m:Nat}{t:T}{v:Vz}{sv:SV}(ht:TC (am A k.H.length ρ S (g++fl) w) t [v] g)(e:gh dst j t k=some (sv,m,k')):
  ∃S' hd',Laid A ρ S hd (g++fl) k ay w dst j S' hd' fl k' m/\CO (am A k'.H.length ρ S' fl w) k'.get hd' sv v/\Below dst m sv:=by
 cases t with
 |d x=>
  simp only[gh,xJ,pJ]at e
  obtain⟨rfl,rfl,rfl⟩:=e;simp only[TC]at ht
  obtain⟨rfl,ht⟩:=ht
  exact⟨S,hd,.refl (by simpa using h),ht,.d x⟩
 |own c=>
  simp only[gh,xJ,pJ]at e
  obtain⟨rfl,rfl,rfl⟩:=e;obtain⟨F,i⟩:=h.dt (n:=dst) (j:=j) ht;have D:=TC.ext i _ _ _ (λ_ _=>rfl) ht
  refine⟨_,_,⟨F,i,by omega,rfl,λu N G o=> ?_⟩,?_,.aG (by omega) _ _ _⟩
  .have:=SO.kill (K':=(k.new dst j (.own c)).get) (hd':=upd hd (.l dst j) v) (c':=am A k.H.length ρ (upd S (.l dst j) g) fl w) i (.l dst j) [] (λr q H=> ?_) o
   .rw[G j (dB _)]at this
    exact this
   .by_cases s:r=.l dst j
    .simp_all
    .exact h.hold _ (by show cont (((dst,j),T.own c)::k.ct) k.H r=_;rw[jm,if_neg s];rfl) (dE _ _ s) (λ_ _=>rfl) q
  .refine⟨.own c,c,v,by show cont (((dst,j),T.own c)::k.ct) k.H (.l dst j)=_;grind [jm],rfl,by simp[aI],by omega,?_⟩
   obtain⟨a,f,y,_⟩ |⟨C,b,z,O,E,S',f,y,P,B,K,I,M,L⟩:=D
   .simp only[xC,and_true]at f
    subst y
    exact⟨a,0,0,a,0,f,by simpa using f,dB _,λ_=>⟨rfl,dB _⟩,λp=>by simp at p⟩
   .simp only[xC,and_true]at f
    refine⟨_,c.length,b,_,b,f,f,B,λ_=>⟨rfl,dB _⟩,λp=> ?_⟩
    exact⟨C,c[0],rfl,by simp,by simp⟩
 |agg l=>simp[gh]at e
 |dead=>simp[gh]at e
theorem C8{dst:Nat}:∀(f:J T) (vs:J Vz) (M:J Nat) (S:aj->J Nat) (hd:aj->Vz) (k k':Wk) (j b:Nat) (a:J SV),KR A ρ S hd (M++fl) k ay w->a9 (am A k.H.length ρ S (M++fl) w) f vs M->ga dst j f k=some (a,b,k')->
  ∃S' hd',Laid A ρ S hd (M++fl) k ay w dst j S' hd' fl k' b/\All2 (CO (am A k'.H.length ρ S' fl w) k'.get hd') a vs/\∀u∈a,Below dst b u
 | [],vs,M,S,hd,k,k',j,b,a,h,d,e=>by
  simp only[ga,xJ,pJ]at e
  obtain⟨rfl,rfl,rfl⟩:=e;simp only[a9]at d
  obtain⟨rfl,rfl⟩:=d
  exact⟨S,hd,.refl (by simpa using h),rfl,by simp⟩
 |t::f,vs,M,S,hd,k,k',j,b,a,h,d,e=>by
  simp only[ga,xB,xM]at e
  obtain⟨⟨G,F,z⟩,y,⟨c,C,D⟩,E,n⟩:=e;simp only[pJ]at n
  obtain⟨rfl,rfl,rfl⟩:=n;simp only[a9]at d
  obtain⟨v,r,H,p,rfl,rfl,h3,h4⟩:=d;rw[xK]at h h3 h4
  obtain⟨S1,l,g,x,q⟩:=GD (fl:=p++fl) h h3 y;obtain⟨B,i,m,s,I⟩:=C8 f r p S1 l z D F C c g.kr (a9.ext g.ext _ _ _ (λ_ _=>rfl) h4) E
  rw[xK]
  refine⟨B,i,g.trans m,⟨v,r,rfl,m.stayC q x,s⟩,λu o=> ?_⟩
  obtain rfl |o:=List.mem_cons.1 o
  .exact q.mono m.le
  grind
theorem Below.agg{dst j:Nat}{l:J SV}(h:∀u∈l,Below dst j u):Below dst j (.agg l):=λi c=>by
 have b:∀l:J SV,Tr.bF (Tr.kill (.l dst i) []) l=l.map (Tr.kill (.l dst i) []).sv:=λl=>by
  induction l with
  |nil=>rfl
  |cons a r f=>simp[Tr.bF,f]
 show SV.agg (Tr.bF _ l)=_;rw[b];congr 1;rw[lM (g:=id) (λu e=>h u e i c)]
 simp
theorem w!{a:J Nat}(h:KR A ρ S hd (a++fl) k ay w){dst j c:Nat}{t:T}{v:Vz}{sv:SV}(ht:TC (am A k.H.length ρ S (a++fl) w) t v.cells.toList a)(hf:qr t v)(e:ln dst j t k=some (sv,c,k')):
  ∃S' hd',Laid A ρ S hd (a++fl) k ay w dst j S' hd' fl k' c/\S1 (am A k'.H.length ρ S' fl w) k'.get hd' sv v/\Below dst c sv:=by
 cases t with
 |agg q=>
  simp only[ln,xM]at e
  obtain⟨⟨l,r,o⟩,m,i⟩:=e;simp only[pJ]at i
  obtain⟨rfl,rfl,rfl⟩:=i;obtain⟨p,rfl⟩:=hf;simp only[TC]at ht
  obtain⟨S',hd',f,b,g⟩:=C8 q _ a S hd k o j r l h ht m
  exact⟨S',hd',f,⟨p,rfl,b⟩,.agg g⟩
 |d x=>
  simp only[ln,gh,xJ,pJ]at e
  obtain⟨rfl,rfl,rfl⟩:=e;simp only[TC]at ht
  obtain⟨rfl,ht⟩:=ht
  exact⟨S,hd,.refl (by simpa using h),(⟨ht,hf⟩:VV _ x v),.d x⟩
 |own s=>
  have n:v.cells= #[v]:=ly hf;rw[n]at ht
  obtain⟨S',hd',f,b,g⟩:=GD h ht e
  refine⟨S',hd',f,?_,g⟩
  simp only[ln,gh,xJ,pJ]at e
  obtain⟨rfl,rfl,rfl⟩:=e;exact b
 |dead=>simp[ln,gh]at e
theorem IW{dst:Nat}:∀(d:J T) (vs:J Vz) (M:J Nat) (S:aj->J Nat) (hd:aj->Vz) (k k':Wk) (j:Nat) (c:J SV),KR A ρ S hd (M++fl) k ay w->RetAll (am A k.H.length ρ S (M++fl) w) d vs M->ic dst j d k=some (c,k')->
  ∃S' hd' y,Laid A ρ S hd (M++fl) k ay w dst j S' hd' fl k' y/\All2 (S1 (am A k'.H.length ρ S' fl w) k'.get hd') c vs
 | [],vs,M,S,hd,k,k',j,c,h,m,e=>by
  simp only[ic,xJ,pJ]at e
  obtain⟨rfl,rfl⟩:=e;obtain⟨rfl,rfl⟩:=m
  exact⟨S,hd,j,.refl (by simpa using h),rfl⟩
 |t::d,vs,M,S,hd,k,k',j,c,h,m,e=>by
  simp only[ic,xB,xM]at e
  obtain⟨⟨x,I,B⟩,z,⟨b,F⟩,H,p⟩:=e;simp only[pJ]at p
  obtain⟨rfl,rfl⟩:=p;obtain⟨v,r,K,s,rfl,rfl,h3,n,h4⟩:=m;rw[xK]at h h3 h4
  obtain⟨S1,i,f,o,G⟩:=w! (fl:=s++fl) h h3 n z;obtain⟨C,g,E,q,u⟩:=IW d r s S1 i B F I b f.kr (RetAll.ext f.ext _ _ _ (λ_ _=>rfl) h4) H
  rw[xK]
  refine⟨C,g,E,f.trans q,⟨v,r,rfl,?_,u⟩⟩
  have a:∀l,x≠ .aS l:=λl D=>by subst D;exact o.elim
  exact SO.to_S1 a (q.stay _ _ G (SO.of_S1 a o))
theorem QQ{M:J Nat}(h:KR A ρ S hd (M++fl) k ay w){dst:Nat}{rs:J T}{vs:J Vz}{sv:SV}(hr:RetAll (am A k.H.length ρ S (M++fl) w) rs vs M)(e:pF dst rs k=some (sv,k')):
  ∃S' hd',KR A ρ S' hd' fl k' ay w/\SO (am A k'.H.length ρ S' fl w) k'.get hd' sv (SJ vs)/\k'.H=k.H:=by
 simp only[pF,xM,pJ]at e
 obtain⟨⟨g,i⟩,j,b,rfl⟩:=e;obtain⟨S',hd',o,f,c⟩:=IW rs vs M S hd k i 0 g h hr j
 refine⟨S',hd',f.kr,?_,f.H⟩
 have a:=c.len;simp only at b
 split at b
 .rename_i u
  subst b;obtain⟨v,r,rfl,d,m⟩:=c;rw[show r=[]from m]
  exact SO.of_S1 (λl a=>by subst a;exact d.elim) d
 .rename_i n
  subst b
  have:SJ vs=.tuple vs.toArray:=by
   match vs,a with
   | [],_=>rfl
   | [x],a=>grind [yI]
   |_::_::_,_=>rfl
  rw[this]
  exact⟨_,rfl,by simpa using c⟩
def aH(A:Av)(d:J Ob)(rs:J T)(v:Vz)(w':Wz):Prop:=
 ∃a S' b M c,KR A a S' b M {ct:=[],H:=d} [] w'/\RetAll (am A d.length a S' M w') rs c M/\v=SJ c
def GF(P:Pz)(f:FuncId):Prop:=YB<=f\/∃fn,P.funcs[f]? =some fn/\fn.body.isSome=true/\(fn.name== "runtime.NumGoroutine")=false
def ck(P:Pz)(ρ:Nat->Nat)(f:FuncId)(args:Array Vz)(w:Wz)(R:Ending->Wz->Prop):Prop:=
 if YB<=f then ∃r:Loop,w.heap[ρ (f - YB)]? =some (.loop r)/\args.size=r.params.size/\RoundIn Fence.wide 0 P (ρ (f - YB)) r.fn ((r.params.zip args).foldl (λb (t,a)=>b.setIfInBounds t a) r.tmps) r.assign r.body w R
 else Calls P f args w R
theorem ck.mono{P:Pz}{ρ:Nat->Nat}{f:FuncId}{args:Array Vz}{w:Wz}{R a:Ending->Wz->Prop}(h:ck P ρ f args w R)(hr:∀e w,R e w->a e w):ck P ρ f args w a:=by
 unfold ck at h |-
 split
 .rename_i b
  rw[if_pos b]at h
  obtain⟨r,c,d,h3⟩:=h
  exact⟨r,c,d,h3.mono hr⟩
 grind [Calls.mono]
def Ends(p:Bool)(e:Ending)(v:Vz):Prop:=if p=true then ∃x,v=.tuple #[x,.agg #[]]/\e=.panicked [{v:=x,recovered:=false}]else e=.returned v
abbrev CallT:=(Nat->Nat)->FuncId->Array Vz->Wz->(Ending->Wz->Prop)->Prop
def CallT.mono(C:CallT):Prop:=∀ρ f args w (R a:Ending->Wz->Prop),C ρ f args w R->(∀e w,R e w->a e w)->C ρ f args w a
def Ek(C:CallT)(G:Nat->U D)(call:dF):Prop:=
 ∀f d H b c,call f d H=some (b,c)->∀(A:Av) (S:aj->J Nat) (hd:aj->Vz) (a:Array Vz),A.n0=H.length->GA G A->KR A A.ρ0 S hd [] {ct:=[],H} [] A.w0->bf (am A H.length A.ρ0 S [] A.w0) d a.toList->
   C A.ρ0 f a A.w0 λe g=>∃v,Ends (fj b) e v/\aH A c b v g
def ab5(P:Pz)(G:Nat->U D)(call:dF):Prop:=
 ∀f c a d b,call f c [.row a]=some (d,b)->b.length=0->¬YB<=f->((P.funcs[f]?).map λg=>g.params.size+g.nfree)=some (c.length+1)->
  ∀(A:Av) (S:aj->J Nat) (hd:aj->Vz) (v:Vz) (h:J Vz),A.n0=0->GA G A->KR A A.ρ0 S hd [] {ct:=[((0,0),.own a)],H:=[]} [] A.w0->
   SB (am A 0 A.ρ0 S [] A.w0) ({ct:=[((0,0),.own a)],H:=[]}:Wk).get hd (.aG (.l 0 0) [] 0 a.length) v->bf (am A 0 A.ρ0 S [] A.w0) c h->
   Calls P f (v::h).toArray A.w0 λe i=>∃u,Ends (fj d) e u/\aH A b d u i
def gJ(P:Pz)(G:Nat->U D)(call:dF):Prop:=(∀f ds H r,call f ds H=some r->GF P f)/\Ek (ck P) G call/\ab5 P G call
theorem MJ{dst:Nat}{rs:J T}{k k':Wk}{sv:SV}(e:pF dst rs k=some (sv,k')):sv.bN=fj rs:=by
 have c:∀{j:Nat} {t:T} {k:Wk} {v:SV} {q:Nat} {k':Wk},ln dst j t k=some (v,q,k')->(∀l,v≠ .aS l)/\((∃x,v=.d x)↔∃x,t=.d x)/\(v=.agg []↔t=.agg []):=by
  intro j t k v q k' e
  cases t with
  |d x=>
   grind [ln,gh]
  |own I=>
   grind [ln,gh]
  |agg F=>
   simp only[ln,xM]at e
   obtain⟨⟨g,s,z⟩,b,i⟩:=e;simp only[pJ]at i
   obtain⟨rfl,_,_⟩:=i
   refine⟨by simp,by simp,?_⟩
   cases F with
   |nil=>grind [ga]
   |cons a r=>
    grind [ga,xB,xM]
  |dead=>simp[ln,gh]at e
 have n:∀{j:Nat} {rs:J T} {k:Wk} {g:J SV} {k':Wk},ic dst j rs k=some (g,k')->g.length=rs.length:=by
  intro j rs
  induction rs generalizing j with
  |nil=>grind [ic]
  |cons t r H=>
   grind [ic,xB,xM]
 simp only[pF,xM]at e
 obtain⟨⟨g,z⟩,b,i⟩:=e;simp only[pJ]at i
 obtain⟨rfl,_⟩:=i;have D:=n b
 match rs,g,D with
 | [],[],_=>rfl
 | [t],[v],_=>
  simp only[ic,xB,xM]at b
  obtain⟨⟨m,s,E⟩,b,⟨C,B⟩,_,f⟩:=b;simp only[pJ,xC]at f
  obtain⟨⟨rfl,_⟩,_⟩:=f
  have:=(c b).1
  cases m with
  |aS l=>grind
  |_=>cases t <;>rfl
 | [t,u],[v,x],_=>
  simp only[ic,xB,xM]at b
  obtain⟨⟨m,s,E⟩,b,⟨C,B⟩,⟨⟨p,K,M⟩,A,⟨w,N⟩,_,o⟩,f⟩:=b;simp only[pJ]at o
  obtain⟨rfl,_⟩:=o;simp only[pJ,xC]at f
  obtain⟨⟨rfl,rfl,_⟩,_⟩:=f;obtain⟨_,G,_⟩:=c b;obtain⟨_,_,q3⟩:=c A
  have O:SV.bN (.aS [m,p])=true↔(∃y,m=.d y)/\p=.agg []:=by
   constructor
   .intro h
    unfold SV.bN at h
    split at h
    .grind
    .cases h
   .rintro⟨⟨y,rfl⟩,rfl⟩;rfl
  have L:fj [t,u]=true↔(∃y,t=.d y)/\u=.agg []:=by
   constructor
   .intro h
    unfold fj at h
    split at h
    .grind
    .cases h
   .rintro⟨⟨y,rfl⟩,rfl⟩;rfl
  grind
 |_::_::_::_,_::_::_::_,_=>
  grind [SV.bN,fj]
end
def Cx.no(c:Cx):Cx:={c with pm:=λt b=>t=false/\c.pm t b}
def Cx.lo(c:Cx)(n:Nat):Cx:={c with nO:=n}
mutual
theorem VC.no{c:Cx}:∀(d:D) (cs:List Value),d.cW=true->VC c d cs->VC c.no d cs
 |.int _ _,_,_,e|.bool _,_,_,e|.str _,_,_,e|.aJ,_,_,e|.cQ,_,_,e|.df,_,_,e|.cX,_,_,e|.bW,_,_,e=>by simpa [VC]using e
 |.ptr o,cs,_,e|.map o,cs,_,e|.yld o,cs,_,e=>by simp only[VC]at e |-;exact e
 | .agg l,cs,g,e=>by have:=aR.no l cs g e;grind [VC]
 | .sl b l,cs,g,e=>by
  simp only[VC]at e |-
  simp only[D.cW,xA,q8]at g
  obtain⟨a,len,m,h,i,h3,h4⟩:=e
  refine⟨a,len,m,h,i,h3,λs=> ?_⟩
  obtain⟨n,j,h5,h6,h7,u,h9⟩:=h4 s
  exact⟨n,j,h5,h6,⟨g.1,h7⟩,u,VE.no l n 0 j g.2 h9⟩
 | .fn f a b,cs,g,e=>by
  simp only[VC]at e |-
  simp only[D.cW,xA]at g
  obtain⟨p,q,h,i,h3⟩:=e
  exact⟨p,q,h,bf.no a _ g.1 i,bf.no b _ g.2 h3⟩
 | .iface t x,cs,g,e=>by
  simp only[VC]at e |-
  simp only[D.cW]at g
  obtain⟨v,h,i,h3⟩:=e
  exact⟨v,h,VC.no x _ g i,h3⟩
 | .bQ l,cs,g,e=>by simp[D.cW]at g
theorem aR.no{c:Cx}:∀(l:List D) (cs:List Value),D.aZ l=true->aR c l cs->aR c.no l cs
 | [],_,_,e=>by grind [aR]
 |d::k,cs,g,e=>by
  simp only[aR]at e |-
  simp only[D.aZ,xA]at g
  obtain⟨v,r,h,i,h3⟩:=e
  exact⟨v,r,h,VC.no d _ g.1 i,aR.no k r g.2 h3⟩
theorem bf.no{c:Cx}:∀(l:List D) (cs:List Value),D.aZ l=true->bf c l cs->bf c.no l cs
 | [],_,_,e=>by grind [bf]
 |d::k,cs,g,e=>by
  simp only[bf]at e |-
  simp only[D.aZ,xA]at g
  obtain⟨v,r,h,i,h3,h4⟩:=e
  exact⟨v,r,h,VC.no d _ g.1 i,h3,bf.no k r g.2 h4⟩
theorem VE.no{c:Cx}:∀(l:List D) (a:Addr) (o j:Nat),D.aZ l=true->VE c l a o j->VE c.no l a o j
 | [],_,_,_,_,_=>by simp[VE]
 |d::k,a,o,j,g,e=>by
  simp only[VE]at e |-
  simp only[D.aZ,xA]at g
  obtain⟨⟨cs,h,i,h3⟩,h4⟩:=e
  exact⟨⟨cs,h,i,VC.no d cs g.1 h3⟩,VE.no k a (o+j) j g.2 h4⟩
end
mutual
theorem TC.no{c:Cx}:∀(t:T) (cs:List Value) (S:List Nat),t.cW=true->TC c t cs S->TC c.no t cs S
 | .d x,cs,S,b,a=>by grind [TC,T.cW,VC.no]
 | .dead,cs,S,_,a=>by grind [TC]
 | .agg d,cs,S,b,a=>by have:=a9.no d cs S b a;grind [TC]
 | .own m,cs,S,b,a=>by
  simp only[TC]at a |-
  simp only[T.cW]at b
  obtain a |⟨g,l,j,e,f,S',h,i,h3,h4,h5,h6,h7,n⟩:=a
  .exact .inl a
  .exact .inr ⟨g,l,j,e,f,S',h,i,h3,h4,h5,h6,h7,TE.no m f _ S' b n⟩
theorem a9.no{c:Cx}:∀(d:List T) (cs:List Value) (S:List Nat),T.aZ d=true->a9 c d cs S->a9 c.no d cs S
 | [],_,_,_,a=>by grind [a9]
 |t::d,cs,S,b,a=>by
  simp only[a9]at a |-
  simp only[T.aZ,xA]at b
  obtain⟨v,r,S1,k,h,i,h3,h4⟩:=a
  exact⟨v,r,S1,k,h,i,TC.no t _ _ b.1 h3,a9.no d _ _ b.2 h4⟩
theorem TE.no{c:Cx}:∀(d:List T) (f:Nat) (cs:List Value) (S:List Nat),T.aZ d=true->TE c d f cs S->TE c.no d f cs S
 | [],_,_,_,_,a=>by grind [TE]
 |t::d,f,cs,S,b,a=>by
  simp only[TE]at a |-
  simp only[T.aZ,xA]at b
  obtain⟨p,o,S1,k,h,i,h3,h4,h5⟩:=a
  exact⟨p,o,S1,k,h,i,h3,TC.no t _ _ b.1 h4,TE.no d f _ _ b.2 h5⟩
end
theorem RetAll.no{c:Cx}:∀(a:J T) (vs:J Vz) (M:J Nat),T.aZ a=true->RetAll c a vs M->RetAll c.no a vs M
 | [],_,_,_,d=>d
 |t::a,vs,M,b,d=>by
  simp only[T.aZ,xA]at b
  obtain⟨v,r,g,e,f,rfl,h3,h4,h5⟩:=d
  exact⟨v,r,g,e,f,rfl,TC.no t _ _ b.1 h3,h4,RetAll.no a r e b.2 h5⟩
mutual
theorem VC.lo{c:Cx}{n:Nat}:∀(d:D) (cs:List Value),d.low n=true->VC c d cs->VC (c.lo n) d cs
 |.int _ _,_,_,e|.bool _,_,_,e|.str _,_,_,e|.aJ,_,_,e|.cQ,_,_,e|.df,_,_,e|.cX,_,_,e|.bW,_,_,e=>by simpa [VC]using e
 |.ptr o,cs,g,e|.map o,cs,g,e|.yld o,cs,g,e=>by simp only[VC]at e |-;simp only[D.low,yD]at g;exact⟨g,e.2⟩
 | .agg l,cs,g,e=>by have:=aR.lo l cs g e;grind [VC]
 | .sl b l,cs,g,e=>by
  simp only[VC]at e |-
  simp only[D.low]at g
  obtain⟨a,len,m,h,i,h3,h4⟩:=e
  refine⟨a,len,m,h,i,h3,λs=> ?_⟩
  obtain⟨q,j,h5,h6,h7,y,h9⟩:=h4 s
  exact⟨q,j,h5,h6,h7,y,VE.lo l q 0 j g h9⟩
 | .fn f a b,cs,g,e=>by
  simp only[VC]at e |-
  simp only[D.low,xA]at g
  obtain⟨u,w,h,i,h3⟩:=e
  exact⟨u,w,h,bf.lo a _ g.1 i,bf.lo b _ g.2 h3⟩
 | .iface t x,cs,g,e=>by
  simp only[VC]at e |-
  simp only[D.low]at g
  obtain⟨v,h,i,h3⟩:=e
  exact⟨v,h,VC.lo x _ g i,h3⟩
 | .bQ l,cs,g,e=>by
  simp only[VC]at e |-
  simp only[D.low]at g
  obtain⟨a,p,h,i,h3,h4,h5⟩:=e
  exact⟨a,p,h,i,h3,h4,aR.lo l p g h5⟩
theorem aR.lo{c:Cx}{n:Nat}:∀(l:List D) (cs:List Value),D.aQ n l=true->aR c l cs->aR (c.lo n) l cs
 | [],_,_,e=>by grind [aR]
 |d::k,cs,g,e=>by
  simp only[aR]at e |-
  simp only[D.aQ,xA]at g
  obtain⟨v,r,h,i,h3⟩:=e
  exact⟨v,r,h,VC.lo d _ g.1 i,aR.lo k r g.2 h3⟩
theorem bf.lo{c:Cx}{n:Nat}:∀(l:List D) (cs:List Value),D.aQ n l=true->bf c l cs->bf (c.lo n) l cs
 | [],_,_,e=>by grind [bf]
 |d::k,cs,g,e=>by
  simp only[bf]at e |-
  simp only[D.aQ,xA]at g
  obtain⟨v,r,h,i,h3,h4⟩:=e
  exact⟨v,r,h,VC.lo d _ g.1 i,h3,bf.lo k r g.2 h4⟩
theorem VE.lo{c:Cx}{n:Nat}:∀(l:List D) (a:Addr) (o j:Nat),D.aQ n l=true->VE c l a o j->VE (c.lo n) l a o j
 | [],_,_,_,_,_=>by simp[VE]
 |d::k,a,o,j,g,e=>by
  simp only[VE]at e |-
  simp only[D.aQ,xA]at g
  obtain⟨⟨cs,h,i,h3⟩,h4⟩:=e
  exact⟨⟨cs,h,i,VC.lo d cs g.1 h3⟩,VE.lo k a (o+j) j g.2 h4⟩
end
mutual
theorem TC.lo{c:Cx}{n:Nat}:∀(t:T) (cs:List Value) (S:List Nat),t.low n=true->TC c t cs S->TC (c.lo n) t cs S
 | .d x,cs,S,b,a=>by grind [TC,T.low,VC.lo]
 | .dead,cs,S,_,a=>by grind [TC]
 | .agg d,cs,S,b,a=>by have:=a9.lo d cs S b a;grind [TC]
 | .own m,cs,S,b,a=>by
  simp only[TC]at a |-
  simp only[T.low]at b
  obtain a |⟨g,l,j,e,f,S',h,i,h3,h4,h5,h6,h7,p⟩:=a
  .exact .inl a
  .exact .inr ⟨g,l,j,e,f,S',h,i,h3,h4,h5,h6,h7,TE.lo m f _ S' b p⟩
theorem a9.lo{c:Cx}{n:Nat}:∀(d:List T) (cs:List Value) (S:List Nat),T.aQ n d=true->a9 c d cs S->a9 (c.lo n) d cs S
 | [],_,_,_,a=>by grind [a9]
 |t::d,cs,S,b,a=>by
  simp only[a9]at a |-
  simp only[T.aQ,xA]at b
  obtain⟨v,r,S1,k,h,i,h3,h4⟩:=a
  exact⟨v,r,S1,k,h,i,TC.lo t _ _ b.1 h3,a9.lo d _ _ b.2 h4⟩
theorem TE.lo{c:Cx}{n:Nat}:∀(d:List T) (f:Nat) (cs:List Value) (S:List Nat),T.aQ n d=true->TE c d f cs S->TE (c.lo n) d f cs S
 | [],_,_,_,_,a=>by grind [TE]
 |t::d,f,cs,S,b,a=>by
  simp only[TE]at a |-
  simp only[T.aQ,xA]at b
  obtain⟨o,q,S1,k,h,i,h3,h4,h5⟩:=a
  exact⟨o,q,S1,k,h,i,h3,TC.lo t _ _ b.1 h4,TE.lo d f _ _ b.2 h5⟩
end
theorem RetAll.lo{c:Cx}{n:Nat}:∀(a:J T) (vs:J Vz) (M:J Nat),T.aQ n a=true->RetAll c a vs M->RetAll (c.lo n) a vs M
 | [],_,_,_,d=>d
 |t::a,vs,M,b,d=>by
  simp only[T.aQ,xA]at b
  obtain⟨v,r,f,e,g,rfl,h3,h4,h5⟩:=d
  exact⟨v,r,f,e,g,rfl,TC.lo t _ _ b.1 h3,h4,RetAll.lo a r e b.2 h5⟩
end Go.Am
