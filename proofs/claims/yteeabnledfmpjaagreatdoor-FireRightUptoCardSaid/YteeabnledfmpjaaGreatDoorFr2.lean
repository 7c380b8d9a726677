/- A part of the proof: texts of mine, merged by a program (wip/dev/merge.py). -/
import Derived.Test.YteeabnledfmpjaaGreatDoorFr1
import Derived.Laws.BytesArg
import Derived.Laws.CopyRow
import Derived.Laws.IdiomCopy
import Derived.Lib.ConvBytes
import Derived.Laws.AppendOwn
set_option linter.unusedSimpArgs false
set_option linter.unusedVariables false
namespace Go.Am
open Go Go.RowKit
def PT(c:Cx):List (Nat×T)->List (Nat×Value)->List Nat->Prop
 | [],a,M=>a=[]/\M=[]
 |(i,t)::e,a,M=>∃v r d b,a=(i,v)::r/\M=d++b/\TC c t v.cells.toList d/\PT c e r b
theorem PT.ext{c c':Cx}(h:Ext c c'):∀(a:J (Nat×T)) (vs:J (Nat×Vz)) (M:J Nat),Kept c c' M->PT c a vs M->PT c' a vs M
 | [],_,_,_,b=>b
 |(i,t)::a,vs,M,hk,b=>by
  obtain⟨v,r,e,d,f,rfl,h3,h4⟩:=b
  exact⟨v,r,e,d,f,rfl,TC.ext h _ _ _ hk.left h3,PT.ext h a r d hk.right h4⟩
theorem IU(off:Nat):∀(l:J Vz) (n:Nat) (cells:Array Vz),off+n+l.length<=cells.size->
  ((l.zipIdx n).foldl (λ(cs:Array Vz) (p:Vz×Nat)=>cs.setIfInBounds (off+p.2) p.1) cells)=(cells.toList.take (off+n)++l++cells.toList.drop (off+n+l.length)).toArray
 | [],n,cells,_=>by simp
 |v::a,n,cells,h=>by
  simp only[List.zipIdx_cons,List.foldl_cons];rw[IU off a (n+1) _ (by grind)]
  have e:=list_seg_step cells.toList (off+n) v a (by grind)
  simp_all [wm]
theorem IV{a:Nat->U (Nat×Nat)}{cells:Array Vz}{i off size:Nat}{v:Vz}{b:J (Nat×Vz)}(hp:a i=some (off,size))(d:v.cells.size=size)(hf:off+size<=cells.size):
  Instr.fill a cells ((i,v)::b)=Instr.fill a (cells.toList.take off++v.cells.toList++cells.toList.drop (off+size)).toArray b:=by
 simp only[Instr.fill,hp];have c:(decide (v.cells.size≠size) || decide (off+v.cells.size >cells.size))=false:=by simp;omega
 rw[show(v.cells.size≠size || decide (off+v.cells.size >cells.size))=false from c]
 simp only[xH,if_false];congr 1
 have:=IU off v.cells.toList 0 cells (by simp;omega)
 simp only[kV,yF,d]at this
 rw[<-this,<-Array.foldl_toList]
 grind
theorem Q8{c:Cx}{d:Nat}(A:0<d):∀(h:J (Nat×T)) (vs:J (Nat×Vz)) (M:J Nat) (es es':J T) (cells:Array Vz) (g:J Nat),PT c h vs M->(∀p∈h,p.2.nc=d)->TE c es d cells.toList g->(g++M).Nodup->tD es h=some es'->
  ∃(a:Array Vz) (M':J Nat),Instr.fill (λi=>some (i * d,d)) cells vs=some a/\TE c es' d a.toList M'/\M'.Nodup/\∀b∈M',b∈g++M
 | [],vs,M,es,es',cells,g,f,_,n,s,e=>by
  obtain⟨rfl,rfl⟩:=f;simp only[tD,xJ]at e
  subst e
  exact⟨cells,g,rfl,n,by simpa using s,by simp⟩
 |(i,t)::h,vs,M,es,es',cells,g,f,j,n,s,e=>by
  obtain⟨v,r,o,l,rfl,rfl,h3,h4⟩:=f;simp only[tD]at e
  split at e
  .rename_i w
   have C:=TE.len _ _ _ _ n;have x:v.cells.size=d:=by rw[<-yF,TC.len _ _ _ h3];exact j (i,t) (by simp)
   have u:i * d+d<=cells.size:=by
    have:(i+1) * d<=es.length * d:=jf _ w
    rw[iT,Nat.one_mul]at this
    have:=C.1
    simp at this;omega
   rw[IV rfl x u];obtain⟨H,L,I,R,E,O,K,B,D,y,z⟩:=TE.get n (xG w);have m:=TE.put (c:=c) (c':=c) ⟨λ_ _ f=>⟨f,rfl⟩,dC _,λ_ _=>rfl⟩ w y z (λ_ _=>rfl) (by simp[x]) h3
   subst B
   have q:(L++o++R++l).Nodup:=by
    have k:(L++o++R++l).Perm (L++R++(o++l)):=by
     rw[xK,xK,xK];refine List.Perm.append_left L ?_;exact Ef o R l
    rw[k.nodup_iff];refine List.Nodup.sublist ?_ s;refine List.Sublist.append (List.Sublist.append ?_ (List.Sublist.refl _)) (List.Sublist.refl _);exact List.sublist_append_left _ _
   obtain⟨a,M',N,P,F,G⟩:=Q8 A h r l _ es' (cells.toList.take (i * d)++v.cells.toList++cells.toList.drop (i * d+d)).toArray _ h4 (λp f=>j p (by simp[f])) (by simpa using m) q e
   grind
  .cases e
section
variable{P:Pz}{A:Av}{ρ:Nat->Nat}{S:aj->J Nat}{hd:aj->Vz}{fl:J Nat}{k k':Wk}{ay:J (SV×Vz)}{w:Wz}
theorem Gt{nv:Nat}:∀(l:J (Nat×SV)) (vs:J (Nat×Vz)) (n:J (Nat×T)) (k k':Wk) (S:aj->J Nat) (fl:J Nat),KR A ρ S hd fl k ay w->All2 (λ(a:Nat×SV) (b:Nat×Vz)=>a.1=b.1/\(a.2,b.2)∈ay) l vs->gm nv l k=some (n,k')->
  ∃S' M,KR A ρ S' hd (M++fl) k' ay w/\Ext (am A k.H.length ρ S fl w) (am A k'.H.length ρ S' (M++fl) w)/\PT (am A k'.H.length ρ S' (M++fl) w) n vs M/\k'.H.length=k.H.length
 | [],vs,n,k,k',S,fl,h,c,e=>by
  simp only[gm,xJ,pJ]at e
  obtain⟨rfl,rfl⟩:=e;rw[show vs=[]from c]
  exact⟨S,[],by simpa using h,by simpa using(⟨λ_ _ y=>⟨y,rfl⟩,dC _,λ_ _=>rfl⟩:Ext _ _),⟨rfl,rfl⟩,rfl⟩
 |(i,u)::l,vs,n,k,k',S,fl,h,c,e=>by
  simp only[gm,xB,xM]at e
  obtain⟨⟨t,K⟩,R,⟨s,P⟩,G,B⟩:=e;simp only[pJ]at B
  obtain⟨rfl,rfl⟩:=B;obtain⟨⟨U,v⟩,r,rfl,⟨E,z⟩,f⟩:=c;simp only at E z;subst E;obtain⟨S1,j,H,C,N,I⟩:=nQ h z R;obtain⟨Q,m,O,p,D,L⟩:=Gt l r s K P S1 (j++fl) H f G
  have d:(m++(j++fl)).Perm ((j++m)++fl):=by
   rw[xK];exact Ef m j fl
  obtain⟨x,q⟩:=O.perm d;rw[q]at p D
  refine⟨Q,j++m,x,⟨λb g y=> ?_,fj C.nO p.nO,λo V=>rfl⟩,?_,L.trans I⟩
  .have F:=C.pm b g y
   have W:=p.pm b g F.1
   grind
  .exact⟨v,r,j,m,rfl,rfl,TC.ext p _ _ _ (λ_ _=>rfl) N,D⟩
theorem B6{t e:TypeId}(h:elemOf P t=some e):P.underlying t=some (.slice e):=by
 grind [elemOf]
theorem Gu{nv dst:Nat}{ad:Bool}{t:TypeId}{len:Nat}{l:J (Nat×SV)}{vs:J (Nat×Vz)}{sv:SV}(h:KR A ρ S hd fl k ay w)(K:All2 (λ(a:Nat×SV) (b:Nat×Vz)=>a.1=b.1/\(a.2,b.2)∈ay) l vs)
  (e:gd P nv dst ad t len l k=some (sv,k')):∃v w' s S' hd',(Instr.buildSlice t len vs.toArray).run P w=.ok v w'/\KR A s S' hd' fl k' ay w'/\SO (am A k'.H.length s S' fl w') k'.get hd' sv v:=by
 simp only[gd,xB]at e
 obtain⟨V,h1,z,h2,⟨C,O⟩,h3,e⟩:=e
 split at e
 .rename_i hh
  obtain⟨a1,a2,a3,a4⟩:=hh;simp only[xB]at e
  obtain⟨u,F,e⟩:=e;have hu:=B6 h1;obtain⟨i,R,b1,b2,b3,an⟩:=lJ h2;have f:P.cellsOf V=i.size:=by simp[Program.cellsOf,b1]
  obtain⟨S1,M,W,g2,g3,g4⟩:=Gt l vs C k O S fl h K h3;have H:=mD (c:=am A O.H.length ρ S1 (M++fl) w) b3;have ah:R.cells.size=i.size:=by rw[<-yF,VC.len _ _ H.1,a4,f]
  have o:0<i.size:=by rw[<-f];exact a1
  have hn:=W.bw.ndF;rw[xT]at hn
  have aa:=B4 H.1
  have Z:TE (am A O.H.length ρ S1 (M++fl) w) (List.replicate len (T.cj z)) i.size (madeCells R.cells (len * i.size)).toList []:=
   Gs aa (by simp[ah]) len _ (by simp[size_madeCells]) (λj hj=>by grind [w7])
  obtain⟨d,M',f1,f2,f3,f4⟩:=Q8 o C vs M _ u _ [] g3 (λp hp=>by
   grind) Z (by simpa using hn.1) F
  have m:u.length=len:=by
   have:∀(C:J (Nat×T)) (u Q:J T),tD u C=some Q->Q.length=u.length:=by
    intro C
    induction C with
    |nil=>grind [tD]
    |cons p C ih=>
     grind [tD]
   rw[this C _ u F];simp
  have y:(Instr.buildSlice t len vs.toArray).run P w=.ok (.slice (some ⟨w.heap.size,0,none⟩) len len) (w.alloc (.cells d V)):=by
   have af:¬(len * i.size >2 ^ 24):=by rw[<-f];simp only[Nat.not_lt];exact a3
   have hf:Instr.fill (λD=>some (D * i.size,i.size)) (madeCells R.cells (len * i.size)) vs=some d:=f1
   by_cases Y:len=0
   .simp_all [Array.eq_empty_of_size_eq_zero,size_madeCells,Instr.buildSlice,run_underlying,sizeOf,typeInfo,newRow]
   .have L:¬(16777216<len * i.size):=by simpa using af
    have ab:Instr.fill (λD=>some (D * i.size,i.size)) (Array.map (λx=>R.cells[x % R.cells.size]!) (Array.range (len * i.size))) vs=some d:=hf
    have ai:len * i.size≠0:=Nat.mul_ne_zero Y (by omega)
    simp[Instr.buildSlice,run_underlying hu,sizeOf,typeInfo,b1,L,zeroValue,b2,newRow,ab,ai]
  obtain⟨G,g6⟩:=W.alloc (.cells d V);have ak:=TE.ext g6 _ _ _ _ (λb E=>Below.heap_alloc w _ b (W.bU b (.inr (by grind))).1) f2
  have bP:=(TE.len _ _ _ _ f2).1
  -- the row,and which dU float
  have I:∀N,N.Nodup->(∀b∈N,b∈w.heap.size::M)->TC (am A O.H.length ρ S1 ((w.heap.size::M)++fl) (w.alloc (.cells d V))) (.own u) [.slice (some ⟨w.heap.size,0,none⟩) len len] N->
    ∃v w' s S' hd',(Instr.buildSlice t len vs.toArray).run P w=.ok v w'/\KR A s S' hd' fl k' ay w'/\SO (am A k'.H.length s S' fl w') k'.get hd' sv v:=by
   intro N al ac B;have U:=G.bw.ndF;rw[xT]at U
   split at e
   .split at e
    .simp only[xM,pJ]at e
     obtain⟨ds,ag,rfl,rfl⟩:=e;obtain⟨g7,g8⟩:=G.letGo (fl':=fl) U.2.1 (λb E=>xR _ E)
     refine⟨_,_,ρ,_,_,y,g7,VV.one (T.frz_ok g8 false (.own u) (.sl false ds) _ N (by simp[T.cR,ag]) (λg hg=> ?_) B) (by simp)⟩
     have hm:=ac g hg;have E:=G.bU g (.inr (xL _ hm))
     refine⟨⟨λX=> ?_,E.2.1 _,E.1⟩,rfl⟩
     obtain⟨r,X⟩ |X:=X
     .exact G.bw.cq r g X (xL _ hm)
     grind
    .cases e
   simp only[xJ,pJ]at e
   obtain⟨rfl,rfl⟩:=e
   obtain⟨g7,g8⟩:=G.letGo (fl':=N++fl) (by
    grind) (λb E=>by
    grind)
   have q:=TC.ext g8 _ _ _ (λ_ _=>rfl) B
   obtain⟨n1,n2⟩:=g7.du (n:=dst) (j:=0) q
   refine⟨_,_,ρ,_,_,y,n1,?_⟩
   have:=AI (dst:=dst) (k0:=O) (hd':=upd hd (.l dst 0) (.slice (some ⟨w.heap.size,0,none⟩) len len)) (TC.ext n2 _ _ _ (λ_ _=>rfl) q) (by simp)
   rw[m]at this
   exact this
  by_cases Y:len=0
  .refine I [] (by simp) (by simp) ?_
   have:u=[]:=yL (m.trans Y)
   subst this;subst Y;exact .inl ⟨_,rfl,rfl,rfl⟩
  .refine I (w.heap.size::M') (List.nodup_cons.2 ⟨λhc=> ?_,f3⟩) (λb E=> ?_) ?_
   .have:=f4 _ hc
    simp at this;exact absurd (W.bU _ (.inr (by simp[this]))).1 (Nat.lt_irrefl _)
   .grind
   .simp only[TC]
    refine .inr ⟨w.heap.size,len,d,V,i.size,M',by rw[m],rfl,by grind [am,heap_alloc_new],by omega,?_,?_,?_,?_⟩
    .rw[f]at a3
     refine B5 (fj (Nat.le_mul_of_pos_right len o) (fj a3 (by decide)))
    .grind
    .rw[m];exact Nat.mul_pos (by omega) o
    grind
 .cases e
end
def IW(w:Wz)(a:U Addr)(ns:J Vz):Prop:=∀j u,ns[j]? =some u->∃b,a=some b/\w.cell? (b.add j)=some u
section
variable{P:Pz}{w:Wz}
theorem wt{size m cap:Nat}{a:U Addr}{ns:J Vz}(hl:ns.length=m * size)(hr:IW w a ns)(hn:a=none->ns=[]):(Builtin.firstCells size m (.slice a m cap)).run P w=.ok ns.toArray w:=by
 cases a with
 |none=>grind [run_firstCells_none]
 |some c=>exact run_firstCells_some w size m c m cap ns hl (λj u d=>by obtain⟨b,f,e⟩:=hr j u d;grind)
theorem B7{t ty e h:TypeId}{i:TypeInfo}(ht:P.underlying t=some (.slice e))(hi:P.info? e=some i){g n cap:Nat}{a:Array Vz}(k:w.heap[g]? =some (.cells a h (0,0)))
  {f:U Addr} {m xc:Nat} {ns:J Vz} (hl:ns.length=m * i.size) (hr:IW w f ns) (hn:f=none->ns=[]) (h1:∀u∈ns,u.oneCell'=true) (b:n+m<=cap) (d:n * i.size+ns.length<=a.size):
  (Builtin.append_ #[t,t] ty #[.slice (some ⟨g,0,none⟩) n cap,.slice f m xc]).run P w=
   .ok (.slice (some ⟨g,0,none⟩) (n+m) cap) (w.setRow g (a.toList.take (n * i.size)++ns++a.toList.drop (n * i.size+ns.length)).toArray):=by
 have l:=wt (P:=P) (cap:=xc) hl hr hn;have c:=run_storeCells_at P g (n * i.size) h ns 0 a w k (by simpa using d) h1
 simp only[kV]at c
 have j:(⟨g,0,none⟩:Addr).add (n * i.size)=⟨g,n * i.size,none⟩:=by rw[fq];simp
 simp[Builtin.append_,run_underlying ht,sizeOf,typeInfo,hi,Builtin.lenOf,b,l,j,c]
theorem D0{t ty e:TypeId}{i:TypeInfo}(ht:P.underlying t=some (.slice e))(hi:P.info? e=some i){a b:U Addr}{xc:Nat}(hn:(Builtin.firstCells i.size 0 (.slice b 0 xc)).run P w=.ok #[] w):
  (Builtin.append_ #[t,t] ty #[.slice a 0 0,.slice b 0 xc]).run P w=.ok (.slice a 0 0) w:=by
 cases a <;>simp[Builtin.append_,run_underlying ht,sizeOf,typeInfo,hi,Builtin.lenOf,hn,storeCells]
theorem B8{t ty e:TypeId}{i:TypeInfo}{z:Vz}(ht:P.underlying t=some (.slice e))(hi:P.info? e=some i)(hz:i.zero=some z){d:U Addr}{n cap:Nat}{c:J Vz}(k:c.length=n * i.size)(f:IW w d c)(p:d=none->c=[])
  {l:U Addr} {m xc:Nat} {ns:J Vz} (hl:ns.length=m * i.size) (hr:IW w l ns) (hn:l=none->ns=[]) (v:cap<n+m) (r:((n+m:Nat):Int)<=9223372036854775807) (q:Builtin.nextslicecap (n+m) cap * i.bytes<=281474976710656):
  (Builtin.append_ #[t,t] ty #[.slice d n cap,.slice l m xc]).run P w=
   .ok (.slice (some ⟨w.heap.size,0,none⟩) (n+m) (grownCap w (n+m) cap e)) (w.drew.alloc (.cells (c.toArray++ns.toArray++Builtin.zeroCells z.cells (grownCap w (n+m) cap e - (n+m))) e)):=by
 have g:¬(n+m<=cap):=by omega
 have b:¬(9223372036854775807<((n:Int)+(m:Int))):=by omega
 have a:¬(281474976710656<Builtin.nextslicecap (n+m) cap * i.bytes):=by omega
 have s:=wt (P:=P) (w:=w.drew) (cap:=xc) hl (λj u o=>by simpa using hr j u o) hn
 have h:=wt (P:=P) (w:=w.drew) (cap:=cap) k (λj u o=>by simpa using f j u o) p
 simp[Builtin.append_,run_underlying ht,sizeOf,typeInfo,zeroValue,hi,hz,Builtin.lenOf,g,b,a,Question.forced,s,h,newRow,grownCap]
 grind
end
theorem VE.cells{c:Cx}{a:Addr}:∀(l:J D) (o b:Nat),VE c l a o b->∃ns,ns.length=l.length * b/\(∀j u,ns[j]? =some u->c.w.cell? (a.add (o+j))=some u)/\TE c (l.map .d) b ns []
 | [],o,b,_=>⟨[],by simp,by simp,by simp[TE]⟩
 |d::f,o,b,h=>by
  simp only[VE]at h
  obtain⟨⟨e,i,k,h3⟩,h4⟩:=h;obtain⟨ns,n,p,g⟩:=VE.cells f (o+b) b h4
  refine⟨e++ns,by grind,λj u m=> ?_,?_⟩
  .grind
  .simp only[eG,TE]
   exact⟨e,ns,[],[],rfl,rfl,i,by grind [TC],g⟩
theorem TE.plain{c:Cx}:∀(a:J T) (b:Nat) (cs:J Vz) (S:J Nat),fW a=true->TE c a b cs S->S=[]
 | [],_,_,_,_,h=>by grind [TE]
 |t::a,b,cs,S,e,h=>by
  cases t with
  |d x=>
   simp only[TE,TC]at h
   obtain⟨i,f,S1,g,rfl,rfl,_,⟨rfl,_⟩,h5⟩:=h
   simpa using TE.plain a b f g e h5
  |_=>simp[fW]at e
theorem TE.nc_eq{c:Cx}{b:J T}{e a:Nat}{cs:J Vz}{S:J Nat}(h:TE c b e cs S)(hu:dY a b=true)(d:b≠[]):e=a:=by
 match b,d with
 |t::r,_=>
  have f:=(TE.len _ _ _ _ h).2 t (by simp)
  have g:=List.all_eq_true.1 hu t (by simp)
  grind
structure News(c:Cx)(news:List T)(sz:Nat)(v:Value)(xa:Option Addr)(xc:Nat)(ns:List Value)(M:List Nat):Prop where
 hv:v=.slice xa news.length xc
 te:TE c news sz ns M
 rd:IW c.w xa ns
 no:xa=none->ns=[]
section
variable{P:Pz}{A:Av}{ρ:Nat->Nat}{S:aj->J Nat}{hd:aj->Vz}{fl:J Nat}{k k':Wk}{ay:J (SV×Vz)}{w:Wz}
theorem x?{c:Cx}{es:J T}{r v:Vz}{Sn:J Nat}{off len w:Nat}(ht:TC c (.own es) [r] Sn)(h:off+len<=es.length)(hw:Win r es off len v)(k:fW (bz es off len)=true)(hu:dY w (bz es off len)=true):
  ∃K xc ns,News c (bz es off len) w v K xc ns []:=by
 have o:=ky es off len h;obtain⟨a,n,H,L,b,E,C,U,X,z⟩:=hw;subst C
 obtain i |i:=AB len
 .subst i
  have:bz es off 0=[]:=by simp[bz]
  rw[this]
  exact⟨L,b,[],rfl,by simp[TE],λj u q=>by simp at q,λ_=>rfl⟩
 .obtain⟨g,p,B,A,G⟩:=z i
  obtain⟨O,f,N,_⟩ |⟨Z,s,x,e,d,S',f,N,W,Y,S,P,Q,t⟩:=ht
  .grind
  .subst B
   simp only[xC,and_true]at f
   rw[E]at f
   simp only[Value.slice.injEq,xJ,Addr.mk.injEq,and_true]at f
   obtain⟨rfl,_,_⟩:=f;have F:p.nc=d:=(TE.len _ _ _ _ t).2 p (yS A);obtain⟨Sa,M,_,_,I⟩:=TE.split off es d _ S' t;obtain⟨R,V,_,t4,_⟩:=TE.split len _ d _ M I;have l:=TE.plain _ _ _ _ k t4;subst l;have m:bz es off len≠[]:=λy=>by grind
   have D:=TE.nc_eq t4 hu m;subst D
   refine⟨_,b,_,by rw[o],t4,λj u q=>⟨_,G,?_⟩,λy=>by grind⟩
   grind [fq,World.cell?]
theorem MH{nv B:Nat}{v:SV}{val:Vz}{c:J T}(h:KR A ρ S hd fl k ay w)(hv:SO (am A k.H.length ρ S fl w) k.get hd v val)(e:gc nv v k=some (c,k'))(hu:dY B c=true):
  ∃S' M f xc ns,KR A ρ S' hd (M++fl) k' ay w/\Ext (am A k.H.length ρ S fl w) (am A k'.H.length ρ S' (M++fl) w)/\News (am A k'.H.length ρ S' (M++fl) w) c B val f xc ns M/\k'.H.length=k.H.length:=by
 have q:∀f xc ns,News (am A k.H.length ρ S fl w) c B val f xc ns []->k'=k->
   ∃S' M f xc ns,KR A ρ S' hd (M++fl) k' ay w/\Ext (am A k.H.length ρ S fl w) (am A k'.H.length ρ S' (M++fl) w)/\News (am A k'.H.length ρ S' (M++fl) w) c B val f xc ns M/\k'.H.length=k.H.length:=
  λf xc ns D hk=>by subst hk;exact⟨S,[],f,xc,ns,by simpa using h,by simpa using(⟨λ_ _ Y=>⟨Y,rfl⟩,dC _,λ_ _=>rfl⟩:Ext _ _),by simpa using D,rfl⟩
 have i:∀b l,VC (am A k.H.length ρ S fl w) (.sl b l) [val]->c=l.map .d->k'=k->
   ∃S' M f xc ns,KR A ρ S' hd (M++fl) k' ay w/\Ext (am A k.H.length ρ S fl w) (am A k'.H.length ρ S' (M++fl) w)/\News (am A k'.H.length ρ S' (M++fl) w) c B val f xc ns M/\k'.H.length=k.H.length:=by
  intro b l o D hk;subst D;simp only[VC,xC,and_true]at o
  obtain⟨a,y,s,rfl,rfl,h3,h4⟩:=o
  by_cases Z:l=[]
  .subst Z
   exact q a s [] ⟨rfl,by simp[TE],λj u m=>by simp at m,λ_=>rfl⟩ hk
  .obtain⟨ad,E,rfl,q2,q3,q4,q5⟩:=h4 Z
   obtain⟨ns,n1,n2,n3⟩:=VE.cells l 0 E q5;have O:=TE.nc_eq n3 hu (by simpa using Z)
   subst O;exact q (some ad) s ns ⟨by simp,n3,λj u m=>⟨ad,rfl,by grind⟩,λC=>by cases C⟩ hk
 cases v with
 |d x=>
  cases x with
  |aJ=>
   simp only[gc,xJ,pJ]at e
   obtain⟨rfl,rfl⟩:=e;have o:VC (am A k.H.length ρ S fl w) .aJ [val]:=VV.inv hv (by simp)
   simp only[VC,xC,and_true]at o
   exact q none 0 [] ⟨o,by simp[TE],λj u m=>by simp at m,λ_=>rfl⟩ rfl
  |sl b l=>
   simp only[gc,xJ,pJ]at e
   obtain⟨rfl,rfl⟩:=e;exact i b l (VV.inv hv (by simp)) rfl rfl
  |_=>simp[gc]at e
 |clip b l=>
  simp only[gc,xJ,pJ]at e
  obtain⟨rfl,rfl⟩:=e;exact i b l hv.1 rfl rfl
 |ns b=>
  simp only[gc,xJ,pJ]at e
  obtain⟨rfl,rfl⟩:=e;exact i false [] (Q6 hv) rfl rfl
 |aH r p G y=>
  obtain⟨t0,N,h',V,I,b3,b4,b5⟩:=hv;obtain⟨h0,L,Sn,R,hS,H⟩:=TC.focus p t0 (hd r) (S r) (.own N) (h.cont r t0 V) I;have hh:h0=h':=aI.uniq p t0 (hd r) h0 h' H.node b3;subst hh;simp only[gc,V,I,xS]at e
  have K:(if fW (bz N G y)=true then some (bz N G y,k)else none)=some (c,k')->
    ∃S' M f xc ns,KR A ρ S' hd (M++fl) k' ay w/\Ext (am A k.H.length ρ S fl w) (am A k'.H.length ρ S' (M++fl) w)/\News (am A k'.H.length ρ S' (M++fl) w) c B val f xc ns M/\k'.H.length=k.H.length:=by
   intro e
   split at e
   .rename_i P
    simp only[xJ,pJ]at e
    obtain⟨rfl,rfl⟩:=e;obtain⟨f,xc,ns,D⟩:=x? H.tc b4 b5 P hu
    grind
   .cases e
  split at e
  .rename_i n j
   split at e
   .rename_i C
    obtain⟨_,rfl,rfl⟩:=C;simp only[T.at,xJ]at I
    subst I;simp only[Wk.set,xQ,xJ,pJ]at e
    obtain⟨rfl,rfl⟩:=e;obtain⟨U,Q⟩:=h.takeOut (k':={k with ct:=((n,j),.dead)::k.ct}) (t':=.dead) V hS H rfl rfl
    have ht:=TC.ext Q _ _ _ (λ_ _=>rfl) H.tc
    have hw:=b5.whole ht
    obtain⟨a,F,k2,W⟩ |⟨g,s,aa,ty,E,S',F,k2,W,k4,k5,k6,k7,k8⟩:=hw
    .subst k2;subst W
     simp only[xC,and_true]at F
     exact⟨_,[],a,0,[],U,Q,⟨F,by simp[TE],λj u m=>by simp at m,λ_=>rfl⟩,rfl⟩
    .simp only[xC,and_true]at F
     subst k2;have X:N≠[]:=λC=>by grind
     .have O:=TE.nc_eq k8 hu X
      subst O;have D:=U.bw.ndF;obtain⟨g3,g4⟩:=U.letGo (fl':=S'++fl) (by grind) (λb hb=>by grind)
      refine⟨_,S',some ⟨g,0,none⟩,s,_,g3,⟨λt b Y=>⟨(g4.pm t b (Q.pm t b Y).1).1,rfl⟩,dC _,λ_ _=>rfl⟩,⟨F,TE.ext g4 _ _ _ _ (λ_ _=>rfl) k8,λj u m=>⟨_,rfl,?_⟩,λC=>by cases C⟩,rfl⟩
      have z:w.cell? ⟨g,0+j,none⟩=some u:=by
       rw[World.cell?,show w.heap[g]? =_ from W]
       simp only[Option.isSome_none,fu];rw[xU]at m
       split at m
       .simpa using m
       .cases m
      rw[fq];exact z
   grind
  grind
 |_=>simp[gc]at e
inductive Olds(c:Cx)(olds:List T)(sz:Nat)(v:Value):List Nat->Prop
 |empty (sa:Option Addr) (ho:olds=[]) (hv:v=.slice sa 0 0):Olds c olds sz v []
 |row (g cap:Nat) (cur:Array Value) (e0:TypeId) (S0:List Nat) (hv:v=.slice (some ⟨g,0,none⟩) olds.length cap) (hg:c.w.heap[g]? =some (.cells cur e0 (0,0))) (hle:olds.length<=cap) (cK:cap<=maxLen)
   (hcur:cap * sz<=cur.size) (te:TE c olds sz (cur.toList.take (olds.length * sz)) S0):Olds c olds sz v (g::S0)
theorem rI{t ty e:TypeId}{i:TypeInfo}{z:Vz}(ht:P.underlying t=some (.slice e))(hi:P.info? e=some i)(hz:i.zero=some z)(ai:z.cells.size=i.size)(bP:0<i.size){dst:Nat}{c d:J T}{p H:Vz}{W:U Addr}{xc:Nat}{ns:J Vz}{N0 M:J Nat}(ao:N0=[]\/0<c.length+d.length)
  (h:KR A ρ S hd ((N0++M)++fl) k ay w) (ho:Olds (am A k.H.length ρ S ((N0++M)++fl) w) c i.size p N0) (hn:News (am A k.H.length ρ S ((N0++M)++fl) w) d i.size H W xc ns M)
  (hb:(c.length+d.length) * i.bytes<=140737488355328) (ac:c.length+d.length<=9223372036854775807):
  ∃v w' s S' hd',(Builtin.append_ #[t,t] ty #[p,H]).run P w=.ok v w'/\KR A s S' hd' fl (k.new dst 0 (.own (c++d))) ay w'/\
   SO (am A (k.new dst 0 (.own (c++d))).H.length s S' fl w') (k.new dst 0 (.own (c++d))).get hd' (.aH (.l dst 0) [] 0 (c++d).length) v:=by
 have R:=TE.len _ _ _ _ hn.te;have L:=TE.dt _ _ _ _ hn.te;have ag:=hn.hv;subst ag
 -- the row becomes a root
 have O:∀(w':Wz) (N:J Nat) (v:Vz),KR A ρ S hd (N++fl) k ay w'->TC (am A k.H.length ρ S (N++fl) w') (.own (c++d)) [v] N->(Builtin.append_ #[t,t] ty #[p,.slice W d.length xc]).run P w=.ok v w'->
   ∃v w' s S' hd',(Builtin.append_ #[t,t] ty #[p,.slice W d.length xc]).run P w=.ok v w'/\KR A s S' hd' fl (k.new dst 0 (.own (c++d))) ay w'/\
    SO (am A (k.new dst 0 (.own (c++d))).H.length s S' fl w') (k.new dst 0 (.own (c++d))).get hd' (.aH (.l dst 0) [] 0 (c++d).length) v:=by
  intro w' N v hk I f;obtain⟨n1,n2⟩:=hk.du (n:=dst) (j:=0) I
  exact⟨v,w',ρ,_,_,f,n1,AI (dst:=dst) (k0:=k) (hd':=upd hd (.l dst 0) v) (TC.ext n2 _ _ _ (λ_ _=>rfl) I) (by simp)⟩
 -- a new block
 have E:∀(D:U Addr) (l:Nat) (Q:J Vz) (y:J Nat),p=.slice D c.length l->IW w D Q->(D=none->Q=[])->TE (am A k.H.length ρ S ((N0++M)++fl) w) c i.size Q y->(∀b∈y,b∈N0)->y.Nodup->l<c.length+d.length->
   ∃v w' s S' hd',(Builtin.append_ #[t,t] ty #[p,.slice W d.length xc]).run P w=.ok v w'/\KR A s S' hd' fl (k.new dst 0 (.own (c++d))) ay w'/\
    SO (am A (k.new dst 0 (.own (c++d))).H.length s S' fl w') (k.new dst 0 (.own (c++d))).get hd' (.aH (.l dst 0) [] 0 (c++d).length) v:=by
  intro D l Q y ak al ah Y ab C X;have V:=TE.len _ _ _ _ Y;have f:=B8 (P:=P) (w:=w) (ty:=ty) (cap:=l) (xc:=xc) ht hi hz V.1 al ah R.1 hn.rd hn.no X (by omega) (growslice_fits X hb)
  rw[<-ak]at f
  obtain⟨d1,d2⟩:=h.drew;obtain⟨a1,a2⟩:=d1.alloc (.cells (Q.toArray++ns.toArray++Builtin.zeroCells z.cells (grownCap w (c.length+d.length) l e - (c.length+d.length))) e);have o:=a1.bw.ndF;rw[xT]at o
  have F:=(List.nodup_cons.1 o.1);have Z:=F.2;rw[xT]at Z
  obtain⟨l1,l2⟩:=a1.letGo (fl':=(w.heap.size::(y++M))++fl) (by
   rw[xT]
   refine⟨List.nodup_cons.2 ⟨λhc=>F.1 ?_,?_⟩,o.2.1,λa ha b hb=>o.2.2 a ?_ b hb⟩
   .simp_all
   .grind
   .obtain rfl |ha:=List.mem_cons.1 ha
    .simp
    grind) (λb hb=>by
   obtain q |q:=List.mem_append.1 hb
   .obtain rfl |q:=List.mem_cons.1 q
    .simp
    grind
   grind)
  have ex:Ext (am A k.H.length ρ S ((N0++M)++fl) w) (am A k.H.length ρ S ((w.heap.size::(y++M))++fl) (w.drew.alloc (.cells (Q.toArray++ns.toArray++Builtin.zeroCells z.cells (grownCap w (c.length+d.length) l e - (c.length+d.length))) e))):=
   ⟨λt b hp=>by
    have q1:=d2.pm t b hp;have q2:=a2.pm t b q1.1;have q3:=l2.pm t b q2.1
    grind,dC _,λ_ _=>rfl⟩
  have kp:∀b,b∈N0++M->(w.drew.alloc (.cells (Q.toArray++ns.toArray++Builtin.zeroCells z.cells (grownCap w (c.length+d.length) l e - (c.length+d.length))) e)).heap[b]? =w.heap[b]? :=λb hb=>
   Below.heap_alloc w.drew _ b (h.bU b (.inr (xL _ hb))).1
  have t1:=TE.ext ex _ _ _ _ (λb hb=>kp b (xL _ (ab b hb))) Y
  have t2:=TE.ext ex _ _ _ _ (λb hb=>kp b (xR _ hb)) hn.te
  have hC:=grownCap_ge w (c.length+d.length) l e;refine O _ (w.heap.size::(y++M)) _ l1 ?_ f;simp only[TC];refine .inr ⟨w.heap.size,_,_,e,i.size,y++M,by rw[xP],rfl,by simpa [am]using heap_alloc_new w.drew _,by grind,grownCap_le_maxLen w _ _ e (B5 ac),?_,?_,?_⟩
  .simp only[Array.size_append,List.size_toArray,xP,size_zeroCells,ai,V.1,R.1,<-iT]
   refine jf _ ?_;omega
  .rw[xP];exact Nat.mul_pos (by omega) bP
  .grind [iT,TE.append]
 cases ho with
 |empty D ho hv=>
  subst ho;subst hv
  by_cases hm:d.length=0
  .have an:d=[]:=yL hm
   have aa:ns=[]:=yL (by grind)
   have f:(Builtin.append_ #[t,t] ty #[.slice D 0 0,.slice W d.length xc]).run P w=.ok (.slice D 0 0) w:=by
    rw[hm];refine D0 ht hi ?_
    have:=wt (P:=P) (w:=w) (size:=i.size) (m:=0) (a:=W) (cap:=xc) (ns:=ns) (by rw[aa];simp) hn.rd hn.no
    rw[aa]at this
    exact this
   have o:=h.bw.ndF;rw[xT]at o
   obtain⟨l1,_⟩:=h.letGo (fl':=[]++fl) (by simpa using o.2.1) (λb hb=>xR _ (by simpa using hb))
   refine O w [] (.slice D 0 0) l1 ?_ f;subst an;exact .inl ⟨D,rfl,rfl,rfl⟩
  .exact E D 0 [] [] rfl (λj u hj=>by simp at hj) (λ_=>rfl) (by simp[TE]) (by simp) (by simp) (by simp;omega)
 |row g cap x e0 y hv hg ad cK G te=>
  subst hv;have o:=h.bw.ndF;rw[xT,xT]at o
  have C:=(List.nodup_cons.1 o.1.1);have V:=TE.len _ _ _ _ te;have af:c.length * i.size<=x.size:=fj (jf _ ad) G
  by_cases B:c.length+d.length<=cap
  .have K:(c.length+d.length) * i.size<=x.size:=fj (jf _ B) G
   rw[iT]at K
   have f:=B7 (P:=P) (w:=w) (ty:=ty) (xc:=xc) (n:=c.length) ht hi (show w.heap[g]? =_ from hg) R.1 hn.rd hn.no L B (by grind)
   obtain⟨k1,k2⟩:=KR.world (w:=w) (w':=w.setRow g (x.toList.take (c.length * i.size)++ns++x.toList.drop (c.length * i.size+ns.length)).toArray) (M:=(g::y)++M) (M':=(g::y)++M) rfl rfl rfl (by simp) (cH.other (g:=g) (λb hb=>kY w g b _ hb) (λr=>by rw[show w.heap[g]? =_ from hg];simp)) h
    (λb _ hb=>kY w g b _ (λe=>hb (by simp[e]))) (λb hb=>.inl hb) (by grind)
   have kp:∀b,b≠g->(w.setRow g (x.toList.take (c.length * i.size)++ns++x.toList.drop (c.length * i.size+ns.length)).toArray).heap[b]? =w.heap[b]? :=λb hb=>kY w g b _ hb
   have t1:=TE.ext k2 _ _ _ _ (λb hb=>kp b (λe=>C.1 (e▸hb))) te
   have t2:=TE.ext k2 _ _ _ _ (λb hb=>kp b (λe=>o.1.2.2 g (by simp) b hb e.symm)) hn.te
   refine O _ ((g::y)++M) _ k1 ?_ f;simp only[TC];refine .inr ⟨g,cap,_,e0,i.size,y++M,by grind,rfl,setRow_heap w g x _ e0 _ hg,by grind,cK,?_,by simp_all,?_⟩
   .grind
   grind [iT,TE.append]
  .refine E (some ⟨g,0,none⟩) cap _ y rfl (λj u hj=>⟨_,rfl,?_⟩) (λhc=>by cases hc) te (λb hb=>by simp[hb]) C.2 (by omega)
   rw[fq,World.cell?,show w.heap[g]? =_ from hg]
   grind
theorem Pj{nv dst:Nat}{t ty:TypeId}{s x sv:SV}{f m:Vz}(h:KR A ρ S hd fl k ay w)(an:k.tr=[])(hs:(s,f)∈ay)(hx:(x,m)∈ay)(e:iA P nv dst t s x k=some (sv,k')):
  ∃v w' D S' hd',(Builtin.append_ #[t,t] ty #[f,m]).run P w=.ok v w'/\KR A D S' hd' fl k' ay w'/\SO (am A k'.H.length D S' fl w') k'.get hd' sv v:=by
 simp only[iA,qs,xB]at e
 obtain⟨et,h1,z,hz,⟨j,k1⟩,h2,e⟩:=e
 split at e
 .rename_i hh
  obtain⟨a1,a2,a3⟩:=hh;simp only[xB]at e
  obtain⟨⟨l,k2⟩,h3,e⟩:=e
  split at e
  .rename_i al
   obtain⟨Z,I⟩:=al;simp only[xJ,pJ]at e
   obtain⟨rfl,rfl⟩:=e;have hu:=B6 h1;obtain⟨i,zv,b1,b2,b3,_⟩:=lJ hz;have q:P.cellsOf et=i.size:=by simp[Program.cellsOf,b1]
   have E:P.bytesOf et=i.bytes:=by simp[Program.bytesOf,b1]
   rw[E]at Z
   rw[q]at a1 a2 a3
   have N:zv.cells.size=i.size:=by
    rw[<-yF,VC.len _ _ (mD (c:=am A k.H.length ρ S fl w) b3).1,a3]
   have ad:=h.ay (x,m) hx;rw[an]at ad
   obtain⟨S1,M,xa,xc,ns,g1,g2,g3,g4⟩:=MH h ad h2 a2;have C:=g1.ay (s,f) hs;simp only at C h3
   have aL:∀(sa:U Addr),f=.slice sa 0 0->l=[]->k2=k1->∃v w' D S' hd',(Builtin.append_ #[t,t] ty #[f,m]).run P w=.ok v w'/\KR A D S' hd' fl (k2.new dst 0 (.own (l++j))) ay w'/\
     SO (am A (k2.new dst 0 (.own (l++j))).H.length D S' fl w') (k2.new dst 0 (.own (l++j))).get hd' (.aH (.l dst 0) [] 0 (l++j).length) v:=by
    intro sa q1 q2 q3;subst q2;subst q3;exact rI hu b1 b2 N a1 (N0:=[]) (M:=M) (.inl rfl) (by simpa using g1) (Olds.empty sa rfl q1) (by simpa using g3) Z I
   generalize aM:aU k1.tr s=u at h3 C
   split at h3
   .simp only[xJ,pJ]at h3
    obtain⟨rfl,rfl⟩:=h3;have aY:VC (am A k1.H.length ρ S1 (M++fl) w) .aJ [f]:=VV.inv C (by simp)
    grind [VC]
   .simp only[xJ,pJ]at h3
    obtain⟨rfl,rfl⟩:=h3;obtain⟨_,a,ha⟩:=C
    grind
   .rename_i r p aV y
    split at h3
    .rename_i W
     subst W;simp only[xB]at h3
     obtain⟨t0,hc,nd,V,h3⟩:=h3
     split at h3
     .rename_i es
      split at h3
      .rename_i H
       obtain⟨c1,c2,c3⟩:=H;simp only[xB,xM]at h3
       obtain⟨t1,ac,k3,F,h3⟩:=h3;simp only[pJ]at h3
       obtain⟨rfl,rfl⟩:=h3;obtain⟨aW,aT,h',d1,d2,d3,d4,d5⟩:=C;rw[hc]at d1
       simp only[xJ]at d1
       subst d1;rw[V]at d2
       simp only[xJ,T.own.injEq]at d2
       subst d2;obtain⟨h0,L,Sn,R,hS,df⟩:=TC.focus p t0 (hd r) (S1 r) (.own es) (g1.cont r t0 hc) V;have hh:h0=h':=aI.uniq p t0 (hd r) h0 h' df.node d3;subst hh;obtain⟨f1,f2⟩:=g1.takeOut hc hS df ac F;have B:(k3.tell (.kill r p)).H.length=k1.H.length:=uh (k':=k3) F;have ai:=TC.ext f2 _ _ _ (λ_ _=>rfl) df.tc
       have d:News (am A (k3.tell (.kill r p)).H.length ρ (upd S1 r (L++R)) (Sn++(M++fl)) w) j i.size m xa xc ns M:=by
        rw[B]
        exact⟨g3.hv,TE.ext f2 _ _ _ _ (λ_ _=>rfl) g3.te,g3.rd,g3.no⟩
       obtain⟨a,n,aP,a',G,m1,m2,m3,m4,m5⟩:=d5;obtain⟨q1,q2⟩:=m4 rfl;subst q1
       obtain⟨a0,o,J,aa⟩ |⟨g,aC,av,e0,sz,S',o,J,aa,aQ,ah,ao,aS,Y⟩:=ai
       .subst J;subst aa
        rw[m1]at o
        simp only[xC,Value.slice.injEq,and_true]at o
        obtain⟨rfl,_,rfl⟩:=o;have af:y=0:=by simp at c1;exact c1
        have ag:G=0:=by omega
        subst af;subst ag;exact rI hu b1 b2 N a1 (N0:=[]) (M:=M) (.inl rfl) (by simpa using f1) (Olds.empty a' (by simp) m2) (by simpa using d) Z I
       .subst J
        rw[m1]at o
        simp only[xC,Value.slice.injEq,and_true]at o
        obtain⟨rfl,rfl,rfl⟩:=o;have aq:es≠[]:=λhc=>by grind
        have bP:=TE.nc_eq Y c2 aq;rw[q]at bP
        subst bP;obtain⟨Q,S3,ak,K,aN⟩:=TE.split y es i.size _ S' Y;rw[ak]at f1 d K
        have ax:=f1.bw.ndF
        have X:((g::Q)++(M++fl)).Nodup:=by
         refine List.Nodup.sublist ?_ ax;rw[l6,l6];refine List.Sublist.cons_cons g ?_;rw[xK];exact List.Sublist.append (List.Sublist.refl _) (List.sublist_append_right _ _)
        obtain⟨l1,l2⟩:=f1.letGo (fl':=(g::Q)++(M++fl)) X (λb Z=>by
         grind)
        have ea:(g::Q)++(M++fl)=((g::Q)++M)++fl:=(xK _ _ _).symm;rw[ea]at l1 l2
        have O:(es.take y).length=y:=by simp;omega
        refine rI hu b1 b2 N a1 (N0:=g::Q) (M:=M) (.inr ?_) l1 (Olds.row g G av e0 Q (by rw[O];exact m2) (by grind [am]) (by rw[O];exact m3) (fj q2 ah) (fj (jf _ q2) ao) ?_) ⟨d.hv,TE.ext l2 _ _ _ _ (λ_ _=>rfl) d.te,d.rd,d.no⟩ Z I
        .grind [Q2]
        .rw[O]
         rw[B]at l2 |-
         have ab:y * i.size<=es.length * i.size:=jf _ c1;rw[List.take_take,ry ab]at K
         exact TE.ext l2 _ _ _ _ (λ_ _=>rfl) K
      .cases h3
     .cases h3
    .cases h3
   .cases h3
  .cases e
 .cases e
end
section
variable{P:Pz}{c:Cx}{K:aj->U T}{hd:aj->Vz}{w:Wz}
theorem VV.of_int{k:IntKind}{n:Int}{v:Vz}(h:VV c (.int k n) v):v=.int k n:=by have:=h.inv (by simp);grind [VC]
theorem VV.of_bool{b:Bool}{v:Vz}(h:VV c (.bool b) v):v=.bool b:=by have:=h.inv (by simp);grind [VC]
theorem VV.of_str{s:J UInt8}{v:Vz}(h:VV c (.str s) v):∃b:ByteArray,v=.string b/\b.data.toList=s:=by
 have:=h.inv (by simp)
 simp only[VC,xC,and_true]at this
 exact this
theorem VV.dk(k:IntKind)(n:Int):VV c (.int k n) (.int k n):=VV.one (by simp[VC]) (by simp)
theorem VV.cW(b:Bool):VV c (.bool b) (.bool b):=VV.one (by simp[VC]) (by simp)
theorem VV.mk_str{b:ByteArray}{s:J UInt8}(h:b.data.toList=s):VV c (.str s) (.string b):=VV.one (by grind [VC]) (by simp)
theorem VQ{cst:Bool}{op:BinOp}{t:TypeId}{k k':IntKind}{a b:Int}{d:D}(e:gR P cst op t (.d (.int k a)) (.d (.int k' b))=some d):
  ∃v,(binOp op t (.int k a) (.int k' b)).run P w=.ok v w/\VV c d v:=by
 cases op <;>simp only[gR,QZ,my]at e <;>(repeat' split at e) <;>simp only[xJ,reduceCtorEq]at e <;>subst_vars <;>
  first
  |exact⟨_,by simp[binOp,Op.intArith,Op.intDiv,Op.intBits,Op.intCmp,Op.shift, *],VV.dk _ _⟩
  |exact⟨_,by simp[binOp,Op.intArith,Op.intDiv,Op.intBits,Op.intCmp,Op.shift, *],VV.dk _ _⟩
  |exact⟨_,by simp[binOp,Op.intArith,Op.intDiv,Op.intBits,Op.intCmp,Op.shift, *],VV.cW _⟩
  |exact⟨_,by simp[binOp,Op.intArith,Op.intDiv,Op.intBits,Op.intCmp,Op.shift, *],VV.cW _⟩
theorem x!{cz:Array TypeId}{ty:TypeId}{x y:SV}{v u:Vz}{d:D}(hx:SO c K hd x v)(a:SO c K hd y u)(e:SW x y=some d):∃r,(Builtin.min_ cz ty #[v,u]).run P w=.ok r w/\VV c d r:=by
 unfold SW at e
 split at e
 .rw[VV.of_int hx,VV.of_int a]
  simp only[xJ]at e;subst e
  simp_all [Builtin.min_,Builtin.min2,VV.dk]
 .cases e
theorem y_{cz:Array TypeId}{ty:TypeId}{x y:SV}{v u:Vz}{d:D}(hx:SO c K hd x v)(a:SO c K hd y u)(e:SX x y=some d):∃r,(Builtin.max_ cz ty #[v,u]).run P w=.ok r w/\VV c d r:=by
 unfold SX at e
 split at e
 .rw[VV.of_int hx,VV.of_int a]
  simp only[xJ]at e;subst e
  simp_all [Builtin.max_,Builtin.max2,VV.dk]
 .cases e
theorem VR{op:BinOp}{t:TypeId}{x y:ByteArray}{d:D}(e:Q1 op x.data.toList y.data.toList=some d):∃v,(binOp op t (.string x) (.string y)).run P w=.ok v w/\VV c d v:=by
 cases op <;>simp only[Q1]at e <;>(repeat' split at e) <;>simp only[xJ,reduceCtorEq]at e <;>subst_vars
 .simp_all [binOp,run_string_add_sum,VV.mk_str]
 all_goals simp_all [binOp,Op.stringOp,ByteArray.toList_eq,VV.cW]
theorem aey{op:UnOp}{x:SV}{v:Vz}{d:D}(hx:SO c K hd x v)(e:unE op x=some d):∃u,(Op.unary op v).run P w=.ok u w/\VV c d u:=by
 unfold unE at e
 split at e
 .rw[VV.of_bool hx]
  split at e
  .simp only[xJ]at e;subst e;simp_all [Op.unary,VV.cW]
  .cases e
 .rw[VV.of_int hx]
  split at e
  .simp only[my,xJ]at e;subst e;simp_all [Op.unary,Op.intArith,VV.dk]
  .simp only[my,xJ]at e;subst e;simp_all [Op.unary,Op.intBits,VV.dk]
  .cases e
 .cases e
theorem VS{a dst:TypeId}{x:SV}{v:Vz}{d:D}(hw:c.w=w)(f:¬((∃s,x=.d (.str s))/\∃b,P.underlying dst=some (.slice b)))(hx:SO c K hd x v)(e:F7 P a dst x=some d):∃u,(convert a dst v).run P w=.ok u w/\VV c d u:=by
 unfold F7 at e
 split at e
 .rw[VV.of_int hx]
  split at e
  .simp only[xJ]at e;subst e
   simp_all [convert,run_underlying,Conv.intToInt,VV.dk]
  .cases e
 .cases e
def w8(P:Pz)(w:Wz)(t:TypeId)(ox oy:Oz)(v u:Vz)(b:Bool):Prop:=
 ((do eqGuard .eql t ox oy v u;binOp .eql t v u:Sem Vz).run P w=.ok (.bool b) w)/\((do eqGuard .neq t ox oy v u;binOp .neq t v u:Sem Vz).run P w=.ok (.bool (!b)) w)
theorem lK{t:TypeId}{n:Nat}(h:ja P t=some n):(n=0/\∃k,P.underlying t=some (.int k))\/(n=1/\P.underlying t=some .string)\/(n=2/\P.underlying t=some .bool):=by
 grind [ja]
theorem Gv{t:TypeId}{n:Nat}(h:ja P t=some n):oR P t=some false:=by
 grind [lK,oR]
theorem aez{t:TypeId}{n d0:Nat}{x y:D}{u v:Vz}{b:Bool}(h:ja P t=some n)(hx:VC c x [u])(d:VC c y [v])(e:eqK n x y=some b):(Op.equalIn (d0+1) t u v).run P w=.ok b w:=by
 unfold eqK at e
 split at e
 .split at e <;>simp only[xJ,reduceCtorEq]at e
  subst e;simp only[VC,xC,and_true]at hx d
  subst hx;subst d
  rcases lK h with⟨_,k,a⟩ |⟨f,a⟩ |⟨f,a⟩ <;>first |grind [run_equalIn_int] |cases f
 .grind [VC,lK,run_equalIn_string,ByteArray.toList_eq]
 .grind [VC,lK,run_equalIn_bool']
 .cases e
theorem jE{t:TypeId}{cs:Array Vz}{off:Nat}{v:Vz}(h:oR P t=some false)(hc:cs[off]? =some v):(part t cs off).run P w=.ok v w:=by
 simp_all [part,qx]
theorem rJ{t:TypeId}{cs:Array Vz}{off:Nat}(h:oR P t=some true):(part t cs off).run P w=.ok (.agg (cs.extract off (off+P.cellsOf t))) w:=by
 simp_all [part,qx]
theorem C2{xs k:Array Vz}{d0:Nat}:∀(j:J Field) (i:Nat) (ks:J Nat) (g bs:J D) (b:Bool),t8 P i j=some ks->aR c g (xs.toList.drop i)->aR c bs (k.toList.drop i)->tY ks g bs=some b->
  (Op.eqFields (d0+1) xs k j).run P w=.ok b w
 | [],i,ks,g,bs,b,hk,_,_,e=>by
  simp only[t8,xJ]at hk
  subst hk
  cases g <;>cases bs <;>simp[tY]at e
  simp_all [Op.eqFields]
 |f::j,i,ks,g,bs,b,hk,l,s,e=>by
  simp only[t8]at hk
  split at hk
  .rename_i R
   obtain⟨rfl,t⟩:=R;simp only[xB,xM]at hk
   obtain⟨n,p,A,C,rfl⟩:=hk
   match g,bs,e with
   |a::r,V::q,e=>
    simp only[tY,xB,xM]at e
    obtain⟨x,U,y,E,rfl⟩:=e;simp only[aR]at l s
    obtain⟨v,S,I,T,Q⟩:=l;obtain⟨u,O,L,F,K⟩:=s
    have m:∀(d:Array Vz) (z:Vz) (r:J Vz),d.toList.drop f.offset=z::r->d[f.offset]? =some z/\d.toList.drop (f.offset+1)=r:=λd z r o=>by
     constructor
     .have:(d.toList.drop f.offset)[0]? =some z:=by rw[o];rfl
      rw[jA,kV,yM]at this
      exact this
     .have:(d.toList.drop f.offset).drop 1=r:=by rw[o];rfl
      rwa [oZ]at this
    obtain⟨G,M⟩:=m xs v S I;obtain⟨N,H⟩:=m k u O L;have W:=C2 (d0:=d0) j (f.offset+1) A r q y C (by rw[M];exact Q) (by rw[H];exact K) E
    have B:=aez (w:=w) (d0:=d0) p T F U;have h:=Gv p;simp only[Op.eqFields,ne_eq,t,not_false_eq_true,if_true,Sem.run_bind,jE h G,jE h N,Result.andThen_ok,B];cases x
    .simp
    grind
  .cases hk
theorem wu{t:TypeId}{ks:J Nat}(h:rA P t=some ks):∃a,P.underlying t=some (.struct a)/\P.stoodInHeld t=false/\P.eqGuardType P.depth t=false/\t8 P 0 a.toList=some ks:=by
 grind [rA]
theorem VT{t:TypeId}{ks:J Nat}{d0:Nat}{d bs:J D}{xs a:Array Vz}{b:Bool}(h:rA P t=some ks)(ha:aR c d xs.toList)(hb:aR c bs a.toList)(e:tY ks d bs=some b):
  (Op.equalIn (d0+2) t (.agg xs) (.agg a)).run P w=.ok b w:=by
 obtain⟨i,f,j,_,h4⟩:=wu h;have g:P.fieldsOf t=i:=by simp[Program.fieldsOf,f]
 rw[run_equalIn_struct w (d0+1) t xs a (by rw[g];exact f) j,g]
 exact C2 (d0:=d0) i.toList 0 ks d bs b h4 (by simpa using ha) (by simpa using hb) e
end
def Gw(r:aj)(p:dR):Nat->List D->Wk->Option Wk
 |_,[],k=>some k
 |i,x::b,k=>(k.get r).bind λc=>(c.at p).bind λd=>match d with
  | .own a=>match a[i]? with
   |some (.d y)=>if x.nc=1/\y.nc=1 then(c.put p (.own (a.set i (.d x)))).bind λe=>(k.set r e).bind (Gw r p (i+1) b)else none
   |_=>none
  |_=>none
theorem y?{P:Pz}{w:Wz}{t:TypeId}{nm:String}{g:FuncId}{v:Vz}(h:w6 P t nm=some g)(n:Nat):(method (n+1) t v nm).run P w=.ok (g,v) w:=by
 unfold w6 at h;simp only[xB]at h
 obtain⟨i,b,m,a,h3⟩:=h
 split at h3
 .simp_all [method,typeInfo,follow,receiverAt,run_underlying,Place.get]
 .cases h3
mutual
theorem VC.flat{c c':Cx}:∀(d:D) (cs:List Value),d.flat=true->VC c d cs->VC c' d cs
 |.int _ _,_,_,b|.bool _,_,_,b|.str _,_,_,b=>by simpa [VC]using b
 | .agg l,cs,a,b=>by simp only[VC]at b |-;exact aR.flat l cs (by grind [D.flat]) b
 | .iface t x,cs,a,b=>by
  simp only[VC]at b |-
  obtain⟨v,f,e,h3⟩:=b
  exact⟨v,f,VC.flat x _ (by grind [D.flat]) e,h3⟩
 |.aJ,_,a,_|.sl _ _,_,a,_|.cU,_,a,_|.ptr _,_,a,_|.de,_,a,_|.map _,_,a,_|.cZ,_,a,_|.fn _ _ _,_,a,_|.bX,_,a,_|.bR _,_,a,_|.yld _,_,a,_=>by simp[D.flat]at a
theorem aR.flat{c c':Cx}:∀(l:List D) (cs:List Value),D.flats l=true->aR c l cs->aR c' l cs
 | [],_,_,b=>by grind [aR]
 |d::g,cs,a,b=>by
  simp only[D.flats,xA]at a
  simp only[aR]at b |-
  obtain⟨v,r,f,e,h3⟩:=b
  exact⟨v,r,f,VC.flat d _ a.1 e,aR.flat g _ a.2 h3⟩
end
theorem C3:∀{l:J T} {xs:J D},ud l=some xs->l=xs.map .d/\∀x∈xs,x.flat=true
 | [],xs,e=>by grind [ud]
 |t::r,xs,e=>by
  cases t with
  |d x=>
   simp only[ud]at e
   split at e
   .rename_i b
    simp only[xM]at e
    obtain⟨c,a,rfl⟩:=e
    have:=C3 a;grind
   .cases e
  |_=>simp[ud]at e
def bV(c:Cx):List D->List Value->Prop
 | [],a=>a=[]
 |x::b,a=>∃v r,a=v::r/\VC c x [v]/\bV c b r
theorem bV.len{c:Cx}:∀{xs:J D} {vs:J Vz},bV c xs vs->vs.length=xs.length
 | [],_,h=>by grind [bV]
 |_::_,_,h=>by obtain⟨v,r,rfl,_,h⟩:=h;simp[h.len]
theorem bV.take{c:Cx}:∀{xs:J D} {vs:J Vz} (n:Nat),bV c xs vs->bV c (xs.take n) (vs.take n)
 | [],_,n,h=>by grind [bV]
 |_::_,_,0,h=>by simp[bV]
 |x::xs,_,n+1,h=>by obtain⟨v,r,rfl,b,a⟩:=h;exact⟨v,r.take n,by simp,b,a.take n⟩
theorem bV.dt{c:Cx}:∀{xs:J D} {vs:J Vz},bV c xs vs->∀v∈vs,v.oneCell'=true
 | [],_,h=>by grind [bV]
 |x::xs,_,h=>by
  obtain⟨v,r,rfl,d,b⟩:=h;intro u a
  obtain rfl |q:=List.mem_cons.1 a
  .grind [VC.dt]
  .exact b.dt u q
theorem IX{c:Cx}{b:Nat}:∀{xs:J D} {vs:J Vz} {M:J Nat},b=1->TE c (xs.map .d) b vs M->bV c xs vs/\M=[]
 | [],vs,M,h,a=>by simp only[g9,TE]at a;exact a
 |x::xs,vs,M,h,a=>by
  simp only[eG,TE,TC]at a
  obtain⟨g,e,S1,i,rfl,rfl,h3,⟨h4,h5⟩,h6⟩:=a;subst h;obtain⟨v,rfl⟩:=List.length_eq_one_iff.1 h3;obtain⟨d,f⟩:=IX rfl h6
  exact⟨⟨v,e,rfl,h5,d⟩,by rw[h4,f];rfl⟩
theorem bV.ext{c c':Cx}:∀{xs:J D} {vs:J Vz},(∀x∈xs,x.flat=true)->bV c xs vs->bV c' xs vs
 | [],_,_,h=>h
 |x::xs,_,a,h=>by
  obtain⟨v,r,rfl,d,b⟩:=h
  exact⟨v,r,rfl,VC.flat x _ (a x (by simp)) d,b.ext λy e=>a y (by simp[e])⟩
theorem Td(l:J T)(off:Nat)(d:T):(T.br l).aT off d=(T.br l).setCells off [d]:=by
 unfold T.br
 split <;>rfl
theorem AJ(e c d:T)(off:Nat)(h:off<e.cells.length):(e.setCells off [c]).aT off d=e.setCells off [d]:=by
 show(T.br _).aT off d=T.br _
 rw[Td];show T.br _=T.br _;rw[T.mkAgg_cells];have a:(e.cells.take off).length=off:=by rw[yR];omega
 congr 1;congr 1
 .grind
 grind [List.drop_left]
theorem D1{e c d x:T}{off:Nat}(h:e.cell off=some x)(h2:∀l,c≠ .agg l)(h3:∀l,c≠ .d (.agg l)):(e.aT off c).aT off d=e.aT off d:=by
 have b:=T.bW h
 have a:T.aT c off d=d:=by
  cases c with
  |d z=>cases z <;>first |rfl |grind
  |agg l=>grind
  |_=>rfl
 cases e with
 |agg l=>exact AJ _ _ _ _ (by grind [T.cD])
 |d y=>cases y with
  |agg l=>exact AJ _ _ _ _ (by grind [T.cD])
  |_=>exact a
 |_=>exact a
theorem B9:∀(p:dR) (t nd x y t':T),t.at p=some nd->(p=[]\/x.nc=1/\(∀l,x≠ .agg l)/\∀l,x≠ .d (.agg l))->t.put p x=some t'->t'.at p=some x/\t'.put p y=t.put p y
 | [],t,nd,x,y,t',_,_,g=>by simp only[T.put,xJ]at g;subst g;exact⟨rfl,rfl⟩
 |(i,k)::p,t,nd,x,y,t',h,o,g=>by
  have n:=o.resolve_left (by simp)
  cases t with
  |own v=>
   simp only[T.at,T.put,xB,xM]at h g
   obtain⟨e,j,c,m,h3⟩:=h;obtain⟨w,d,D,f,b,h4,rfl⟩:=g;rw[j]at d
   simp only[xJ]at d
   subst d;rw[m]at f
   simp only[xJ]at f
   subst f;obtain⟨z,s⟩:=B9 p c nd x y b h3 (.inr n) h4;have C:=(List.getElem?_eq_some_iff.1 j).1
   have u:b.nc=1/\(∀l,b≠ .agg l)/\∀l,b≠ .d (.agg l):=by
    cases p with
    |nil=>grind [T.put]
    |cons a q=>
     cases c with
     |own r=>
      obtain⟨A,B⟩:=a;simp only[T.put,xB,xM]at h4
      obtain⟨_,_,_,_,_,_,rfl⟩:=h4
      exact⟨rfl,by simp,by simp⟩
     |_=>grind [T.put]
   simp_all [T.cS,T.at,T.put,D1]
  |_=>simp[T.at]at h
structure Alike(k k':Wk):Prop where
 g:k'.get=k.get
 H:k'.H=k.H
 t:k'.tr=k.tr
theorem KR.alike{A:Av}{ρ:Nat->Nat}{S:aj->J Nat}{hd:aj->Vz}{fl:J Nat}{k k':Wk}{ay:J (SV×Vz)}{w:Wz}(h:KR A ρ S hd fl k ay w)(a:Alike k k'):KR A ρ S hd fl k' ay w:=by
 obtain⟨g,H,t⟩:=a
 exact⟨λr t e=>by rw[H];exact h.cont r t (by rw[<-g];exact e),λr e q=>h.gone r (by rw[<-g];exact e) (by rw[<-H];exact q),h.obj,λn ob e q=>by rw[H];exact h.map n ob (by rw[<-H];exact e) q,h.bw,h.bU,λp c=>by rw[H,g,t];exact h.ay p c,h.fr,h.Fold,by rw[H];exact h.cP⟩
theorem y!{k k':Wk}{r:aj}{c c0:T}(h0:k.get r=some c0)(h:k.set r c=some k'):k'.get r=some c/\∀d e,k'.set r d=some e->∃a,k.set r d=some a/\Alike e a:=by
 have i:=Wk.c9 h ⟨c0,h0,λ_ _=>trivial⟩
 have f:k'.get r=some c:=(i.1 r).trans (if_pos rfl)
 refine⟨f,λd e b=> ?_⟩
 have m:=Wk.c9 b ⟨c,f,λ_ _=>trivial⟩
 have hk:∃a,k.set r d=some a/\a.H=e.H:=by
  cases r with
  |l n j=>
   grind [Wk.set]
  |o n=>
   simp only[Wk.set]at h b |-
   split at h
   .simp only[xJ]at h
    subst h
    split at b
    .simp only[xJ]at b
     subst b
     exact⟨_,rfl,by simp⟩
    .cases b
   .cases h
 obtain⟨a,h3,g⟩:=hk;have s3:=Wk.c9 h3 ⟨c0,h0,λ_ _=>trivial⟩
 refine⟨a,h3,⟨funext λq=> ?_,g,by grind⟩⟩
 grind
theorem VU{es:J T}(h:fW es=true)(hu:dY 1 es=true){i:Nat}(hi:i<es.length):∃y,es[i]? =some (.d y)/\y.nc=1:=by
 have:∀(es:J T) (i:Nat),fW es=true->dY 1 es=true->i<es.length->∃y,es[i]? =some (.d y)/\y.nc=1:=by
  intro es
  induction es with
  |nil=>grind
  |cons e r b=>
   intro i a hu hi
   cases e with
   |d x=>
    simp only[fW]at a
    simp only[dY,kU,xA,beq_iff_eq]at hu
    cases i with
    |zero=>exact⟨x,rfl,hu.1⟩
    |succ i=>simpa using b i a hu.2 (by simpa using hi)
   |_=>simp[fW]at a
 grind
theorem IY:∀{es:J T} {i:Nat} {x:D},fW es=true->fW (es.set i (.d x))=true
 | [],_,_,h=>h
 | .d y::r,0,x,h=>by grind [fW]
 | .d y::r,i+1,x,h=>by simp only[fW]at h;simp only[List.set_cons_succ,fW];exact IY h
 |.own _::_,_,_,h|.agg _::_,_,_,h|.dead::_,_,_,h=>by simp[fW]at h
theorem MJ{es:J T}{i:Nat}{x:D}(h:dY 1 es=true)(hx:x.nc=1):dY 1 (es.set i (.d x))=true:=by
 simp only[dY,iy,beq_iff_eq]at h |-
 intro t a
 obtain q |q:=List.mem_or_eq_of_mem_set a
 .exact h t q
 .subst q;exact hx
theorem z_{es:J T}{i:Nat}{x:T}{r:J T}(hi:i+(r.length+1)<=es.length):(es.set i x).take (i+1)++r++(es.set i x).drop (i+1+r.length)=es.take i++(x::r)++es.drop (i+(r.length+1)):=by
 have c:es.set i x=es.take i++x::es.drop (i+1):=by rw[List.set_eq_take_append_cons_drop,if_pos (by omega)]
 have a:(es.take i).length=i:=by rw[yR];omega
 rw[c]
 have d:(es.take i++x::es.drop (i+1)).take (i+1)=es.take i++[x]:=by
  rw[List.take_append,a,show i+1 - i=1 by omega,gy (by omega)];simp
 have b:(es.take i++x::es.drop (i+1)).drop (i+1+r.length)=es.drop (i+(r.length+1)):=by
  rw[List.drop_append,a,List.drop_of_length_le (by omega),show i+1+r.length - i=r.length+1 by omega,List.drop_succ_cons,oZ]
  simp only[gG]
  congr 1;omega
 rw[d,b]
 simp
theorem MK:∀(p:dR) (t nd x:T),t.at p=some nd->∃t',t.put p x=some t'
 | [],t,nd,x,_=>⟨x,rfl⟩
 |(i,a)::p,t,nd,x,h=>by
  cases t with
  |own d=>
   simp only[T.at,xB]at h
   obtain⟨e,f,c,b,h3⟩:=h
   have:=MK p c nd x h3;grind [T.put]
  |_=>simp[T.at]at h
theorem ML{k:Wk}{r:aj}{p:dR}{c d:T}{es es1:J T}(h0:k.get r=some c)(e:c.at p=some (.own es))(hl:es1.length=es.length)(hp:c.put p (.own es1)=some d):∃k1,k.set r d=some k1:=by
 cases r with
 |l n j=>exact⟨_,rfl⟩
 |o n=>
  have g:∃b,c=.own [b]:=by
   simp only[Wk.get,Go.Am.cont]at h0
   split at h0
   .grind
   .cases h0
  obtain⟨b,rfl⟩:=g
  have f:∃z,d=.own [z]:=by
   cases p with
   |nil=>
    grind [T.at,T.put,yI]
   |cons a q=>
    obtain⟨h,i⟩:=a;simp only[T.put,xB,xM]at hp
    grind
  obtain⟨z,rfl⟩:=f
  exact⟨_,rfl⟩
theorem C4{r:aj}{p:dR}:∀(xs:J D) (off:Nat) (k k':Wk),lH r p off xs k=some k'->∃m,Gw r p off xs k=some m/\Alike m k'
 | [],off,k,k',e=>by
  simp only[lH,if_true,xJ]at e
  subst e
  exact⟨k,rfl,⟨rfl,rfl,rfl⟩⟩
 |x::xs,off,k,k',e=>by
  unfold lH at e;rw[if_neg (by simp)]at e
  simp only[xB]at e
  obtain⟨c,v,R,g,e⟩:=e
  split at e
  .rename_i es
   split at e
   .rename_i K
    obtain⟨I,w,h3,h4⟩:=K;simp only[xZ]at I
    simp only[kU,xA,beq_iff_eq]at h4
    simp only[xB]at e
    obtain⟨E,b,d⟩:=e;obtain⟨y,O,L⟩:=VU h3 w (i:=off) (by omega)
    have a:∃n,c.put p (.own (es.set off (.d x)))=some n:=MK p c _ _ g
    obtain⟨n,a⟩:=a;obtain⟨N,P⟩:=B9 p c (.own es) (.own (es.set off (.d x))) (.own (es.take off++(x::xs).map .d++es.drop (off+(xs.length+1)))) n g (.inr ⟨rfl,by simp,by simp⟩) a
    have q:=B9 p c (.own es) (.own (es.set off (.d x))) (.own (es.take off++(x::xs).map .d++es.drop (off+(xs.length+1)))) n g (.inr ⟨rfl,by simp,by simp⟩) a
    obtain⟨s,f⟩:=ML (es1:=es.set off (.d x)) v g (by simp) a
    obtain⟨B,H⟩:=y! v f
    have C:∃m,Gw r p (off+1) xs s=some m/\Alike m k':=by
     cases xs with
     |nil=>
      refine⟨s,rfl,?_⟩
      have M:es.take off++[T.d x]++es.drop (off+1)=es.set off (.d x):=by rw[List.set_eq_take_append_cons_drop,if_pos (by grind)];simp
      simp only[xZ,yN,fu,eG,g9,M]at b
      rw[a]at b
      simp only[xJ]at b
      subst b;rw[f]at d
      simp only[xJ]at d
      subst d
      exact⟨rfl,rfl,rfl⟩
     |cons z h=>
      have A:n.put p (.own ((es.set off (.d x)).take (off+1)++(z::h).map .d++(es.set off (.d x)).drop (off+1+(z::h).length)))=some E:=by
       have:=z_ (es:=es) (i:=off) (x:=.d x) (r:=(z::h).map T.d) (by grind)
       rw[l7]at this
       rw[this,<-eG,q.2]
       simpa using b
      obtain⟨u,o⟩:=ML (es1:=(es.set off (.d x)).take (off+1)++(z::h).map .d++(es.set off (.d x)).drop (off+1+(z::h).length)) B q.1 (by grind) A
      obtain⟨Q,j,l⟩:=H E u o;rw[d]at j
      simp only[xJ]at j
      subst j
      have F:lH r p (off+1) (z::h) s=some u:=by
       unfold lH;rw[if_neg (by simp),B,xS,q.1,xS]
       simp only
       rw[if_pos ⟨by grind,MJ w h4.1,IY h3,by simpa using h4.2⟩,A]
       exact o
      obtain⟨m,G,t⟩:=C4 (z::h) (off+1) s u F
      exact⟨m,G,⟨l.g.trans t.g,l.H.trans t.H,l.t.trans t.t⟩⟩
    grind [Gw]
   .cases e
  .cases e
section
variable{P:Pz}{A:Av}{ρ:Nat->Nat}{S:aj->J Nat}{hd:aj->Vz}{fl:J Nat}{k k':Wk}{ay:J (SV×Vz)}{w:Wz}
theorem Pk{v:SV}{a:J T}(e:qu v k=some a):∃nv,gc nv v k=some (a,k):=by
 unfold qu at e
 split at e
 .rename_i r p c b
  simp only[xM]at e
  grind [gc,xB,aj.past]
 .simp_all [gc]
 .simp_all [gc]
 .simp_all [gc]
 .simp_all [gc]
 .cases e
theorem z?(h:KR A ρ S hd fl k ay w)(X:k.tr=[]){r:aj}{p:dR}{off len i o g dl dc:Nat}{c:T}{es:J T}{x y:D}{c':T}{u:Vz}{a:Array Vz}{ty:TypeId}{av:Vz}
  (ha:(.aH r p off len,av)∈ay) (P:av=.slice (some ⟨g,o,none⟩) dl dc) (hi:off<=i) (ab:i<off+len) (hc:k.get r=some c) (d:c.at p=some (.own es)) (F:es[i]? =some (.d y)) (ak:x.nc=1) (e:y.nc=1) (ag:x.flat=true) (hu:VC (am A k.H.length ρ S fl w) x [u])
  (z:c.put p (.own (es.set i (.d x)))=some c') (C:k.set r c'=some k') (hg:w.heap[g]? =some (.cells a ty (0,0))):
  o=off/\i<a.size/\∃S',KR A ρ S' hd fl k' ay (w.setRow g (a.toList.take i++[u]++a.toList.drop (i+1)).toArray)/\k'.H.length=k.H.length/\k'.tr=[]:=by
 have m:=h.ay _ ha;rw[X]at m
 simp only[aU]at m
 obtain⟨t,O,h',I,N,q3,q4,q5⟩:=m;rw[hc]at I
 simp only[xJ]at I
 subst I;rw[d]at N
 simp only[xJ,T.own.injEq]at N
 subst N;obtain⟨b,n,U,a',Y,m1,Q,m3,m4,m5⟩:=q5;obtain⟨W,s,n1,E,n3⟩:=m5 (by omega)
 subst n1;subst m1;have v:SB (am A k.H.length ρ S fl w) k.get hd (.loc r p i 0) (.pointer (some ⟨W,i * (T.d y).nc+0,none⟩)):=⟨c,es,W,n,U,.d y,hc,d,q3,F,by simp[T.nc,e],rfl⟩
 obtain⟨t1,O,ah,g1,aa,j,af,sz,Z,L,Sn,R,L1,Se,R1,V,G,f⟩:=Gn (λt=>h.cont r t) v
 rw[hc]at V
 simp only[xJ]at V
 subst V;rw[d]at G
 simp only[xJ,T.own.injEq]at G
 subst G;have l:=f.hel;rw[F]at l
 simp only[xJ]at l
 subst l;have bP:sz=1:=by rw[<-f.hnc];exact e
 subst bP;have hv:=f.hv;simp only[T.nc,e,Nat.mul_one,kV,Value.pointer.injEq,xJ,Addr.mk.injEq,and_true]at hv
 subst hv
 have H:s.nc=1:=by
  obtain q |q:=gk off i
  .refine(TE.len _ _ _ _ f.hL1).2 s (yS (i:=off) ?_)
   rw[xU,if_pos q];exact E
  .have:off=i:=by omega
   subst this;rw[F]at E
   simp only[xJ]at E
   subst E;exact e
 have K:g=W/\o=off:=by
  rw[P,n3]at Q
  simp only[Value.slice.injEq,xJ,Addr.mk.injEq,H,Nat.mul_one,and_true]at Q
  exact Q.1
 obtain⟨rfl,rfl⟩:=K;have ai:[u].length=1:=rfl
 obtain⟨S',w1,w2⟩:=KR.write (M:=[]) (vs:=[u]) (off:=0) (el':=.d x) h hc d f (by simp) (by grind [T.nc]) z C (La:=[]) (Mb:=Se) (Rc:=[]) (by simp) (λc' hx ad=>by
  have e0:Z.take 0++[u]++Z.drop (0+[u].length)=[u]:=by
   rw[List.drop_of_length_le (by rw[f.hc1];simp)];simp
  grind [TC,VC.flat])
 simp only[tB,xH,if_false,Nat.mul_one,kV,List.length_singleton]at w1
 have B:j=a:=by
  have:=f.hg
  simp only[am]at this
  rw[hg]at this
  simp only[xJ,Obj.cells.injEq]at this
  exact this.1.symm
 subst B
 have ac:i<j.size:=by
  have h1:=(List.getElem?_eq_some_iff.1 F).1;have h2:=f.hle;have h3:=f.hcur;omega
 grind [Wk.c9]
theorem z!{a:Array Vz}{i:Nat}{u:Vz}(h:i<a.size):(a.toList.take i++[u]++a.toList.drop (i+1)).toArray=a.setIfInBounds i u:=by
 grind
theorem Q9{r:aj}{p:dR}{off len o g T X:Nat}{ty:TypeId}{av:Vz}(ha:(.aH r p off len,av)∈ay)(j:av=.slice (some ⟨g,o,none⟩) T X):
  ∀(xs:J D) (vs:J Vz) (i:Nat) (k:Wk) (S:aj->J Nat) (w:Wz) (d:Array Vz),KR A ρ S hd fl k ay w->k.tr=[]->off<=i->i+xs.length<=off+len->(∀x∈xs,x.flat=true)->bV (am A k.H.length ρ S fl w) xs vs->Gw r p i xs k=some k'->w.heap[g]? =some (.cells d ty (0,0))->
   (xs≠[]->o=off/\i+xs.length<=d.size)/\∃S',KR A ρ S' hd fl k' ay (w.setRow g (d.toList.take i++vs++d.toList.drop (i+vs.length)).toArray)/\k'.H.length=k.H.length/\k'.tr=[]
 | [],vs,i,k,S,w,d,h,f,L,O,v,t,e,F=>by
  simp only[bV]at t
  subst t;simp only[Gw,xJ]at e
  subst e
  refine⟨λq=>absurd rfl q,S,?_,rfl,f⟩
  simp only[gj,yN,kV,yP,Array.toArray_toList]
  grind [setRow_self]
 |x::xs,vs,i,k,S,w,d,h,f,L,O,v,t,e,F=>by
  obtain⟨u,l,rfl,U,K⟩:=t;simp only[xZ]at O
  simp only[Gw,xB]at e
  obtain⟨c,P,nd,z,e⟩:=e
  split at e
  .rename_i Z
   split at e
   .rename_i y V
    split at e
    .rename_i N
     simp only[xB]at e
     obtain⟨c',n,W,m,e⟩:=e;obtain⟨rfl,C,S1,I,Q,E⟩:=z? h f ha j L (by omega) P z V N.1 N.2 (v x (by simp)) U n m F
     rw[z! C]at I
     obtain⟨q0,Y,R,B,G⟩:=Q9 ha j xs l (i+1) W S1 _ (d.setIfInBounds i u) I E (by omega) (by omega) (λx H=>v x (by simp[H])) (K.ext λx H=>v x (by simp[H])) e (setRow_heap w g d _ ty _ F)
     have s:i+(xs.length+1)<=d.size:=by
      cases xs with
      |nil=>grind
      |cons a b=>grind
     refine⟨λ_=>⟨rfl,by simpa using s⟩,Y,?_,B.trans Q,G⟩
     rw[setRow_setRow]at R
     have M:=K.len
     grind [list_seg_step]
    .cases e
   .cases e
  .cases e
theorem A_(h:KR A ρ S hd fl k ay w){r:aj}{p:dR}{off len:Nat}{v:Vz}(hv:SB (am A k.H.length ρ S fl w) k.get hd (.aH r p off len) v):
  ∃(es:J T) (f:U Addr) (c:Nat),off+len<=es.length/\v=.slice f len c/\(0<len->∃g o d ty,f=some ⟨g,o,none⟩/\w.heap[g]? =some (.cells d ty (0,0))):=by
 obtain⟨t,es,F,l,s,q3,q4,q5⟩:=hv;obtain⟨b,n,E,f,c,C,z,W,M,y⟩:=q5
 refine⟨es,f,c,q4,z,λG=> ?_⟩
 obtain⟨H,q,m,K,D⟩:=y G;obtain⟨B,L,O,R,Q,j⟩:=TC.focus p t (hd r) (S r) (.own es) (h.cont r t l) s;have x:B=F:=aI.uniq p t (hd r) _ _ j.node q3;subst x
 obtain⟨a,_,I,_⟩ |⟨N,P,d,e,V,S',i,I,u,X⟩:=j.tc
 .grind
 .rw[C,m]at i
  simp only[xC,Value.slice.injEq,xJ,Addr.mk.injEq,and_true]at i
  obtain⟨rfl,_⟩:=i
  exact⟨H,_,d,e,D,u⟩
theorem VW{t u ty:TypeId}{a b sv:SV}{f d:Vz}(h:KR A ρ S hd fl k ay w)(q:k.tr=[])(ha:(a,f)∈ay)(hb:(b,d)∈ay)(e:nZ P t a b k=some (sv,k')):
  ∃v w' S',(Builtin.copy_ #[t,u] ty #[f,d]).run P w=.ok v w'/\KR A ρ S' hd fl k' ay w'/\k'.H.length=k.H.length/\k'.tr=[]/\∀c K,SO c K hd sv v:=by
 unfold nZ at e
 split at e
 .rename_i r p I i
  simp only[xB]at e
  obtain⟨X,h1,ai,h2,z,h3,e⟩:=e
  split at e
  .rename_i h4
   simp only[xM,pJ]at e
   obtain⟨k1,e,rfl,rfl⟩:=e;obtain⟨nv,h5⟩:=Pk h2;obtain⟨rfl,ac⟩:=C3 h3;have C:=h.ay (b,d) hb;rw[q]at C
   simp only[aU]at C
   obtain⟨S1,M,xa,xc,R,O,g2,Q,g4⟩:=MH h C h5 h4.2;obtain⟨N,rfl⟩:=IX rfl Q.te;have D:=O.ay (.aH r p I i,f) ha;rw[q]at D
   simp only[aU]at D
   have ab:(P.info? X).map (·.size)=some 1:=by
    have:=h4.1
    unfold Program.cellsOf at this
    cases hq:P.info? X with
    |none=>grind
    |some al=>grind
   have hu:=B6 h1;have L:=Q.hv;have aa:R.length=z.length:=N.len;have af:(z.map T.d).length=z.length:=by simp
   rw[af]at L
   obtain⟨es,a',F,ak,H,E⟩:=A_ O D;obtain⟨n,s⟩:∃n,n=Nat.min z.length i:=⟨_,rfl⟩
   have ao:n<=z.length:=s▸Nat.min_le_left _ _;have aq:n<=i:=s▸Nat.min_le_right _ _
   have l:∀{c:Cx} {K:aj->U T} {m:Nat},SO c K hd (.d (.int .i64 (m:Int))) (goInt m):=λ{c K m}=>by
    show VV _ _ _;exact VV.dk _ _
   rw[<-s]at e |-
   by_cases hn:n=0
   .rw[hn]at e
    simp only[jB,lH,if_true,xJ]at e
    subst e
    refine⟨goInt 0,w,S1,?_,by simpa using O,rfl,q,λc K=> ?_⟩
    .grind [run_copy_none]
    grind
   .obtain⟨k2,e,B⟩:=C4 _ _ _ _ e
    obtain⟨g,o,G,tt,rfl,hg⟩:=E (by omega)
    have y:=N.take (n);have ag:(z.take (n)).length=n:=by rw[yR];omega
    obtain⟨q0,S2,w2,hH,Y⟩:=Q9 ha H (z.take (n)) (R.take (n)) I k S1 w G (by simpa using O) q (dC _) (by rw[ag];omega) (λx hx=>ac x (List.mem_of_mem_take hx)) (by simpa using y) e hg
    obtain⟨rfl,ah⟩:=q0 (λhc=>by grind)
    have W:(R.take (n)).length=n:=by rw[yR,aa];omega
    refine⟨goInt (n),_,S2,?_,w2.alike B,by rw[B.H];exact hH,by rw[B.t];exact Y,λc K=>l⟩
    rw[H,L]
    have Z:∃J,xa=some J:=by
     cases xa with
     |some J=>exact⟨J,rfl⟩
     |none=>have:=Q.no rfl;grind
    obtain⟨J,rfl⟩:=Z
    have:=run_copy_row (P:=P) w t u ty X g o i F J z.length xc G tt (R.take (n)) hu ab hg (by rw[W];exact s) (λj v V=>by
     rw[xU]at V
     split at V
     .obtain⟨an,z1,z2⟩:=Q.rd j v V
      simp only[xJ]at z1
      subst z1;exact z2
     .cases V) (by grind) y.dt
    grind
  .cases e
 .cases e
end
section
variable{P:Pz}{c:Cx}{K:aj->U T}{hd:aj->Vz}{w:Wz}
section
variable(d:Nat)(t:TypeId){b:Bool}
theorem Gx{e:TypeId}(hu:P.underlying t=some (.slice e))(a:U Addr)(l k:Nat):(Op.equalIn (d+1) t (.slice a l k) (.slice none 0 0)).run P w=.ok a.isNone w/\(Op.equalIn (d+1) t (.slice none 0 0) (.slice a l k)).run P w=.ok a.isNone w:=by
 constructor <;>cases a <;>simp[Op.equalIn,run_underlying hu]
theorem AK{e:TypeId}(hu:P.underlying t=some (.pointer e))(a:U Addr):(Op.equalIn (d+1) t (.pointer a) (.pointer none)).run P w=.ok a.isNone w/\(Op.equalIn (d+1) t (.pointer none) (.pointer a)).run P w=.ok a.isNone w:=by
 constructor <;>cases a <;>simp[Op.equalIn,run_underlying hu]
theorem MM{x y:TypeId}(hu:P.underlying t=some (.map x y))(a:U Nat):(Op.equalIn (d+1) t (.map a) (.map none)).run P w=.ok a.isNone w/\(Op.equalIn (d+1) t (.map none) (.map a)).run P w=.ok a.isNone w:=by
 constructor <;>cases a <;>simp[Op.equalIn,run_underlying hu]
theorem wv{x y:Array TypeId}{z:Bool}(hu:P.underlying t=some (.func x y z))(f:Fn)(a c:Array Vz):(Op.equalIn (d+1) t (.func f a c) .nilFunc).run P w=.ok false w/\(Op.equalIn (d+1) t .nilFunc (.func f a c)).run P w=.ok false w/\(Op.equalIn (d+1) t .nilFunc .nilFunc).run P w=.ok true w:=by
 refine⟨?_,?_,?_⟩ <;>simp[Op.equalIn,run_underlying hu]
theorem rK{x:Array (String×TypeId)}(hu:P.underlying t=some (.interface x))(f:TypeId)(v:Vz):(Op.equalIn (d+1) t (.iface f v) .nilIface).run P w=.ok false w/\(Op.equalIn (d+1) t .nilIface (.iface f v)).run P w=.ok false w/\(Op.equalIn (d+1) t .nilIface .nilIface).run P w=.ok true w:=by
 refine⟨?_,?_,?_⟩ <;>simp[Op.equalIn,run_underlying hu]
end
theorem Ca{cst b:Bool}{t:TypeId}{n:D}{x:SV}{ox oy:Oz}{v nv:Vz}(hn:VV c n nv)(hx:SO c K hd x v)(hc:cst=true->isConst ox=true\/isConst oy=true)(e:ua P cst t n x=some b):
  w8 P w t ox oy v nv b/\w8 P w t ox oy nv v b:=by
 have d:∀v u,(∀j,eqGuard j t ox oy v u=pure ())->(∀z a,¬(v=.int z a))->(∀z a,¬(u=.int z a))->(Op.equal t v u).run P w=.ok b w->(binOp .eql t v u=do pure (.bool (<-Op.equal t v u)))->(binOp .neq t v u=do pure (.bool (!(<-Op.equal t v u))))->w8 P w t ox oy v u b:=by
  intro v u s _ _ y h3 h4
  refine⟨?_,?_⟩
  .simp[s,h3,y]
  .simp[s,h4,y]
 unfold ua at e
 split at e
 ·-- slices
  have f:nv=.slice none 0 0:=by have:=hn.inv (by simp);simpa [VC]using this
  subst f
  split at e
  .rename_i r i
   have p:∀a l k,(b=a.isNone)->w8 P w t ox oy (.slice a l k) (.slice none 0 0) b/\w8 P w t ox oy (.slice none 0 0) (.slice a l k) b:=λa l k m=>by
    subst m;constructor
    .exact d _ _ (λj=>eqGuard_at_slice ..) (by simp) (by simp) (Gx 9999 t i ..).1 rfl rfl
    .exact d _ _ (λj=>eqGuard_at_slice ..) (by simp) (by simp) (Gx 9999 t i ..).2 rfl rfl
   split at e <;>simp only[xJ,reduceCtorEq]at e <;>subst e
   .have:=VV.inv hx (by simp);grind [VC]
   .have:=VV.inv hx (by simp)
    grind [VC]
   .obtain⟨s,a,rfl⟩:=hx
    grind [VC]
   .obtain⟨a,q,rfl,m⟩:=hx
    grind
   .obtain⟨t0,E,M,I,N,b3,b4,b5⟩:=hx
    obtain⟨a,n,q,Q,A,L,G,J,O,F⟩:=b5
    grind
  .cases e
 .have f:nv=.pointer none:=by have:=hn.inv (by simp);simpa [VC]using this
  subst f
  split at e
  .rename_i r i
   have p:∀a,(b=a.isNone)->w8 P w t ox oy (.pointer a) (.pointer none) b/\w8 P w t ox oy (.pointer none) (.pointer a) b:=λa m=>by
    subst m;constructor
    .exact d _ _ (λj=>eqGuard_at_pointer ..) (by simp) (by simp) (AK 9999 t i ..).1 rfl rfl
    .exact d _ _ (λj=>eqGuard_at_pointer ..) (by simp) (by simp) (AK 9999 t i ..).2 rfl rfl
   split at e <;>simp only[xJ,reduceCtorEq]at e <;>subst e
   .have:=VV.inv hx (by simp);grind [VC]
   .have:=VV.inv hx (by simp);grind [VC]
   .have:=VV.inv hx (by simp);grind [VC]
   .obtain⟨t0,E,g,n,q,C,s,y,h3,h4,h5,rfl⟩:=hx;grind
   .obtain⟨a,S,rfl,_⟩:=hx;grind
  .cases e
 .have f:nv=.map none:=by have:=hn.inv (by simp);simpa [VC]using this
  subst f
  split at e
  .rename_i r i
   have p:∀a,(b=a.isNone)->w8 P w t ox oy (.map a) (.map none) b/\w8 P w t ox oy (.map none) (.map a) b:=λa m=>by
    subst m;constructor
    .exact d _ _ (λj=>eqGuard_at_map ..) (by simp) (by simp) (MM 9999 t i ..).1 rfl rfl
    .exact d _ _ (λj=>eqGuard_at_map ..) (by simp) (by simp) (MM 9999 t i ..).2 rfl rfl
   split at e <;>simp only[xJ,reduceCtorEq]at e <;>subst e
   .have:=VV.inv hx (by simp);grind [VC]
   .have:=VV.inv hx (by simp);grind [VC]
  .cases e
 .have f:nv=.nilFunc:=by have:=hn.inv (by simp);simpa [VC]using this
  subst f
  split at e
  .rename_i r i i
   split at e <;>simp only[xJ,reduceCtorEq]at e <;>subst e
   .have:=VV.inv hx (by simp);simp only[VC,xC,and_true]at this;subst this
    constructor
    .exact d _ _ (λj=>eqGuard_at_nilFunc ..) (by simp) (by simp) (wv 9999 t i (.func 0) #[] #[]).2.2 rfl rfl
    .exact d _ _ (λj=>eqGuard_at_nilFunc ..) (by simp) (by simp) (wv 9999 t i (.func 0) #[] #[]).2.2 rfl rfl
   .have:=VV.inv hx (by simp);simp only[VC,xC,and_true]at this
    obtain⟨H,R,rfl,_⟩:=this;constructor
    .exact d _ _ (λj=>eqGuard_at_func ..) (by simp) (by simp) (wv 9999 t i ..).1 rfl rfl
    .exact d _ _ (λj=>eqGuard_at_nilFunc ..) (by simp) (by simp) (wv 9999 t i ..).2.1 rfl rfl
  .cases e
 .have f:nv=.nilIface:=by have:=hn.inv (by simp);simpa [VC]using this
  subst f
  split at e
  .rename_i r i
   split at e
   .have:=VV.inv hx (by simp);simp only[VC,xC,and_true]at this;subst this
    split at e
    .rename_i o
     simp only[xJ]at e;subst e
     have B:∀j,eqGuard j t ox oy .nilIface .nilIface=pure ():=λj=>by
      obtain h |h:=hc o
      .cases ox with
       |const x=>exact eqGuard_nil_constL ..
       |_=>simp[isConst]at h
      .cases oy with
       |const x=>exact eqGuard_nil_constR ..
       |_=>simp[isConst]at h
     constructor
     .exact d _ _ B (by simp) (by simp) (rK 9999 t i 0 .nilIface).2.2 rfl rfl
     .exact d _ _ B (by simp) (by simp) (rK 9999 t i 0 .nilIface).2.2 rfl rfl
    .cases e
   .simp only[xJ]at e;subst e
    have:=VV.inv hx (by simp);simp only[VC,xC,and_true]at this
    obtain⟨v,rfl,_⟩:=this;constructor
    .exact d _ _ (λj=>eqGuard_at_iface ..) (by simp) (by simp) (rK 9999 t i ..).1 rfl rfl
    .exact d _ _ (λj=>eqGuard_nil_iface ..) (by simp) (by simp) (rK 9999 t i ..).2.1 rfl rfl
   .cases e
  .cases e
 .cases e
theorem VX{cst b:Bool}{t:TypeId}{x y:SV}{ox oy:Oz}{v u:Vz}(hx:SO c K hd x v)(a:SO c K hd y u)(hc:cst=true->isConst ox=true\/isConst oy=true)(e:eqV P cst t x y=some b):w8 P w t ox oy v u b:=by
 unfold eqV at e
 split at e
 .split at e
  .rename_i h
   simp only[xJ]at e;subst e
   rw[VV.of_bool hx,VV.of_bool a]
   refine⟨?_,?_⟩ <;>simp[eqGuard_at_bool,binOp,Op.equal,Op.maxDepth,run_equalIn_bool' w _ _ _ _ h]
  .cases e
 .simp only[xB]at e
  obtain⟨l,d,e⟩:=e;obtain⟨j,rfl,f⟩:=VV.cG hx;obtain⟨k,rfl,g⟩:=VV.cG a;obtain⟨_,_,_,i,_⟩:=wu d
  have:=VT (w:=w) (d0:=9998) d f g e
  refine⟨?_,?_⟩
  .simp_all [run_eqGuard_agg,run_eql_struct]
  simp_all [run_eqGuard_agg,run_neq_struct]
 .split at e
  .rename_i d
   simp only[xJ]at e;subst e
   exact(Ca a hx hc d).1
  .split at e
   .exact(Ca hx a hc e).2
   .cases e
 .exact(Ca hx a hc e).2
 .cases e
theorem A?{cst:Bool}{op:BinOp}{t:TypeId}{x y:SV}{ox oy:Oz}{v u:Vz}{d:D}(hx:SO c K hd x v)(f:SO c K hd y u)(hc:cst=true->isConst ox=true\/isConst oy=true)(e:gR P cst op t x y=some d):
  ∃r,(do eqGuard op t ox oy v u;binOp op t v u:Sem Vz).run P w=.ok r w/\VV c d r:=by
 unfold gR at e
 split at e
 .rw[VV.of_int hx,VV.of_int f,eqGuard_at_int]
  obtain⟨r,i,g⟩:=VQ (P:=P) (c:=c) (w:=w) (cst:=cst) (op:=op) (t:=t) (d:=d) (by unfold gR;exact e)
  grind
 .obtain⟨a,rfl,rfl⟩:=VV.of_str hx
  obtain⟨h,rfl,rfl⟩:=VV.of_str f
  simp_all [eqGuard_at_string,VR]
 .split at e
  .simp only[xM]at e
   obtain⟨b,e,rfl⟩:=e
   exact⟨_,(VX hx f hc e).1,VV.cW _⟩
  .simp only[xM]at e
   obtain⟨b,e,rfl⟩:=e
   exact⟨_,(VX hx f hc e).2,VV.cW _⟩
  .cases e
end
theorem Gy{P:Pz}{t:TypeId}{f o n:Nat}{b:Bool}(h:dz P t f=some (o,n,b)):∃(a:Array Field) (x:Field),P.underlying t=some (.struct a)/\a[f]? =some x/\o=x.offset/\n=P.cellsOf x.type/\oR P x.type=some b:=by
 grind [dz,xM]
theorem Em(a:Addr)(m n:Nat)(h:a.spot=none):(a.add m).add n=a.add (m+n):=by
 obtain⟨b,o,s⟩:=a
 grind [fq]
theorem Gz(a:Addr)(m:Nat)(h:a.spot=none):(a.add m).spot=none:=by
 obtain⟨b,o,s⟩:=a
 grind [fq]
theorem VC.cells{c:Cx}{x:D}{cs:J Vz}(h:VC c x cs):aR c x.cells cs:=by
 have a:=VC.len _ _ h
 cases x with
 |agg l=>grind [VC,D.cells]
 |_=>
  simp only[D.nc]at a
  match cs,a with
  | [v],_=>grind [D.cells,aR]
theorem aR.drop{c:Cx}:∀(n:Nat) (l:J D) (cs:J Vz),aR c l cs->aR c (l.drop n) (cs.drop n)
 |0,_,_,h=>by simpa using h
 |n+1,[],_,h=>by grind [aR]
 |n+1,d::a,_,h=>by
  simp only[aR]at h
  obtain⟨v,r,rfl,_,h3⟩:=h
  simpa using aR.drop n a r h3
section
variable{P:Pz}{A:Av}{ρ:Nat->Nat}{S:aj->J Nat}{hd:aj->Vz}{fl:J Nat}{k k':Wk}{ay:J (SV×Vz)}{w:Wz}
theorem SB.rp_drop{c:Cx}{K:aj->U T}{b:Bool}{cs:J D}{a:Addr}(h:SB c K hd (.rp b cs) (.pointer (some a)))(n:Nat):SB c K hd (.rp b (cs.drop n)) (.pointer (some (a.add n))):=by
 obtain⟨g,f,d,e,h3,h4,h5⟩:=h;simp only[Value.pointer.injEq,xJ]at d
 subst d
 refine⟨_,f.drop n,rfl,Gz a n e,by grind [kF],λj u i=> ?_,aR.drop n _ _ h5⟩
 grind [Em]
theorem C5(h:KR A ρ S hd fl k ay w){r:aj}{p:dR}{i off b:Nat}{v:Vz}(hv:SB (am A k.H.length ρ S fl w) k.get hd (.loc r p i off) v)(hl:o5 k r p i b=true)(j:off<=b):
  ∃a:Addr,v=.pointer (some a)/\a.spot=none/\SB (am A k.H.length ρ S fl w) k.get hd (.loc r p i b) (.pointer (some (a.add (b - off)))):=by
 obtain⟨t,l,g,n,c,f,e,d,h3,h4,h5,rfl⟩:=hv;simp only[o5,e,xS,d,h4,yD]at hl
 refine⟨_,rfl,rfl,t,l,g,n,c,f,e,d,h3,h4,hl,?_⟩
 grind [fq]
theorem IZ{r:aj}{p:dR}{i off:Nat}(hl:o5 k r p i off=true):∃t,k.get r=some t:=by
 unfold o5 at hl
 cases h:k.get r with
 |none=>simp[h]at hl
 |some t=>exact⟨t,rfl⟩
theorem It(h:KR A ρ S hd fl k ay w){t:TypeId}{f:Nat}{u sv:SV}{v:Vz}(hu:SO (am A k.H.length ρ S fl w) k.get hd u v)(e:eL P t u f k=some sv):
  ∃x,(Instr.fieldAt t v f).run P w=.ok x w/\SO (am A k.H.length ρ S fl w) k.get hd sv x:=by
 simp only[eL,xB]at e
 obtain⟨⟨o,n,B⟩,m,e⟩:=e;obtain⟨z,x,y,h3,h4,h5,h6⟩:=Gy m;simp only at e
 split at e
 .rename_i s
  have c:∀a:Addr,(Instr.fieldAt t (.pointer (some a)) f).run P w=.ok (.pointer (some (a.add o))) w:=λa=>by
   have:P.cellsOf x.type≠0:=by omega
   simp_all [Instr.fieldAt,run_underlying,Instr.sureAddr,fieldPlace,qx]
  split at e
  .rename_i r p i l g
   split at e
   .rename_i hk
    simp only[xJ]at e;subst e
    obtain⟨t0,d⟩:=IZ hk;obtain⟨a,rfl,_,j⟩:=C5 h (AG h hu g d) hk (ru _ _);rw[ri]at j
    exact⟨_,c a,j⟩
   .cases e
  .rename_i b q g
   simp only[xJ]at e;subst e
   replace hu:=Gq g hu
   obtain⟨a,C,rfl,_⟩:=id hu
   exact⟨_,c a,SB.rp_drop (K:=k.get) (hd:=hd) hu o⟩
  .cases e
 .cases e
theorem o6{e:TypeId}(h:(P.info? e).isSome=true):(sizeOf e).run P w=.ok (P.cellsOf e) w:=by
 cases a:P.info? e with
 |none=>simp[a]at h
 |some i=>simp[sizeOf,typeInfo,a,Program.cellsOf]
theorem ui{e:TypeId}(h:0<P.cellsOf e):(P.info? e).isSome=true:=by
 cases a:P.info? e with
 |none=>grind [Program.cellsOf]
 |some i=>rfl
theorem uj{t e:TypeId}{a:Addr}{len cap:Nat}{q:IntKind}{n:Int}(hu:P.underlying t=some (.slice e))(h0:0<=n)(hn:n<len)(hi:(P.info? e).isSome=true):
  (Instr.indexAt t (.slice (some a) len cap) (.int q n)).run P w=.ok (.pointer (some (a.add (n.toNat * P.cellsOf e)))) w:=by
 simp[Instr.indexAt,asIntOf,run_underlying hu,h0,hn,o6 hi]
theorem tF{t e:TypeId}{a:Addr}{len:Nat}{q:IntKind}{n:Int}(hu:P.underlying t=some (.array len e))(h0:0<=n)(hn:n<len)(hi:(P.info? e).isSome=true):
  (Instr.indexAt t (.pointer (some a)) (.int q n)).run P w=.ok (.pointer (some (a.add (n.toNat * P.cellsOf e)))) w:=by
 simp[Instr.indexAt,asIntOf,run_underlying hu,h0,hn,o6 hi,Instr.sureAddr]
theorem A!{c:Cx}{K:aj->U T}{b:Bool}{l:J D}{v:Vz}(h:VC c (.sl b l) [v]){n:Nat}{y:D}(g:l[n]? =some y):
  ∃d len cap,v=.slice (some d) len cap/\len=l.length/\0<y.nc/\SB c K hd (.rp b y.cells) (.pointer (some (d.add (n * y.nc)))):=by
 simp only[VC,xC,and_true]at h
 obtain⟨a,len,cap,rfl,f,h3,h4⟩:=h;obtain⟨d,k,rfl,h6,h7,h8,h9⟩:=h4 (by grind)
 obtain⟨m,e,p,i⟩:=VE.get l d 0 k h9 n y g
 refine⟨d,len,cap,rfl,f,by omega,_,e,rfl,Gz _ _ h6,by grind [kF],λj u o=> ?_,VC.cells i⟩
 grind [Em]
theorem Iu(h:KR A ρ S hd fl k ay w){t:TypeId}{u i sv:SV}{v V:Vz}(hu:SO (am A k.H.length ρ S fl w) k.get hd u v)(hi:SO (am A k.H.length ρ S fl w) k.get hd i V)(e:gU P t u i k=some sv):
  ∃x,(Instr.indexAt t v V).run P w=.ok x w/\SO (am A k.H.length ρ S fl w) k.get hd sv x:=by
 unfold gU at e
 split at e
 .rename_i q n
  rw[VV.of_int hi]
  split at e
  .rename_i U d
   -- an element of c data
   have c:∀b l,VC (am A k.H.length ρ S fl w) (.sl b l) [v]->(if 0<=n then(l[n.toNat]?).bind λy=>if y.nc=P.cellsOf U then some (SV.rp b y.cells)else none else none)=some sv->
     ∃x,(Instr.indexAt t v (.int q n)).run P w=.ok x w/\SO (am A k.H.length ρ S fl w) k.get hd sv x:=by
    intro b l hv e
    split at e
    .rename_i X
     simp only[xB]at e
     obtain⟨y,z,e⟩:=e
     split at e
     .rename_i o
      simp only[xJ]at e;subst e
      obtain⟨ad,s,B,rfl,h2,h3,h4⟩:=A! (K:=k.get) (hd:=hd) hv z;have Z:=(List.getElem?_eq_some_iff.1 z).1
      refine⟨_,uj d X (by omega) (ui (by omega)),?_⟩
      rw[<-o];exact h4
     .cases e
    .cases e
   split at e
   .exact c _ _ (VV.inv hu (by simp)) e
   .exact c _ _ hu.1 e
   .rename_i r p J s
    split at e
    .rename_i N
     obtain⟨t0,W,h',G,H,b3,b4,b5⟩:=id hu;simp only[G,H,xS,xB]at e
     obtain⟨y,z,e⟩:=e
     split at e
     .rename_i o
      simp only[xJ]at e;subst e
      obtain⟨a,m,B,a',C,m1,m2,m3,m4,m5⟩:=b5;obtain⟨g,F,n1,Y,n3⟩:=m5 (by omega)
      subst m2;subst n3;subst n1;subst m1;obtain⟨X,L,Sn,R,hS,O⟩:=TC.focus p t0 (hd r) (S r) (.own W) (h.cont r t0 G) H;have hh:=aI.uniq p t0 (hd r) _ _ O.node b3;subst hh
      obtain⟨a,_,k2,_⟩ |⟨g',C,aa,e,sz,S',k1,k2,k3,k4,k5,k6,k7,Q⟩:=O.tc
      .grind
      .have D:=(TE.len _ _ _ _ Q).2 F (yS Y)
       have I:=(TE.len _ _ _ _ Q).2 y (yS z);have bP:0<sz:=Ei k7
       refine⟨_,uj d N.1 N.2 (ui (by omega)),t0,W,g,m,B,y,G,H,b3,z,by omega,?_⟩
       rw[fq,D,<-o,I,iT]
       simp
     .cases e
    .cases e
   .cases e
  .rename_i s U d
   split at e
   .rename_i r p j J M
    split at e
    .rename_i f
     simp only[xJ]at e;subst e
     obtain⟨t0,E⟩:=IZ f.2.2.2;obtain⟨a,rfl,_,T⟩:=C5 h (AG h hu M E) f.2.2.2 (ru _ _);rw[ri]at T
     exact⟨_,tF d f.1 f.2.1 f.2.2.1,T⟩
    .cases e
   .rename_i b cs M
    split at e
    .rename_i f
     simp only[xJ]at e;subst e
     replace hu:=Gq M hu
     obtain⟨a,vs,rfl,_⟩:=id hu
     exact⟨_,tF d f.1 f.2.1 f.2.2,SB.rp_drop (K:=k.get) (hd:=hd) hu _⟩
    .cases e
   .cases e
  .cases e
 .cases e
end
section
variable{P:Pz}{c:Cx}{K:aj->U T}{hd:aj->Vz}{w:Wz}
theorem CO.cell1{x sv:SV}{v:Vz}(h:CO c K hd x v)(e:Go.Am.cell1 x=some sv):SO c K hd sv v:=by
 cases x with
 |d y=>
  by_cases b:∃l,y=.agg l
  .grind [Go.Am.cell1]
  .have:Go.Am.cell1 (.d y)=some (.d y):=by cases y <;>first |rfl |grind
   rw[this]at e
   simp only[xJ]at e;subst e
   exact VV.one h (λl a=>b ⟨l,a⟩)
 |agg l=>exact False.elim h
 |aS l=>exact False.elim h
 |_=>simp only[Go.Am.cell1,xJ]at e;subst e;exact h
theorem uk(cs:Array Vz)(o n:Nat):(cs.extract o (o+n)).toList=bz cs.toList o n:=by
 grind [bz,Array.toList_extract]
theorem Te{t:TypeId}{f:Nat}{u sv:SV}{v:Vz}(hu:SO c K hd u v)(e:F8 P t u f=some sv):
  ∃x,(Instr.field t v f).run P w=.ok x w/\SO c K hd sv x:=by
 simp only[F8,xB]at e
 obtain⟨⟨o,n,p⟩,q,e⟩:=e;obtain⟨s,x,r,h3,h4,h5,h6⟩:=Gy q;simp only at e
 have b:∀(d:Array Vz),(Instr.field t (.agg d) f).run P w=(part x.type d o).run P w:=λd=>by
  simp_all [Instr.field,run_underlying,asAgg]
 split at e
 .rename_i l
  obtain⟨d,rfl,g⟩:=VV.cG hu;rw[b]
  split at e
  .rename_i a
   subst a
   split at e
   .rename_i i
    simp only[xJ]at e;subst e
    refine⟨_,rJ h6,VV.agg ?_⟩
    grind [uk,aR.bz]
   .cases e
  .rename_i a
   have a:p=false:=by simpa using a
   subst a;simp only[xB]at e
   obtain⟨y,m,e⟩:=e;obtain⟨rfl,j⟩:=D.sv1_ok e;obtain⟨z,k,h⟩:=aR.get l _ g o y m
   exact⟨z,jE h6 (by simpa using k),VV.one h j⟩
 .rename_i l
  obtain⟨d,rfl,g⟩:=hu;rw[b];unfold aci at e
  split at e
  .rename_i a
   subst a
   split at e
   .rename_i i
    simp only[xJ]at e;subst e
    refine⟨_,rJ h6,?_⟩
    have:=SV.mkAgg_ok (g.bz o n)
    rw[<-h5];rw[<-uk,Array.toArray_toList]at this
    exact this
   .cases e
  .rename_i a
   have a:p=false:=by simpa using a
   subst a;simp only[xB]at e
   obtain⟨y,m,e⟩:=e;obtain⟨z,k,h⟩:=g.get m
   exact⟨z,jE h6 (by simpa using k),h.cell1 e⟩
 .cases e
theorem Tf{t:TypeId}{u i sv:SV}{v r:Vz}(hu:SO c K hd u v)(hi:SO c K hd i r)(e:ub P t u i=some sv):
  ∃x,(Instr.index t v r).run P w=.ok x w/\SO c K hd sv x:=by
 unfold ub at e
 split at e
 .rename_i q n
  rw[VV.of_int hi]
  split at e
  .rename_i s
   split at e
   .rename_i J
    split at e
    .rename_i G
     simp only[xM]at e
     obtain⟨b,A,rfl⟩:=e;obtain⟨a,rfl,rfl⟩:=VV.of_str hu
     have j:n.toNat<a.size:=by
      have:=(List.getElem?_eq_some_iff.1 A).1
      simpa using this
     refine⟨.int .u8 b.toNat,?_,VV.dk _ _⟩
     rw[run_index_string w t a q n J,dif_pos ⟨G,by omega⟩]
     have:a[n.toNat]'j=b:=by
      have:=(List.getElem?_eq_some_iff.1 A).2
      rw[Array.getElem_toList]at this
      exact this
     rw[this]
    .cases e
   .cases e
  .rename_i l
   obtain⟨o,rfl,B⟩:=VV.cG hu
   split at e
   .rename_i I p k
    split at e
    .rename_i h
     simp only[xB]at e
     obtain⟨C,f,e⟩:=e
     have g:(Instr.index t (.agg o) (.int q n)).run P w=(part p o (n.toNat * P.cellsOf p)).run P w:=by
      simp[Instr.index,asIntOf,run_underlying k,h.1,h.2.1,o6 (ui h.2.2)]
     rw[g]
     split at e
     .rename_i d
      subst d
      split at e
      .simp only[xJ]at e;subst e
       refine⟨_,rJ f,VV.agg ?_⟩
       rw[uk]
       grind [aR.bz]
      .cases e
     .rename_i d
      have d:C=false:=by simpa using d
      subst d;simp only[xB]at e
      obtain⟨y,F,e⟩:=e;obtain⟨rfl,m⟩:=D.sv1_ok e;obtain⟨z,E,H⟩:=aR.get l _ B _ y F
      exact⟨z,jE f (by simpa using E),VV.one H m⟩
    .cases e
   .cases e
  .cases e
 .cases e
end
def Iv(R:SV->Vz->Prop):U SV->U Vz->Prop
 |none,none=>True
 |some s,some v=>R s v
 |_,_=>False
section
variable{P:Pz}{c:Cx}{K:aj->U T}{hd:aj->Vz}{w:Wz}
theorem qy{x:U SV}{v:U Vz}{d n y:Nat}{code:BoundsCode}(hx:Iv (SO c K hd) x v)(e:eY x d=some n)(a:n<=y):
  (v=none/\n=d)\/∃u,v=some u/\x.isSome=true/\(Instr.sliceBound u y code).run P w=.ok n w:=by
 unfold eY at e
 split at e
 .simp only[xJ]at e
  cases v with
  |none=>grind
  |some u=>exact hx.elim
 .rename_i q z
  split at e
  .simp only[xJ]at e
   cases v with
   |none=>exact hx.elim
   |some u=>
    rw[VV.of_int hx]
    grind [run_sliceBound]
  .cases e
 .cases e
theorem En{lo hi:U SV}{lv hv:U Vz}{l h len cap:Nat}{b:Bool}(hl:Iv (SO c K hd) lo lv)(a:Iv (SO c K hd) hi hv)(d:eY lo 0=some l)(e:eY hi len=some h)(h1:l<=h)(h2:h<=cap)(h3:len<=cap):
  (Instr.sliceBounds b len cap lv hv none).run P w=.ok (l,h,cap) w:=by
 rcases qy (P:=P) (w:=w) (code:=if b then .sliceAcap else .sliceAlen) a e h2 with⟨rfl,rfl⟩ |⟨u,rfl,_,hr⟩ <;>
 rcases qy (P:=P) (w:=w) (code:=.sliceB) hl d h1 with⟨rfl,rfl⟩ |⟨u',rfl,_,hr'⟩ <;>simp_all [Instr.sliceBounds]
theorem J4{lo hi:U SV}{m:SV}{lv hv:U Vz}{a:Vz}{l h d len cap:Nat}{b:Bool}(hl:Iv (SO c K hd) lo lv)(f:Iv (SO c K hd) hi hv)(g:SO c K hd m a)(j:eY lo 0=some l)(k:eY hi len=some h)(n:eY (some m) 0=some d)(o:hi.isSome=true)(h1:l<=h)(h2:h<=d)(h3:d<=cap):
  (Instr.sliceBounds b len cap lv hv (some a)).run P w=.ok (l,h,d) w:=by
 rcases qy (P:=P) (w:=w) (code:=if b then .slice3Acap else .slice3Alen) (x:=some m) (v:=some a) (show Iv (SO c K hd) (some m) (some a)from g) n h3 with⟨e,_⟩ |⟨p,e,_,i⟩
 .cases e
 .simp only[xJ]at e
  subst e
  rcases qy (P:=P) (w:=w) (code:=.slice3B) f k h2 with⟨rfl,rfl⟩ |⟨u,rfl,_,hr⟩
  .cases hi with
   |none=>cases o
   |some x=>exact f.elim
  .rcases qy (P:=P) (w:=w) (code:=.slice3C) hl j h1 with⟨rfl,rfl⟩ |⟨u',rfl,_,hr'⟩ <;>simp_all [Instr.sliceBounds]
theorem iE{t e:TypeId}{a:U Addr}{len cap l h m:Nat}{lv hv b:U Vz}(hu:P.underlying t=some (.slice e))(hi:(P.info? e).isSome=true)(hb:(Instr.sliceBounds true len cap lv hv b).run P w=.ok (l,h,m) w):
  (Instr.sliceAt t (.slice a len cap) lv hv b).run P w=.ok (.slice (if m=l then a else a.map (·.add (l * P.cellsOf e))) (h - l) (m - l)) w:=by
 simp[Instr.sliceAt,run_underlying hu,Instr.slice,hb,o6 hi]
theorem D2{t:TypeId}{s:ByteArray}{l h m:Nat}{lv hv:U Vz}(hu:P.underlying t=some .string)(hb:(Instr.sliceBounds false s.size s.size lv hv none).run P w=.ok (l,h,m) w):
  (Instr.sliceAt t (.string s) lv hv none).run P w=.ok (.string (s.extract l h)) w:=by
 simp[Instr.sliceAt,run_underlying hu,Instr.slice,hb]
theorem VY{b:Bool}{xs:J D}{a:U Addr}{len cap l h m n:Nat}(hv:VC c (.sl b xs) [.slice a len cap])(h1:l<=h)(h2:h<=xs.length)(h3:h<=m)(h4:m<=cap)(hn:headD n (bz xs l (h - l))=true):
  VC c (.sl b (bz xs l (h - l))) [.slice (if m=l then a else a.map (·.add (l * n))) (h - l) (m - l)]:=by
 simp only[VC,xC,Value.slice.injEq,and_true]at hv |-
 obtain⟨A,q,k,⟨rfl,rfl,rfl⟩,x,q3,q4⟩:=hv;have i:(bz xs l (h - l)).length=h - l:=ky _ _ _ (by omega)
 refine⟨_,_,_,⟨rfl,rfl,rfl⟩,i.symm,by omega,λg=> ?_⟩
 have p:l<h:=by
  obtain o |o:=gk l h
  .exact o
  .simp_all
 obtain⟨s,d,rfl,t,z,v,u⟩:=q4 (by grind)
 have e:n=d:=by
  cases f:bz xs l (h - l)with
  |nil=>exact absurd f g
  |cons y r=>
   rw[f]at hn
   simp only[headD,beq_iff_eq]at hn
   have w:xs[l]? =some y:=by
    have:(bz xs l (h - l))[0]? =some y:=by rw[f];rfl
    simpa using El this
   grind [VE.get]
 refine⟨s.add (l * n),d,by grind,Gz _ _ t,by grind [kF],v,?_⟩
 refine VE.shift _ (0+l * d) 0 d (λj=> ?_) (u.bz l (h - l))
 grind [Em]
theorem MN{s:J UInt8}{v:Vz}{l h:Nat}(hv:VV c (.str s) v)(h1:l<=h)(h2:h<=s.length):∃a:ByteArray,v=.string a/\a.size=s.length/\VV c (.str (bz s l (h - l))) (.string (a.extract l h)):=by
 obtain⟨a,rfl,rfl⟩:=hv.of_str
 refine⟨a,rfl,by simp,VV.mk_str ?_⟩
 have:(a.extract l h).data=a.data.extract l h:=by simp[ByteArray.data_extract]
 rw[this,Array.toList_extract,List.extract_eq_take_drop];rfl
end
section
variable{P:Pz}{A:Av}{ρ:Nat->Nat}{S:aj->J Nat}{hd:aj->Vz}{fl:J Nat}{k k':Wk}{ay:J (SV×Vz)}{w:Wz}
theorem J5(h:KR A ρ S hd fl k ay w){r:aj}{p:dR}{off len:Nat}{v:Vz}{l b m n:Nat}(hv:SB (am A k.H.length ρ S fl w) k.get hd (.aH r p off len) v)(h1:l<=b)(h2:b<=len)(h3:b<=m)(hn:tC n r p (off+l) (b - l) k=true):
  ∃a cap,v=.slice a len cap/\len<=cap/\(m<=cap->SB (am A k.H.length ρ S fl w) k.get hd (.aH r p (off+l) (b - l)) (.slice (if m=l then a else a.map (·.add (l * n))) (b - l) (m - l))):=by
 obtain⟨t0,c,T,j,o,b3,b4,b5⟩:=id hv;obtain⟨a,Q,cap,P,d,J,G,I,O,z⟩:=b5;subst G
 refine⟨P,d,rfl,I,λW=>⟨t0,c,T,j,o,b3,by omega,a,Q,cap,_,m - l,J,rfl,by omega,λH=> ?_,λH=> ?_⟩⟩
 .obtain⟨E,q2⟩:=O (by omega)
  have:l=0:=by omega
  subst this;subst E
  refine⟨?_,by omega⟩
  split
  .rfl
  simp_all [Addr.add_zero']
 .obtain⟨g,C,F,D,M⟩:=z (by omega)
  obtain⟨N,L,Sn,R,hS,B⟩:=TC.focus p t0 (hd r) (S r) (.own c) (h.cont r t0 j) o;have i:off+l<c.length:=by omega
  have f:=xG i
  refine⟨g,c[off+l],F,f,?_⟩
  rw[if_neg (by omega),M]
  simp only[xQ,xJ]
  have K:c[off+l].nc=n:=by
   simp only[tC,j,o,xS]at hn
   cases s:bz c (off+l) (b - l)with
   |nil=>
    grind [ky]
   |cons y q=>
    rw[s]at hn
    simp only[IK,beq_iff_eq]at hn
    have:(bz c (off+l) (b - l))[0]? =some y:=by rw[s];rfl
    have:=El this
    grind
  obtain⟨V,_,U,_⟩ |⟨g',t,x,e,sz,S',k1,U,k3,k4,k5,X,Y,u⟩:=B.tc
  .grind
  .have e1:=(TE.len _ _ _ _ u).2 C (yS D)
   have Z:=(TE.len _ _ _ _ u).2 _ (yS f)
   grind [fq]
theorem Tg(h:KR A ρ S hd fl k ay w){t:TypeId}{x sv:SV}{v:Vz}{lo hi T:U SV}{lv hv i:U Vz}(hx:SO (am A k.H.length ρ S fl w) k.get hd x v)
  (n:Iv (SO (am A k.H.length ρ S fl w) k.get hd) lo lv) (j:Iv (SO (am A k.H.length ρ S fl w) k.get hd) hi hv) (d:Iv (SO (am A k.H.length ρ S fl w) k.get hd) T i) (e:kx P t x lo hi T k=some sv):
  ∃u,(Instr.sliceAt t v lv hv i).run P w=.ok u w/\SO (am A k.H.length ρ S fl w) k.get hd sv u:=by
 unfold kx at e
 split at e
 .split at e
  .rename_i s
   have:i=none:=by cases i with |none=>rfl |some y=>exact d.elim
   subst this;simp only[xB]at e
   obtain⟨l,z,E,o,e⟩:=e
   split at e
   .rename_i f
    simp only[xJ]at e;subst e
    obtain⟨a,rfl,X,Y⟩:=MN hx f.1 f.2;rw[X.symm]at o
    exact⟨_,D2 s (En n j z o f.1 (by omega) (dC _)),Y⟩
   .cases e
  .cases e
 .rename_i b V
  have q:=VV.inv hx (by simp)
  have Z:∃a g c,v=.slice a g c/\g=V.length/\g<=c:=by
   simp only[VC,xC,and_true]at q
   obtain⟨a,g,c,G,K,q3,_⟩:=q
   exact⟨a,g,c,G,K,q3⟩
  obtain⟨a,g,c,rfl,rfl,N⟩:=Z
  split at e
  .rename_i I s
   have:i=none:=by cases i with |none=>rfl |some y=>exact d.elim
   subst this;simp only[xB]at e
   obtain⟨l,z,E,o,e⟩:=e
   split at e
   .rename_i f
    simp only[xJ]at e;subst e
    exact⟨_,iE s f.2.2.1 (En n j z o f.1 (by omega) N),VV.one (VY q f.1 f.2.1 (by omega) (dC _) f.2.2.2) (by simp)⟩
   .cases e
  .rename_i I m s
   have:∃y,i=some y/\SO (am A k.H.length ρ S fl w) k.get hd m y:=by cases i with |none=>exact d.elim |some y=>exact⟨y,rfl,d⟩
   obtain⟨y,rfl,H⟩:=this;simp only[xB]at e
   obtain⟨l,z,E,o,Q,J,e⟩:=e
   split at e
   .rename_i f
    obtain⟨B,D,F,C,L,O⟩:=f;simp only[xJ]at e;subst e
    subst D
    refine⟨_,iE s L (J4 n j H z o J C B (dC _) (by omega)),VY q B F (dC _) (by omega) O,?_⟩
    rw[ky _ _ _ (by omega)]
    grind
   .cases e
  .cases e
 .have q:v=.slice none 0 0:=by have:=VV.inv hx (by simp);simpa [VC]using this
  subst q
  split at e
  .rename_i I s
   have:i=none:=by cases i with |none=>rfl |some y=>exact d.elim
   subst this;simp only[xB]at e
   obtain⟨l,z,E,o,e⟩:=e
   split at e
   .rename_i f
    obtain⟨rfl,rfl,F⟩:=f;simp only[xJ]at e;subst e
    refine⟨_,iE s F (En n j z o (dC _) (dC _) (dC _)),VV.one (by simp[VC]) (by simp)⟩
   .cases e
  .rename_i I m s
   have:∃y,i=some y/\SO (am A k.H.length ρ S fl w) k.get hd m y:=by cases i with |none=>exact d.elim |some y=>exact⟨y,rfl,d⟩
   obtain⟨y,rfl,H⟩:=this;simp only[xB]at e
   obtain⟨l,z,E,o,Q,J,e⟩:=e
   split at e
   .rename_i f
    obtain⟨rfl,rfl,rfl,C,L⟩:=f;simp only[xJ]at e;subst e
    refine⟨_,iE s L (J4 n j H z o J C (dC _) (dC _) (dC _)),VV.one (by simp[VC]) (by simp)⟩
   .cases e
  .cases e
 .rename_i r p W g
  split at e
  .rename_i I s
   have:i=none:=by cases i with |none=>rfl |some y=>exact d.elim
   subst this;simp only[xB]at e
   obtain⟨l,z,E,o,e⟩:=e
   split at e
   .rename_i f
    obtain⟨B,D,F,C⟩:=f;simp only[xJ]at e;subst e
    have N:∃a c,v=.slice a g c/\g<=c:=by
     obtain⟨a,c,G,K,_⟩:=J5 h (m:=E) hx B D (dC _) C
     exact⟨a,c,G,K⟩
    obtain⟨a,c,rfl,M⟩:=N;obtain⟨a',R,G,K,q3⟩:=J5 h (m:=c) hx B D (by omega) C
    simp only[Value.slice.injEq,true_and]at G
    obtain⟨rfl,rfl⟩:=G
    exact⟨_,iE s F (En n j z o B (by omega) M),q3 (dC _)⟩
   .cases e
  .rename_i I m s
   have:∃y,i=some y/\SO (am A k.H.length ρ S fl w) k.get hd m y:=by cases i with |none=>exact d.elim |some y=>exact⟨y,rfl,d⟩
   obtain⟨y,rfl,H⟩:=this;simp only[xB]at e
   obtain⟨l,z,E,o,Q,J,e⟩:=e
   split at e
   .rename_i f
    obtain⟨B,D,F,C,L,O⟩:=f;simp only[xJ]at e;subst e
    obtain⟨a,c,rfl,K,q3⟩:=J5 h (m:=Q) hx B (by omega) D O
    exact⟨_,iE s L (J4 n j H z o J C B D (by omega)),q3 (by omega)⟩
   .cases e
  .cases e
 .cases e
theorem B_(h:KR A ρ S hd fl k ay w){t ty:TypeId}{x:SV}{v:Vz}{n:Int}(hx:SO (am A k.H.length ρ S fl w) k.get hd x v)(e:F9 P t k.H x=some n):(Builtin.len_ #[t] ty #[v]).run P w=.ok (.int .i64 n) w:=by
 unfold F9 at e
 split at e
 .split at e
  .rename_i c
   simp only[xJ]at e;subst e
   obtain⟨a,rfl,rfl⟩:=VV.of_str hx;simp[Builtin.len_,run_underlying c,goInt]
  .cases e
 .split at e
  .rename_i c
   simp only[xJ]at e;subst e
   have b:v=.slice none 0 0:=by have:=VV.inv hx (by simp);simpa [VC]using this
   subst b;simp[Builtin.len_,run_underlying c,goInt]
  .cases e
 .split at e
  .rename_i c
   simp only[xJ]at e;subst e
   have b:=VV.inv hx (by simp)
   simp only[VC,xC,and_true]at b
   obtain⟨a,m,d,rfl,rfl,_⟩:=b;simp[Builtin.len_,run_underlying c,goInt]
  .cases e
 .split at e
  .rename_i c
   simp only[xJ]at e;subst e
   obtain⟨_,a,rfl⟩:=hx;simp[Builtin.len_,run_underlying c,goInt]
  .cases e
 .split at e
  .rename_i c
   simp only[xJ]at e;subst e
   obtain⟨a,d,rfl,_⟩:=hx;simp[Builtin.len_,run_underlying c,goInt]
  .cases e
 .split at e
  .rename_i c
   simp only[xJ]at e;subst e
   obtain⟨t0,z,C,F,s,b3,b4,b5⟩:=hx;obtain⟨a,B,d,y,f,q,rfl,g,u,r⟩:=b5;simp[Builtin.len_,run_underlying c,goInt]
  .cases e
 .split at e
  .rename_i c
   simp only[xJ]at e;subst e
   have b:v=.map none:=by have:=VV.inv hx (by simp);simpa [VC]using this
   subst b;simp[Builtin.len_,run_underlying c,goInt]
  .cases e
 .rename_i o
  split at e
  .rename_i c j
   simp only[xJ]at e;subst e
   have b:=VV.inv hx (by simp)
   simp only[VC,xC,and_true]at b
   rw[b.2];obtain⟨M,q,p,l,i,g,_⟩:=h.map o _ j rfl;have D:=g.len;have E:w.heap[ρ o]? =some (.map p l):=i.1
   simp_all [Builtin.len_,run_underlying,goInt,am,getObj,Sem.run]
  .cases e
 .cases e
end
section
variable{P:Pz}{c:Cx}{K:aj->U T}{hd:aj->Vz}{w:Wz}
theorem aR.all2:∀(l:J D) (cs:J Vz),aR c l cs->All2 (CO c K hd) (l.map .d) cs
 | [],cs,h=>h
 |d::b,cs,h=>by
  simp only[aR]at h
  obtain⟨v,r,rfl,a,h3⟩:=h
  exact⟨v,r,rfl,a,aR.all2 b r h3⟩
theorem MO{x:SV}{v:Vz}(h:SO c K hd x v)(s:x.solid=true):All2 (CO c K hd) x.cells v.cells.toList/\v.cells.size=x.nc:=by
 have e:∀(x:SV) (v:Vz),SB c K hd x v->v.oneCell'=true->(∀l,x≠ .d (.agg l))->x.cells=[x]->x.nc=1->All2 (CO c K hd) x.cells v.cells.toList/\v.cells.size=x.nc:=λx v h j q h3 h4=>by
  rw[h3,h4,lI j]
  exact⟨⟨v,[],rfl,CO.of_SB h q,rfl⟩,rfl⟩
 cases x with
 |d y=>
  by_cases t:∃l,y=.agg l
  .obtain⟨l,rfl⟩:=t
   obtain⟨m,rfl,u⟩:=VV.cG h
   exact⟨aR.all2 l _ u,by simpa [SV.nc,D.nc,Value.cells]using aR.len _ _ u⟩
  .have j:=VV.inv h (λl w=>t ⟨l,w⟩)
   refine e _ v h (VC.one _ _ j) (λl w=>by grind) ?_ ?_
   .cases y <;>first |rfl |grind
   .cases y <;>first |rfl |grind
 |agg l=>
  obtain⟨m,rfl,h⟩:=h
  exact⟨h,by simpa [SV.nc,Value.cells]using h.len⟩
 |aH r p k B=>
  obtain⟨t0,A,M,E,H,b3,b4,b5⟩:=id h;obtain⟨a,L,f,J,o,G,rfl,F,I,C⟩:=b5;exact e _ _ h rfl (by simp) rfl rfl
 |loc r p i k=>
  obtain⟨t0,A,g,n,f,z,j,q,h3,h4,h5,rfl⟩:=id h;exact e _ _ h rfl (by simp) rfl rfl
 |rp b m=>
  obtain⟨a,N,rfl,_⟩:=id h;exact e _ _ h rfl (by simp) rfl rfl
 |clip b l=>
  obtain⟨_,a,rfl⟩:=id h;exact e _ _ h rfl (by simp) rfl rfl
 |ns b=>
  obtain⟨a,f,rfl,_⟩:=id h;exact e _ _ h rfl (by simp) rfl rfl
 |aS l=>cases s
 |dead=>cases s
theorem All2.drop{d e:Type}{R:d->e->Prop}:∀(n:Nat) {c:J d} {l:J e},All2 R c l->All2 R (c.drop n) (l.drop n)
 |0,_,_,h=>by simpa using h
 |n+1,[],_,h=>by grind [All2]
 |n+1,a::c,_,h=>by
  obtain⟨b,r,rfl,_,h3⟩:=h
  simpa using All2.drop n h3
theorem All2.take{d e:Type}{R:d->e->Prop}:∀(n:Nat) {c:J d} {l:J e},All2 R c l->All2 R (c.take n) (l.take n)
 |0,_,_,_=>by simp[All2]
 |n+1,[],_,h=>by grind [All2]
 |n+1,a::c,_,h=>by
  obtain⟨b,r,rfl,f,h3⟩:=h;simp only[Eh]
  exact⟨b,_,rfl,f,All2.take n h3⟩
theorem MP{k:Nat ⊕ J (Nat×Nat)}:∀(d:J (Nat×SV)) (vs:J (Nat×Vz)) (cs g:J SV) (cells:Array Vz),All2 (λ(a:Nat×SV) (b:Nat×Vz)=>a.1=b.1/\SO c K hd a.2 b.2) d vs->
  All2 (CO c K hd) cs cells.toList->AD k cs d=some g->∃f,Instr.fill (wn k) cells vs=some f/\All2 (CO c K hd) g f.toList
 | [],vs,cs,g,cells,j,h,e=>by
  rw[show vs=[]from j]
  simp only[AD,xJ]at e;subst e
  exact⟨cells,rfl,h⟩
 |(i,x)::d,vs,cs,g,cells,j,h,e=>by
  obtain⟨⟨w,v⟩,r,rfl,⟨m,l⟩,q⟩:=j;simp only at m l;subst m;simp only[AD,xB]at e
  obtain⟨⟨o,n⟩,s,e⟩:=e;simp only at e
  split at e
  .rename_i t
   obtain⟨p,y⟩:=MO l t.1;have u:=h.len;simp only[yF]at u
   rw[IV s (by grind) (by omega)]
   refine MP d r _ g _ q ?_ e
   simp only
   exact((h.take o).append p).append (h.drop (o+n))
  .cases e
theorem Th{t:TypeId}{d:J (Nat×SV)}{vs:J (Nat×Vz)}{sv:SV}(hp:All2 (λ(a:Nat×SV) (b:Nat×Vz)=>a.1=b.1/\SO c K hd a.2 b.2) d vs)(e:BU P t d=some sv):
  ∃u,(Instr.build t vs.toArray).run P w=.ok u w/\SO c K hd sv u:=by
 unfold BU at e
 split at e
 .rename_i z r
  obtain⟨i,E,p,o,h3,_⟩:=lJ r;obtain⟨s,rfl,h⟩:=VV.cG (mD (c:=c) h3);simp only[xB,xM]at e
  obtain⟨B,g,q,v,rfl⟩:=e;obtain⟨f,y,A⟩:=MP d vs _ q s hp (aR.all2 _ _ h) v
  refine⟨.agg f,run_build w t vs.toArray f ?_,by simpa using SV.mkAgg_ok A⟩
  unfold dZ at g
  split at g
  .rename_i D l
   simp only[xM]at g
   obtain⟨m,k,rfl⟩:=g;simp only[Program.built,p,l,o,k]
   have:(λx=>m.toArray[x]?)=wn (.inr m):=by funext j;simp[wn]
   grind [Value.cells]
  .rename_i n e l
   simp only[xM]at g
   obtain⟨C,k,rfl⟩:=g;simp only[Program.built,p,l,o,k];exact y
  grind
 .cases e
theorem SV.pures_VVs:∀(l:J SV) (ds:J D) (vs:J Vz),SV.bH l=some ds->All2 (SO c K hd) l vs->bf c ds vs
 | [],ds,vs,h,b=>by
  simp only[SV.bH,xJ]at h;subst h
  exact b
 |x::l,ds,vs,h,b=>by
  obtain⟨v,r,rfl,e,f⟩:=b
  cases x with
  |d y=>
   simp only[SV.bH,xM]at h
   obtain⟨a,h3,rfl⟩:=h;simp only[bf]
   exact⟨v,r,rfl,e.1,e.2,SV.pures_VVs l a r h3 f⟩
  |_=>simp[SV.bH]at h
end
section
variable{P:Pz}{A:Av}{ρ:Nat->Nat}{S:aj->J Nat}{hd:aj->Vz}{fl:J Nat}{k k':Wk}{ay:J (SV×Vz)}{w:Wz}
theorem Ext.refl'(c:Cx):Ext c c:=⟨λ_ _ hp=>⟨hp,rfl⟩,dC _,λ_ _=>rfl⟩
theorem KR.rename(h:KR A ρ S hd fl k ay w){n j m i:Nat}{t:T}(y:(n,j)≠(m,i))(ht:k.get (.l n j)=some t):
  KR A ρ (upd (upd S (.l n j) []) (.l m i) (S (.l n j))) (upd hd (.l m i) (hd (.l n j))) fl (({k with ct:=((n,j),.dead)::k.ct}.new m i t).tell (.dp (n,j) (m,i))) ay w/\
   Ext (am A k.H.length ρ S fl w) (am A k.H.length ρ (upd (upd S (.l n j) []) (.l m i) (S (.l n j))) fl w):=by
 have x:(aj.l n j)≠ .l m i:=λe=>y (by grind)
 have J:S (.l m i)=[]++S (.l m i)++[]:=by simp
 have O:=h.bw.drop J;have G:upd S (.l m i) ([]++[]) (.l n j)=[]++S (.l n j)++[]:=by rw[dG _ _ x];simp
 have N:=O.detach G;have u:upd (upd S (.l m i) ([]++[])) (.l n j) ([]++[]) (.l m i)=[]++[]:=by rw[dG _ _ x.symm,eo]
 have C:=Dis.attach (r:=.l m i) (L:=[]) (R:=[]) (M:=S (.l n j)) (fl:=fl) N u
 have eS:upd (upd (upd S (.l m i) ([]++[])) (.l n j) ([]++[])) (.l m i) ([]++S (.l n j)++[])=upd (upd S (.l n j) []) (.l m i) (S (.l n j)):=by
  funext r;simp only[upd,gG,gj];split
  .rfl
  .rfl
 rw[eS]at C
 have own:∀b,bT (upd (upd S (.l n j) []) (.l m i) (S (.l n j))) fl b->bT S fl b:=λb U=>by
  grind [bT.attach,bT.detach,bT.drop]
 have B:WS S fl w (upd (upd S (.l n j) []) (.l m i) (S (.l n j))) fl w:=WS.stay own;have ext:Ext (am A k.H.length ρ S fl w) (am A k.H.length ρ (upd (upd S (.l n j) []) (.l m i) (S (.l n j))) fl w):=B.ext (dC _) (λ_ _=>rfl)
 have get:∀r,(({k with ct:=((n,j),.dead)::k.ct}.new m i t).tell (.dp (n,j) (m,i))).get r=if r=.l m i then some t else if r=.l n j then some .dead else k.get r:=λr=>by
  show Go.Am.cont (((m,i),t)::((n,j),.dead)::k.ct) k.H r=_;rw[ju,ju];rfl
 have f:(({k with ct:=((n,j),.dead)::k.ct}.new m i t).tell (.dp (n,j) (m,i))).H.length=k.H.length:=rfl
 refine⟨⟨λr t0 a=> ?_,λr a D=> ?_,λq=>by rw[dG _ _ (by simp)];exact h.obj q,λq ob E v=> ?_,C,B.bU h,λp P=> ?_,h.fr,h.Fold,h.cP⟩,ext⟩
 .rw[f]
  rw[get]at a
  split at a
  .rename_i e;subst e
   simp only[xJ]at a
   subst a;rw[eo,eo];exact TC.ext ext _ _ _ (λ_ _=>rfl) (h.cont _ _ ht)
  .rename_i e
   rw[dG _ _ e,dG _ _ e]
   split at a
   .rename_i d;subst d
    simp only[xJ]at a
    subst a;rw[eo];simp only[TC]
    exact⟨trivial,_,rfl,TC.dt _ _ _ (h.cont _ _ ht) _ (by simp)⟩
   .rename_i d
    rw[dG _ _ d];exact TC.ext ext _ _ _ (λ_ _=>rfl) (h.cont r t0 a)
 .rw[get]at a
  split at a
  .cases a
  .rename_i e
   split at a
   .cases a
   .rename_i d
    rw[dG _ _ e,dG _ _ d];exact h.gone r a D
 .exact(h.map q ob E v).ext ext (λ_ _=>rfl) (by grind [dG]) rfl
 .have u:aU (({k with ct:=((n,j),.dead)::k.ct}.new m i t).tell (.dp (n,j) (m,i))).tr p.1=(Tr.dp (n,j) (m,i)).sv ((Tr.kill (.l m i) []).sv (aU k.tr p.1)):=by
   show aU ((k.tr++[Tr.kill (.l m i) []])++[Tr.dp (n,j) (m,i)]) p.1=_;rw[rH,rH]
  rw[u];refine SO.dp (K:=λr=>if r=.l m i then none else k.get r) (hd:=hd) ext (n,j) (m,i) (λr q I=> ?_) (λq t1 l c g=> ?_) (SO.kill (Ext.refl' _) (.l m i) [] (λr q Q=> ?_) (h.ay p P))
  .intro t1 l c g
   simp only at c
   split at c
   .cases c
   .rename_i e
    refine⟨t1,l,by grind,g,bg.refl _,λz s=> ?_⟩
    rw[dG _ _ e];exact aI.ext q t1 _ z _ (h.cont r t1 c) (λ_ _=>rfl) s
  .simp only[if_neg x]at c
   rw[ht]at c
   simp only[xJ]at c
   subst c
   refine⟨t,l,by grind,g,bg.refl _,λz s=> ?_⟩
   rw[eo];exact aI.ext q t _ z _ (h.cont _ _ ht) (λ_ _=>rfl) s
  .intro t1 l c g
   by_cases e:r=.l m i
   .simp_all
   grind [bg.refl]
theorem Pl(h:KR A ρ S hd fl k ay w){dst:Nat}{b:Bool}{x sv:SV}{v:Vz}(hx:SO (am A k.H.length ρ S fl w) k.get hd x v)(e:ff dst b x k=some (sv,k')):
  ∃S' hd',KR A ρ S' hd' fl k' ay w/\SO (am A k'.H.length ρ S' fl w) k'.get hd' sv v:=by
 unfold ff at e
 split at e
 .have a:v=.slice none 0 0:=by have:=VV.inv hx (by simp);simpa [VC]using this
  subst a
  split at e
  .simp only[xJ,pJ]at e
   obtain⟨rfl,rfl⟩:=e;obtain⟨d,o⟩:=KR.du (n:=dst) (j:=0) (t:=.own []) (hv:=.slice none 0 0) (M:=[]) (by simpa using h) (.inl ⟨none,rfl,rfl,rfl⟩)
   refine⟨_,_,d,?_⟩
   exact AI (es:=[]) (M:=[]) (.inl ⟨none,rfl,rfl,rfl⟩) (by simp)
  grind
 .rename_i n j q
  split at e
  .grind
  .rename_i c
   obtain⟨t0,es,p,l,f,b3,b4,b5⟩:=id hx;simp only[l,xS]at e
   simp only[T.at,xJ]at f
   subst f;simp only at e
   split at e
   .rename_i g
    simp only[xJ,pJ]at e
    obtain⟨rfl,rfl⟩:=e;obtain⟨d,o⟩:=h.rename (m:=dst) (i:=0) c l
    refine⟨_,_,d,.own es,es,p,?_,rfl,?_,b4,b5⟩
    .show cont (((dst,0),T.own es)::((n,j),.dead)::k.ct) k.H (.l dst 0)=_
     grind [ju]
    grind [eo,aI]
   grind
 grind
theorem GB{o:Nat}{ob d:Ob}(f:k.H[o]? =some d)(h0:∀c,d≠ .box c)(e:∀c,ob≠ .box c)(r:aj):({k with H:=k.H.set o ob}:Wk).get r=k.get r:=by
 cases r with
 |l a b=>rfl
 |o n=>
  grind [Wk.get,Go.Am.cont]
theorem o7{ob:Ob}(h:ob.plain=true):∀c,ob≠ .box c:=λc e=>by subst e;cases h
theorem KR.reob(h:KR A ρ S hd fl k ay w){o:Nat}{ob ob':Ob}(j:k.H[o]? =some ob)(hp:ob.plain=true)(f:ob'.plain=true)(u:PlOK (am A k.H.length ρ S fl w) S ρ o ob'):
  KR A ρ S hd fl {k with H:=k.H.set o ob'} ay w:=by
 have get:=GB (ob:=ob') j (o7 hp) (o7 f);have a:({k with H:=k.H.set o ob'}:Wk).H.length=k.H.length:=by simp
 have q:=(List.getElem?_eq_some_iff.1 j).1
 refine⟨λr t m=>by rw[a];rw[get]at m;exact h.cont r t m,λr l s=> ?_,h.obj,λn c d g=> ?_,h.bw,h.bU,λp hp=> ?_,h.fr,h.Fold,by rw[a];exact h.cP⟩
 .rw[get]at l
  refine h.gone r l (λn c e d=> ?_)
  by_cases i:n=o
  .grind
  grind
 .rw[a]
  by_cases i:n=o
  .grind
  .simp only at d
   rw[rj (Ne.symm i)]at d
   exact h.map n c d g
 .rw[a,show({k with H:=k.H.set o ob'}:Wk).get=k.get from funext get]
  exact h.ay p hp
theorem KR.unset(h:KR A ρ S hd fl k ay w){o:Nat}{ks:J (J UInt8)}(a:k.H[o]? =some (.sset ks)):∃es,SetOf es ks/\KR A ρ S hd fl {k with H:=k.H.set o (.map es)} ay w:=by
 obtain⟨M,g,es,d,c,f,e,q3,q4⟩:=h.map o _ a rfl
 exact⟨es,q4,h.reob a rfl rfl ⟨M,g,d,c,f,e,q3⟩⟩
theorem KR.reset(h:KR A ρ S hd fl k ay w){o:Nat}{es:J (D×T)}{ks:J (J UInt8)}(a:k.H[o]? =some (.map es))(i:SetOf es ks):KR A ρ S hd fl {k with H:=k.H.set o (.sset ks)} ay w:=by
 obtain⟨M,g,e,d,c,f,q3⟩:=h.map o _ a rfl;exact h.reob a rfl rfl ⟨M,g,es,e,d,c,f,q3,i⟩
theorem I2{kt:TypeId}{s s':J UInt8}(hk:(eC P kt (.str s) (.str s)).isSome=true):eC P kt (.str s') (.str s)=some (s'==s)/\eC P kt (.str s) (.str s')=some (s==s'):=by
 grind [eC,ja,eqK]
abbrev MQ(s:J UInt8):D×T:=(.str s,.d (.bool true))
theorem I3{kt:TypeId}{s:J UInt8}(hk:(eC P kt (.str s) (.str s)).isSome=true):∀es:J (D×T),(∀p∈es,∃s',p=MQ s')->(MQ s∈es/\jX (eC P kt) (.str s) es=some (some (.d (.bool true))))\/(MQ s∉es/\jX (eC P kt) (.str s) es=some none)
 | [],_=>.inr ⟨by simp,rfl⟩
 |e::es,h=>by
  obtain⟨s',rfl⟩:=h e (by simp)
  simp only[jX,(I2 (s':=s') hk).2,xS,beq_iff_eq]
  by_cases a:s=s'
  .grind
  have:=I3 hk es;grind
theorem MR{kt:TypeId}{s:J UInt8}(hk:(eC P kt (.str s) (.str s)).isSome=true):∀es:J (D×T),(∀p∈es,∃s',p=MQ s')->∃es',qt (eC P kt) (.str s) (.d (.bool true)) es=some es'/\∀p,p∈es'↔p=MQ s\/p∈es
 | [],_=>⟨[MQ s],rfl,by simp⟩
 |e::es,h=>by
  obtain⟨s',rfl⟩:=h e (by simp)
  simp only[qt,(I2 (s':=s') hk).2,xS,beq_iff_eq]
  by_cases a:s=s'
  .subst a
   grind
  have:=MR hk es;grind
theorem SetOf.find{es:J (D×T)}{ks:J (J UInt8)}(h:SetOf es ks){kt:TypeId}{kd:D}{r:U T}(hk:(eC P kt kd kd).isSome=true)(e:Mz ks kd=some r):jX (eC P kt) kd es=some r:=by
 unfold Mz at e
 split at e
 .rename_i s
  simp only[xJ]at e
  subst e;have d:∀p∈es,∃c,p=MQ c:=λp f=>by obtain⟨c,_,q⟩:=h.1 p f;grind
  obtain⟨a,b⟩ |⟨a,b⟩:=I3 hk es d
  .obtain⟨c,i,g⟩:=h.1 _ a
   grind
  .rw[b,if_neg (λq=>a (h.2 s (by simpa using q)))]
 .cases e
theorem SetOf.put{es:J (D×T)}{ks ks':J (J UInt8)}(h:SetOf es ks){kt:TypeId}{kd y:D}(hk:(eC P kt kd kd).isSome=true)(e:BV ks kd y=some ks'):∃es',qt (eC P kt) kd (.d y) es=some es'/\SetOf es' ks':=by
 unfold BV at e
 split at e
 .rename_i s
  simp only[xJ]at e
  subst e;have d:∀p∈es,∃a,p=MQ a:=λp c=>by obtain⟨a,_,q⟩:=h.1 p c;grind
  obtain⟨es',g,f⟩:=MR hk es d
  refine⟨es',g,λp c=> ?_,λa b=> ?_⟩
  .rcases(f p).1 c with rfl |q
   .grind
   .obtain⟨a,i,j⟩:=h.1 p q
    grind
  .rw[f]
   obtain rfl |q:=List.mem_cons.1 b
   .exact .inl rfl
   .exact .inr (h.2 a q)
 .cases e
theorem KR.lockMap(h:KR A ρ S hd fl k ay w){o:Nat}{ob:Ob}(l:k.H[o]? =some ob)(i:ob.plain=true){M:J Nat}(E:S (.o o)=ρ o::M):
  KR A ρ (upd S (.o o) []) hd ((ρ o::M)++fl) {k with H:=k.H.set o .lock} ay w/\Ext (am A k.H.length ρ S fl w) (am A k.H.length ρ (upd S (.o o) []) ((ρ o::M)++fl) w):=by
 have get:=GB (ob:=.lock) l (o7 i) (by simp)
 have x:S (.o o)=[]++(ρ o::M)++[]:=by simp[E]
 have B:=h.bw.detach x;have own:∀b,bT (upd S (.o o) []) ((ρ o::M)++fl) b->bT S fl b:=λb D=>(bT.detach x).1 (by simpa using D)
 have z:WS S fl w (upd S (.o o) []) ((ρ o::M)++fl) w:=WS.stay own;have ext:Ext (am A k.H.length ρ S fl w) (am A k.H.length ρ (upd S (.o o) []) ((ρ o::M)++fl) w):=z.ext (dC _) (λ_ _=>rfl)
 have a:({k with H:=k.H.set o .lock}:Wk).H.length=k.H.length:=by simp
 have m:k.get (.o o)=none:=by
  simp only[Wk.get,Go.Am.cont,l]
  cases ob with
  |box c=>cases i
  |_=>rfl
 refine⟨⟨λr t y=> ?_,λr j u=> ?_,h.obj,λn g d f=> ?_,by simpa using B,z.bU h,λp C=> ?_,h.fr,h.Fold,by rw[a];exact h.cP⟩,ext⟩
 .rw[a]
  rw[get]at y
  have j:r≠ .o o:=λe=>by grind
  rw[dG _ _ j];exact TC.ext ext _ _ _ (λ_ _=>rfl) (h.cont r t y)
 .by_cases s:r=.o o
  .grind [eo]
  .rw[dG _ _ s]
   rw[get]at j
   refine h.gone r j (λn g e d=>u n g e ?_)
   grind
 .have v:n≠o:=λe=>by
   subst e;simp only at d;rw[yK (List.getElem?_eq_some_iff.1 l).1]at d
   simp only[xJ]at d
   subst d;cases f
  simp only at d;rw[rj (Ne.symm v)]at d
  rw[a]
  exact(h.map n g d f).ext ext (λ_ _=>rfl) (dG _ _ (by simpa using v)) rfl
 .rw[a]
  exact SO.aV ext (λr q=>h.hold _ (get r) rfl (λ_ _=>rfl) q) (h.ay p C)
theorem KR.unlockMap{o:Nat}{M:J Nat}(h:KR A ρ S hd ((ρ o::M)++fl) k ay w){ob:Ob}(l:ob.plain=true)(hl:k.H[o]? =some .lock)(z:ObOK (am A k.H.length ρ S ((ρ o::M)++fl) w) (ρ o) M ob):
  KR A ρ (upd S (.o o) (ρ o::M)) hd fl {k with H:=k.H.set o ob} ay w/\Ext (am A k.H.length ρ S ((ρ o::M)++fl) w) (am A k.H.length ρ (upd S (.o o) (ρ o::M)) fl w):=by
 have get:=GB (ob:=ob) hl (by simp) (o7 l)
 have f:k.get (.o o)=none:=by simp[Wk.get,Go.Am.cont,hl]
 have x:S (.o o)=[]++[]:=by
  simpa using h.gone _ f (λn d e c=>by simp only[aj.o.injEq]at e;subst e;rw[hl]at c;simp only[xJ]at c;subst c;rfl)
 have y:=Dis.attach h.bw x;have own:∀b,bT (upd S (.o o) (ρ o::M)) fl b->bT S ((ρ o::M)++fl) b:=λb C=>(bT.attach x).1 (by simpa using C)
 have v:WS S ((ρ o::M)++fl) w (upd S (.o o) (ρ o::M)) fl w:=WS.stay own;have ext:Ext (am A k.H.length ρ S ((ρ o::M)++fl) w) (am A k.H.length ρ (upd S (.o o) (ρ o::M)) fl w):=v.ext (dC _) (λ_ _=>rfl)
 have a:({k with H:=k.H.set o ob}:Wk).H.length=k.H.length:=by simp
 refine⟨⟨λr t u=> ?_,λr i s=> ?_,h.obj,λn d c g=> ?_,by simpa using y,v.bU h,λp B=> ?_,h.fr,h.Fold,by rw[a];exact h.cP⟩,ext⟩
 .rw[a]
  rw[get]at u
  have i:r≠ .o o:=λe=>by grind
  rw[dG _ _ i];exact TC.ext ext _ _ _ (λ_ _=>rfl) (h.cont r t u)
 .by_cases m:r=.o o
  .grind
  .rw[dG _ _ m]
   rw[get]at i
   refine h.gone r i (λn d e c=>s n d e ?_)
   grind
 .rw[a]
  by_cases j:n=o
  .subst j
   simp only at c;rw[yK (List.getElem?_eq_some_iff.1 hl).1]at c
   simp only[xJ]at c
   subst c
   exact⟨M,eo _ _ _,z.ext ext rfl (λ_ _=>rfl)⟩
  .simp only at c
   rw[rj (Ne.symm j)]at c
   exact(h.map n d c g).ext ext (λ_ _=>rfl) (dG _ _ (by simpa using j)) rfl
 .rw[a]
  exact SO.aV ext (λr q=>h.hold _ (get r) rfl (λ_ _=>rfl) q) (h.ay p B)
theorem zd(h:KR A ρ S hd fl k ay w){t:TypeId}:(Instr.makeMap t none).run P w=.ok (.map (some w.heap.size)) (w.alloc (.map #[] 0))/\
  ∃a S' hd',KR A a S' hd' fl {k with H:=k.H++[.map []]} ay (w.alloc (.map #[] 0))/\SO (am A (k.H.length+1) a S' fl (w.alloc (.map #[] 0))) ({k with H:=k.H++[.map []]}:Wk).get hd' (.d (.map k.H.length)) (.map (some w.heap.size)):=by
 refine⟨by simp[Instr.makeMap],?_⟩
 obtain⟨c,e⟩:=KR.alloc (M:=[]) (by simpa using h) (.map #[] 0)
 obtain⟨b,f⟩:=c.newOb (.map []) w.heap.size (λx d=>by cases d) (λ_=>⟨[],rfl, #[],0,⟨by grind [am,heap_alloc_new],.nil⟩,rfl,rfl,rfl⟩) (by simp)
 refine⟨_,_,_,b,?_⟩
 refine VV.one ?_ (by simp)
 grind [VC,am]
end
section
variable{P:Pz}{c:Cx}{w:Wz}
theorem GC{t:TypeId}{n:Nat}{x y:D}{b:Bool}(h:ja P t=some n)(e:eqK n x y=some b):∃d,P.underlying t=some d/\
  ((∃k q a c,d=.int k/\x=.int q a/\y=.int q c/\b=(a==c))\/(∃a c,d=.string/\x=.str a/\y=.str c/\b=(a==c))\/(∃a c,d=.bool/\x=.bool a/\y=.bool c/\b=(a==c))):=by
 unfold eqK at e
 split at e
 .split at e <;>simp only[xJ,reduceCtorEq]at e
  rename_i hk;subst hk
  obtain⟨_,k,g⟩ |⟨f,g⟩ |⟨f,g⟩:=lK h
  .grind
  .cases f
  .cases f
 .grind [lK]
 .grind [lK]
 .cases e
theorem I4{t:TypeId}{n d0:Nat}{x:D}{v:Vz}{b0:Bool}(h:ja P t=some n)(hx:VC c x [v])(e:(eqK n x x).isSome=true):(Instr.checkKey b0 (d0+1) t v).run P w=.ok () w:=by
 obtain⟨b,e⟩:=Option.isSome_iff_exists.1 e;obtain⟨d,i,g⟩:=GC h e;unfold Instr.checkKey
 rcases g with⟨k,q,a,f,rfl,rfl,_,_⟩ |⟨a,f,rfl,rfl,_,_⟩ |⟨a,f,rfl,rfl,_,_⟩ <;>simp only[VC,xC,and_true]at hx
 .simp_all [run_underlying]
 .obtain⟨a,rfl,_⟩:=hx;simp[run_underlying i]
 simp_all [run_underlying]
theorem ul{cs:Array Vz}{b0:Bool}{d0:Nat}:∀(g:J Field) (i:Nat) (ks:J Nat) (d:J D),t8 P i g=some ks->aR c d (cs.toList.drop i)->(tY ks d d).isSome=true->
  (forIn g PUnit.unit λ(f:Field) (_:PUnit)=>(if f.name≠ "_" then do
    let a <-part f.type cs f.offset
    Instr.checkKey b0 (d0+1) f.type a
    pure (ForInStep.yield PUnit.unit)
   else pure (ForInStep.yield PUnit.unit):Sem (ForInStep PUnit))).run P w=.ok PUnit.unit w
 | [],i,ks,d,_,_,_=>by simp
 |f::g,i,ks,d,hk,h,e=>by
  simp only[t8]at hk
  split at hk
  .rename_i u
   obtain⟨rfl,B⟩:=u;simp only[xB,xM]at hk
   obtain⟨n,t,l,m,rfl⟩:=hk
   match d,e with
   |a::r,e=>
    obtain⟨b,e⟩:=Option.isSome_iff_exists.1 e;simp only[tY,xB,xM]at e
    obtain⟨x,A,y,p,rfl⟩:=e;simp only[aR]at h
    obtain⟨v,k,j,z,s⟩:=h
    have C:cs[f.offset]? =some v:=by
     have:(cs.toList.drop f.offset)[0]? =some v:=by rw[j];rfl
     rw[jA,kV,yM]at this
     exact this
    have q:cs.toList.drop (f.offset+1)=k:=by
     have:(cs.toList.drop f.offset).drop 1=k:=by rw[j];rfl
     rwa [oZ]at this
    have E:=ul (b0:=b0) (d0:=d0) g (f.offset+1) l r m (by rw[q];exact s) (by rw[p];rfl)
    have o:=I4 (w:=w) (b0:=b0) (d0:=d0) t z (by rw[A];rfl)
    simp_all [jE,Gv]
  .cases hk
theorem MT{kt:TypeId}{b0:Bool}{ks:J Nat}{l:J D}{cs:Array Vz}(d0:Nat)(h1:rA P kt=some ks)(hv:aR c l cs.toList)(e:(tY ks l l).isSome=true):(Instr.checkKey b0 (d0+2) kt (.agg cs)).run P w=.ok () w:=by
 obtain⟨a,b,_,_,h4⟩:=wu h1
 have:=ul (w:=w) (b0:=b0) (d0:=d0) a.toList 0 ks l h4 (by simpa using hv) e
 show(Instr.checkKey b0 ((d0+1)+1) kt (.agg cs)).run P w=_
 generalize d0+1=d1 at this |-
 simp_all [Instr.checkKey,run_underlying]
theorem o8{kt:TypeId}{kd:D}{key:Vz}{b0:Bool}(hk:VV c kd key)(e:(eC P kt kd kd).isSome=true):(Instr.checkKey b0 10000 kt key).run P w=.ok () w:=by
 by_cases d:∃l,kd=.agg l
 .grind [VV.cG,Option.isSome_iff_exists,eC,xB,MT]
 .have h:∃n,ja P kt=some n/\(eqK n kd kd).isSome=true:=by
   obtain⟨b,e⟩:=Option.isSome_iff_exists.1 e
   have:(ja P kt).bind (λn=>eqK n kd kd)=some b:=by
    revert e;cases kd <;>intro e <;>first |exact e |grind
   simp only[xB]at this
   obtain⟨n,f,a⟩:=this
   exact⟨n,f,by rw[a];rfl⟩
  obtain⟨n,f,a⟩:=h;exact I4 (d0:=9999) f (VV.inv hk (λl g=>d ⟨l,g⟩)) a
theorem RetAll.get{c:Cx}:∀(d:J T) (vs:J Vz) (M:J Nat),RetAll c d vs M->∀(i:Nat) (t:T) (v:Vz),d[i]? =some t->vs[i]? =some v->∃M',(∀b∈M',b∈M)/\TC c t v.cells.toList M'/\qw t v
 | [],_,_,_,i,t,v,h,_=>by simp at h
 |a::d,vs,M,e,i,t,v,k,j=>by
  obtain⟨u,r,g,f,rfl,rfl,h3,h4,h5⟩:=e
  cases i with
  |zero=>
   grind
  |succ i=>
   have:=RetAll.get d r f h5 i t v;grind
theorem B?{c:Cx}{y:D}{v:Vz}{M:J Nat}(h:TC c (.d y) v.cells.toList M)(hf:qw (.d y) v):VV c y v:=by
 simp only[TC]at h
 exact⟨h.2,hf⟩
def Found(eq:D->D->U Bool)(kd:D)(es:J (D×T))(d:J MapEntry)(e:Nat)(r:U T)(a:U (Nat×Vz)):Prop:=
 (r=none/\a=none/\∀x,qt eq kd x es=some (es++[(kd,x)]))\/
 ∃i t b c,r=some t/\es[i]? =some (b,t)/\d[i]? =some c/\a=some (e+i,c.val)/\eq kd b=some true/\∀x,qt eq kd x es=some (es.set i (kd,x))
theorem Found.skip{eq:D->D->U Bool}{kd:D}{e:D×T}{x:MapEntry}{es:J (D×T)}{f:J MapEntry}{g:Nat}{r:U T}{a:U (Nat×Vz)}(d:eq kd e.1=some false)(h:Found eq kd es f (g+1) r a):Found eq kd (e::es) (x::f) g r a:=by
 obtain⟨c,b,h3⟩ |⟨i,t,k,j,c,b,h3,h4,h5,h6⟩:=h
 .exact .inl ⟨c,b,λy=>by simp[qt,d,h3]⟩
 .refine .inr ⟨i+1,t,k,j,c,by simpa using b,by simpa using h3,?_,h5,λy=>by simp[qt,d,h6]⟩
  grind
theorem Found.here{eq:D->D->U Bool}{kd k0:D}{t:T}{x:MapEntry}{es:J (D×T)}{c:J MapEntry}{a:Nat}(b:eq kd k0=some true):Found eq kd ((k0,t)::es) (x::c) a (some t) (some (a,x.val)):=
 .inr ⟨0,t,k0,x,rfl,rfl,rfl,rfl,b,λy=>by simp[qt,b]⟩
theorem GD{eq:D->D->U Bool}{d:TypeDesc}{kd:D}{key:Vz}(hc:∀k0 u b,VV c k0 u->eq kd k0=some b->Instr.sameNow d key u=some b):∀(es:J (D×T)) (f:J MapEntry) (g:Nat) (r:U T),All2 (J3 c) es f->jX eq kd es=some r->
  ∃a,Instr.findNow d key f g=some a/\Found eq kd es f g r a
 | [],f,g,r,h,e=>by
  rw[show f=[]from h]
  simp only[jX,xJ]at e;subst e
  exact⟨none,rfl,.inl ⟨rfl,rfl,λx=>rfl⟩⟩
 |(k0,t)::es,f,g,r,h,e=>by
  obtain⟨x,i,rfl,l,h3⟩:=h;simp only[jX,xB]at e
  obtain⟨b,j,e⟩:=e;have m:=hc k0 x.key b l j;cases b
  .simp only[xH,if_false]at e
   obtain⟨a,n,k⟩:=GD hc es i (g+1) r h3 e
   exact⟨a,by grind [Instr.findNow],k.skip j⟩
  .simp only[if_true,xJ]at e;subst e
   simp_all [Instr.findNow,Found.here]
theorem w9{eq:D->D->U Bool}{kt:TypeId}{kd:D}{key:Vz}(hc:∀k0 u b,VV c k0 u->eq kd k0=some b->(Op.equal kt key u).run P w=.ok b w):∀(es:J (D×T)) (d:J MapEntry) (f:Nat) (r:U T),All2 (J3 c) es d->jX eq kd es=some r->
  ∃a,(Instr.findAsking kt key d f).run P w=.ok a w/\Found eq kd es d f r a
 | [],d,f,r,g,e=>by
  rw[show d=[]from g]
  simp only[jX,xJ]at e;subst e
  exact⟨none,rfl,.inl ⟨rfl,rfl,λx=>rfl⟩⟩
 |(k0,t)::es,d,f,r,g,e=>by
  obtain⟨x,h,rfl,l,h3⟩:=g;simp only[jX,xB]at e
  obtain⟨b,i,e⟩:=e;have k:=hc k0 x.key b l i;cases b
  .simp only[xH,if_false]at e
   obtain⟨a,m,j⟩:=w9 hc es h (f+1) r h3 e
   exact⟨a,by simp[Instr.findAsking,k,m],j.skip i⟩
  .simp only[if_true,xJ]at e;subst e
   simp_all [Instr.findAsking,Found.here]
theorem ze{kt:TypeId}{kd:D}{key:Vz}{es:J (D×T)}{o:J MapEntry}{r:U T}(hk:VV c kd key)(i:(eC P kt kd kd).isSome=true)(ha:All2 (J3 c) es o)(e:jX (eC P kt) kd es=some r):
  ∃f,(Instr.findKey kt key o).run P w=.ok f w/\Found (eC P kt) kd es o 0 r f:=by
 by_cases p:∃l,kd=.agg l
 .obtain⟨l,rfl⟩:=p
  obtain⟨G,rfl,H⟩:=VV.cG hk;obtain⟨b,i⟩:=Option.isSome_iff_exists.1 i;simp only[eC,xB]at i
  obtain⟨W,s,_⟩:=i;obtain⟨R,A,_,_,h4⟩:=wu s
  obtain⟨f,z,t⟩:=w9 (P:=P) (w:=w) (kt:=kt) (key:=.agg G) (eq:=eC P kt) (kd:=.agg l) (λE u b g j=>by
   cases E with
   |agg S=>
    obtain⟨L,rfl,v⟩:=VV.cG g;simp only[eC,xB]at j
    obtain⟨K,B,j⟩:=j;exact VT (d0:=9998) B H v j
   |_=>
    grind [eC,xB,eqK]) es o 0 r ha e
  cases es with
  |nil=>
   rw[show o=[]from ha]at z |-
   refine⟨f,?_,by rw[show o=[]from ha]at t;exact t⟩
   simp_all [Instr.findAsking,Instr.findKey,run_underlying,Instr.findNow]
  |cons Q es=>
   obtain⟨x,N,rfl,_,_⟩:=ha
   refine⟨f,?_,t⟩
   simp[Instr.findKey,run_underlying A,Instr.findNow,Instr.sameNow,z]
 .have C:∀y,eC P kt kd y=(ja P kt).bind λn=>eqK n kd y:=λy=>by
   cases kd <;>first |rfl |grind
  obtain⟨b,i⟩:=Option.isSome_iff_exists.1 i;rw[C,xB]at i
  obtain⟨n,s,I⟩:=i;obtain⟨d,A,_⟩:=GC s I;have h:=VV.inv hk (λl O=>p ⟨l,O⟩)
  obtain⟨f,z,t⟩:=GD (d:=d) (key:=key) (eq:=eC P kt) (kd:=kd) (λE u b g j=>by
   rw[C,s,xS]at j
   obtain⟨V,m,M⟩:=GC s j;rw[A]at m
   simp only[xJ]at m
   subst m
   obtain⟨k,q,a,F,rfl,rfl,rfl,rfl⟩ |⟨a,F,rfl,rfl,rfl,rfl⟩ |⟨a,F,rfl,rfl,rfl,rfl⟩:=M
   .simp only[VC,xC,and_true]at h
    rw[h,VV.of_int g];simp[Instr.sameNow]
   .grind [VV.of_str,Instr.sameNow,beq_toListBytes,ByteArray.toList_eq]
   .simp only[VC,xC,and_true]at h
    rw[h,VV.of_bool g];simp[Instr.sameNow]) es o 0 r ha e
  simp_all [Instr.findKey,run_underlying]
theorem um{t kt e:TypeId}(h:mz P t=some (kt,e)):P.underlying t=some (.map kt e):=by
 grind [mz]
theorem acl{n m:Nat}{x y:D}{u v:Vz}(hx:VC c x [u])(a:VC c y [v])(e:eqK n x y=some true):Instr.sameBits m v u=true:=by
 unfold eqK at e
 split at e
 .grind [VC,Instr.sameBits]
 .grind [VC,beq_toListBytes,ByteArray.toList_eq,Instr.sameBits]
 .grind [VC,Instr.sameBits]
 .cases e
theorem VZ{m:Nat}:∀(ks:J Nat) (f bs:J D) (d vs:J Vz),aR c f d->aR c bs vs->tY ks f bs=some true->vs.length=d.length/\((vs.zip d).all λ(x,y)=>Instr.sameBits m x y)=true
 | [],[],[],d,vs,g,i,_=>by simp_all [aR]
 |n::h,a::f,b::bs,d,vs,g,i,e=>by
  have:=VZ (m:=m) h f bs;grind [tY,xB,xM,aR,List.zip_cons_cons,acl]
theorem C6{kt:TypeId}{kd k0:D}{key a:Vz}(hk:VV c kd key)(h0:VV c k0 a)(e:eC P kt kd k0=some true):(Instr.keyThatStays a key).run P w=.ok key w:=by
 have:Instr.sameBits 10000 a key=true:=by
  by_cases b:∃l,kd=.agg l
  .obtain⟨l,rfl⟩:=b
   obtain⟨s,rfl,i⟩:=VV.cG hk
   cases k0 with
   |agg o=>
    obtain⟨p,rfl,d⟩:=VV.cG h0;simp only[eC,xB]at e
    obtain⟨f,h,j⟩:=e;obtain⟨t,r⟩:=VZ (m:=9999) f l o _ _ i d j
    grind [Instr.sameBits]
   |_=>
    grind [eC,xB,eqK]
  .have q:eC P kt kd k0=(ja P kt).bind λn=>eqK n kd k0:=by
    cases kd <;>first |rfl |grind
   rw[q,xB]at e
   obtain⟨n,u,k⟩:=e;have h3:∀l,k0≠ .agg l:=λl g=>by grind [eqK]
   exact acl (VV.inv hk (λl g=>b ⟨l,g⟩)) (VV.inv h0 h3) k
 simp[Instr.keyThatStays,this]
theorem Cb{eq:D->D->U Bool}{kd:D}{x:T}:∀(es es':J (D×T)),qt eq kd x es=some es'->∃r,jX eq kd es=some r
 | [],_,_=>⟨none,rfl⟩
 |e::es,es',h=>by
  simp only[qt,xB]at h
  obtain⟨b,c,h⟩:=h;cases b
  .simp only[xH,if_false,xM]at h
   obtain⟨q,a,_⟩:=h
   have:=Cb es q a;grind [jX]
  simp_all [jX]
end
section
variable{P:Pz}{A:Av}{ρ:Nat->Nat}{S:aj->J Nat}{hd:aj->Vz}{fl:J Nat}{k k':Wk}{ay:J (SV×Vz)}{w:Wz}
theorem iW{r:Nat}{es:Array MapEntry}{a:Nat}(h:w.heap[r]? =some (.map es a)):(getObj r).run P w=.ok (.map es a) w:=by
 simp[getObj,Sem.run,h]
theorem Pm(h:KR A ρ S hd fl k ay w){t:TypeId}{g:Bool}{m x sv:SV}{u xv:Vz}(N:SO (am A k.H.length ρ S fl w) k.get hd m u)(hx:SO (am A k.H.length ρ S fl w) k.get hd x xv)(e:nA P t m x g k.H=some sv):
  ∃v,(Instr.lookup t u xv g).run P w=.ok v w/\SO (am A k.H.length ρ S fl w) k.get hd sv v:=by
 simp only[nA,xB]at e
 obtain⟨⟨W,el⟩,h1,e⟩:=e;have hu:=um h1;simp only at e
 split at e
 .rename_i kd
  split at e
  .rename_i I
   simp only[xB,xM]at e
   obtain⟨r,p,z,hz,⟨y,b⟩,E,l⟩:=e;simp only at l;obtain⟨i,K,z1,z2,z3,U⟩:=lJ hz;have F:=mD (c:=am A k.H.length ρ S fl w) z3
   -- the entries
   have aa:∃(f:Array MapEntry) (n:J (D×T)) (M:J Nat),All2 (J3 (am A k.H.length ρ S fl w)) n f.toList/\RetAll (am A k.H.length ρ S fl w) (n.map (·.2)) (f.toList.map (·.val)) M/\jX (eC P W) kd n=some r/\
     ((u=.map none/\f= #[])\/∃b B,u=.map (some b)/\w.heap[b]? =some (.map f B)):=by
    split at p
    .simp only[xJ]at p;subst p
     have:u=.map none:=by have:=VV.inv N (by simp);simpa [VC]using this
     exact⟨#[],[],[],rfl,⟨rfl,rfl⟩,rfl,.inl ⟨this,rfl⟩⟩
    .rename_i o
     split at p
     .rename_i n O
      have a:=VV.inv N (by simp)
      simp only[VC,xC,and_true]at a
      obtain⟨M,_,f,B,R,V,Y⟩:=h.map o _ O rfl
      exact⟨f,n,M,V,Y,p,.inr ⟨_,B,a.2,R.1⟩⟩
     .rename_i ks O
      have a:=VV.inv N (by simp)
      simp only[VC,xC,and_true]at a
      obtain⟨M,_,n,f,B,R,V,Y,m5⟩:=h.map o _ O rfl
      exact⟨f,n,M,V,Y,m5.find I p,.inr ⟨_,B,a.2,R.1⟩⟩
     .cases p
    .cases p
   obtain⟨f,n,M,a1,X,a2,Z⟩:=aa;obtain⟨s,L,f2⟩:=ze (w:=w) hx I a1 a2;have Q:(Instr.checkKey f.isEmpty 10000 W xv).run P w=.ok () w:=o8 hx I
   have H:(Instr.lookup t u xv g).run P w=match s with
     |some (_,v)=>.ok (if g then .tuple #[v,.bool true]else v) w
     |none=>.ok (if g then .tuple #[K,.bool false]else K) w:=by
    obtain⟨rfl,rfl⟩ |⟨b,B,rfl,hb⟩:=Z
    .have C:(Instr.checkKey true 10000 W xv).run P w=.ok () w:=o8 hx I
     rcases s with _ |⟨q,v⟩ <;>simp[Instr.lookup,run_underlying hu,C,L,U w]
     all_goals simp at L
     all_goals simp[L,U w]
    .rcases s with _ |⟨q,v⟩ <;>simp[Instr.lookup,run_underlying hu,iW hb,Q,L,U w]
   rw[H]
   obtain⟨rfl,rfl,_⟩ |⟨j,t0,k0,e0,rfl,g2,g3,rfl,_,_⟩:=f2
   .simp only[xJ,pJ]at E
    obtain⟨rfl,rfl⟩:=E
    refine⟨if g then .tuple #[K,.bool false]else K,rfl,?_⟩
    cases g
    .simp only[xH,if_false]at l |-
     subst l;exact F
    .simp only[if_true]at l |-
     subst l
     exact⟨_,rfl,_,_,rfl,F,_,_,rfl,VV.cW _,rfl⟩
   .obtain⟨M',_,q2,q3⟩:=RetAll.get _ _ _ X j t0 e0.val (by simp[g2]) (by simp[g3])
    cases t0 with
    |d y'=> ?_
    |_=>cases E
    have G:=B? q2 q3;simp only[xJ,pJ]at E
    obtain⟨rfl,rfl⟩:=E
    refine⟨if g then .tuple #[e0.val,.bool true]else e0.val,rfl,?_⟩
    cases g
    .simp only[xH,if_false]at l |-
     subst l;exact G
    .simp only[if_true]at l |-
     subst l
     exact⟨_,rfl,_,_,rfl,G,_,_,rfl,VV.cW _,rfl⟩
  .cases e
 .cases e
end
theorem All2.set{e f:Type}{R:e->f->Prop}:∀{d:J e} {l:J f} (i:Nat) {a:e} {b:f},All2 R d l->R a b->All2 R (d.set i a) (l.set i b)
 | [],_,i,_,_,h,_=>by grind [All2]
 |x::d,_,i,a,b,h,c=>by
  obtain⟨y,r,rfl,g,h3⟩:=h
  cases i with
  |zero=>exact⟨b,r,rfl,c,h3⟩
  |succ i=>exact⟨y,_,rfl,g,All2.set i h3 c⟩
theorem Ext.trans{a b c:Cx}(x:Ext a b)(y:Ext b c):Ext a c:=
 ⟨λt g h=>⟨(y.pm t g (x.pm t g h).1).1,((y.pm t g (x.pm t g h).1).2).trans (x.pm t g h).2⟩,fj x.nO y.nO,λo d=>(y.ρ o (yA d x.nO)).trans (x.ρ o d)⟩
theorem AL{b:Type}:∀{l:J b} {i:Nat} {a:b},l[i]? =some a->l.set i a=l
 | [],_,_,h=>by simp at h
 |x::l,0,a,h=>by grind
 |x::l,i+1,a,h=>by simp at h;simp[AL h]
theorem RetAll.out{c:Cx}:∀(e:J T) (vs:J Vz) (M:J Nat) (i:Nat) (t:T) (v:Vz),RetAll c e vs M->e[i]? =some t->vs[i]? =some v->v.oneCell'=true->∃b k d,M=b++k++d/\TC c t v.cells.toList k/\RetAll c (e.set i .dead) vs (b++d)
 | [],_,_,i,t,v,_,h,_,_=>by simp at h
 |a::e,vs,M,i,t,v,o,g,f,j=>by
  obtain⟨u,r,b,d,rfl,rfl,h3,h4,h5⟩:=o
  cases i with
  |zero=>
   simp only[yE,xJ]at g f
   subst g;subst f
   refine⟨[],b,d,by simp,h3,u,r,[],d,rfl,by simp,?_,j,h5⟩
   grind [TC,lI]
  |succ i=>
   obtain⟨m,q,l,rfl,n,p⟩:=RetAll.out e r d i t v h5 (by simpa using g) (by simpa using f) j
   exact⟨b++m,q,l,by simp,n,u,r,b,m++l,rfl,by simp,h3,h4,p⟩
section
variable{P:Pz}{A:Av}{ρ:Nat->Nat}{S:aj->J Nat}{hd:aj->Vz}{fl:J Nat}{k k':Wk}{ay:J (SV×Vz)}{w:Wz}
theorem KR.setMapM{M N N':J Nat}(h:KR A ρ S hd (M++fl) k ay w){o:Nat}{es es':J (D×T)}{V en':Array MapEntry}{B cl':Nat}(m:k.H[o]? =some (.map es))(x:S (.o o)=ρ o::N)(z:∀b∈N',b∈N++M)(O:N'.Nodup)(hb:w.heap[ρ o]? =some (.map V B))(i:cY en' cl')
  (hk:All2 (J3 (am A k.H.length ρ S (M++fl) w)) es' en'.toList) (hv:RetAll (am A k.H.length ρ S (M++fl) w) (es'.map (·.2)) (en'.toList.map (·.val)) N'):
  ∃S',KR A ρ S' hd fl {k with H:=k.H.set o (.map es')} ay {w with heap:=w.heap.setIfInBounds (ρ o) (.map en' cl')}:=by
 obtain⟨Q,C⟩:=h.lockMap m rfl x;have j:ρ o<w.heap.size:=(Array.getElem?_eq_some_iff.1 hb).1;have f:(ρ o::N).Nodup:=by have:=h.bw.nd (.o o);rwa [x]at this
 obtain⟨u,y⟩:=KR.world (w:=w) (w':={w with heap:=w.heap.setIfInBounds (ρ o) (.map en' cl')}) (M:=ρ o::N) (M':=ρ o::N) rfl rfl rfl (by simp) (cH.other (g:=ρ o) (λb hb=>by simp[Ne.symm hb]) (λr=>by rw[hb];simp)) Q (λb d G=>by
  grind) (λb hb=>.inl hb) f
 have l:o<k.H.length:=(List.getElem?_eq_some_iff.1 m).1;have U:({k with H:=k.H.set o .lock}:Wk).H[o]? =some .lock:=yK l
 have a:({k with H:=k.H.set o .lock}:Wk).H.length=k.H.length:=by simp
 have c:=u.bw.ndF
 have E:∀b∈N',b≠ρ o:=λb d e=>by
  grind
 have I:∀b∈N',b∉fl:=λb d R=>by
  grind
 have K:ρ o∉fl:=λR=>by
  grind
 have L:fl.Nodup:=by
  rw[l6,List.nodup_cons,<-xK,xT]at c
  exact c.2.2.1
 obtain⟨P,v⟩:=u.letGo (fl':=(ρ o::N')++fl) (by
  grind) (λb hb=>by
  grind)
 rw[a]at y v
 have s:=(C.trans y).trans v
 obtain⟨Y,W⟩:=P.unlockMap (M:=N') (ob:=.map es') rfl U (by
  rw[a]
  refine⟨en',cl',⟨by simp[am,j],i⟩,hk.imp (λ_ _ _ q=>VV.ext s q),RetAll.ext s _ _ _ (λg X=> ?_) hv⟩
  grind [am])
 grind [List.set_set]
theorem V2(h:KR A ρ S hd fl k ay w){dst:Nat}{t:TypeId}{m x sv:SV}{a xv:Vz}(b:SO (am A k.H.length ρ S fl w) k.get hd m a)(hx:SO (am A k.H.length ρ S fl w) k.get hd x xv)(e:Gb P dst t m x k=some (sv,k')):
  ∃v S' hd',(Instr.lookup t a xv false).run P w=.ok v w/\KR A ρ S' hd' fl k' ay w/\SO (am A k'.H.length ρ S' fl w) k'.get hd' sv v:=by simp[Gb]at e
theorem MU(h:KR A ρ S hd fl k ay w){t:TypeId}{m x sv:SV}{a xv:Vz}(b:SO (am A k.H.length ρ S fl w) k.get hd m a)(hx:SO (am A k.H.length ρ S fl w) k.get hd x xv)(e:nY P t m x k=some (sv,k')):
  ∃v S' hd',(Instr.lookup t a xv false).run P w=.ok v w/\KR A ρ S' hd' fl k' ay w/\SO (am A k'.H.length ρ S' fl w) k'.get hd' sv v:=by simp[nY]at e
theorem V3(h:KR A ρ S hd fl k ay w){dst:Nat}{v sv:SV}{val:Vz}(hv:SO (am A k.H.length ρ S fl w) k.get hd v val)(e:t6 dst v k=some (sv,k')):
  ∃S' hd',KR A ρ S' hd' fl k' ay w/\SO (am A k'.H.length ρ S' fl w) k'.get hd' sv val:=by
 unfold t6 at e
 split at e
 .rename_i r p F
  simp only[xB]at e
  obtain⟨c,f,K,i,e⟩:=e
  split at e
  .rename_i s
   split at e
   .rename_i H
    obtain⟨rfl,_⟩:=H;simp only[xB,xM,pJ]at e
    obtain⟨J,z,m,l,rfl,rfl⟩:=e;obtain⟨t0,C,x,b,d,b3,b4,b5⟩:=hv;rw[f]at b
    simp only[xJ]at b
    subst b;rw[i]at d
    simp only[xJ,T.own.injEq]at d
    subst d;obtain⟨u,L,q,R,G,g⟩:=TC.focus p c (hd r) (S r) (.own s) (h.cont r c f) i;have E:u=x:=aI.uniq p c (hd r) u x g.node b3;subst E;obtain⟨I,D⟩:=h.takeOut f G g z l;have o:=TC.ext D _ _ _ (λ_ _=>rfl) (Win.whole b5 g.tc)
    have a:(m.tell (.kill r p)).H.length=k.H.length:=by show m.H.length=_;exact uh l
    obtain⟨B,y⟩:=KR.du (n:=dst) (j:=0) (t:=.own s) (hv:=val) (M:=q) I (by rw[a];exact o)
    refine⟨_,_,B,AI (M:=q) (TC.ext y _ _ _ (λ_ _=>rfl) (by rw[a];exact o)) (by simp)⟩
   .cases e
  .cases e
 .cases e
theorem KR.newPl(h:KR A ρ S hd fl k ay w){ob:Ob}{o:Obj}(hp:ob.plain=true)(ho:∀c:Cx,c.nO=k.H.length->c.ρ=ρ->c.w=w.alloc o->ObOK c w.heap.size [] ob):
  ∃a S' hd',KR A a S' hd' fl {k with H:=k.H++[ob]} ay (w.alloc o)/\SO (am A (k.H.length+1) a S' fl (w.alloc o)) ({k with H:=k.H++[ob]}:Wk).get hd' (.d (.ptr k.H.length)) (.pointer (some ⟨w.heap.size,0,none⟩)):=by
 obtain⟨e,g⟩:=KR.alloc (M:=[]) (by simpa using h) o
 obtain⟨d,i⟩:=e.newOb ob w.heap.size (λy f=>by subst f;cases hp) (λ_=>⟨[],rfl,ho _ rfl rfl rfl⟩) (by rintro rfl;cases hp)
 refine⟨_,_,_,d,VV.one ?_ (by simp)⟩
 grind [VC,am]
theorem Ti(h:KR A ρ S hd fl k ay w){t:TypeId}{x sv:SV}{v:Vz}(hx:SO (am A k.H.length ρ S fl w) k.get hd x v)(e:uc P t x k=some (sv,k')):
  ∃val w' a S' hd',(Instr.range t v).run P w=.ok val w'/\KR A a S' hd' fl k' ay w'/\SO (am A k'.H.length a S' fl w') k'.get hd' sv val:=by
 unfold uc at e
 split at e
 .rename_i s m
  simp only[xJ,pJ]at e
  obtain⟨rfl,rfl⟩:=e;have d:=VV.inv hx (by simp)
  simp only[VC,xC,and_true]at d
  obtain⟨b,rfl,n⟩:=d;obtain⟨a,S',hd',i,g⟩:=h.newPl (ob:=.iter s 0) (o:=.stringIter b 0) rfl (λc _ _ l=>⟨rfl,b,by grind [heap_alloc_new],n⟩)
  refine⟨.pointer (some ⟨w.heap.size,0,none⟩),w.alloc (.stringIter b 0),a,S',hd',?_,i,by simpa using g⟩
  simp_all [Instr.range,run_underlying]
 .rename_i u q m
  simp only[xJ,pJ]at e
  obtain⟨rfl,rfl⟩:=e;have d:=VV.inv hx (by simp)
  simp only[VC,xC,and_true]at d
  subst d;obtain⟨a,S',hd',i,g⟩:=h.newPl (ob:=.bY none) (o:=.mapIter none 0 #[] 0) rfl (λc _ _ l=>⟨rfl,by simp,0,0,by grind [heap_alloc_new]⟩)
  refine⟨.pointer (some ⟨w.heap.size,0,none⟩),w.alloc (.mapIter none 0 #[] 0),a,S',hd',?_,i,by simpa using g⟩
  simp_all [Instr.range,run_underlying]
 .rename_i u q o m
  split at e
  .rename_i D j
   simp only[xJ,pJ]at e
   obtain⟨rfl,rfl⟩:=e;have d:=VV.inv hx (by simp)
   simp only[VC,xC,and_true]at d
   obtain⟨z,rfl⟩:=d;obtain⟨N,G,r,f,p,F,C⟩:=h.map o _ j rfl;have n:w.heap[ρ o]? =some (.map r f):=p.1;obtain⟨a,S',hd',i,g⟩:=h.newPl (ob:=.bY (some o)) (o:=.mapIter (some (ρ o)) f #[] f) rfl (λc y B l=>⟨rfl,λE e=>by grind,f,f,by grind [heap_alloc_new]⟩)
   refine⟨.pointer (some ⟨w.heap.size,0,none⟩),w.alloc (.mapIter (some (ρ o)) f #[] f),a,S',hd',?_,i,by simpa using g⟩
   simp_all [Instr.range,run_underlying,getObj,Sem.run,am]
  .cases e
 .cases e
theorem KR.setPl(h:KR A ρ S hd fl k ay w){n:Nat}{ob ob':Ob}{o':Obj}(j:k.H[n]? =some ob)(hp:ob.plain=true)(f:ob'.plain=true){N:J Nat}(q:S (.o n)=ρ n::N)(s:ρ n<w.heap.size)(i:∀r,w.heap[ρ n]? ≠some (.loop r))
  (ho:∀c:Cx,c.nO=k.H.length->c.ρ=ρ->c.w={w with heap:=w.heap.setIfInBounds (ρ n) o'}->ObOK c (ρ n) [] ob'):
  ∃S',KR A ρ S' hd fl {k with H:=k.H.set n ob'} ay {w with heap:=w.heap.setIfInBounds (ρ n) o'}:=by
 obtain⟨x,G⟩:=h.lockMap j hp q;have a:(ρ n::N).Nodup:=by have:=h.bw.nd (.o n);rwa [q]at this
 obtain⟨l,C⟩:=KR.world (w:=w) (w':={w with heap:=w.heap.setIfInBounds (ρ n) o'}) (M:=ρ n::N) (M':=ρ n::N) (fl:=fl) rfl rfl rfl (by simp) (cH.other (g:=ρ n) (λb d=>by simp[Ne.symm d]) i) (by simpa using x) (λb v y=>by
  grind) (λb d=>.inl d) a
 have e:n<k.H.length:=(List.getElem?_eq_some_iff.1 j).1;have z:({k with H:=k.H.set n .lock}:Wk).H[n]? =some .lock:=yK e
 have m:({k with H:=k.H.set n .lock}:Wk).H.length=k.H.length:=by simp
 have B:=l.bw.ndF
 obtain⟨u,I⟩:=l.letGo (fl':=(ρ n::[])++fl) (by
  grind) (λb d=>by
  grind)
 obtain⟨E,D⟩:=u.unlockMap (M:=[]) (ob:=ob') f z (ho _ (by simp[am]) rfl rfl)
 grind [List.set_set]
theorem MV{y:ByteArray}{s:J UInt8}(h:y.data.toList=s):y=⟨s.toArray⟩/\y.size=s.length:=by
 obtain⟨d⟩:=y;subst h
 exact⟨congrArg ByteArray.mk (Array.toArray_toList (xs:=d)).symm,(yF (xs:=d)).symm⟩
theorem V4(h:KR A ρ S hd fl k ay w){t:TypeId}{x sv:SV}{v:Vz}{str:Bool}(hx:SO (am A k.H.length ρ S fl w) k.get hd x v)(e:CZ x str k=some (sv,k')):
  ∃val w' l S' hd',(Instr.next v str t).run P w=.ok val w'/\KR A l S' hd' fl k' ay w'/\SO (am A k'.H.length l S' fl w') k'.get hd' sv val:=by
 have b:∀{c:Cx} {K:aj->U T} {hd:aj->Vz},SO c K hd (.aS [.d (.bool false)]) (.tuple #[.bool false]):=λ{c K hd}=>⟨_,rfl,_,_,rfl,VV.one (by simp[VC]) (by simp),rfl⟩
 unfold CZ at e
 split at e
 .rename_i i
  have B:=VV.inv hx (by simp)
  simp only[VC,xC,and_true]at B
  obtain⟨W,rfl⟩:=B
  split at e
  .rename_i s p f
   obtain⟨N,u,D,y,j,C⟩:=h.map i _ f rfl;obtain⟨V,Q⟩:=MV C;have n:w.heap[ρ i]? =some (.stringIter y p):=j;have q:ρ i<w.heap.size:=(Array.getElem?_eq_some_iff.1 n).1
   split at e
   .rename_i I
    simp only[xJ,pJ]at e
    obtain⟨rfl,rfl⟩:=e;obtain⟨S',J⟩:=h.setPl (ob':=.iter s (p+(Utf8.decode ⟨s.toArray⟩ p).2)) (o':=.stringIter y (p+(Utf8.decode y p).2)) f rfl rfl u q (λr=>by rw[n];simp) (λc _ _ R=>⟨rfl,y,by grind,C⟩)
    refine⟨.tuple #[.bool true,.int .i64 p,.int .i32 (Utf8.decode ⟨s.toArray⟩ p).1],_,ρ,S',hd,?_,J,?_⟩
    .simp_all [Instr.next,am,getObj,setObj,Sem.run,goInt]
    .exact⟨_,rfl,_,_,rfl,VV.one (by simp[VC]) (by simp),_,_,rfl,VV.one (by simp[VC]) (by simp),_,_,rfl,VV.one (by simp[VC]) (by simp),rfl⟩
   .rename_i I
    simp only[xJ,pJ]at e
    obtain⟨rfl,rfl⟩:=e
    refine⟨.tuple #[.bool false],w,ρ,S,hd,?_,h,b⟩
    have g:¬p<y.size:=by omega
    simp only[Instr.next,am];simp[Sem.run_bind,getObj,Sem.run,n,Result.andThen,g]
  .rename_i f
   simp only[xJ,pJ]at e
   obtain⟨rfl,rfl⟩:=e;obtain⟨N,u,D,H,a,d,j⟩:=h.map i _ f rfl;have n:w.heap[ρ i]? =some (.mapIter none a #[] d):=j
   refine⟨.tuple #[.bool false],w,ρ,S,hd,?_,h,b⟩
   simp_all [Instr.next,am,getObj,Sem.run]
  .rename_i m f
   split at e
   .rename_i E
    simp only[xJ,pJ]at e
    obtain⟨rfl,rfl⟩:=e;obtain⟨N,u,D,H,a,d,j⟩:=h.map i _ f rfl;have n:w.heap[ρ i]? =some (.mapIter (some (ρ m)) a #[] d):=j;obtain⟨O,M,z,F,G,q3,q4⟩:=h.map m _ E rfl;have L:w.heap[ρ m]? =some (.map z F):=G.1
    have o:z= #[]:=by
     have:z.toList=[]:=q3
     simpa using this
    subst o
    refine⟨.tuple #[.bool false],w,ρ,S,hd,?_,h,b⟩
    simp_all [Instr.next,am,getObj,Sem.run,Question.forced]
   .cases e
  .cases e
 .cases e
theorem Tj{c:Cx}{K:aj->U T}{t:TypeId}{x sv:SV}{v:Vz}(hx:SO c K hd x v)(e:mU P t x=some sv):(Instr.makeInterface t v).run P w=.ok (.iface t v) w/\SO c K hd sv (.iface t v):=by
 unfold mU at e
 split at e
 .rename_i y
  split at e
  .cases e
  .rename_i d a b
   simp only[xJ]at e
   subst e
   refine⟨?_,VV.one ?_ (by simp)⟩
   .cases d with
    |interface m=>grind
    |_=>simp_all [Instr.makeInterface,run_underlying]
   .simp only[VC]
    exact⟨v,rfl,hx.1,hx.2⟩
  .cases e
 .cases e
theorem Pn{c:Cx}{K:aj->U T}{xt u:TypeId}{p:Bool}{x sv:SV}{v:Vz}(hx:SO c K hd x v)(e:rB P u p x=some sv):∃val,(Instr.typeAssert v xt u p).run P w=.ok val w/\SO c K hd sv val:=by
 have f:∀{z:D} {d:TypeDesc} {a b:U TypeId},P.underlying u=some d->dS P u=some z->∃h,(zeroValue u).run P w=.ok h w/\SO c K hd (.aS [.d z,.d (.bool false)]) (.tuple #[h,.bool false]):=by
  intro z d a b _ l;obtain⟨i,h,F,G,C,B⟩:=lJ l
  exact⟨h,B w,_,rfl,_,_,rfl,mD C,_,_,rfl,VV.one (by simp[VC]) (by simp),rfl⟩
 unfold rB at e
 split at e
 .have k:=VV.inv hx (by simp)
  simp only[VC,xC,and_true]at k
  subst k
  split at e
  .cases e
  .rename_i d s q
   split at e
   .rename_i g
    subst g;simp only[xM]at e
    obtain⟨z,l,rfl⟩:=e;obtain⟨h,r,n⟩:=f (a:=none) (b:=none) q l
    refine⟨_,?_,n⟩
    cases d with
    |interface m=>grind
    |_=>simp_all [Instr.typeAssert,run_underlying]
   .cases e
  .cases e
 .rename_i t y
  have k:=VV.inv hx (by simp)
  simp only[VC,xC,and_true]at k
  obtain⟨o,rfl,r,n⟩:=k
  split at e
  .cases e
  .rename_i d s q
   split at e
   .rename_i j
    subst j;simp only[xJ]at e
    subst e
    cases p with
    |true=>
     refine⟨.tuple #[o,.bool true],?_,_,rfl,_,_,rfl,(⟨r,n⟩:VV c y o),_,_,rfl,VV.one (by simp[VC]) (by simp),rfl⟩
     cases d with
     |interface m=>grind
     |_=>simp_all [Instr.typeAssert,run_underlying]
    |false=>
     refine⟨o,?_,(⟨r,n⟩:VV c y o)⟩
     cases d with
     |interface m=>grind
     |_=>simp_all [Instr.typeAssert,run_underlying]
   .rename_i j
    split at e
    .rename_i g
     subst g;simp only[xM]at e
     obtain⟨z,l,rfl⟩:=e;obtain⟨h,E,A⟩:=f (a:=none) (b:=none) q l
     refine⟨_,?_,A⟩
     cases d with
     |interface m=>grind
     |_=>simp_all [Instr.typeAssert,run_underlying]
    .cases e
  .cases e
 .cases e
end
section
variable{P:Pz}{A:Av}{ρ:Nat->Nat}{S:aj->J Nat}{hd:aj->Vz}{fl:J Nat}{k:Wk}{ay:J (SV×Vz)}{w:Wz}
theorem V5(h:KR A ρ S hd fl k ay w){a dst c:TypeId}{s:J UInt8}{v:Vz}{d:D}(hx:SO (am A k.H.length ρ S fl w) k.get hd (.d (.str s)) v)(b:P.underlying dst=some (.slice c))(e:F7 P a dst (.d (.str s))=some d):
  ∃u w',(convert a dst v).run P w=.ok u w'/\KR A ρ S hd fl k ay w'/\VV (am A k.H.length ρ S fl w') d u:=by simp[F7]at e
end
section
variable{P:Pz}{A:Av}{ρ:Nat->Nat}{S:aj->J Nat}{hd:aj->Vz}{fl:J Nat}{k k':Wk}{ay:J (SV×Vz)}{w:Wz}
theorem C7{c:Cx}{K:aj->U T}{nv:Nat}{v:SV}{val:Vz}{y:D}(e:fV nv v k=some (.d y,k'))(hv:SO c K hd (aU k.tr v) val):wU y val:=by
 have g:∀u:SV,SO c K hd u val->dO nv u k=some (.d y,k')->wU y val:=λu f e=>by
  cases u with
  |d x=>
   simp only[dO,xJ,pJ,T.d.injEq]at e
   rw[<-e.1];exact f.2
  |clip b l=>
   simp only[dO,xJ,pJ,T.d.injEq]at e
   obtain⟨_,a,rfl⟩:=f;rw[<-e.1];rfl
  |ns b=>
   simp only[dO,xJ,pJ,T.d.injEq]at e
   obtain⟨a,j,rfl,_⟩:=f;rw[<-e.1];rfl
  |aH r p q o=>
   obtain⟨t0,G,E,t,w,b3,b4,b5⟩:=f;obtain⟨a,C,j,A,m,I,rfl,H,z,F⟩:=b5
   have i:∃b l,y=.sl b l:=by
    simp only[dO,xB]at e
    obtain⟨c0,_,J,_,e⟩:=e
    split at e
    .grind [xM,xB]
    .cases e
   obtain⟨b,l,rfl⟩:=i;rfl
  |_=>simp[dO]at e
 by_cases h:∃l,v=.agg l
 .obtain⟨l,rfl⟩:=h
  rw[Ek]at hv
  obtain⟨n,rfl,_⟩:=hv;simp only[fV,xM,pJ]at e
  obtain⟨⟨B,s⟩,_,e,_⟩:=e;unfold T.br at e
  split at e
  .simp only[T.d.injEq]at e;rw[<-e];exact⟨n,rfl⟩
  .cases e
 .refine g _ hv ?_
  revert e
  cases v <;>intro e <;>first |exact e |grind
theorem km{r:Nat}{es:Array MapEntry}{a:Nat}{o:Obj}(h:w.heap[r]? =some (.map es a)):(setObj r o).run P w=.ok () {w with heap:=w.heap.setIfInBounds r o}:=by
 simp[setObj,Sem.run,h]
theorem RetAll.snoc{c:Cx}{t:T}{v:Vz}{Mt:J Nat}(ht:TC c t v.cells.toList Mt)(hf:qw t v):∀(b:J T) (vs:J Vz) (M:J Nat),RetAll c b vs M->RetAll c (b++[t]) (vs++[v]) (M++Mt)
 | [],vs,M,d=>by
  obtain⟨rfl,rfl⟩:=d
  exact⟨v,[],Mt,[],rfl,by simp,ht,hf,rfl,rfl⟩
 |a::b,vs,M,d=>by
  obtain⟨u,r,f,e,rfl,rfl,h3,h4,h5⟩:=d
  exact⟨u,r++[v],f,e++Mt,rfl,by simp,h3,h4,RetAll.snoc ht hf b r e h5⟩
theorem RetAll.set{c:Cx}{t:T}{v:Vz}{Mt:J Nat}(ht:TC c t v.cells.toList Mt)(hf:qw t v):∀(e:J T) (vs:J Vz) (M:J Nat) (i:Nat),RetAll c e vs M->i<e.length->∃b k d,M=b++k++d/\RetAll c (e.set i t) (vs.set i v) (b++Mt++d)
 | [],vs,M,i,g,f=>by simp at f
 |a::e,vs,M,i,g,f=>by
  obtain⟨u,r,b,d,rfl,rfl,h3,h4,h5⟩:=g
  cases i with
  |zero=>exact⟨[],b,d,by simp,v,r,Mt,d,rfl,by simp,ht,hf,h5⟩
  |succ i=>
   obtain⟨j,l,h,rfl,q⟩:=RetAll.set ht hf e r d i h5 (by simpa using f)
   exact⟨b++j,l,h,by simp,u,r.set i v,b,j++Mt++h,rfl,by simp,h3,h4,q⟩
theorem KR.setMap{M N N':J Nat}(h:KR A ρ S hd (M++fl) k ay w){o:Nat}{es es':J (D×T)}{R en':Array MapEntry}{C cl':Nat}(l:k.H[o]? =some (.map es))(y:S (.o o)=ρ o::N)(B:∀b∈N',b∈N)(I:N'.Nodup)(hb:w.heap[ρ o]? =some (.map R C))(d:cY en' cl')
  (hk:All2 (J3 (am A k.H.length ρ S (M++fl) w)) es' en'.toList) (hv:RetAll (am A k.H.length ρ S (M++fl) w) (es'.map (·.2)) (en'.toList.map (·.val)) N'):
  ∃S',KR A ρ S' hd (M++fl) {k with H:=k.H.set o (.map es')} ay {w with heap:=w.heap.setIfInBounds (ρ o) (.map en' cl')}:=by
 obtain⟨P,E⟩:=h.lockMap l rfl y;have e:ρ o<w.heap.size:=(Array.getElem?_eq_some_iff.1 hb).1;have c:(ρ o::N).Nodup:=by have:=h.bw.nd (.o o);rwa [y]at this
 obtain⟨u,z⟩:=KR.world (w:=w) (w':={w with heap:=w.heap.setIfInBounds (ρ o) (.map en' cl')}) (M:=ρ o::N) (M':=ρ o::N) rfl rfl rfl (by simp) (cH.other (g:=ρ o) (λb hb=>by simp[Ne.symm hb]) (λr=>by rw[hb];simp)) P (λb O G=>by
  grind) (λb hb=>.inl hb) c
 have j:o<k.H.length:=(List.getElem?_eq_some_iff.1 l).1;have Q:({k with H:=k.H.set o .lock}:Wk).H[o]? =some .lock:=yK j
 have a:({k with H:=k.H.set o .lock}:Wk).H.length=k.H.length:=by simp
 have f:=u.bw.ndF;rw[xT]at f
 have i:∀b∈ρ o::N',b∈ρ o::N:=λb hb=>by
  grind
 obtain⟨L,x⟩:=u.letGo (fl':=(ρ o::N')++(M++fl)) (by
  grind) (λb hb=>by
  grind)
 rw[a]at z x
 have m:Ext (am A k.H.length ρ S (M++fl) w) (am A k.H.length ρ (upd S (.o o) []) ((ρ o::N')++(M++fl)) {w with heap:=w.heap.setIfInBounds (ρ o) (.map en' cl')}):=by
  refine⟨λb g K=> ?_,dC _,λ_ _=>rfl⟩
  have s:=E.pm b g K;have v:=z.pm b g s.1;have q3:=x.pm b g v.1
  exact⟨q3.1,q3.2.trans (v.2.trans s.2)⟩
 obtain⟨W,U⟩:=L.unlockMap (M:=N') (ob:=.map es') rfl Q (by
  rw[a]
  refine⟨en',cl',⟨by simp[am,e],d⟩,hk.imp (λ_ _ _ q=>VV.ext m q),RetAll.ext m _ _ _ (λg V=> ?_) hv⟩
  grind [am])
 grind [List.set_set]
theorem Po{c:Cx}{K:aj->U T}{nv:Nat}{v:SV}{val:Vz}{l:J T}(e:fV nv v k=some (.own l,k'))(hv:SO c K hd (aU k.tr v) val):val.oneCell'=true:=by
 by_cases g:∃l,v=.agg l
 .grind [fV,xM,T.br]
 .have i:dO nv (aU k.tr v) k=some (.own l,k'):=by
   revert e
   cases v <;>intro e <;>first |exact e |grind
  revert i hv
  generalize aU k.tr v=u;intro j e
  cases u with
  |aH r p f h=>
   obtain⟨t0,s,w,x,n,b3,b4,b5⟩:=j;obtain⟨a,t,d,q,b,z,rfl,y,o,m⟩:=b5;rfl
  |_=>simp[dO]at e
theorem Cc{k1:Wk}{S1:aj->J Nat}(u:KR A ρ S1 hd ([]++fl) k1 ay w){t kt U:TypeId}{kd y:D}{xv vv:Vz}{o:Nat}{es es':J (D×T)}(hu:P.underlying t=some (.map kt U))(R:(eC P kt kd kd).isSome=true)(d:VV (am A k1.H.length ρ S1 ([]++fl) w) y vv)(c:VV (am A k1.H.length ρ S1 ([]++fl) w) kd xv)(k:k1.H[o]? =some (.map es))(hp:qt (eC P kt) kd (.d y) es=some es'):
  ∃w' S',(Instr.mapUpdate t (.map (some (ρ o))) xv vv).run P w=.ok () w'/\KR A ρ S' hd fl {k1 with H:=k1.H.set o (.map es')} ay w'/\∀b,b≠ρ o->w'.heap[b]? =w.heap[b]? :=by
 obtain⟨N,I,l,s,G,x,M⟩:=u.map o _ k rfl;have f:N.Nodup:=by have:=u.bw.nd (.o o);rw[I]at this;exact(List.nodup_cons.1 this).2
 have g:w.heap[ρ o]? =some (.map l s):=G.1;obtain⟨r,hf⟩:=Cb es es' hp;obtain⟨V,B,f2⟩:=ze (w:=w) c R x hf;have n:(Instr.checkKey false 10000 kt xv).run P w=.ok () w:=o8 c R
 obtain⟨rfl,rfl,f3⟩ |⟨j,t1,k0,e0,rfl,q2,q3,rfl,q5,q6⟩:=f2
 .have:es'=es++[(kd,.d y)]:=by
   have:=f3 (.d y);rw[this]at hp;simpa using hp.symm
  subst this
  obtain⟨S',F⟩:=u.setMap (N':=N) (es':=es++[(kd,.d y)]) (en':=l.push {key:=xv,val:=vv,born:=s}) (cl':=s+1) k I (λ_ h=>h) f g (G.2.push _ _) (by
   simp only[v9]
   exact x.append ⟨_,[],rfl,c,rfl⟩) (by
   simp only[v9,pM,eG,g9]
   have:=RetAll.snoc (t:=.d y) (v:=vv) (Mt:=[]) (by simp only[TC];exact⟨trivial,d.1⟩) d.2 _ _ _ M
   grind)
  refine⟨_,S',?_,by simpa using F,λb g=>by simp[Ne.symm g]⟩
  simp[Instr.mapUpdate,run_underlying hu,iW g,n,B,km g]
 .have:es'=es.set j (kd,.d y):=by
   have:=q6 (.d y);rw[this]at hp;simpa using hp.symm
  subst this;obtain⟨aa,C,Z⟩:=x.get q2;rw[q3]at C
  simp only[xJ]at C
  subst C;have z:=C6 (w:=w) c Z q5;have O:l[j]? =some e0:=by simpa using q3
  have S:j<l.size:=(Array.getElem?_eq_some_iff.1 O).1
  have m:(l.modify j λe=>{e with key:=xv,val:=vv}).toList=l.toList.set j {e0 with key:=xv,val:=vv}:=by
   apply rm;intro i;rw[yM,Array.getElem?_modify,List.getElem?_set]
   by_cases E:j=i
   .grind
   .simp[E]
  obtain⟨Q,Ni,L,X,q⟩:=RetAll.set (t:=.d y) (v:=vv) (Mt:=[]) (by simp only[TC];exact⟨trivial,d.1⟩) d.2 _ _ _ j M (by grind)
  rw[gj]at q
  have p:(Q++L).Nodup:=by
   rw[X,xK]at f
   rw[xT]at f |-
   obtain⟨p1,K,Y⟩:=f;rw[xT]at K
   exact⟨p1,K.2.1,λa W b g=>Y a W b (xR _ g)⟩
  obtain⟨S',F⟩:=u.setMap (N':=Q++L) (es':=es.set j (kd,.d y)) (en':=l.modify j λe=>{e with key:=xv,val:=vv}) (cl':=s) k I (λb g=>by
   grind) p g (G.2.same (by grind [BT,AL])) (by
   rw[m]
   exact x.set j c) (by
   grind [BT])
  refine⟨_,S',?_,by simpa using F,λb g=>by simp[Ne.symm g]⟩
  simp only[fu]at B
  simp[Instr.mapUpdate,run_underlying hu,iW g,n,B,O,z,km g]
theorem GF(h:KR A ρ S hd fl k ay w){nv:Nat}{t:TypeId}{m x v:SV}{L xv vv:Vz}(Y:SO (am A k.H.length ρ S fl w) k.get hd m L)(hx:SO (am A k.H.length ρ S fl w) k.get hd x xv)(hv:(v,vv)∈ay)(e:hD P nv t m x v k=some k'):
  ∃w' S',(Instr.mapUpdate t L xv vv).run P w=.ok () w'/\KR A ρ S' hd fl k' ay w':=by
 simp only[hD,xB]at e
 obtain⟨⟨kt,el⟩,h1,e⟩:=e;have hu:=um h1;simp only at e
 split at e
 .rename_i o D
  split at e
  .rename_i V
   simp only[xB]at e
   obtain⟨⟨t0,k1⟩,F,e⟩:=e;simp only at e
   split at e
   .rename_i y es f
    simp only[xM]at e
    obtain⟨es',B,rfl⟩:=e;obtain⟨S1,M,q,I,g,g4⟩:=nQ h hv F;have n:=C7 F (h.ay _ hv);simp only[TC]at g
    obtain⟨rfl,g⟩:=g;have u:VV (am A k1.H.length ρ S1 ([]++fl) w) y vv:=⟨g,n⟩;have c:VV (am A k1.H.length ρ S1 ([]++fl) w) D xv:=VV.ext I hx;have d:=VV.inv Y (by simp)
    simp only[VC,xC,and_true]at d
    have s:L=.map (some (ρ o)):=d.2
    grind [Cc]
   .rename_i l es f
    simp only[xM]at e
    obtain⟨es',B,rfl⟩:=e;obtain⟨S1,M,q,I,g,g4⟩:=nQ h hv F;have z:vv.oneCell'=true:=Po F (h.ay _ hv);have c:VV (am A k1.H.length ρ S1 (M++fl) w) D xv:=VV.ext I hx;have d:=VV.inv Y (by simp)
    simp only[VC,xC,and_true]at d
    have s:L=.map (some (ρ o)):=d.2;subst s;obtain⟨N,U,E,T,m2,X,m4⟩:=q.map o _ f rfl;have R:N.Nodup:=by have:=q.bw.nd (.o o);rw[U]at this;exact(List.nodup_cons.1 this).2
    have p:w.heap[ρ o]? =some (.map E T):=m2.1;have Q:M.Nodup:=by have:=q.bw.ndF;rw[xT]at this;exact this.1
    have aa:∀b∈N,b∉M:=λb p hc=>q.bw.cq (.o o) b (by rw[U];simp[p]) (xL _ hc)
    have C:(N++M).Nodup:=by rw[xT];exact⟨R,Q,λa ha b p e=>aa a ha (e▸p)⟩
    obtain⟨r,hf⟩:=Cb es es' B;obtain⟨ag,f1,f2⟩:=ze (w:=w) c V X hf;have J:(Instr.checkKey false 10000 kt xv).run P w=.ok () w:=o8 c V
    obtain⟨rfl,rfl,f3⟩ |⟨j,t1,k0,e0,rfl,q2,q3,rfl,q5,q6⟩:=f2
    .have:es'=es++[(D,.own l)]:=by
      have:=f3 (.own l);rw[this]at B;simpa using B.symm
     subst this
     obtain⟨S',u1⟩:=q.setMapM (N':=N++M) (es':=es++[(D,.own l)]) (en':=E.push {key:=xv,val:=vv,born:=T}) (cl':=T+1) f U (λ_ h=>h) C p (m2.2.push _ _) (by
      simp only[v9]
      exact X.append ⟨_,[],rfl,c,rfl⟩) (by
      simp only[v9,pM,eG,g9]
      have:=RetAll.snoc (t:=.own l) (v:=vv) (Mt:=M) g z _ _ _ m4
      exact this)
     refine⟨_,S',?_,by simpa using u1⟩
     simp[Instr.mapUpdate,run_underlying hu,iW p,J,f1,km p]
    .have:es'=es.set j (D,.own l):=by
      have:=q6 (.own l);rw[this]at B;simpa using B.symm
     subst this;obtain⟨ah,W,r2⟩:=X.get q2;rw[q3]at W
     simp only[xJ]at W
     subst W;have ad:=C6 (w:=w) c r2 q5;have hj:E[j]? =some e0:=by simpa using q3
     have ai:j<E.size:=(Array.getElem?_eq_some_iff.1 hj).1
     have O:(E.modify j λe=>{e with key:=xv,val:=vv}).toList=E.toList.set j {e0 with key:=xv,val:=vv}:=by
      apply rm;intro i;rw[yM,Array.getElem?_modify,List.getElem?_set]
      by_cases ab:j=i
      .grind
      .simp[ab]
     obtain⟨N1,Ni,N2,hN,af⟩:=RetAll.set (t:=.own l) (v:=vv) (Mt:=M) g z _ _ _ j m4 (by grind)
     have K:(N1++M++N2).Nodup:=by
      rw[hN]at C
      simp only[xT,xD]at C |-
      grind
     obtain⟨S',u1⟩:=q.setMapM (N':=N1++M++N2) (es':=es.set j (D,.own l)) (en':=E.modify j λe=>{e with key:=xv,val:=vv}) (cl':=T) f U (λb p=>by
      grind) K p (m2.2.same (by grind [BT,AL])) (by
      rw[O]
      exact X.set j c) (by
      grind [BT])
     refine⟨_,S',?_,by simpa using u1⟩
     simp only[fu]at f1
     simp[Instr.mapUpdate,run_underlying hu,iW p,J,f1,hj,ad,km p]
   .rename_i y ks f
    simp only[xM]at e
    obtain⟨Z,B,rfl⟩:=e;obtain⟨S1,M,q,I,g,g4⟩:=nQ h hv F;have n:=C7 F (h.ay _ hv);simp only[TC]at g
    obtain⟨rfl,g⟩:=g;have u:VV (am A k1.H.length ρ S1 ([]++fl) w) y vv:=⟨g,n⟩;have c:VV (am A k1.H.length ρ S1 ([]++fl) w) D xv:=VV.ext I hx;have d:=VV.inv Y (by simp)
    simp only[VC,xC,and_true]at d
    have s:L=.map (some (ρ o)):=d.2;subst s;obtain⟨es,q1,ac⟩:=q.unset f;obtain⟨es',q2,q3⟩:=q1.put V B;have G:=(List.getElem?_eq_some_iff.1 f).1;obtain⟨w',S',W,r2,_⟩:=Cc (k1:={k1 with H:=k1.H.set o (.map es)}) ac hu V (by simpa using u) (by simpa using c) (yK G) q2
    have r3:=r2.reset (o:=o) (es:=es') (ks:=Z) (by simp[G]) q3
    grind [List.set_set]
   .cases e
  .cases e
 .cases e
def I5(n:Next)(v:Vz):Prop:=n=.value v\/(n=.skip/\v=undef)
theorem V6{G:Nat->U D}(hG:GA G A)(h:KR A ρ S hd fl k ay w)(ah:k.tr=[]){hint:Hint}(ax:∀g d,hint.gl g=some d->G g=some d){dst:Nat}{ty:TypeId}{o:Qz}{X:Oz->SV}{ev:Oz->Vz}{sv:SV}(aJ:∀g,ev (.global g)=.pointer (some ⟨g,0,none⟩))(hv:∀x∈o.op.operands,(X x,ev x)∈ay)(e:opE P hint dst ty o.op X k=some (sv,k')):
  ∃n v w' j S' hd',(execOp ev o).run P w=.ok n w'/\I5 n v/\KR A j S' hd' fl k' ay w'/\SO (am A k'.H.length j S' fl w') k'.get hd' sv v:=by
 have J:∀x∈o.op.operands,SO (am A k.H.length ρ S fl w) k.get hd (X x) (ev x):=λx T=>by
  have:=h.ay _ (hv x T)
  rw[ah]at this
  exact this
 -- an operation that changes nothing
 have F:∀(f:Vz->Next) (s:Sem Vz) v,(execOp ev o=do Pure.pure (f (<-s)))->(∀v,f v=.value v)->s.run P w=.ok v w->k'=k->SO (am A k.H.length ρ S fl w) k.get hd sv v->
   ∃n v w' j S' hd',(execOp ev o).run P w=.ok n w'/\I5 n v/\KR A j S' hd' fl k' ay w'/\SO (am A k'.H.length j S' fl w') k'.get hd' sv v:=by
  intro f s v C B h3 h4 h5;subst h4
  exact⟨.value v,v,w,ρ,S,hd,by simp_all,.inl rfl,h,h5⟩
 obtain⟨W,op,O,pos,after,guard⟩:=o;simp only at e hv J F
 cases op with
 |move x=>
  simp only[opE,xJ,pJ]at e
  obtain⟨rfl,rfl⟩:=e
  exact⟨.value (ev x),ev x,w,ρ,S,hd,by simp[execOp],.inl rfl,h,J x (by simp[Op.operands])⟩
 |assign x=>
  obtain⟨S',hd',g1,g2⟩:=Pl h (J x (by simp[Op.operands])) e
  exact⟨.value (ev x),ev x,w,ρ,S',hd',by simp[execOp],.inl rfl,g1,g2⟩
 |pick c a b=>
  simp only[opE]at e
  split at e
  .rename_i t ht
   simp only[xJ,pJ]at e
   obtain⟨rfl,rfl⟩:=e;have hc:=J c (by simp[Op.operands])
   rw[ht]at hc
   have hc:=VV.of_bool hc
   refine⟨.value (if t then ev a else ev b),_,w,ρ,S,hd,by simp[execOp,hc,asBool],.inl rfl,h,?_⟩
   cases t
   .grind [Op.operands]
   grind [Op.operands]
  .cases e
 |alloc el=>
  simp only[opE,xB]at e
  obtain⟨z,hz,e⟩:=e;obtain⟨i,zv,z1,z2,z3,z4⟩:=lJ hz;have aC:=B4 (mD (c:=am A k.H.length ρ S ([]++fl) w) z3).1;obtain⟨j,S',hd',g1,g2⟩:=Q7 (cs:=zv.cells) (ty:=el) (M:=[]) (by simpa using h) aC e
  exact⟨.value _,_,_,j,S',hd',by simp_all [execOp,Instr.alloc,newVar,newRow],.inl rfl,g1,g2⟩
 |box el x=>
  simp only[opE,xB]at e
  obtain⟨⟨t,k1⟩,e1,e⟩:=e;simp only at e
  split at e
  .obtain⟨S1,M,g1,g2,g3,g4⟩:=Gm h (hv x (by simp[Op.operands])) e1
   obtain⟨j,S',hd',q1,q2⟩:=Q7 (cs:=(ev x).cells) (ty:=el) g1 g3 e
   exact⟨.value _,_,_,j,S',hd',by simp_all [execOp,Instr.box,newVar,newRow],.inl rfl,q1,q2⟩
  .cases e
 |build t E=>
  simp only[opE,xM,pJ]at e
  obtain⟨N,e,rfl,rfl⟩:=e
  have hp:All2 (λ(a:Nat×SV) (b:Nat×Vz)=>a.1=b.1/\SO (am A k.H.length ρ S fl w) k.get hd a.2 b.2) (E.toList.map λp=>(p.1,X p.2)) (E.toList.map λp=>(p.1,ev p.2)):=by
   have L:∀p∈E.toList,SO (am A k.H.length ρ S fl w) k.get hd (X p.2) (ev p.2):=λp hp=>J _ (by
    grind [Op.operands])
   revert L
   generalize E.toList=ps
   induction ps with
   |nil=>intro _;rfl
   |cons p ps ih=>intro L;exact⟨_,_,rfl,⟨rfl,L p (by simp)⟩,ih (λq hq=>L q (by simp[hq]))⟩
  obtain⟨u,C,B⟩:=Th (P:=P) (w:=w) hp e
  have al:(E.map λ(x:Nat×Oz)=>(x.1,ev x.2))=(E.toList.map λp=>(p.1,ev p.2)).toArray:=by
   rw[<-l8];simp
  refine F Next.value (Instr.build t (E.map λ(x:Nat×Oz)=>(x.1,ev x.2))) u (by simp only[execOp]) (λ_=>rfl) ?_ rfl B
  grind
 |buildSlice t len E=>
  simp only[opE]at e
  have hp:All2 (λ(a:Nat×SV) (b:Nat×Vz)=>a.1=b.1/\(a.2,b.2)∈ay) (E.toList.map λp=>(p.1,X p.2)) (E.toList.map λp=>(p.1,ev p.2)):=by
   have L:∀p∈E.toList,(X p.2,ev p.2)∈ay:=λp hp=>hv _ (by
    grind [Op.operands])
   revert L
   generalize E.toList=ps
   induction ps with
   |nil=>intro _;rfl
   |cons p ps ih=>intro L;exact⟨_,_,rfl,⟨rfl,L p (by simp)⟩,ih (λq hq=>L q (by simp[hq]))⟩
  obtain⟨v,w',j,S',hd',C,B,h3⟩:=Gu (P:=P) h hp e
  have al:(E.map λ(x:Nat×Oz)=>(x.1,ev x.2))=(E.toList.map λp=>(p.1,ev p.2)).toArray:=by
   rw[<-l8];simp
  rw[<-al]at C
  exact⟨.value v,v,w',j,S',hd',by simp[execOp,C],.inl rfl,B,h3⟩
 |load t a=>
  have aq:(if hint.lits.contains dst=true then(hJ P t (X a) k).bind λv=>t6 dst v k else(hJ P t (X a) k).map (·,k))=some (sv,k')->
    ∃n v w' j S' hd',(execOp ev {dst:=W,op:=.load t a,type:=O,pos:=pos,after:=after,guard:=guard}).run P w=.ok n w'/\I5 n v/\KR A j S' hd' fl k' ay w'/\SO (am A k'.H.length j S' fl w') k'.get hd' sv v:=λe0=>by
   split at e0
   .simp only[xB]at e0
    obtain⟨N,e1,e2⟩:=e0;obtain⟨u,C,B⟩:=AH h (J a (by simp[Op.operands])) e1
    obtain⟨S',hd',q1,q2⟩:=V3 h B e2
    exact⟨.value u,u,w,ρ,S',hd',by simp[execOp,C],.inl rfl,q1,q2⟩
   .simp only[xM,pJ]at e0
    obtain⟨N,e1,rfl,rfl⟩:=e0;obtain⟨u,C,B⟩:=AH h (J a (by simp[Op.operands])) e1
    exact F _ _ u (by simp only[execOp]) (λ_=>rfl) C rfl B
  cases a with
  |global g=>
   simp only[opE,xB]at e
   obtain⟨d,e1,e⟩:=e
   split at e
   case isFalse=>cases e
   rename_i ho;simp only[xM,pJ]at e
   obtain⟨N,e2,rfl,rfl⟩:=e;obtain⟨u,C,B⟩:=AH h (v:=ev (.global g)) (by rw[aJ];exact hG.rp h (ax g d e1) ho) e2
   exact F _ _ u (by simp only[execOp]) (λ_=>rfl) C rfl B
  |_=>exact aq e
 |range t x=>
  obtain⟨Y,w',j,S',hd',C,B,h3⟩:=Ti h (J x (by simp[Op.operands])) e
  exact⟨.value Y,Y,w',j,S',hd',by simp[execOp,C],.inl rfl,B,h3⟩
 |next x aT=>
  obtain⟨Y,w',j,S',hd',C,B,h3⟩:=V4 (P:=P) (t:=O) h (J x (by simp[Op.operands])) e
  exact⟨.value Y,Y,w',j,S',hd',by simp[execOp,C],.inl rfl,B,h3⟩
 |makeInterface t x=>
  simp only[opE,xM,pJ]at e
  obtain⟨N,e,rfl,rfl⟩:=e;obtain⟨C,B⟩:=Tj (P:=P) (w:=w) (J x (by simp[Op.operands])) e
  exact F _ _ _ (by simp only[execOp]) (λ_=>rfl) C rfl B
 |typeAssert x xt u ok=>
  simp only[opE,xM,pJ]at e
  obtain⟨N,e,rfl,rfl⟩:=e;obtain⟨Y,C,B⟩:=Pn (P:=P) (w:=w) (xt:=xt) (J x (by simp[Op.operands])) e
  exact F _ _ _ (by simp only[execOp]) (λ_=>rfl) C rfl B
 |store t a x=>
  simp only[opE,xM,pJ]at e
  obtain⟨k1,e,rfl,rfl⟩:=e;obtain⟨w',S',C,B,h3⟩:=Tb h (hv a (by simp[Op.operands])) (hv x (by simp[Op.operands])) e
  exact⟨.skip,undef,w',ρ,S',hd,by simp[execOp,C],.inr ⟨rfl,rfl⟩,B,trivial⟩
 |nilCheck x=>
  have T:=J x (by simp[Op.operands])
  simp only[opE]at e
  have Z:ev x≠ .pointer none->ev x≠ .nilIface->ev x≠ .nilFunc->(∀m a c,ev x≠ .func (.method m) a c)->X x=sv->k=k'->∃n v w' j S' hd',(execOp ev {dst:=W,op:=.nilCheck x,type:=O,pos:=pos,after:=after,guard:=guard}).run P w=.ok n w'/\I5 n v/\KR A j S' hd' fl k' ay w'/\SO (am A k'.H.length j S' fl w') k'.get hd' sv v:=by
   intro a1 a2 a3 a4 a5 a6;subst a5;subst a6
   have ak:execOp ev {dst:=W,op:=.nilCheck x,type:=O,pos:=pos,after:=after,guard:=guard}=Pure.pure (.value (ev x)):=by
    simp only[execOp]
   exact⟨.value (ev x),ev x,w,ρ,S,hd,by rw[ak];rfl,.inl rfl,h,T⟩
  split at e <;>simp only[xJ,pJ,reduceCtorEq]at e <;>(try obtain⟨rfl,rfl⟩:=e) <;>rename_i aa <;>rw[aa]at T
  .obtain⟨t0,es,g,n,aP,aN,C,B,h3,h4,h5,I⟩:=T
   exact Z (by simp[I]) (by simp[I]) (by simp[I]) (by simp[I]) aa rfl
  .obtain⟨a,vs,I,_⟩:=T
   exact Z (by simp[I]) (by simp[I]) (by simp[I]) (by simp[I]) aa rfl
  .have I:=VV.inv T (by simp)
   simp only[VC,xC,and_true]at I
   exact Z (by simp[I.2]) (by simp[I.2]) (by simp[I.2]) (by simp[I.2]) aa rfl
  .have I:=VV.inv T (by simp)
   simp only[VC,xC,and_true]at I
   obtain⟨a,vs,I,_⟩:=I;exact Z (by simp[I]) (by simp[I]) (by simp[I]) (by simp[I]) aa rfl
  .have I:=VV.inv T (by simp)
   grind [VC]
 |binOp op t x y q=>
  simp only[opE,xM,pJ]at e
  obtain⟨d,e,rfl,rfl⟩:=e;obtain⟨r,C,B⟩:=A? (P:=P) (w:=w) (ox:=x) (oy:=y) (J x (by simp[Op.operands])) (J y (by simp[Op.operands])) (by simp) e
  exact F _ _ r (by simp only[execOp]) (λ_=>rfl) C rfl B
 |unOp op t x=>
  simp only[opE,xM,pJ]at e
  obtain⟨d,e,rfl,rfl⟩:=e;obtain⟨r,C,B⟩:=aey (P:=P) (w:=w) (J x (by simp[Op.operands])) e
  exact F _ _ r (by simp only[execOp]) (λ_=>rfl) C rfl B
 |convert s t x=>
  simp only[opE,xM,pJ]at e
  obtain⟨d,e,rfl,rfl⟩:=e
  by_cases ao:(∃s,X x=.d (.str s))/\∃el,P.underlying t=some (.slice el)
  .obtain⟨⟨s0,aL⟩,el,aH⟩:=ao
   have L:=J x (by simp[Op.operands])
   rw[aL]at L e
   obtain⟨u,w',C,B,h3⟩:=V5 h L aH e
   exact⟨.value u,u,w',ρ,S,hd,by simp[execOp,C],.inl rfl,B,h3⟩
  obtain⟨r,C,B⟩:=VS (P:=P) (w:=w) rfl ao (J x (by simp[Op.operands])) e
  exact F _ _ r (by simp only[execOp]) (λ_=>rfl) C rfl B
 |makeFunc f a c=>
  simp only[opE,xB,xM,pJ]at e
  obtain⟨da,e1,dc,e2,rfl,rfl⟩:=e
  have aS:∀l:Array Oz,(∀x∈l,x∈a++c)->All2 (SO (am A k.H.length ρ S fl w) k.get hd) (l.toList.map X) (l.map ev).toList:=λl hl=>by
   have L:∀x∈l.toList,SO (am A k.H.length ρ S fl w) k.get hd (X x) (ev x):=λx T=>J x (by grind [Op.operands])
   rw[Array.toList_map]
   revert L
   generalize l.toList=ps
   induction ps with
   |nil=>intro _;rfl
   |cons p ps ih=>intro L;exact⟨_,_,rfl,L p (by simp),ih (λq hq=>L q (by simp[hq]))⟩
  refine F Next.value (Instr.makeFunc f (a.map ev) (c.map ev)) (.func f (a.map ev) (c.map ev)) (by simp only[execOp]) (λ_=>rfl) (by simp[Instr.makeFunc]) rfl (VV.one ?_ (by simp))
  grind [VC,SV.pures_VVs]
 |makeMap t r=>
  have Z:k'={k with H:=k.H++[.map []]}->sv=.d (.map k.H.length)->(Instr.makeMap t (r.map ev)).run P w=.ok (.map (some w.heap.size)) (w.alloc (.map #[] 0))->
    ∃n v w' j S' hd',(execOp ev {dst:=W,op:=.makeMap t r,type:=O,pos:=pos,after:=after,guard:=guard}).run P w=.ok n w'/\I5 n v/\KR A j S' hd' fl k' ay w'/\SO (am A k'.H.length j S' fl w') k'.get hd' sv v:=by
   intro a1 a2 a3;subst a1;subst a2;obtain⟨_,j,S',hd',g1,g2⟩:=zd (P:=P) h (t:=t)
   exact⟨.value _,_,_,j,S',hd',by simp[execOp,a3];rfl,.inl rfl,g1,by simpa using g2⟩
  cases r with
  |none=>
   simp only[opE,xJ,pJ]at e
   obtain⟨e1,e2⟩:=e
   by_cases hl:hint.lits.contains dst=true
   .rw[if_pos hl]at e2
    subst e1 e2;obtain⟨a3,j,S',hd',g1,g2⟩:=zd (P:=P) h (t:=t);have g3:=g1.reset (o:=k.H.length) (es:=[]) (ks:=[]) (by simp) ⟨by simp,by simp⟩
    simp only[List.set_append_right _ _ (dC k.H.length),rz,List.set_cons_zero]at g3
    have g4:VV (am A (k.H.length+1) j S' fl (w.alloc (.map #[] 0))) (.map k.H.length) (.map (some w.heap.size)):=g2
    refine⟨.value _,_,_,j,S',hd',by simp[execOp,a3];rfl,.inl rfl,g3,?_⟩
    show VV (am A (k.H++[Ob.sset []]).length j S' fl _) _ _
    grind
   grind [zd]
  |some n=>
   simp only[opE]at e
   split at e
   .rename_i kv q z aM hn
    simp only[xJ,pJ]at e
    obtain⟨rfl,rfl⟩:=e;have af:=J n (by simp[Op.operands])
    rw[hn]at af
    have af:=VV.of_int af;obtain⟨kt,et⟩:=kv;exact Z rfl rfl (by simp[Instr.makeMap,run_underlying (um aM),af,asInt,asIntOf])
   .cases e
 |makeSlice t l c=>
  simp only[opE]at e
  obtain⟨v,w',j,S',hd',C,B,h3⟩:=VP h (J l (by simp[Op.operands])) (J c (by simp[Op.operands])) e
  exact⟨.value v,v,w',j,S',hd',by simp[execOp,C],.inl rfl,B,h3⟩
 |slice t x lo hi mx=>
  simp only[opE,xM,pJ]at e
  obtain⟨N,e,rfl,rfl⟩:=e
  have ag:∀z:U Oz,(∀y,z=some y->y∈(Op.slice t x lo hi mx).operands)->Iv (SO (am A k.H.length ρ S fl w) k.get hd) (z.map X) (z.map ev):=λz hz=>by
   cases z with
   |none=>trivial
   |some y=>exact J y (hz y rfl)
  obtain⟨u,C,B⟩:=Tg h (J x (by simp[Op.operands])) (ag lo (λy hy=>by simp[Op.operands,hy])) (ag hi (λy hy=>by simp[Op.operands,hy])) (ag mx (λy hy=>by simp[Op.operands,hy])) e
  exact F _ _ u (by simp only[execOp]) (λ_=>rfl) C rfl B
 |fieldAddr t x f=>
  simp only[opE,xM,pJ]at e
  obtain⟨N,e,rfl,rfl⟩:=e;obtain⟨u,C,B⟩:=It h (J x (by simp[Op.operands])) e
  exact F _ _ u (by simp only[execOp]) (λ_=>rfl) C rfl B
 |field t x f=>
  simp only[opE,xM,pJ]at e
  obtain⟨N,e,rfl,rfl⟩:=e;obtain⟨u,C,B⟩:=Te (P:=P) (w:=w) (J x (by simp[Op.operands])) e
  exact F _ _ u (by simp only[execOp]) (λ_=>rfl) C rfl B
 |indexAddr t x i=>
  simp only[opE,xM,pJ]at e
  obtain⟨N,e,rfl,rfl⟩:=e;obtain⟨u,C,B⟩:=Iu h (J x (by simp[Op.operands])) (J i (by simp[Op.operands])) e
  exact F _ _ u (by simp only[execOp]) (λ_=>rfl) C rfl B
 |index t x i=>
  simp only[opE,xM,pJ]at e
  obtain⟨N,e,rfl,rfl⟩:=e;obtain⟨u,C,B⟩:=Tf (P:=P) (w:=w) (J x (by simp[Op.operands])) (J i (by simp[Op.operands])) e
  exact F _ _ u (by simp only[execOp]) (λ_=>rfl) C rfl B
 |lookup t m V ok=>
  simp only[opE]at e
  split at e
  .split at e
   .cases e
   .rename_i ai
    obtain⟨u,S',hd',C,B,h3⟩:=V2 h (J m (by simp[Op.operands])) (J V (by simp[Op.operands])) e
    have ac:ok=false:=by simpa using ai
    subst ac
    exact⟨.value u,u,w,ρ,S',hd',by simp[execOp,C],.inl rfl,B,h3⟩
  split at e
  .split at e
   .cases e
   .rename_i ai
    obtain⟨u,S',hd',C,B,h3⟩:=MU h (J m (by simp[Op.operands])) (J V (by simp[Op.operands])) e
    have ac:ok=false:=by simpa using ai
    subst ac
    exact⟨.value u,u,w,ρ,S',hd',by simp[execOp,C],.inl rfl,B,h3⟩
  simp only[xM,pJ]at e
  obtain⟨N,e,rfl,rfl⟩:=e;obtain⟨u,C,B⟩:=Pm h (J m (by simp[Op.operands])) (J V (by simp[Op.operands])) e
  exact F _ _ u (by simp only[execOp]) (λ_=>rfl) C rfl B
 |mapUpdate t m V x=>
  simp only[opE,xM,pJ]at e
  obtain⟨k1,e,rfl,rfl⟩:=e;obtain⟨w',S',C,B⟩:=GF h (J m (by simp[Op.operands])) (J V (by simp[Op.operands])) (hv x (by simp[Op.operands])) e
  exact⟨.skip,undef,w',ρ,S',hd,by simp[execOp,C],.inr ⟨rfl,rfl⟩,B,trivial⟩
 |insert t m V x=>
  simp only[opE,xM,pJ]at e
  obtain⟨k1,e,rfl,rfl⟩:=e;obtain⟨w',S',C,B⟩:=GF h (J m (by simp[Op.operands])) (J V (by simp[Op.operands])) (hv x (by simp[Op.operands])) e
  exact⟨.skip,undef,w',ρ,S',hd,by simp[execOp,C],.inr ⟨rfl,rfl⟩,B,trivial⟩
 |extract x n=>
  simp only[opE]at e
  split at e
  .rename_i l hl
   simp only[xM,pJ]at e
   obtain⟨N,e,rfl,rfl⟩:=e;have T:=J x (by simp[Op.operands])
   rw[hl]at T
   obtain⟨vs,aQ,T⟩:=T;obtain⟨u,C,B⟩:=T.get e;refine F Next.value (Instr.extract (ev x) n) u (by simp only[execOp]) (λ_=>rfl) ?_ rfl (SO.of_S1 (λl hl=> ?_) B)
   .simp_all [Instr.extract]
   .subst hl;exact B.elim
  .cases e
 |call c=>
  obtain⟨ad,R,K⟩:=c
  cases ad with
  |builtin b=>
   cases b with
   |len=>
    simp only[opE]at e
    split at e
    .rename_i x t ha ht
     simp only[xM,pJ]at e
     obtain⟨n,e,rfl,rfl⟩:=e;have Q:R= #[x]:=by rw[<-l8];exact ha
     have ab:K= #[t]:=by rw[<-l8];exact ht
     subst Q;subst ab;have hr:=B_ h (ty:=O) (J x (by simp[Op.operands,Call.operands])) e
     exact⟨.value _,_,w,ρ,S,hd,by simp[execOp,resolve,invoke,builtin,hr],.inl rfl,h,VV.dk _ _⟩
    .cases e
   |min=>
    simp only[opE]at e
    split at e
    .rename_i x y ha
     simp only[xM,pJ]at e
     obtain⟨n,e,rfl,rfl⟩:=e;have Q:R= #[x,y]:=by rw[<-l8];exact ha
     subst Q;obtain⟨r,C,B⟩:=x! (P:=P) (w:=w) (cz:=K) (ty:=O) (J x (by simp[Op.operands,Call.operands])) (J y (by simp[Op.operands,Call.operands])) e
     exact⟨.value r,r,w,ρ,S,hd,by simp[execOp,resolve,invoke,builtin,C],.inl rfl,h,B⟩
    .cases e
   |max=>
    simp only[opE]at e
    split at e
    .rename_i x y ha
     simp only[xM,pJ]at e
     obtain⟨n,e,rfl,rfl⟩:=e;have Q:R= #[x,y]:=by rw[<-l8];exact ha
     subst Q;obtain⟨r,C,B⟩:=y_ (P:=P) (w:=w) (cz:=K) (ty:=O) (J x (by simp[Op.operands,Call.operands])) (J y (by simp[Op.operands,Call.operands])) e
     exact⟨.value r,r,w,ρ,S,hd,by simp[execOp,resolve,invoke,builtin,C],.inl rfl,h,B⟩
    .cases e
   |copy=>
    simp only[opE]at e
    split at e
    .rename_i x y t u ha ht
     have Q:R= #[x,y]:=by rw[<-l8];exact ha
     have ab:K= #[t,u]:=by rw[<-l8];exact ht
     subst Q;subst ab;obtain⟨v,w',S',C,B,h3,h4,h5⟩:=VW (u:=u) (ty:=O) h ah (hv x (by simp[Op.operands,Call.operands])) (hv y (by simp[Op.operands,Call.operands])) e
     exact⟨.value v,v,w',ρ,S',hd,by simp[execOp,resolve,invoke,builtin,C],.inl rfl,B,h5 _ _⟩
    .cases e
   |append=>
    simp only[opE]at e
    split at e
    .rename_i x y t u ha ht
     split at e
     .rename_i av
      subst av;have Q:R= #[x,y]:=by rw[<-l8];exact ha
      have ab:K= #[t,t]:=by rw[<-l8];exact ht
      subst Q;subst ab;obtain⟨v,w',j,S',hd',C,B,h3⟩:=Pj h ah (ty:=O) (hv x (by simp[Op.operands,Call.operands])) (hv y (by simp[Op.operands,Call.operands])) e
      exact⟨.value v,v,w',j,S',hd',by simp[execOp,resolve,invoke,builtin,C],.inl rfl,B,h3⟩
     .cases e
    .cases e
   |_=>simp[opE]at e
  |_=>simp[opE]at e
 |_=>simp[opE]at e
end
def cxS(sn:Bool)(lk:J Nat)(A:Av)(nO:Nat)(ρ:Nat->Nat)(S:aj->J Nat)(fl:J Nat)(w:Wz):Cx:=
 {w,pm:=λt b=>(¬bT S fl b/\¬A.F t b/\b<w.heap.size)\/(sn=true/\t=true/\¬A.F true b/\b<w.heap.size/\∀n,b∈S (.o n)->n∈lk),nO,ρ}
section
variable{P:Pz}{A:Av}{ρ:Nat->Nat}{S S':aj->J Nat}{hd:aj->Vz}{fl:J Nat}{k k':Wk}{ay:J (SV×Vz)}{w:Wz}{nv:Nat}
theorem rL(sn:Bool)(lk:J Nat)(nO:Nat):Ext (am A nO ρ S fl w) (cxS sn lk A nO ρ S fl w):=⟨λ_ _ hp=>⟨.inl hp,rfl⟩,dC _,λ_ _=>rfl⟩
theorem J6(sn:Bool)(lk:J Nat)(nO:Nat):∀b,(cxS sn lk A nO ρ S fl w).pm false b->(cxS sn lk A nO ρ S fl w).pm true b:=λb h=>by
 obtain h |h:=h
 .exact .inl (IP A nO ρ S fl w b h)
 grind
theorem GG{b b':bn}{nO:Nat}(h1:b.sn=true->b'.sn=true)(h2:∀n∈b.lk,n∈b'.lk)(h3:∀r b,b∈S' r->b∈S r):Ext (cxS b.sn b.lk A nO ρ S fl w) (cxS b'.sn b'.lk A nO ρ S' fl w):=
 ⟨λt g h=>⟨by
  obtain⟨a,d,q3⟩ |⟨a,d,q3,q4,q5⟩:=h
  .exact .inl ⟨λf=>a (by rcases f with⟨r,c⟩ |c;exact .inl ⟨r,h3 r g c⟩;exact .inr c),d,q3⟩
  .exact .inr ⟨h1 a,d,q3,q4,λn e=>h2 n (q5 n (h3 _ _ e))⟩,rfl⟩,dC _,λ_ _=>rfl⟩
structure cf(A:Av)(ρ:Nat->Nat)(S:aj->List Nat)(hd:aj->Value)(fl:List Nat)(k:Wk)(ay:List (SV×Value))(w:World)(b:bn)(S':aj->List Nat)(k':Wk)(b':bn):Prop where
 kr:KR A ρ S' hd fl k' ay w
 sub:∀r b,b∈S' r->b∈S r
 H:k'.H=k.H
 sn:b.sn=true->b'.sn=true
 lk:∀n∈b.lk,n∈b'.lk
theorem cf.refl{b:bn}(h:KR A ρ S hd fl k ay w):cf A ρ S hd fl k ay w b S k b:=⟨h,λ_ _ h=>h,rfl,id,λ_ h=>h⟩
theorem MW(h:KR A ρ S hd fl k ay w){v:SV}{val:Vz}{x:D}{b b':bn}(hv:CO (am A k.H.length ρ S fl w) k.get hd v val)(e:fJ nv v k b=some (x,k',b')):
  ∃S',cf A ρ S hd fl k ay w b S' k' b'/\VC (cxS b'.sn b'.lk A k'.H.length ρ S' fl w) x [val]:=by
 cases v with
 |d y=>
  simp only[fJ,xJ,pJ]at e
  obtain⟨rfl,rfl,rfl⟩:=e
  refine⟨S,.refl h,VC.ext (rL _ _ _) _ _ ?_⟩
  split
  .exact hv
  .exact VC.norm hv
 |clip t l=>
  simp only[fJ,xJ,pJ]at e
  obtain⟨rfl,rfl,rfl⟩:=e
  exact⟨S,.refl h,VC.ext (rL _ _ _) _ _ hv.1⟩
 |ns b=>
  simp only[fJ,xJ,pJ]at e
  obtain⟨rfl,rfl,rfl⟩:=e
  exact⟨S,.refl h,VC.ext (rL _ _ _) _ _ (Q6 hv)⟩
 |aH r p E C=>
  obtain⟨t0,s,O,u,B,b3,b4,b5⟩:=hv;obtain⟨N,L,Sn,R,K,q⟩:=TC.focus p t0 (hd r) (S r) (.own s) (h.cont r t0 u) B;have Z:N=O:=aI.uniq p t0 (hd r) N O q.node b3;subst Z;simp only[fJ,u,B,xS]at e
  -- f
  have f:∀(l:J D) (b':bn),T.aZ true s=some l->b'.sn=true->(∀n∈b.lk,n∈b'.lk)->(∀n,r=.o n->n∈b'.lk)->(D.sl true (bz l E C),k,b')=(x,k',b')-> 
    ∃S',cf A ρ S hd fl k ay w b S' k' b'/\VC (cxS b'.sn b'.lk A k'.H.length ρ S' fl w) x [val]:=by
   intro l b' i I U h3 h4;simp only[pJ,and_true]at h4
   obtain⟨rfl,rfl⟩:=h4
   refine⟨S,⟨h,λ_ _ h=>h,rfl,λ_=>I,U⟩,Ej (c:=am A k.H.length ρ S fl w) (Sn:=Sn) (rL _ _ _) i (λg H=> ?_) q.tc b4 b5⟩
   have m:g∈S r:=by rw[K];simp[H]
   have P:=h.bU g (.inl ⟨r,m⟩)
   refine⟨.inr ⟨I,rfl,P.2.1 _,P.1,λn Q=>h3 n (h.bw.one _ _ g m Q)⟩,rfl⟩
  split at e
  .rename_i o
   rw[List.isEmpty_iff]at o
   obtain⟨_,rfl⟩:=o;simp only[xJ,pJ]at e
   obtain⟨rfl,rfl,rfl⟩:=e
   refine⟨S,.refl h,?_⟩
   obtain⟨a,n,aa,a',G,_,rfl,_,_,_⟩:=b5
   grind [VC]
  split at e
  .rename_i n j
   split at e
   .rename_i hc
    obtain⟨_,rfl,rfl⟩:=hc;simp only[xB,xM,pJ]at e
    obtain⟨l,i,z,F,rfl,rfl,rfl⟩:=e;obtain⟨g1,V,W⟩:=h.freeze u K q B i (.inl rfl) rfl F;have M:z.H=k.H:=by simp only[Wk.set,xJ]at F;rw[<-F]
    refine⟨_,⟨g1,λY g H=> ?_,M,id,λ_ h=>h⟩,?_⟩
    .by_cases hr:Y=.l n j
     .grind [eo]
     grind [dG]
    .have:=Ej V i W q.tc b4 b5
     have X:bz l 0 s.length=l:=by
      have:=T.frzs_len false s l i
      simp[bz,<-this]
     rw[X]at this
     have e2:(z.tell (.cR (.l n j) [] l)).H.length=k.H.length:=by show z.H.length=_;rw[M]
     grind [VC.ext,rL]
   .simp only[xM,pJ]at e
    obtain⟨l,i,rfl,rfl,rfl⟩:=e;exact f l _ i rfl (λ_ h=>h) (by simp) rfl
  .simp only[xM,pJ]at e
   obtain⟨l,i,rfl,rfl,rfl⟩:=e;exact f l _ i rfl (λ_ h=>h) (by simp) rfl
  grind [xM]
 |agg l=>exact False.elim hv
 |aS l=>exact False.elim hv
 |_=>simp[fJ]at e
theorem cf.trans{S1 c:aj->J Nat}{k1 a:Wk}{b e d:bn}(x:cf A ρ S hd fl k ay w b S1 k1 e)(y:cf A ρ S1 hd fl k1 ay w e c a d):cf A ρ S hd fl k ay w b c a d:=
 ⟨y.kr,λr b h=>x.sub r b (y.sub r b h),y.H.trans x.H,λh=>y.sn (x.sn h),λn h=>y.lk n (x.lk n h)⟩
theorem cf.ext{b b':bn}{k0:Wk}{a:aj->J Nat}(x:cf A ρ a hd fl k0 ay w b S' k' b'):Ext (cxS b.sn b.lk A k0.H.length ρ a fl w) (cxS b'.sn b'.lk A k'.H.length ρ S' fl w):=by
 rw[x.H];exact GG x.sn x.lk x.sub
theorem MY:∀(l:J SV) (vs:J Vz) (xs:J D) (k k':Wk) (S:aj->J Nat) (b b':bn),KR A ρ S hd fl k ay w->
  (∀k0 c,KR A ρ c hd fl k0 ay w->All2 (λu v=>CO (am A k0.H.length ρ c fl w) k0.get hd (aU k0.tr u) v) l vs)->lD nv l k b=some (xs,k',b')->
  ∃S',cf A ρ S hd fl k ay w b S' k' b'/\aR (cxS b'.sn b'.lk A k'.H.length ρ S' fl w) xs vs
 | [],vs,xs,k,k',S,b,b',h,a,e=>by
  simp only[lD,xJ,pJ]at e
  obtain⟨rfl,rfl,rfl⟩:=e;rw[show vs=[]from a k S h]
  exact⟨S,.refl h,rfl⟩
 |u::l,vs,xs,k,k',S,b,b',h,a,e=>by
  simp only[lD,xB,xM]at e
  obtain⟨⟨x,p,q⟩,B,⟨d,y,t⟩,n,f⟩:=e;simp only[pJ]at f
  obtain⟨rfl,rfl,rfl⟩:=f;obtain⟨v,r,rfl,m,_⟩:=a k S h;obtain⟨S1,g,s⟩:=MW h m B
  obtain⟨z,i,j⟩:=MY l r d p y S1 q t g.kr (λk0 c o=>by
   obtain⟨b,E,C,_,q3⟩:=a k0 c o
   grind) n
  refine⟨z,g.trans i,?_⟩
  simp only[aR]
  exact⟨v,r,rfl,VC.ext i.ext _ _ s,j⟩
theorem B!(h:KR A ρ S hd fl k ay w){v:SV}{val:Vz}{x:D}{b b':bn}(z:(v,val)∈ay)(e:wS nv v k b=some (x,k',b')):
  ∃S',cf A ρ S hd fl k ay w b S' k' b'/\VV (cxS b'.sn b'.lk A k'.H.length ρ S' fl w) x val:=by
 have i:=h.ay (v,val) z
 by_cases p:∃l,v=.agg l
 .obtain⟨l,rfl⟩:=p
  simp only[wS,xM]at e
  obtain⟨⟨F,I,J⟩,K,B⟩:=e;simp only[pJ]at B
  obtain⟨rfl,rfl,rfl⟩:=B
  have q:∀f n,KR A ρ n hd fl f ay w->∃d,val=.agg d/\All2 (λu v=>CO (am A f.H.length ρ n fl w) f.get hd (aU f.tr u) v) l d.toList:=λf n E=>by
   have:=E.ay _ z
   simp only[Ek]at this
   obtain⟨d,H,G⟩:=this
   exact⟨d,H,G.of_map⟩
  obtain⟨d,rfl,_⟩:=q k S h
  obtain⟨S',C,t⟩:=MY (nv:=nv) l d.toList F k I S b J h (λf n E=>by
   grind) K
  grind [VV.agg]
 .have a:fJ nv (aU k.tr v) k b=some (x,k',b'):=by
   revert e
   cases v <;>intro e <;>first |exact e |grind
  simp only at i
  by_cases g:∃y,aU k.tr v=.d y
  .obtain⟨y,r⟩:=g
   rw[r]at a i
   simp only[fJ,xJ,pJ]at a
   obtain⟨rfl,rfl,rfl⟩:=a
   refine⟨S,.refl h,VV.ext (rL _ _ _) ?_⟩
   split
   .exact i
   .exact VV.norm i
  .have c:∀y,aU k.tr v≠ .d y:=λy r=>g ⟨y,r⟩
   by_cases o:∃l,aU k.tr v=.aS l
   .grind [fJ]
   .by_cases j:∃l,aU k.tr v=.agg l
    .grind [fJ]
    .have s:=S1.to_SB (λl m=>j ⟨l,m⟩) (SO.to_S1 (λl m=>o ⟨l,m⟩) i)
     obtain⟨S',C,t⟩:=MW h (CO.of_SB s (λl=>c _)) a
     refine⟨S',C,VV.one t (λl m=> ?_)⟩
     subst m
     revert a
     generalize aU k.tr v=u at c |-
     intro a;unfold fJ at a
     split at a
     .exact c _ rfl
     .simp at a
     .simp at a
     .grind [xB,xM]
     .cases a
theorem GI:∀(l:J SV) (vs:J Vz) (xs:J D) (k k':Wk) (S:aj->J Nat) (b b':bn),KR A ρ S hd fl k ay w->
  All2 (λu v=>(u,v)∈ay) l vs->gV nv l k b=some (xs,k',b')->
  ∃S',cf A ρ S hd fl k ay w b S' k' b'/\bf (cxS b'.sn b'.lk A k'.H.length ρ S' fl w) xs vs
 | [],vs,xs,k,k',S,b,b',h,a,e=>by
  simp only[gV,xJ,pJ]at e
  obtain⟨rfl,rfl,rfl⟩:=e;rw[show vs=[]from a]
  exact⟨S,.refl h,rfl⟩
 |u::l,vs,xs,k,k',S,b,b',h,a,e=>by
  simp only[gV,xB,xM]at e
  obtain⟨⟨x,n,o⟩,z,⟨c,t,q⟩,m,d⟩:=e;simp only[pJ]at d
  obtain⟨rfl,rfl,rfl⟩:=d;obtain⟨v,r,rfl,j,s⟩:=a;obtain⟨S1,f,p⟩:=B! h j z;obtain⟨y,g,i⟩:=GI l r c n t S1 o q f.kr s m
  refine⟨y,f.trans g,?_⟩
  simp only[bf]
  have:=VV.ext g.ext p
  exact⟨v,r,rfl,this.1,this.2,i⟩
end
def Tk:J Vz->Vz
 | [x]=>x
 |vs=>.tuple vs.toArray
theorem MZ{t:T}{v:Vz}(h:qw t v):qw (T.fresh t) v:=by
 cases t with
 |d x=>
  simp only[T.fresh,T.cj];split
  .rename_i l
   split
   .exact h
   .exact h
  .unfold T.ofD1
   split
   .exact h
   .exact h
 |agg l=>exact h
 |_=>exact h
theorem RetAll.fresh{c:Cx}:∀(a:J T) (vs:J Vz) (M:J Nat),RetAll c a vs M->RetAll c (a.map T.fresh) vs M
 | [],_,_,b=>b
 |t::a,vs,M,b=>by
  obtain⟨v,r,e,d,f,rfl,h3,h4,h5⟩:=b
  exact⟨v,r,e,d,f,rfl,ME h3,MZ h4,RetAll.fresh a r d h5⟩
def Below(dst j:Nat)(u:SV):Prop:=∀i,j<=i->(Tr.kill (.l dst i) []).sv u=u
theorem Below.mono{dst j a:Nat}{u:SV}(h:Below dst j u)(b:j<=a):Below dst a u:=λi c=>h i (fj b c)
theorem Below.d{dst j:Nat}(x:D):Below dst j (.d x):=λ_ _=>rfl
theorem Below.aH{dst j i:Nat}(h:i<j)(p:dR)(off len:Nat):Below dst j (.aH (.l dst i) p off len):=λa b=>by
 grind [Tr.sv]
section
variable{P:Pz}{A:Av}{ρ:Nat->Nat}{S S':aj->J Nat}{hd:aj->Vz}{fl:J Nat}{k k':Wk}{ay:J (SV×Vz)}{w:Wz}
structure Laid(A:Av)(ρ:Nat->Nat)(S:aj->List Nat)(hd:aj->Value)(fl:List Nat)(k:Wk)(ay:List (SV×Value))(w:World)(dst j:Nat)(S':aj->List Nat)(hd':aj->Value)(fl':List Nat)(k':Wk)(j':Nat):Prop where
 kr:KR A ρ S' hd' fl' k' ay w
 ext:Ext (am A k.H.length ρ S fl w) (am A k'.H.length ρ S' fl' w)
 le:j<=j'
 H:k'.H=k.H
 stay:∀u v,Below dst j u->SO (am A k.H.length ρ S fl w) k.get hd u v->SO (am A k'.H.length ρ S' fl' w) k'.get hd' u v
theorem Laid.refl{dst j:Nat}(h:KR A ρ S hd fl k ay w):Laid A ρ S hd fl k ay w dst j S hd fl k j:=⟨h,Ext.refl' _,dC _,rfl,λ_ _ _ h=>h⟩
theorem Laid.trans{dst j e f:Nat}{S1 m:aj->J Nat}{d b:aj->Vz}{c a:J Nat}{k1 l:Wk}(x:Laid A ρ S hd fl k ay w dst j S1 d c k1 e)(y:Laid A ρ S1 d c k1 ay w dst e m b a l f):Laid A ρ S hd fl k ay w dst j m b a l f:=
 ⟨y.kr,⟨λt g n=>⟨(y.ext.pm t g (x.ext.pm t g n).1).1,rfl⟩,fj x.ext.nO y.ext.nO,λ_ _=>rfl⟩,fj x.le y.le,y.H.trans x.H,λu v i h=>y.stay u v (i.mono x.le) (x.stay u v i h)⟩
theorem Laid.stayC{dst j j':Nat}{hd':aj->Vz}{fl':J Nat}(x:Laid A ρ S hd fl k ay w dst j S' hd' fl' k' j'){u:SV}{v:Vz}(hb:Below dst j u)(h:CO (am A k.H.length ρ S fl w) k.get hd u v):CO (am A k'.H.length ρ S' fl' w) k'.get hd' u v:=by
 cases u with
 |d y=>exact VC.ext x.ext _ _ h
 |agg l=>exact False.elim h
 |aS l=>exact False.elim h
 |dead=>trivial
 |aH r p a c=>exact x.stay (.aH r p a c) v hb h
 |loc r p i a=>exact x.stay (.loc r p i a) v hb h
 |rp b e=>exact x.stay (.rp b e) v hb h
 |clip b l=>exact x.stay (.clip b l) v hb h
 |ns b=>exact h
theorem GJ{g:J Nat}(h:KR A ρ S hd (g++fl) k ay w){dst j i:Nat}{t:T}{v:Vz}{sv:SV}(ht:TC (am A k.H.length ρ S (g++fl) w) t [v] g)(e:gp dst j t k=some (sv,i,k')):
  ∃S' hd',Laid A ρ S hd (g++fl) k ay w dst j S' hd' fl k' i/\CO (am A k'.H.length ρ S' fl w) k'.get hd' sv v/\Below dst i sv:=by
 cases t with
 |d x=>
  simp only[gp,xJ,pJ]at e
  obtain⟨rfl,rfl,rfl⟩:=e;simp only[TC]at ht
  obtain⟨rfl,ht⟩:=ht
  exact⟨S,hd,.refl (by simpa using h),ht,.d x⟩
 |own c=>
  simp only[gp,xJ,pJ]at e
  obtain⟨rfl,rfl,rfl⟩:=e;obtain⟨B,m⟩:=h.du (n:=dst) (j:=j) ht;have G:=TC.ext m _ _ _ (λ_ _=>rfl) ht
  refine⟨_,_,⟨B,m,by omega,rfl,λu M D o=> ?_⟩,?_,.aH (by omega) _ _ _⟩
  .have:=SO.kill (K':=(k.new dst j (.own c)).get) (hd':=upd hd (.l dst j) v) (c':=am A k.H.length ρ (upd S (.l dst j) g) fl w) m (.l dst j) [] (λr q N=> ?_) o
   .rw[D j (dC _)]at this
    exact this
   .by_cases y:r=.l dst j
    .simp_all
    .exact h.hold _ (by show cont (((dst,j),T.own c)::k.ct) k.H r=_;rw[ju,if_neg y];rfl) (dG _ _ y) (λ_ _=>rfl) q
  .refine⟨.own c,c,v,by show cont (((dst,j),T.own c)::k.ct) k.H (.l dst j)=_;grind [ju],rfl,by simp[aI],by omega,?_⟩
   obtain⟨a,f,z,_⟩ |⟨F,b,p,K,C,S',f,z,O,E,L,H,I,P⟩:=G
   .simp only[xC,and_true]at f
    subst z
    exact⟨a,0,0,a,0,f,by simpa using f,dC _,λ_=>⟨rfl,dC _⟩,λs=>by simp at s⟩
   .simp only[xC,and_true]at f
    refine⟨_,c.length,b,_,b,f,f,E,λ_=>⟨rfl,dC _⟩,λs=> ?_⟩
    exact⟨F,c[0],rfl,by simp,by simp⟩
 |agg l=>simp[gp]at e
 |dead=>simp[gp]at e
theorem C8{dst:Nat}:∀(f:J T) (vs:J Vz) (M:J Nat) (S:aj->J Nat) (hd:aj->Vz) (k k':Wk) (j a:Nat) (d:J SV),KR A ρ S hd (M++fl) k ay w->a9 (am A k.H.length ρ S (M++fl) w) f vs M->gf dst j f k=some (d,a,k')->
  ∃S' hd',Laid A ρ S hd (M++fl) k ay w dst j S' hd' fl k' a/\All2 (CO (am A k'.H.length ρ S' fl w) k'.get hd') d vs/\∀u∈d,Below dst a u
 | [],vs,M,S,hd,k,k',j,a,d,h,c,e=>by
  simp only[gf,xJ,pJ]at e
  obtain⟨rfl,rfl,rfl⟩:=e;simp only[a9]at c
  obtain⟨rfl,rfl⟩:=c
  exact⟨S,hd,.refl (by simpa using h),rfl,by simp⟩
 |t::f,vs,M,S,hd,k,k',j,a,d,h,c,e=>by
  simp only[gf,xB,xM]at e
  obtain⟨⟨G,x,B⟩,F,⟨b,z,D⟩,y,n⟩:=e;simp only[pJ]at n
  obtain⟨rfl,rfl,rfl⟩:=n;simp only[a9]at c
  obtain⟨v,r,H,q,rfl,rfl,h3,h4⟩:=c;rw[xK]at h h3 h4
  obtain⟨S1,m,g,C,p⟩:=GJ (fl:=q++fl) h h3 F;obtain⟨E,i,l,s,I⟩:=C8 f r q S1 m B D x z b g.kr (a9.ext g.ext _ _ _ (λ_ _=>rfl) h4) y
  rw[xK]
  refine⟨E,i,g.trans l,⟨v,r,rfl,l.stayC p C,s⟩,λu o=> ?_⟩
  obtain rfl |o:=List.mem_cons.1 o
  .exact p.mono l.le
  grind
theorem Below.agg{dst j:Nat}{l:J SV}(h:∀u∈l,Below dst j u):Below dst j (.agg l):=λi e=>by
 have f:∀l:J SV,Tr.bG (Tr.kill (.l dst i) []) l=l.map (Tr.kill (.l dst i) []).sv:=λl=>by
  induction l with
  |nil=>rfl
  |cons a r c=>simp[Tr.bG,c]
 show SV.agg (Tr.bG _ l)=_;rw[f];congr 1;rw[lY (g:=id) (λu b=>h u b i e)]
 simp
theorem C_{a:J Nat}(h:KR A ρ S hd (a++fl) k ay w){dst j b:Nat}{t:T}{v:Vz}{sv:SV}(ht:TC (am A k.H.length ρ S (a++fl) w) t v.cells.toList a)(hf:qw t v)(e:lz dst j t k=some (sv,b,k')):
  ∃S' hd',Laid A ρ S hd (a++fl) k ay w dst j S' hd' fl k' b/\S1 (am A k'.H.length ρ S' fl w) k'.get hd' sv v/\Below dst b sv:=by
 cases t with
 |agg q=>
  simp only[lz,xM]at e
  obtain⟨⟨p,m,o⟩,r,i⟩:=e;simp only[pJ]at i
  obtain⟨rfl,rfl,rfl⟩:=i;obtain⟨l,rfl⟩:=hf;simp only[TC]at ht
  obtain⟨S',hd',c,f,g⟩:=C8 q _ a S hd k o j m p h ht r
  exact⟨S',hd',c,⟨l,rfl,f⟩,.agg g⟩
 |d x=>
  simp only[lz,gp,xJ,pJ]at e
  obtain⟨rfl,rfl,rfl⟩:=e;simp only[TC]at ht
  obtain⟨rfl,ht⟩:=ht
  exact⟨S,hd,.refl (by simpa using h),(⟨ht,hf⟩:VV _ x v),.d x⟩
 |own s=>
  have n:v.cells= #[v]:=lI hf;rw[n]at ht
  obtain⟨S',hd',c,f,g⟩:=GJ h ht e
  refine⟨S',hd',c,?_,g⟩
  simp only[lz,gp,xJ,pJ]at e
  obtain⟨rfl,rfl,rfl⟩:=e;exact f
 |dead=>simp[lz,gp]at e
theorem I6{dst:Nat}:∀(d:J T) (vs:J Vz) (M:J Nat) (S:aj->J Nat) (hd:aj->Vz) (k k':Wk) (j:Nat) (c:J SV),KR A ρ S hd (M++fl) k ay w->RetAll (am A k.H.length ρ S (M++fl) w) d vs M->io dst j d k=some (c,k')->
  ∃S' hd' y,Laid A ρ S hd (M++fl) k ay w dst j S' hd' fl k' y/\All2 (S1 (am A k'.H.length ρ S' fl w) k'.get hd') c vs
 | [],vs,M,S,hd,k,k',j,c,h,i,e=>by
  simp only[io,xJ,pJ]at e
  obtain⟨rfl,rfl⟩:=e;obtain⟨rfl,rfl⟩:=i
  exact⟨S,hd,j,.refl (by simpa using h),rfl⟩
 |t::d,vs,M,S,hd,k,k',j,c,h,i,e=>by
  simp only[io,xB,xM]at e
  obtain⟨⟨D,x,C⟩,I,⟨a,G⟩,z,o⟩:=e;simp only[pJ]at o
  obtain⟨rfl,rfl⟩:=o;obtain⟨v,r,K,q,rfl,rfl,h3,n,h4⟩:=i;rw[xK]at h h3 h4
  obtain⟨S1,m,f,p,E⟩:=C_ (fl:=q++fl) h h3 n I;obtain⟨H,g,B,s,u⟩:=I6 d r q S1 m C G x a f.kr (RetAll.ext f.ext _ _ _ (λ_ _=>rfl) h4) z
  rw[xK]
  refine⟨H,g,B,f.trans s,⟨v,r,rfl,?_,u⟩⟩
  have b:∀l,D≠ .aS l:=λl F=>by subst F;exact p.elim
  exact SO.to_S1 b (s.stay _ _ E (SO.of_S1 b p))
theorem Ra{M:J Nat}(h:KR A ρ S hd (M++fl) k ay w){dst:Nat}{rs:J T}{vs:J Vz}{sv:SV}(hr:RetAll (am A k.H.length ρ S (M++fl) w) rs vs M)(e:pO dst rs k=some (sv,k')):
  ∃S' hd',KR A ρ S' hd' fl k' ay w/\SO (am A k'.H.length ρ S' fl w) k'.get hd' sv (Tk vs)/\k'.H=k.H:=by
 simp only[pO,xM,pJ]at e
 obtain⟨⟨n,j⟩,m,a,rfl⟩:=e;obtain⟨S',hd',o,f,c⟩:=I6 rs vs M S hd k j 0 n h hr m
 refine⟨S',hd',f.kr,?_,f.H⟩
 have b:=c.len;simp only at a
 split at a
 .rename_i u
  subst a;obtain⟨v,r,rfl,d,i⟩:=c;rw[show r=[]from i]
  exact SO.of_S1 (λl b=>by subst b;exact d.elim) d
 .rename_i g
  subst a
  have:Tk vs=.tuple vs.toArray:=by
   match vs,b with
   | [],_=>rfl
   | [x],b=>grind [yI]
   |_::_::_,_=>rfl
  rw[this]
  exact⟨_,rfl,by simpa using c⟩
def aG(A:Av)(c:J Ob)(rs:J T)(v:Vz)(w':Wz):Prop:=
 ∃a S' b M d,KR A a S' b M {ct:=[],H:=c} [] w'/\RetAll (am A c.length a S' M w') rs d M/\v=Tk d
def GK(P:Pz)(f:FuncId):Prop:=YB<=f\/∃fn,P.funcs[f]? =some fn/\fn.body.isSome=true/\(fn.name== "runtime.NumGoroutine")=false
def ck(P:Pz)(ρ:Nat->Nat)(f:FuncId)(args:Array Vz)(w:Wz)(R:Ending->Wz->Prop):Prop:=
 if YB<=f then ∃r:Loop,w.heap[ρ (f - YB)]? =some (.loop r)/\args.size=r.params.size/\RoundIn Fence.wide 0 P (ρ (f - YB)) r.fn ((r.params.zip args).foldl (λb (t,a)=>b.setIfInBounds t a) r.tmps) r.assign r.body w R
 else Calls P f args w R
theorem ck.mono{P:Pz}{ρ:Nat->Nat}{f:FuncId}{args:Array Vz}{w:Wz}{R a:Ending->Wz->Prop}(h:ck P ρ f args w R)(hr:∀e w,R e w->a e w):ck P ρ f args w a:=by
 unfold ck at h |-
 split
 .rename_i c
  rw[if_pos c]at h
  obtain⟨r,b,d,h3⟩:=h
  exact⟨r,b,d,h3.mono hr⟩
 grind [Calls.mono]
def Ends(p:Bool)(e:Ending)(v:Vz):Prop:=if p=true then ∃x,v=.tuple #[x,.agg #[]]/\e=.panicked [{v:=x,recovered:=false}]else e=.returned v
abbrev CallT:=(Nat->Nat)->FuncId->Array Vz->Wz->(Ending->Wz->Prop)->Prop
def CallT.mono(C:CallT):Prop:=∀ρ f args w (R a:Ending->Wz->Prop),C ρ f args w R->(∀e w,R e w->a e w)->C ρ f args w a
def Eo(C:CallT)(G:Nat->U D)(call:dH):Prop:=
 ∀f c H b d,call f c H=some (b,d)->∀(A:Av) (S:aj->J Nat) (hd:aj->Vz) (a:Array Vz),A.n0=H.length->GA G A->KR A A.ρ0 S hd [] {ct:=[],H} [] A.w0->bf (am A H.length A.ρ0 S [] A.w0) c a.toList->
   C A.ρ0 f a A.w0 λe g=>∃v,Ends (fp b) e v/\aG A d b v g
def acm(P:Pz)(G:Nat->U D)(call:dH):Prop:=
 ∀f c a b d,call f c [.row a]=some (b,d)->d.length=0->¬YB<=f->((P.funcs[f]?).map λg=>g.params.size+g.nfree)=some (c.length+1)->
  ∀(A:Av) (S:aj->J Nat) (hd:aj->Vz) (v:Vz) (h:J Vz),A.n0=0->GA G A->KR A A.ρ0 S hd [] {ct:=[((0,0),.own a)],H:=[]} [] A.w0->
   SB (am A 0 A.ρ0 S [] A.w0) ({ct:=[((0,0),.own a)],H:=[]}:Wk).get hd (.aH (.l 0 0) [] 0 a.length) v->bf (am A 0 A.ρ0 S [] A.w0) c h->
   Calls P f (v::h).toArray A.w0 λe i=>∃u,Ends (fp b) e u/\aG A d b u i
def gK(P:Pz)(G:Nat->U D)(call:dH):Prop:=(∀f ds H r,call f ds H=some r->GK P f)/\Eo (ck P) G call/\acm P G call
theorem M3{dst:Nat}{rs:J T}{k k':Wk}{sv:SV}(e:pO dst rs k=some (sv,k')):sv.bO=fp rs:=by
 have c:∀{j:Nat} {t:T} {k:Wk} {v:SV} {p:Nat} {k':Wk},lz dst j t k=some (v,p,k')->(∀l,v≠ .aS l)/\((∃x,v=.d x)↔∃x,t=.d x)/\(v=.agg []↔t=.agg []):=by
  intro j t k v p k' e
  cases t with
  |d x=>
   grind [lz,gp]
  |own L=>
   grind [lz,gp]
  |agg C=>
   simp only[lz,xM]at e
   obtain⟨⟨i,s,z⟩,b,g⟩:=e;simp only[pJ]at g
   obtain⟨rfl,_,_⟩:=g
   refine⟨by simp,by simp,?_⟩
   cases C with
   |nil=>grind [gf]
   |cons a r=>
    grind [gf,xB,xM]
  |dead=>simp[lz,gp]at e
 have n:∀{j:Nat} {rs:J T} {k:Wk} {i:J SV} {k':Wk},io dst j rs k=some (i,k')->i.length=rs.length:=by
  intro j rs
  induction rs generalizing j with
  |nil=>grind [io]
  |cons t r O=>
   grind [io,xB,xM]
 simp only[pO,xM]at e
 obtain⟨⟨i,z⟩,b,g⟩:=e;simp only[pJ]at g
 obtain⟨rfl,_⟩:=g;have E:=n b
 match rs,i,E with
 | [],[],_=>rfl
 | [t],[v],_=>
  simp only[io,xB,xM]at b
  obtain⟨⟨m,s,F⟩,b,⟨D,B⟩,_,f⟩:=b;simp only[pJ,xC]at f
  obtain⟨⟨rfl,_⟩,_⟩:=f
  have:=(c b).1
  cases m with
  |aS l=>grind
  |_=>cases t <;>rfl
 | [t,u],[v,x],_=>
  simp only[io,xB,xM]at b
  obtain⟨⟨m,s,F⟩,b,⟨D,B⟩,⟨⟨q,M,N⟩,w,⟨A,I⟩,_,o⟩,f⟩:=b;simp only[pJ]at o
  obtain⟨rfl,_⟩:=o;simp only[pJ,xC]at f
  obtain⟨⟨rfl,rfl,_⟩,_⟩:=f;obtain⟨_,G,_⟩:=c b;obtain⟨_,_,q3⟩:=c w
  have K:SV.bO (.aS [m,q])=true↔(∃y,m=.d y)/\q=.agg []:=by
   constructor
   .intro h
    unfold SV.bO at h
    split at h
    .grind
    .cases h
   .rintro⟨⟨y,rfl⟩,rfl⟩;rfl
  have H:fp [t,u]=true↔(∃y,t=.d y)/\u=.agg []:=by
   constructor
   .intro h
    unfold fp at h
    split at h
    .grind
    .cases h
   .rintro⟨⟨y,rfl⟩,rfl⟩;rfl
  grind
 |_::_::_::_,_::_::_::_,_=>
  grind [SV.bO,fp]
end
def Cx.no(c:Cx):Cx:={c with pm:=λt b=>t=false/\c.pm t b}
def Cx.lo(c:Cx)(n:Nat):Cx:={c with nO:=n}
mutual
theorem VC.no{c:Cx}:∀(d:D) (cs:List Value),d.cX=true->VC c d cs->VC c.no d cs
 |.int _ _,_,_,e|.bool _,_,_,e|.str _,_,_,e|.aJ,_,_,e|.cU,_,_,e|.de,_,_,e|.cZ,_,_,e|.bX,_,_,e=>by simpa [VC]using e
 |.ptr o,cs,_,e|.map o,cs,_,e|.yld o,cs,_,e=>by simp only[VC]at e |-;exact e
 | .agg l,cs,g,e=>by have:=aR.no l cs g e;grind [VC]
 | .sl b l,cs,g,e=>by
  simp only[VC]at e |-
  simp only[D.cX,xA,rq]at g
  obtain⟨a,len,m,i,h,h3,h4⟩:=e
  refine⟨a,len,m,i,h,h3,λq=> ?_⟩
  obtain⟨n,j,h5,h6,h7,h8,h9⟩:=h4 q
  exact⟨n,j,h5,h6,⟨g.1,h7⟩,h8,VE.no l n 0 j g.2 h9⟩
 | .fn f a b,cs,g,e=>by
  simp only[VC]at e |-
  simp only[D.cX,xA]at g
  obtain⟨p,s,i,h,h3⟩:=e
  exact⟨p,s,i,bf.no a _ g.1 h,bf.no b _ g.2 h3⟩
 | .iface t x,cs,g,e=>by
  simp only[VC]at e |-
  simp only[D.cX]at g
  obtain⟨v,i,h,h3⟩:=e
  exact⟨v,i,VC.no x _ g h,h3⟩
 | .bR l,cs,g,e=>by simp[D.cX]at g
theorem aR.no{c:Cx}:∀(l:List D) (cs:List Value),D.aY l=true->aR c l cs->aR c.no l cs
 | [],_,_,e=>by grind [aR]
 |d::k,cs,g,e=>by
  simp only[aR]at e |-
  simp only[D.aY,xA]at g
  obtain⟨v,r,i,h,h3⟩:=e
  exact⟨v,r,i,VC.no d _ g.1 h,aR.no k r g.2 h3⟩
theorem bf.no{c:Cx}:∀(l:List D) (cs:List Value),D.aY l=true->bf c l cs->bf c.no l cs
 | [],_,_,e=>by grind [bf]
 |d::k,cs,g,e=>by
  simp only[bf]at e |-
  simp only[D.aY,xA]at g
  obtain⟨v,r,i,h,h3,h4⟩:=e
  exact⟨v,r,i,VC.no d _ g.1 h,h3,bf.no k r g.2 h4⟩
theorem VE.no{c:Cx}:∀(l:List D) (a:Addr) (o j:Nat),D.aY l=true->VE c l a o j->VE c.no l a o j
 | [],_,_,_,_,_=>by simp[VE]
 |d::k,a,o,j,g,e=>by
  simp only[VE]at e |-
  simp only[D.aY,xA]at g
  obtain⟨⟨cs,i,h,h3⟩,h4⟩:=e
  exact⟨⟨cs,i,h,VC.no d cs g.1 h3⟩,VE.no k a (o+j) j g.2 h4⟩
end
mutual
theorem TC.no{c:Cx}:∀(t:T) (cs:List Value) (S:List Nat),t.cX=true->TC c t cs S->TC c.no t cs S
 | .d x,cs,S,b,a=>by grind [TC,T.cX,VC.no]
 | .dead,cs,S,_,a=>by grind [TC]
 | .agg d,cs,S,b,a=>by have:=a9.no d cs S b a;grind [TC]
 | .own m,cs,S,b,a=>by
  simp only[TC]at a |-
  simp only[T.cX]at b
  obtain a |⟨g,k,j,e,f,S',i,h,h3,h4,h5,h6,h7,h8⟩:=a
  .exact .inl a
  .exact .inr ⟨g,k,j,e,f,S',i,h,h3,h4,h5,h6,h7,TE.no m f _ S' b h8⟩
theorem a9.no{c:Cx}:∀(d:List T) (cs:List Value) (S:List Nat),T.aY d=true->a9 c d cs S->a9 c.no d cs S
 | [],_,_,_,a=>by grind [a9]
 |t::d,cs,S,b,a=>by
  simp only[a9]at a |-
  simp only[T.aY,xA]at b
  obtain⟨v,r,S1,l,i,h,h3,h4⟩:=a
  exact⟨v,r,S1,l,i,h,TC.no t _ _ b.1 h3,a9.no d _ _ b.2 h4⟩
theorem TE.no{c:Cx}:∀(d:List T) (f:Nat) (cs:List Value) (S:List Nat),T.aY d=true->TE c d f cs S->TE c.no d f cs S
 | [],_,_,_,_,a=>by grind [TE]
 |t::d,f,cs,S,b,a=>by
  simp only[TE]at a |-
  simp only[T.aY,xA]at b
  obtain⟨o,n,S1,l,i,h,h3,h4,h5⟩:=a
  exact⟨o,n,S1,l,i,h,h3,TC.no t _ _ b.1 h4,TE.no d f _ _ b.2 h5⟩
end
theorem RetAll.no{c:Cx}:∀(a:J T) (vs:J Vz) (M:J Nat),T.aY a=true->RetAll c a vs M->RetAll c.no a vs M
 | [],_,_,_,d=>d
 |t::a,vs,M,b,d=>by
  simp only[T.aY,xA]at b
  obtain⟨v,r,f,e,g,rfl,h3,h4,h5⟩:=d
  exact⟨v,r,f,e,g,rfl,TC.no t _ _ b.1 h3,h4,RetAll.no a r e b.2 h5⟩
mutual
theorem VC.lo{c:Cx}{n:Nat}:∀(d:D) (cs:List Value),d.low n=true->VC c d cs->VC (c.lo n) d cs
 |.int _ _,_,_,e|.bool _,_,_,e|.str _,_,_,e|.aJ,_,_,e|.cU,_,_,e|.de,_,_,e|.cZ,_,_,e|.bX,_,_,e=>by simpa [VC]using e
 |.ptr o,cs,g,e|.map o,cs,g,e|.yld o,cs,g,e=>by simp only[VC]at e |-;simp only[D.low,yD]at g;exact⟨g,e.2⟩
 | .agg l,cs,g,e=>by have:=aR.lo l cs g e;grind [VC]
 | .sl b l,cs,g,e=>by
  simp only[VC]at e |-
  simp only[D.low]at g
  obtain⟨a,len,m,i,h,h3,h4⟩:=e
  refine⟨a,len,m,i,h,h3,λs=> ?_⟩
  obtain⟨p,j,h5,h6,h7,h8,h9⟩:=h4 s
  exact⟨p,j,h5,h6,h7,h8,VE.lo l p 0 j g h9⟩
 | .fn f a b,cs,g,e=>by
  simp only[VC]at e |-
  simp only[D.low,xA]at g
  obtain⟨u,w,i,h,h3⟩:=e
  exact⟨u,w,i,bf.lo a _ g.1 h,bf.lo b _ g.2 h3⟩
 | .iface t x,cs,g,e=>by
  simp only[VC]at e |-
  simp only[D.low]at g
  obtain⟨v,i,h,h3⟩:=e
  exact⟨v,i,VC.lo x _ g h,h3⟩
 | .bR l,cs,g,e=>by
  simp only[VC]at e |-
  simp only[D.low]at g
  obtain⟨a,q,i,h,h3,h4,h5⟩:=e
  exact⟨a,q,i,h,h3,h4,aR.lo l q g h5⟩
theorem aR.lo{c:Cx}{n:Nat}:∀(l:List D) (cs:List Value),D.aQ n l=true->aR c l cs->aR (c.lo n) l cs
 | [],_,_,e=>by grind [aR]
 |d::k,cs,g,e=>by
  simp only[aR]at e |-
  simp only[D.aQ,xA]at g
  obtain⟨v,r,i,h,h3⟩:=e
  exact⟨v,r,i,VC.lo d _ g.1 h,aR.lo k r g.2 h3⟩
theorem bf.lo{c:Cx}{n:Nat}:∀(l:List D) (cs:List Value),D.aQ n l=true->bf c l cs->bf (c.lo n) l cs
 | [],_,_,e=>by grind [bf]
 |d::k,cs,g,e=>by
  simp only[bf]at e |-
  simp only[D.aQ,xA]at g
  obtain⟨v,r,i,h,h3,h4⟩:=e
  exact⟨v,r,i,VC.lo d _ g.1 h,h3,bf.lo k r g.2 h4⟩
theorem VE.lo{c:Cx}{n:Nat}:∀(l:List D) (a:Addr) (o j:Nat),D.aQ n l=true->VE c l a o j->VE (c.lo n) l a o j
 | [],_,_,_,_,_=>by simp[VE]
 |d::k,a,o,j,g,e=>by
  simp only[VE]at e |-
  simp only[D.aQ,xA]at g
  obtain⟨⟨cs,i,h,h3⟩,h4⟩:=e
  exact⟨⟨cs,i,h,VC.lo d cs g.1 h3⟩,VE.lo k a (o+j) j g.2 h4⟩
end
mutual
theorem TC.lo{c:Cx}{n:Nat}:∀(t:T) (cs:List Value) (S:List Nat),t.low n=true->TC c t cs S->TC (c.lo n) t cs S
 | .d x,cs,S,b,a=>by grind [TC,T.low,VC.lo]
 | .dead,cs,S,_,a=>by grind [TC]
 | .agg d,cs,S,b,a=>by have:=a9.lo d cs S b a;grind [TC]
 | .own m,cs,S,b,a=>by
  simp only[TC]at a |-
  simp only[T.low]at b
  obtain a |⟨g,k,j,e,f,S',i,h,h3,h4,h5,h6,h7,h8⟩:=a
  .exact .inl a
  .exact .inr ⟨g,k,j,e,f,S',i,h,h3,h4,h5,h6,h7,TE.lo m f _ S' b h8⟩
theorem a9.lo{c:Cx}{n:Nat}:∀(d:List T) (cs:List Value) (S:List Nat),T.aQ n d=true->a9 c d cs S->a9 (c.lo n) d cs S
 | [],_,_,_,a=>by grind [a9]
 |t::d,cs,S,b,a=>by
  simp only[a9]at a |-
  simp only[T.aQ,xA]at b
  obtain⟨v,r,S1,l,i,h,h3,h4⟩:=a
  exact⟨v,r,S1,l,i,h,TC.lo t _ _ b.1 h3,a9.lo d _ _ b.2 h4⟩
theorem TE.lo{c:Cx}{n:Nat}:∀(d:List T) (f:Nat) (cs:List Value) (S:List Nat),T.aQ n d=true->TE c d f cs S->TE (c.lo n) d f cs S
 | [],_,_,_,_,a=>by grind [TE]
 |t::d,f,cs,S,b,a=>by
  simp only[TE]at a |-
  simp only[T.aQ,xA]at b
  obtain⟨p,o,S1,l,i,h,h3,h4,h5⟩:=a
  exact⟨p,o,S1,l,i,h,h3,TC.lo t _ _ b.1 h4,TE.lo d f _ _ b.2 h5⟩
end
theorem RetAll.lo{c:Cx}{n:Nat}:∀(a:J T) (vs:J Vz) (M:J Nat),T.aQ n a=true->RetAll c a vs M->RetAll (c.lo n) a vs M
 | [],_,_,_,b=>b
 |t::a,vs,M,d,b=>by
  simp only[T.aQ,xA]at d
  obtain⟨v,r,g,e,f,rfl,h3,h4,h5⟩:=b
  exact⟨v,r,g,e,f,rfl,TC.lo t _ _ d.1 h3,h4,RetAll.lo a r e d.2 h5⟩
end Go.Am
