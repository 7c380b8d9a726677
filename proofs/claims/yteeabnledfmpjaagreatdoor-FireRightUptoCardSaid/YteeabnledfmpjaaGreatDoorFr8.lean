/- A part of the proof: texts of mine, merged by a program (wip/dev/merge.py). -/
import Derived.Test.YteeabnledfmpjaaGreatDoorFr7
set_option linter.defProp false
set_option linter.unusedSimpArgs false
set_option linter.unusedVariables false
namespace Go.Am
open Go
attribute [go_sem] K!
section
variable{P:Pz}
theorem Uw{xs:J Int}:ud (tl eI xs)=some (List.map eI xs):=by
 induction xs with
 |nil=>rfl
 |cons x r a=>simp only[tl,eG,ud,eI,D.flat,if_true]at a |-;rw[a];rfl
theorem plainT_tl{xs:J Int}:fW (tl eI xs)=true:=by
 induction xs with
 |nil=>rfl
 |cons x r a=>exact a
theorem HA{xs:J Int}:dY 1 (tl eI xs)=true:=eU λx=>rfl
theorem Ux{r:aj}{p:dR}{off:Nat}{xs es:J Int}{c:T}{k:Wk}(a:k.get r=some c)(ha:c.at p=some (.own (tl eI es)))(hf:off+xs.length<=es.length):
  lH r p off (List.map eI xs) k=if xs=[]then some k else(c.put p (.own (tl eI (es.take off++xs++es.drop (off+xs.length))))).bind (k.set r):=by
 unfold lH
 by_cases h:xs=[]
 .subst h;rfl
 rw[if_neg h,if_neg (by simpa using h),a,xS,ha,xS]
 simp only
 rw[if_pos ⟨by simpa [tl]using hf,HA,plainT_tl,by simp[eI,D.nc]⟩]
 simp only[tl,pM,F6,Pe,l7,ke,wb]
theorem Bg{t u:TypeId}(hu:elemOf P t=some u)(hc:P.cellsOf u=1){r:aj}{p:dR}{off len:Nat}{xs es:J Int}{c:T}{b:SV}{k:Wk}(hb:qu b k=some (tl eI xs))(e:k.get r=some c)(ha:c.at p=some (.own (tl eI es)))(hf:off+Nat.min xs.length len<=es.length):
  nZ P t (.aH r p off len) b k=(if xs.take (Nat.min xs.length len)=[]then some k else(c.put p (.own (tl eI (es.take off++xs.take (Nat.min xs.length len)++es.drop (off+Nat.min xs.length len))))).bind (k.set r)).map λk'=>(.d (.int .i64 ((Nat.min xs.length len:Nat):Int)),k'):=by
 obtain⟨n,a⟩:∃n,n=Nat.min xs.length len:=⟨_,rfl⟩
 have f:n<=xs.length:=a▸Nat.min_le_left _ _;rw[<-a]at hf |-
 have d:(xs.take n).length=n:=by rw[yR];omega
 have:=Ux (xs:=xs.take n) e ha (by rw[d];exact hf)
 simp only[nZ,hu,hb,Uw,xS,if_pos (And.intro hc HA),l7,<-a];rw[<-F6,this,d]
theorem Uy{b:Bool}{xs:J Int}{k:Wk}:qu (.clip b (List.map eI xs)) k=some (tl eI xs):=by simp[qu,tl,ke,wb]
theorem F2{b:Bool}{xs:J Int}{k:Wk}:qu (.d (.sl b (List.map eI xs))) k=some (tl eI xs):=by simp[qu,tl,ke,wb]
end
section
variable{α β σ τ ρ:Type}
theorem dE{x:Int}(h1:-9223372036854775808<=x)(h2:x<=9223372036854775807):IntKind.i64.wrap x=x:=lg h1 h2
theorem eW{k:Nat}(h:k<4611686018427387904):IntKind.i64.wrap ((k:Int)+1)=((k+1:Nat):Int):=by rw[lg (by omega) (by omega)];omega
theorem oc{Φ:τ->(τ->U ρ)->U ρ}(N:Nat)(mk:Nat->τ)(p:Nat->U (U ρ))(a:U ρ)
  (hs:∀i k,i<N->Φ (mk i) k=match p i with |some r=>r |none=>k (mk (i+1))) (d:∀k,Φ (mk N) k=a):iw Φ (mk 0)=((List.range N).findSome? p).getD a:=by
 have c:∀n j,j<=N->N - j<n->zA Φ n (mk j)=((List.range' j (N - j)).findSome? p).getD a:=by
  intro n
  induction n with
  |zero=>intro j _ h;omega
  |succ n e=>
   intro j g h;show Φ (mk j) (zA Φ n)=_
   by_cases b:j=N
   .subst b;rw[d,rz];rfl
   .rw[hs j _ (by omega),show N - j=(N - (j+1))+1 by omega,wg,List.findSome?_cons]
    cases p j with
    |some r=>rfl
    |none=>exact e (j+1) (by omega) (by omega)
 refine A9 (N+1) λn f=> ?_
 rw[c n 0 (by omega) (by omega),nq]
 rfl
theorem Uz{Φ:τ->(τ->U ρ)->U ρ}(N:Nat)(mk:Nat->τ)(b:U ρ)
  (hs:∀i k,i<N->Φ (mk i) k=k (mk (i+1))) (hf:∀k,Φ (mk N) k=b):iw Φ (mk 0)=b:=by
 rw[oc N mk (λ_=>none) b (λi k h=>hs i k h) hf]
 have:∀l:J Nat,l.findSome? (λ_=>(none:U (U ρ)))=none:=λl=>by induction l with |nil=>rfl |cons a l c=>exact c
 rw[this];rfl
theorem Yi{p:Nat->Bool}{x b:U ρ}(N:Nat):((List.range N).findSome? λi=>if p i=true then none else some x).getD b=if ∀i,i<N->p i=true then b else x:=by
 have:∀l:J Nat,(l.findSome? λi=>if p i=true then none else some x).getD b=if ∀i∈l,p i=true then b else x:=λl=>by
  induction l with
  |nil=>simp
  |cons a l d=>
   rw[List.findSome?_cons]
   cases c:p a
   .simp[c]
   .simp only[if_true,d,List.forall_mem_cons,c,true_and]
 rw[this];simp only[List.mem_range]
theorem iterC_all{Φ:τ->(τ->U ρ)->U ρ}(N:Nat)(mk:Nat->τ)(p:Nat->Bool)(x a:U ρ)
  (hs:∀i k,i<N->Φ (mk i) k=if p i=true then k (mk (i+1))else x) (hf:∀k,Φ (mk N) k=a):iw Φ (mk 0)=if ∀i,i<N->p i=true then a else x:=by
 rw[oc N mk (λi=>if p i=true then none else some x) a (λi k h=>by rw[hs i k h];cases p i <;>rfl) hf,Yi]
theorem iterC_runE{Φ:τ->(τ->U ρ)->U ρ}{v:τ}(N:Nat)(mk:Nat->τ)(h0:v=mk 0){a:U ρ}
  (hs:∀i k,i<N->Φ (mk i) k=k (mk (i+1))) (hf:∀k,Φ (mk N) k=a):iw Φ v=a:=by rw[h0];exact Uz N mk a hs hf
theorem JC{Φ:τ->(τ->U ρ)->U ρ}(R:τ->U ρ->Prop)(b:τ->Nat)(h:∀v e k,R v e->(∀a c,R a c->b a<b v->k a=c)->Φ v k=e){v:τ}{e:U ρ}(hv:R v e):iw Φ v=e:=by
 have:∀n v e,R v e->b v<n->zA Φ n v=e:=by
  intro n
  induction n with
  |zero=>intro v _ _ hv;omega
  |succ n g=>intro v e i l;exact h v e _ i λa c d f=>g a c d (by omega)
 exact A9 (b v+1) λn j=>this n v e hv (by omega)
theorem eD{l:J α}{i:Nat}(h:i<l.length):l.take (i+1)=l.take i++[l[i]]:=by rw[List.take_succ_eq_append_getElem h]
theorem od{g:Nat->α}{n:Nat}:(List.range (n+1)).map g=(List.range n).map g++[g n]:=by simp[List.range_succ]
end
end Go.Am
namespace Go.Etx
open Go Go.Am Go.Proofs
set_option maxHeartbeats 4000000
set_option maxRecDepth 20000
section
attribute [-simp] List.map_append List.map_take List.map_drop List.map_set
abbrev oT(m:ae):D:=.agg [.sl false (List.map dB m.aa),.sl false (List.map dJ m.aq),.sl false (List.map dP m.ah),.sl false (List.map (dL false) m.ak),.sl false (List.map (fw false) m.aL)]
@[go_sem] theorem ai3{call:dH}{h:Hint}{dst o:Nat}{xs:J SV}{k:Wk}:NM P call h dst (.d (.yld o)) xs k=(gV (h.nvAt dst) xs k {}).bind λp=>(gC call h dst (1099511627776+o) (canon p.2.2.sn p.1) p.2.2 p.2.1).bind jY:=rfl
def Bh(s:J aw)(k:Int):Int:=
 if 1<=k then match s[(k - 1).toNat]? with |some x=>if 1<=x.cV/\x.cV<=4 then x.cV else 0 |none=>0 else 0
theorem W_{ρ:Type}(m:ae)(hs:m.aa.length<=1000)(p:az)(κ:KT ρ):cbK (call 152 [oT m,dL false p] []) κ=κ ([.d (.int .i64 (Bh m.aa p.aG))],[]):=by
 refine(amw _ _ _ rfl).trans ?_
 simp -implicitDefEqProofs [go_sem]
 unfold Bh
 by_cases b:p.aG<1
 .grind
 by_cases a:(m.aa.length:Int)<p.aG
 .simp only[b,a,if_true,if_false,lX (show m.aa.length<=(p.aG - 1).toNat by omega),ite_self]
 have c:IntKind.i64.wrap (p.aG - 1)=p.aG - 1:=dE (by omega) (by omega)
 have d:=xG (show(p.aG - 1).toNat<m.aa.length by omega)
 simp only[b,a,if_false,c,show 0<=p.aG - 1 by omega,if_true,d,xS,show 1<=p.aG by omega]
 by_cases h3:m.aa[(p.aG - 1).toNat].cV<1
 .grind
 by_cases h4:4<m.aa[(p.aG - 1).toNat].cV
 .grind
 grind
@[go_sem] theorem afU{g j:FuncId}{ps d:J Nat}{a b h b':Code}{e i:J (Nat×SV)}{c c':J ((Nat×Nat)×T)}{r f:J Ob}:ej (.frame g ps a b e c::r) (.frame j d h b' i c'::f)=ej r f:=rfl
def zG{ρ:Type}(m:ae)(F:J aE->Ob)(l:J aE):Prop:=l.length<=100000->∀(i:Nat) (y:Int),i<m.ak.length->∀κ:KT ρ,cbK (call 1099511627777 [.agg [.int .i64 (i:Int),.int .i64 y]] [.box (.d (oT m)),F l]) κ=κ ([.d (.bool true)],[.box (.d (oT m)),F (l++[⟨(i:Int),y⟩])])
section
variable{ρ:Type}(m:ae)(hs:m.aa.length<=1000)(g:FuncId)(ps:J Nat)(a b:Code)(E:J aE->J (Nat×SV))(C:J aE->J ((Nat×Nat)×T))
abbrev FR(g:FuncId)(ps:J Nat)(a b:Code)(E:J aE->J (Nat×SV))(C:J aE->J ((Nat×Nat)×T))(l:J aE):Ob:=.frame g ps a b (E l) (C l)
def SIg(i:Nat)(F:Ob):St:=⟨[(0,.d (.yld 1)),(1,.d (.ptr 0)),(7,.d (.sl false (List.map (dL false) m.ak))),(8,.d (.int .i64 m.ak.length)),(9,.d (.int .i64 i))],[],[.box (.d (oT m)),F]⟩
def SJg(i k:Nat)(n:Int)(F:Ob):St:=⟨[(0,.d (.yld 1)),(1,.d (.ptr 0)),(3,.d (.int .i64 i)),(7,.d (.sl false (List.map (dL false) m.ak))),(8,.d (.int .i64 m.ak.length)),(9,.d (.int .i64 i)),(26,.d (.int .i64 n)),(27,.d (.int .i64 k))],[],[.box (.d (oT m)),F]⟩
theorem afV(i k:Nat)(hi:i<m.ak.length)(n:Int)(hk:(k:Int)<n)(hn:n<=4)(l:J aE)(hl:l.length<=100000)(e:∀l,zG (ρ:=ρ) m (FR g ps a b E C) l)(κ:Ex×St->U ρ):
  dI P hints ji D6 0 (SJg m i k n (FR g ps a b E C l)) κ=dI P hints ji D6 0 (SJg m i (k+1) n (FR g ps a b E C (l++[⟨(i:Int),(k:Int)+1⟩]))) κ:=by
 refine(ap X7.2).trans ?_
 have d:IntKind.i64.wrap ((k:Int)+1)=(k:Int)+1:=dE (by omega) (by omega)
 have c:=λy κ=>e l hl i y hi κ
 simp only[FR]at c
 simp -implicitDefEqProofs [go_sem,SJg,hk,c,d]
def XJg(i k:Nat)(n:Int)(F:Ob):St:=⟨[(0,.d (.yld 1)),(1,.d (.ptr 0)),(3,.d (.int .i64 i)),(7,.d (.sl false (List.map (dL false) m.ak))),(8,.d (.int .i64 m.ak.length)),(9,.d (.int .i64 i)),(26,.d (.int .i64 n)),(27,.d (.int .i64 k)),(28,.d (.bool false))],[],[.box (.d (oT m)),F]⟩
theorem afW(i k:Nat)(n:Int)(hk:¬(k:Int)<n)(F:Ob)(κ:Ex×St->U ρ):
  dI P hints ji D6 0 (SJg m i k n F) κ=κ (.exit 2,XJg m i k n F):=by
 refine(ap X7.2).trans ?_
 simp -implicitDefEqProofs [go_sem,SJg,XJg,hk]
def elQ(i k:Nat):Nat->List aE
 |0=>[]
 |n+1=>⟨(i:Int),(k:Int)+1⟩::elQ i (k+1) n
theorem Qq(c:∀l,zG (ρ:=ρ) m (FR g ps a b E C) l)(i:Nat)(hi:i<m.ak.length)(n:Int)(hn:n<=4)(κ:Ex×St->U ρ):∀(d k:Nat) (l:J aE),(n - k).toNat=d->(k:Int)<=n\/k=0->l.length+d<=100000->dI P hints ji D6 0 (SJg m i k n (FR g ps a b E C l)) κ=κ (.exit 2,XJg m i (k+d) n (FR g ps a b E C (l++elQ i k d)))
 |0,k,l,e,hk,_=>by
  grind [afW,elQ]
 |d+1,k,l,e,hk,f=>by
  rw[afV m g ps a b E C i k hi n (by omega) hn l (by omega) c,Qq c i hi n hn κ d (k+1) _ (by omega) (by omega) (by simp;omega),xK,show k+1+d=k+(d+1)by omega]
  rfl
def ofQ(i:Nat)(p:az):J aE:=(if p.aG=0 then [⟨(i:Int),0⟩]else [])++elQ i 0 (Bh m.aa p.aG).toNat
theorem Bi{s:J aw}{k:Int}:0<=Bh s k/\Bh s k<=4:=by
 unfold Bh;split
 .split
  .split <;>omega
  .omega
 .omega
theorem Rx{i:Nat}:∀{k n:Nat},(elQ i k n).length=n
 |k,0=>rfl
 |k,n+1=>by simp[elQ,Rx (k:=k+1)]
theorem Yj{i:Nat}{p:az}:(ofQ m i p).length<=5:=by
 have:= @Bi m.aa p.aG
 grind [ofQ,Rx]
theorem afX(hs:m.aa.length<=1000)(hn:m.ak.length<=1000)(l:J aE)(hb:l.length+5<=100000)(f:∀l,zG (ρ:=ρ) m (FR g ps a b E C) l)(κ:Ex×St->U ρ)(i:Nat)(hi:i<m.ak.length):dI P hints ji D6 1 (SIg m i (FR g ps a b E C l)) κ=dI P hints ji D6 1 (SIg m (i+1) (FR g ps a b E C (l++ofQ m i m.ak[i]))) κ:=by
 refine(ap X8.2).trans ?_
 have k:m.ak[i]? =some m.ak[i]:=xG hi;have n:(i:Int)<(m.ak.length:Int):=by omega
 have j:IntKind.i64.wrap ((i:Int)+1)=(i:Int)+1:=dE (by omega) (by omega)
 have d:=λκ=>W_ (ρ:=ρ) m hs m.ak[i] κ
 simp only[go_sem]at d
 have e:=λy κ=>f l (by omega) i y hi κ
 simp only[FR]at e
 have o:= @Bi m.aa m.ak[i].aG;have h:=λ(κ:Ex×St->U ρ)=>Qq (ρ:=ρ) m g ps a b E C f i hi (Bh m.aa m.ak[i].aG) Bi.2 κ _ 0 l rfl (.inr rfl) (by omega)
 have c:=λ(y:Int) (κ:Ex×St->U ρ)=>Qq (ρ:=ρ) m g ps a b E C f i hi (Bh m.aa m.ak[i].aG) Bi.2 κ _ 0 (l++[⟨(i:Int),y⟩]) rfl (.inr rfl) (by simp;omega)
 simp only[SJg,XJg,FR,eA]at h c
 simp -implicitDefEqProofs [go_sem,SIg,n,k,e,d,h,c,j]
 grind [ofQ]
def XIg(i:Nat)(F:Ob):St:=⟨[(0,.d (.yld 1)),(1,.d (.ptr 0)),(7,.d (.sl false (List.map (dL false) m.ak))),(8,.d (.int .i64 m.ak.length)),(9,.d (.int .i64 i)),(10,.d (.bool false))],[],[.box (.d (oT m)),F]⟩
theorem afY(i:Nat)(hi:¬i<m.ak.length)(F:Ob)(κ:Ex×St->U ρ):dI P hints ji D6 1 (SIg m i F) κ=κ (.exit 0,XIg m i F):=by
 refine(ap X8.2).trans ?_
 have a:¬(i:Int)<(m.ak.length:Int):=by omega
 simp -implicitDefEqProofs [go_sem,SIg,XIg,a]
def HB(i:Nat):Nat->List aE
 |0=>[]
 |n+1=>(match m.ak[i]? with |some p=>ofQ m i p |none=>[])++HB (i+1) n
theorem Yk(hs:m.aa.length<=1000)(hn:m.ak.length<=1000)(c:∀l,zG (ρ:=ρ) m (FR g ps a b E C) l)(κ:Ex×St->U ρ):∀(d i:Nat) (l:J aE),i+d=m.ak.length->l.length+5 * d<=100000->dI P hints ji D6 1 (SIg m i (FR g ps a b E C l)) κ=κ (.exit 0,XIg m m.ak.length (FR g ps a b E C (l++HB m i d)))
 |0,i,l,f,_=>by
  grind [afY,HB]
 |d+1,i,l,f,j=>by
  have e:i<m.ak.length:=by omega
  have h:= @Yj m i m.ak[i];rw[afX m g ps a b E C hs hn l (by omega) c κ i e,Yk hs hn c κ d (i+1) _ (by omega) (by grind),HB,xG e,xK]
def jV:J aE:=HB m 0 m.ak.length
theorem N9(hs:m.aa.length<=1000)(hn:m.ak.length<=1000)(d:∀l,zG (ρ:=ρ) m (FR g ps a b E C) l)(κ:KT ρ):cbK (call 151 [.yld 1,.ptr 0] [.box (.d (oT m)),FR g ps a b E C []]) κ=κ ([],[.box (.d (oT m)),FR g ps a b E C (jV m)]):=by
 refine(amt _ _ _ rfl).trans ?_
 have c:=λ(κ:Ex×St->U ρ)=>Yk (ρ:=ρ) m g ps a b E C hs hn d κ m.ak.length 0 [] (by omega) (by simp;omega)
 simp only[SIg,XIg,FR,eA,gG]at c
 simp -implicitDefEqProofs [go_sem,c,jV]
end
def Qr(call:dH)(h:Hint)(ps:J Nat)(a b:Code)(s:St):SV->U (Ex×St)
 | .d (.fn (.func g) first cap)=>
  if YB<=g then none else
  (call g (first++[.yld s.H.length]++cap) (s.H++[.frame h.self ps a b (s.env.map λp=>(p.1,p.2.loose)) s.ct])).bind λ(d,c)=>
   match d,c[s.H.length]? with
   | [],some (.frame _ _ _ _ env ct)=>if c.length=s.H.length+1 then some (.normal,{env,ct,H:=c.set s.H.length .lock})else none
   |_,_=>none
 |_=>none
@[go_sem] theorem ai4{call:dH}{h:Hint}{f:Oz}{ps:J Nat}{a b:Code}{s:St}:kX call h f ps a b s=if h.nest=true then none else Qr call h ps a b s (s.val f):=rfl
def HC(n:Nat)(q:J T×J Ob):U (Ex×St):=
 match q.1,q.2[n]? with
 | [],some (.frame _ _ _ _ env ct)=>if q.2.length=n+1 then some (.normal,{env,ct,H:=q.2.set n .lock})else none
 |_,_=>none
@[go_sem] theorem ai5{call:dH}{h:Hint}{ps:J Nat}{a b:Code}{s:St}{g:FuncId}{first cap:J D}(c:g<1099511627776):Qr call h ps a b s (.d (.fn (.func g) first cap))=cb (call g (first++[.yld s.H.length]++cap) (s.H++[.frame h.self ps a b (s.env.map λp=>(p.1,p.2.loose)) s.ct])) (HC s.H.length):=by
 simp only[Qr,if_neg (show¬YB<=g from Nat.not_le.2 c)];rfl
attribute [go_sem] SV.loose
section
variable{ρ:Type}
noncomputable def kRb(o g p:Nat)(x y:Code)(W:J Nat)(env:J (Nat×SV))(n:Nat)(κ:KT ρ):Ex×St->U ρ:=λr=>match r.1 with
 | .normal=>match r.2.H[o]? with
  |some .lock=>κ ([.d (.bool true)],lE n [] (r.2.H.set o (.frame g [p] x y (((env.map (·.1)).filter λt=> !W.contains t).map λt=>(t,(r.2.get t).loose)) (pick r.2.ct (jZ (SV.cr ((((env.map (·.1)).filter λt=> !W.contains t).map λt=>(t,(r.2.get t).loose)).map (·.2))))))))
  |_=>none
 |_=>none
noncomputable def kRa(o g p:Nat)(x y:Code)(W:J Nat)(env:J (Nat×SV))(n:Nat)(h:Hint)(cy:CL)(κ:KT ρ):Ex×St->U ρ:=λr=>match r.1 with
 | .normal=>go P hints h y cy r.2 (kRb o g p x y W env n κ)
 |_=>none
@[congr] theorem ai6{o g p:Nat}{x y:Code}{W:J Nat}{env:J (Nat×SV)}{n:Nat}{h:Hint}{cy:CL}{κ:KT ρ}{r a:Ex×St}(e:r=a):kRa o g p x y W env n h cy κ r=kRa o g p x y W env n h cy κ a:=by rw[e]
@[go_sem] theorem axU{o g p:Nat}{x y:Code}{W:J Nat}{env:J (Nat×SV)}{n:Nat}{h:Hint}{cy:CL}{κ:KT ρ}{s:St}:kRa o g p x y W env n h cy κ (.normal,s)=go P hints h y cy s (kRb o g p x y W env n κ):=rfl
theorem Oa{o g p:Nat}{x y:Code}{W:J Nat}{env:J (Nat×SV)}{n:Nat}{κ:KT ρ}{s:St}(hl:s.H[o]? =some .lock):kRb o g p x y W env n κ (.normal,s)=κ ([.d (.bool true)],lE n [] (s.H.set o (.frame g [p] x y (((env.map (·.1)).filter λt=> !W.contains t).map λt=>(t,(s.get t).loose)) (pick s.ct (jZ (SV.cr ((((env.map (·.1)).filter λt=> !W.contains t).map λt=>(t,(s.get t).loose)).map (·.2)))))))):=by
 simp only[kRb,hl]
theorem Oc{o g p:Nat}{x y:Code}{env:J (Nat×SV)}{ct:J ((Nat×Nat)×T)}{d:D}{H:J Ob}{W:J Nat}{cx cy:CL}(a:H[o]? =some (.frame g [p] x y env ct))(hx:qC {hints g with nest:=true} x=some cx)(b:qC {hints g with nest:=true} y=some cy)(hw:p::kM x++kM y=W)(κ:KT ρ):
  cbK (call (1099511627776+o) [d] H) κ=go P hints {hints g with nest:=true} x cx ⟨(p,.d d)::env,ct,H.set o .lock⟩ (kRa o g p x y W env H.length {hints g with nest:=true} cy κ):=by
 show cbK (eM P hints (YB+o) [d] H) κ=_;rw[NX];unfold Hr;simp only[a,uA hx,uA b,hw];unfold go cbK;rw[xX];congr 1;funext r;obtain⟨e,s⟩:=r
 cases e <;>try rfl
 simp only[kRa,go];rw[xX];congr 1
 grind [kRb]
end
def rb:Code->Option (Operand×Array Nat×Code×Code)
 | .rangeFunc f ps a b=>some (f,ps,a,b)
 | .seq a b=>(rb a).or (rb b)
 |.block _ a|.scope a=>rb a
 | .cond _ a b=>(rb a).or (rb b)
 | .loop a=>rb a
 |_=>none
@[go_sem] def mkU{α:Type}(a b:α)(e:a=b:=by conv=>lhs;cbv):{b:α // a=b}:=⟨b,e⟩
@[go_sem] noncomputable def JD:=mkU (((rb R_).map λx=>x.2.2.1).getD .skip) _
@[go_sem] noncomputable def JE:=mkU (((rb R_).map λx=>x.2.2.2).getD .skip) _
@[go_sem] noncomputable def adK:=mkQ {hint150 with nest:=true} JD.1 _
@[go_sem] noncomputable def adL:=mkQ {hint150 with nest:=true} JE.1 _
@[go_sem] noncomputable def aqS:=mkU (7::kM JD.1++kM JE.1) _
def Yl(l:J aE):J (Nat×SV):=if l=[]then [(2,.loc (.l 2 0) [] 0 0),(6,.d (.fn (.func 151) [] [.ptr 0])),(7,.dead)]else [(2,.loc (.l 2 0) [] 0 0),(6,.dead)]
def Ym(l:J aE):J ((Nat×Nat)×T):=[((2,0),.own [.own (tl ij l)])]
theorem avM{ρ:Type}(m:ae)(l:J aE):zG (ρ:=ρ) m (FR 150 [7] JD.1 JE.1 Yl Ym) l:=by
 intro g x y i κ;have e:∀a d,([.box (.d (oT m)),.frame 150 [7] JD.1 JE.1 a d]:J Ob)[1]? =some (.frame 150 [7] JD.1 JE.1 a d):=λ_ _=>rfl
 refine(Oc (o:=1) (cx:=adK.1) (cy:=adL.1) (W:=aqS.1) (e _ _) adK.2 adL.2 aqS.2 κ).trans ?_
 by_cases h:l=[]
 .subst h
  simp -implicitDefEqProofs [go_sem,show hints 150=hint150 from rfl,Oa,FR,Yl,Ym]
  simp[tl,ij,eI]
 .have f:(l.length+1) * 16<=140737488355328:=by omega
  have c:l.length+1<=9223372036854775807:=by omega
  have b:l.length<=9223372036854775806:=by omega
  simp -implicitDefEqProofs [go_sem,show hints 150=hint150 from rfl,Oa,FR,Yl,Ym,h,f,c,b]
theorem Yn{ρ:Type}(m:ae)(hs:m.aa.length<=1000)(hn:m.ak.length<=1000)(κ:KT ρ):cbK (call 150 [.aJ,.fn (.func 151) [] [.ptr 0]] [.box (.d (oT m))]) κ=κ ([.d (.sl false (List.map ij (jV m)))],[.box (.d (oT m))]):=by
 have a:=λκ=>N9 (ρ:=ρ) m 150 [7] JD.1 JE.1 Yl Ym hs hn (λl=>avM m l) κ
 simp only[FR,Yl,Ym,if_true,jb]at a
 simp only[go_sem]at a
 refine(amr _ _ _ rfl).trans ?_
 simp -implicitDefEqProofs [go_sem,show hint150.nest=false from rfl,show hint150.self=150 from rfl]
 refine(a _).trans ?_
 by_cases h:jV m=[]
 .simp -implicitDefEqProofs [go_sem,HC,h]
 .simp -implicitDefEqProofs [go_sem,HC,h]
theorem UA{ρ:Type}(m:ae)(hs:m.aa.length<=1000)(hn:m.ak.length<=1000)(κ:KT ρ):cbK (call 115 [.fn (.func 151) [] [.ptr 0]] [.box (.d (oT m))]) κ=κ ([.d (.sl false (List.map ij (jV m)))],[.box (.d (oT m))]):=by
 refine(alg _ _ _ rfl).trans ?_
 have a:=λκ=>Yn (ρ:=ρ) m hs hn κ
 simp -implicitDefEqProofs [go_sem,a,show hint115.nvAt 4=1099511627776 from rfl]
theorem Ry{ρ:Type}(m:ae)(hs:m.aa.length<=1000)(hn:m.ak.length<=1000)(κ:KT ρ):cbK (call 83 [oT m] []) κ=κ ([.d (.sl false (List.map ij (jV m)))],[]):=by
 refine(avx _ _ _ rfl).trans ?_
 have a:=λκ=>UA (ρ:=ρ) m hs hn κ
 simp -implicitDefEqProofs [go_sem,adw,a]
def hn84:Hint:={hint84 with nest:=true}
@[go_sem] theorem aqT:hn84.nv=hint84.nv:=rfl
@[go_sem] theorem aqU:hn84.cA=hint84.cA:=rfl
@[go_sem] theorem aqV:hn84.lits=hint84.lits:=rfl
theorem UB{ρ:Type}{o g p:Nat}{x y:Code}{env:J (Nat×SV)}{ct:J ((Nat×Nat)×T)}{d:D}{H:J Ob}{W:J Nat}{cx cy:CL}{h:Hint}(b:{hints g with nest:=true}=h)(a:H[o]? =some (.frame g [p] x y env ct))(hx:qC h x=some cx)(c:qC h y=some cy)(hw:p::kM x++kM y=W)(κ:KT ρ):
  cbK (call (1099511627776+o) [d] H) κ=go P hints h x cx ⟨(p,.d d)::env,ct,H.set o .lock⟩ (kRa o g p x y W env H.length h cy κ):=by
 grind [Oc]
@[go_sem] noncomputable def JF:=mkU (((rb b84).map λx=>x.2.2.1).getD .skip) _
@[go_sem] noncomputable def uK:=mkU (((rb b84).map λx=>x.2.2.2).getD .skip) _
@[go_sem] noncomputable def adM:=mkQ hn84 JF.1 _
@[go_sem] noncomputable def adN:=mkQ hn84 uK.1 _
@[go_sem] noncomputable def Rz:=mkR hn84 uK.1 0 _
@[go_sem] noncomputable def aqW:=mkU (11::kM JF.1++kM uK.1) _
section
variable{ρ:Type}(m:ae)
abbrev W?(e:J (Nat×SV)):J (Nat×SV):=[(1,.loc (.l 1 0) [] 0 0),(3,.loc (.l 3 0) [] 0 0),(4,.loc (.l 4 0) [] 0 0),(5,.loc (.l 5 0) [] 0 0)]++e
abbrev afZ(c a b:Int)(d:J bC):J ((Nat×Nat)×T):=[((1,0),.own [.d (oT m)]),((3,0),.own [.own (tl Be d)]),((4,0),.own [.d (.int .i64 c)]),((5,0),.own [.d (.agg [.int .i64 a,.int .i64 b])])]
def SR(c a b:Int)(n k:Nat)(d:J bC):St:=⟨W? [(11,.d (.agg [.int .i64 a,.int .i64 b])),(25,.d (.int .i64 n)),(26,.d (.int .i64 k))],afZ m c a b d,[.box (.d (oT m)),.lock]⟩
def XR(c a b:Int)(n k:Nat)(d:J bC):St:=⟨W? [(11,.d (.agg [.int .i64 a,.int .i64 b])),(25,.d (.int .i64 n)),(26,.d (.int .i64 k)),(27,.d (.bool false))],afZ m c a b d,[.box (.d (oT m)),.lock]⟩
theorem af0(d a b:Int)(n k:Nat)(hk:k<n)(hn:n<=1000)(c:J bC)(ho:c.length<=1000000000)(κ:Ex×St->U ρ):dI P hints hn84 uK.1 0 (SR m d a b n k c) κ=dI P hints hn84 uK.1 0 (SR m d a b n (k+1) (c++[⟨d,(k:Int)⟩])) κ:=by
 refine(ap Rz.2).trans ?_
 have h:IntKind.i64.wrap ((k:Int)+1)=(k:Int)+1:=dE (by omega) (by omega)
 have g:(k:Int)<(n:Int):=by omega
 have i:(c.length+1) * 16<=140737488355328:=by omega
 have f:c.length+1<=9223372036854775807:=by omega
 have e:c.length<=9223372036854775806:=by omega
 simp -implicitDefEqProofs [go_sem,SR,g,h,i,f,e]
theorem af1(c a b:Int)(n:Nat)(d:J bC)(κ:Ex×St->U ρ):dI P hints hn84 uK.1 0 (SR m c a b n n d) κ=κ (.exit 2,XR m c a b n n d):=by
 refine(ap Rz.2).trans ?_
 simp -implicitDefEqProofs [go_sem,SR,XR]
def IF(a:Int):Nat->Nat->List bC
 |_,0=>[]
 |k,d+1=>⟨a,(k:Int)⟩::IF a (k+1) d
theorem Od{a:Int}:∀{d k:Nat},(IF a k d).length=d
 |0,_=>rfl
 |d+1,k=>by simp[IF,Od (d:=d)]
theorem Yo(e a b:Int)(n:Nat)(hn:n<=1000)(κ:Ex×St->U ρ):∀(d k:Nat) (c:J bC),k+d=n->c.length+d<=1000000000->dI P hints hn84 uK.1 0 (SR m e a b n k c) κ=κ (.exit 2,XR m e a b n n (c++IF e k d))
 |0,k,c,f,_=>by
  grind [af1,IF]
 |d+1,k,c,f,g=>by
  rw[af0 m e a b n k (by omega) hn c (by omega),Yo e a b n hn κ d (k+1) _ (by omega) (by simp;omega),xK]
  rfl
def oe(i:Nat):Nat:=match m.ak[i]? with |some p=>p.aP.length |none=>0
structure RS where
 at_:Int
 a:Int
 b:Int
 out:List bC
def xu(s:RS)(x:aE):RS:=if x.cw=s.a/\x.Elem=s.b then⟨s.at_,x.cw,x.Elem,s.out++IF s.at_ 0 (oe m x.cw.toNat)⟩else⟨s.at_+1,x.cw,x.Elem,s.out++IF (s.at_+1) 0 (oe m x.cw.toNat)⟩
def lA(l:J aE):RS:=l.foldl (xu m) ⟨-1,-1,0,[]⟩
theorem UC(l:J aE)(x:aE):lA m (l++[x])=xu m (lA m l) x:=by simp[lA]
theorem af2(hc:∀i,oe m i<=1000)(l:J aE):(lA m l).out.length<=1000 * l.length/\ -1<=(lA m l).at_/\(lA m l).at_<=(l.length:Int):=by
 have a:∀(l:J aE) (s:RS),(l.foldl (xu m) s).out.length<=s.out.length+1000 * l.length/\s.at_<=(l.foldl (xu m) s).at_/\(l.foldl (xu m) s).at_<=s.at_+(l.length:Int):=by
  intro l
  induction l with
  |nil=>intro s;simp
  |cons x r c=>
   grind [xu,Od]
 obtain⟨d,b,e⟩:=a l ⟨-1,-1,0,[]⟩
 refine⟨?_,b,?_⟩
 .grind [lA]
 grind [lA]
def RA(l:J aE):J (Nat×SV):=if l=[]then W? [(10,.d (.fn (.func 151) [] [.ptr 0])),(11,.dead)]else W? [(10,.dead)]
def RB(l:J aE):J ((Nat×Nat)×T):=afZ m (lA m l).at_ (lA m l).a (lA m l).b (lA m l).out
theorem avN(hc:∀i,oe m i<=1000)(l:J aE):zG (ρ:=ρ) m (FR 84 [11] JF.1 uK.1 RA (RB m)) l:=by
 intro u i y p κ;have r:∀d n,([.box (.d (oT m)),.frame 84 [11] JF.1 uK.1 d n]:J Ob)[1]? =some (.frame 84 [11] JF.1 uK.1 d n):=λ_ _=>rfl
 have f:m.ak[i]? =some m.ak[i]:=xG p;have k:(i:Int)<(m.ak.length:Int):=by omega
 obtain⟨s,t,b3⟩:=af2 m hc l;have c:oe m i=m.ak[i].aP.length:=by unfold oe;rw[f]
 have a:=hc i;rw[c]at a
 have j:IntKind.i64.wrap ((lA m l).at_+1)=(lA m l).at_+1:=dE (by omega) (by omega)
 have g:=λ(q:Int) (κ:Ex×St->U ρ)=>Yo (ρ:=ρ) m q i y m.ak[i].aP.length a κ m.ak[i].aP.length 0 (lA m l).out (by omega) (by omega)
 simp only[go_sem,SR,XR,eA]at g
 refine(UB (o:=1) (cx:=adM.1) (cy:=adN.1) (W:=aqW.1) (show{hints 84 with nest:=true}=hn84 from rfl) (r _ _) adM.2 adN.2 aqW.2 κ).trans ?_
 simp only[FR,RA,RB,UC,xu,xV,c]
 by_cases h:l=[]
 .subst h
  by_cases e:(i:Int)=(lA m []).a/\y=(lA m []).b
  .grind [lA]
  .have b:¬(i:Int)=(lA m []).a\/¬y=(lA m []).b:=Decidable.not_and_iff_not_or_not.1 e
   simp -implicitDefEqProofs [go_sem,Oa,k,f,j,g]
   grind
 .by_cases e:(i:Int)=(lA m l).a/\y=(lA m l).b
  .have b:¬(¬(i:Int)=(lA m l).a\/¬y=(lA m l).b):=λq=>q.elim (λq=>q e.1) (λq=>q e.2)
   simp -implicitDefEqProofs [go_sem,Oa,k,f,j,g,h]
   grind
  .have b:¬(i:Int)=(lA m l).a\/¬y=(lA m l).b:=Decidable.not_and_iff_not_or_not.1 e
   simp -implicitDefEqProofs [go_sem,Oa,k,f,j,g,h]
   grind
def Oe:J bC:=(lA m (jV m)).out
theorem af3(hs:m.aa.length<=1000)(hn:m.ak.length<=1000)(hc:∀i,oe m i<=1000)(κ:KT ρ):cbK (call 84 [oT m] []) κ=κ ([.d (.sl false (List.map Be (Oe m)))],[]):=by
 have a:=λκ=>N9 (ρ:=ρ) m 84 [11] JF.1 uK.1 RA (RB m) hs hn (λl=>avN m hc l) κ
 simp only[FR,RA,RB,if_true]at a
 simp only[go_sem]at a
 refine(avy _ _ _ rfl).trans ?_
 simp -implicitDefEqProofs [go_sem,adw,show hint84.nest=false from rfl,show hint84.self=84 from rfl]
 refine(a _).trans ?_
 by_cases h:jV m=[]
 .simp -implicitDefEqProofs [go_sem,HC,h,Oe]
 .simp -implicitDefEqProofs [go_sem,HC,h,Oe]
end
structure LA where
 V:List Int
 C:List Int
 I:List Int
 n:Int
 lo:List Int
 hi:List Int
 sl:List bu
inductive Wh
 |o
 |v
 |c
 |i
@[go_sem] def LA.tv(a:LA):Wh->T
 | .v=>.dead
 |_=>.own (tl eI a.V)
@[go_sem] def LA.tc(a:LA):Wh->T
 | .c=>.dead
 |_=>.own (tl eI a.C)
@[go_sem] def LA.ti(a:LA):Wh->T
 | .i=>.dead
 |_=>.own (tl eI a.I)
@[go_sem] def LA.HT(a:LA)(w:Wh):J Ob:=[.box (.agg [a.tv w,a.tc w,a.ti w,.d (.int .i64 a.n),.own (tl eI a.lo),.own (tl eI a.hi)]),.box (.own (tl fI a.sl))]
@[go_sem] def LA.H(a:LA):J Ob:=a.HT .o
theorem nJ:∀{l:J ar},D.bl (List.map dK l)=List.map dK l
 | []=>rfl
 |b::r=>by
  have:= @nJ r
  simp only[eG,D.bl,this];rfl
def LA.one(a:LA)(s w k:Int)(b:ar):LA:={a with n:=a.n+1,lo:=a.lo++[b.lo],hi:=a.hi++[b.hi],sl:=a.sl++[⟨s,w,k,b.kind⟩]}
def LA.from(a:LA)(s w:Int):Nat->List ar->LA
 |_,[]=>a
 |k,b::r=>(a.one s w (k:Int) b).from s w (k+1) r
def LA.put(a:LA)(s w:Int)(l:J ar):LA:=a.from s w 0 l
def LA.le(a:LA)(N:Nat):Prop:=0<=a.n/\a.n<=(N:Int)/\a.lo.length<=N/\a.hi.length<=N/\a.sl.length<=N
theorem LA.one_le{a:LA}{N:Nat}{s w k:Int}{b:ar}(h:a.le N):(a.one s w k b).le (N+1):=by
 grind [LA.le,LA.one]
theorem LA.from_le{s w:Int}:∀{l:J ar} {k:Nat} {a:LA} {N:Nat},a.le N->(a.from s w k l).le (N+l.length)
 | [],_,_,_,h=>h
 |b::r,k,a,N,h=>by
  have:=LA.from_le (s:=s) (w:=w) (l:=r) (k:=k+1) (LA.one_le (s:=s) (w:=w) (k:=k) (b:=b) h)
  grind [LA.from]
section
variable{ρ:Type}(β:Bool)(wh:Wh)(s w:Int)(l:J ar)(n0:Int)
def SLg(i:Nat)(a:LA):St:=⟨[(0,.d (.int .i64 s)),(1,.d (.int .i64 w)),(3,.d (.ptr 0)),(4,.d (.ptr 1)),(9,.d (.int .i64 n0)),(14,.d (.sl β (List.map dK l))),(15,.d (.int .i64 l.length)),(16,.d (.int .i64 i))],[],a.HT wh⟩
def XLg(i:Nat)(a:LA):St:=⟨[(0,.d (.int .i64 s)),(1,.d (.int .i64 w)),(3,.d (.ptr 0)),(4,.d (.ptr 1)),(9,.d (.int .i64 n0)),(14,.d (.sl β (List.map dK l))),(15,.d (.int .i64 l.length)),(16,.d (.int .i64 i)),(17,.d (.bool false))],[],a.HT wh⟩
theorem af4(i:Nat)(b:i<l.length)(a:LA)(hb:a.le 10000)(hl:l.length<=10000)(κ:Ex×St->U ρ):dI P hints nF Qh 0 (SLg β wh s w l n0 i a) κ=dI P hints nF Qh 0 (SLg β wh s w l n0 (i+1) (a.one s w i l[i])) κ:=by
 refine(ap X6.2).trans ?_
 have h:l[i]? =some l[i]:=xG b;have r:(i:Int)<(l.length:Int):=by omega
 obtain⟨V,C,I,n,d,e,c⟩:=a;obtain⟨c0,o,k,f,p⟩:=hb;simp only at c0 o k f p;have m:(d.length+1) * 8<=140737488355328:=by omega
 have q:d.length<=9223372036854775806:=by omega
 have b3:(e.length+1) * 8<=140737488355328:=by omega
 have b4:e.length<=9223372036854775806:=by omega
 have b5:(c.length+1) * 32<=140737488355328:=by omega
 have b6:c.length<=9223372036854775806:=by omega
 have j:IntKind.i64.wrap ((i:Int)+1)=(i:Int)+1:=dE (by omega) (by omega)
 have g:IntKind.i64.wrap (n+1)=n+1:=dE (by omega) (by omega)
 cases wh <;>simp -implicitDefEqProofs (maxSteps:=1000000) [go_sem,SLg,LA.one,r,h,m,q,b3,b4,b5,b6,j,g]
theorem af5(i:Nat)(c:¬i<l.length)(a:LA)(κ:Ex×St->U ρ):dI P hints nF Qh 0 (SLg β wh s w l n0 i a) κ=κ (.exit 0,XLg β wh s w l n0 i a):=by
 refine(ap X6.2).trans ?_
 have b:¬(i:Int)<(l.length:Int):=by omega
 cases wh <;>simp -implicitDefEqProofs [go_sem,SLg,XLg,b]
theorem Yp(hl:l.length<=1000)(κ:Ex×St->U ρ):∀(d i:Nat) (a:LA),i+d=l.length->a.le (9000+i)->dI P hints nF Qh 0 (SLg β wh s w l n0 i a) κ=κ (.exit 0,XLg β wh s w l n0 l.length (a.from s w i (l.drop i)))
 |0,i,a,c,_=>by
  have:i=l.length:=by omega
  subst this;rw[af5 β wh s w l n0 _ (by omega),wj];rfl
 |d+1,i,a,c,e=>by
  have b:i<l.length:=by omega
  rw[af4 β wh s w l n0 i b a (by grind [LA.le]) (by omega),Yp hl κ d (i+1) _ (by omega) (LA.one_le e),xW b]
  rfl
theorem Yq(hl:l.length<=1000)(a:LA)(ha:a.le 9000)(κ:KT ρ):cbK (call 147 [.int .i64 s,.int .i64 w,.sl β (List.map dK l),.ptr 0,.ptr 1] (a.HT wh)) κ=κ ([.d (.int .i64 a.n)],(a.put s w l).HT wh):=by
 refine(amj _ _ _ rfl).trans ?_
 have b:=λκ=>Yp (ρ:=ρ) β wh s w l a.n hl κ l.length 0 a (by omega) ha
 simp only[SLg,XLg,jg,eA]at b
 cases wh <;>(simp only[go_sem]at b;simp -implicitDefEqProofs [go_sem,b];rfl)
end
end
noncomputable section
variable{ρ:Type}(β:Bool)(κ:KT ρ)(η:XT ρ)(z0 z1 z9 z10 z16:Int)(z2:J Int)(z3:J aw)(z4 z7 z8:J aB)(z5:J aD)(z6:J az)(z11 z21:J aF)(z12:Nat)(z13:J (Int))(z14 z20:J UInt8)(z15 z23:Bool)(z17:J (J UInt8×Bool))(z18:J aK)(z19:J aO)(z22:J aX)(z24:J (J UInt8))
def uL(a0 a:Int):=mkF (p:=λβ (κ:KT ρ) (g:U ρ)=>κ ([.d (.int .i64 (IntKind.wrap .i64 (a0+a)))],[])=g) (ds:=λβ=>[eI a0,eI a]) adA (λ_=>rfl) _
def DK(a0 a:Int)(g0):=(uL (ρ:=ρ) a0 a).1 g0
@[go_sem] def adO:=wk (DK (ρ:=ρ) z0 z1) ((uL z0 z1).2 true κ _ rfl)
section
variable(p0:J Int)(p1:Int)
@[go_sem] def og(β:Bool)(a:Int):St:=⟨[(5,.d (.sl β (List.map eI p0))),(6,.d (.int .i64 p1)),(7,.d (.int .i64 a))],[],[]⟩
@[go_sem] def uM:=mkL (p:=λβ (b:Int->(Int->U ρ)->XT ρ->U ρ)=>∀(R:St->U ρ) g κ,(∀a,R (og p0 p1 β a)=g a)->∀a,go P hints wB R? X9.1 (og p0 p1 β a) (kLp R κ)=b a g κ) _ _
def uN(β:Bool)(κ:XT ρ)(a:Int):=dD (κ:=κ) (Φ:=λv k=>(uM p0 p1 (ρ:=ρ)).f β v k κ) X9.2 (S:=λv=>og p0 p1 β v) (by intro R g b v;exact(uM p0 p1 (ρ:=ρ)).ok β R g κ (λa=>b a) v) a
end
@[go_sem] def Vu:=wl (uN z2 z0 false η z1)
@[go_sem] def Vv:=wl (uN z2 z0 true η z1)
def nK(a0:J Int):=mkF (p:=λβ (κ:KT ρ) (g:Bool->U ρ)=>∀a,κ ([.d (.bool a)],[])=g a) (ds:=λβ=>[(fS β) a0]) apT (λ_=>rfl) _
def jJ(a0:J Int)(g0):=(nK (ρ:=ρ) a0).1 g0
attribute [go_sem] Rp
@[go_sem] def RD:=wk (jJ (ρ:=ρ) ([z0,z1]:J Int)) ((nK ([z0,z1]:J Int)).2 β κ _ (λ_=>rfl))
@[go_sem] def RG:=wk (jJ (ρ:=ρ) ([z0]:J Int)) ((nK ([z0]:J Int)).2 β κ _ (λ_=>rfl))
def Cy(a0 c:Int):=mkF (p:=λβ (κ:KT ρ) (g:Int->Bool->U ρ)=>∀b a,κ ([.d (.int .i64 b),.d (.bool a)],[])=g b a) (ds:=λβ=>[eI a0,eI c]) adz (λ_=>rfl) _
def Cz(a0 a:Int)(g0):=(Cy (ρ:=ρ) a0 a).1 g0
@[go_sem] def ai7:=wk (Cz (ρ:=ρ) z0 z1) ((Cy z0 z1).2 true κ _ (λ_ _=>rfl))
def pT(a0:Int)(c:au):=mkF (p:=λβ (κ:KT ρ) (g:Int->Bool->U ρ)=>∀b a,κ ([.d (.int .i64 b),.d (.bool a)],[])=g b a) (ds:=λβ=>[eI a0,(ir β) c]) apJ (λ_=>rfl) _
def pU(a0:Int)(a:au)(g0):=(pT (ρ:=ρ) a0 a).1 g0
@[go_sem] def o_:=wk (pU (ρ:=ρ) z0 (au.mk z3 z4 z5 z6 z7 z1)) ((pT z0 (au.mk z3 z4 z5 z6 z7 z1)).2 β κ _ (λ_ _=>rfl))
def m8(a0:J aB)(e:Int)(d:au):=mkF (p:=λβ (κ:KT ρ) (g:Int->Int->Bool->U ρ)=>∀c b a,κ ([.d (.int .i64 c),.d (.int .i64 b),.d (.bool a)],[])=g c b a) (ds:=λβ=>[(tG β) a0,eI e,(ir β) d]) aoH (λ_=>rfl) _
def kq(a0:J aB)(a:Int)(b:au)(g0):=(m8 (ρ:=ρ) a0 a b).1 g0
@[go_sem] def Vw:=wk (kq (ρ:=ρ) z4 z0 (au.mk z3 z7 z5 z6 z8 z1)) ((m8 z4 z0 (au.mk z3 z7 z5 z6 z8 z1)).2 β κ _ (λ_ _ _=>rfl))
def sk(a0:aF)(c:au):=mkF (p:=λβ (κ:KT ρ) (g:Int->Int->U ρ)=>∀b a,κ ([.d (.int .i64 b),.d (.int .i64 a)],[])=g b a) (ds:=λβ=>[eN a0,(ir β) c]) aoE (λ_=>rfl) _
def sq(a0:aF)(a:au)(g0):=(sk (ρ:=ρ) a0 a).1 g0
@[go_sem] def W!:=wk (sq (ρ:=ρ) (aF.mk z0 z1) (au.mk z3 z4 z5 z6 z7 z9)) ((sk (aF.mk z0 z1) (au.mk z3 z4 z5 z6 z7 z9)).2 β κ _ (λ_ _=>rfl))
def uO(a0:Int):=mkF (p:=λβ (κ:KT ρ) (g:Int->U ρ)=>∀a,κ ([.d (.int .i64 a)],[])=g a) (ds:=λβ=>[eI a0]) avE (λ_=>rfl) _
def uP(a0:Int)(g0):=(uO (ρ:=ρ) a0).1 g0
@[go_sem] def adP:=wk (uP (ρ:=ρ) z0) ((uO z0).2 true κ _ (λ_=>rfl))
def sr(a0:Int)(b:au):=mkF (p:=λβ (κ:KT ρ) (g:Bool->U ρ)=>∀a,κ ([.d (.bool a)],[])=g a) (ds:=λβ=>[eI a0,(ir β) b]) amQ (λ_=>rfl) _
def su(a0:Int)(a:au)(g0):=(sr (ρ:=ρ) a0 a).1 g0
@[go_sem] def X_:=wk (su (ρ:=ρ) z0 (au.mk z3 z4 z5 z6 z7 z1)) ((sr z0 (au.mk z3 z4 z5 z6 z7 z1)).2 β κ _ (λ_=>rfl))
def oh(a0:J aB)(i:Int)(j:au):=mkF (p:=λβ (κ:KT ρ) (g:(J UInt8)->Int->Int->Int->Int->Int->Bool->U ρ)=>∀h e d f c a b,κ ([.d (.agg [.str h,.int .i64 e,.int .i64 d,.int .i64 f,.int .i64 c,.int .i64 a]),.d (.bool b)],[])=g h e d f c a b) (ds:=λβ=>[(tG β) a0,eI i,(ir β) j]) alL (λ_=>rfl) _
def lp(a0:J aB)(a:Int)(b:au)(g0):=(oh (ρ:=ρ) a0 a b).1 g0
@[go_sem] def Yr:=wk (lp (ρ:=ρ) z4 z0 (au.mk z3 z7 z5 z6 z8 z1)) ((oh z4 z0 (au.mk z3 z7 z5 z6 z8 z1)).2 β κ _ (λ_ _ _ _ _ _ _=>rfl))
def sw(a0:Int):=mkF (p:=λβ (κ:KT ρ) (g:Int->U ρ)=>∀a,κ ([.d (.int .i64 a)],[])=g a) (ds:=λβ=>[eI a0]) alO (λ_=>rfl) _
def sy(a0:Int)(g0):=(sw (ρ:=ρ) a0).1 g0
@[go_sem] def X?:=wk (sy (ρ:=ρ) z0) ((sw z0).2 true κ _ (λ_=>rfl))
def mb(a0:Int)(i:au):=mkF (p:=λβ (κ:KT ρ) (g:(J UInt8)->Int->Int->Int->Int->Bool->Bool->U ρ)=>∀h d a b f e c,κ ([.d (.agg [.str h,.int .i64 d,.int .i64 a,.int .i64 b,.int .i64 f,.bool e]),.d (.bool c)],[])=g h d a b f e c) (ds:=λβ=>[eI a0,(ir β) i]) alR (λ_=>rfl) _
def mc(a0:Int)(a:au)(g0):=(mb (ρ:=ρ) a0 a).1 g0
@[go_sem] def o?:=wk (mc (ρ:=ρ) z0 (au.mk z3 z4 z5 z6 z7 z1)) ((mb z0 (au.mk z3 z4 z5 z6 z7 z1)).2 β κ _ (λ_ _ _ _ _ _ _=>rfl))
def zH(a0:aF)(c:au):=mkF (p:=λβ (κ:KT ρ) (g:Int->Int->U ρ)=>∀b a,κ ([.d (.int .i64 b),.d (.int .i64 a)],[])=g b a) (ds:=λβ=>[eN a0,(ir β) c]) akW (λ_=>rfl) _
def zI(a0:aF)(a:au)(g0):=(zH (ρ:=ρ) a0 a).1 g0
@[go_sem] def af6:=wk (zI (ρ:=ρ) (aF.mk z0 z1) (au.mk z3 z4 z5 z6 z7 z9)) ((zH (aF.mk z0 z1) (au.mk z3 z4 z5 z6 z7 z9)).2 β κ _ (λ_ _=>rfl))
def wD(a0:aF)(d:Int)(c:au):=mkF (p:=λβ (κ:KT ρ) (g:Int->Int->U ρ)=>∀b a,κ ([.d (.int .i64 b),.d (.int .i64 a)],[])=g b a) (ds:=λβ=>[eN a0,eI d,(ir β) c]) akZ (λ_=>rfl) _
def nT(a0:aF)(a:Int)(b:au)(g0):=(wD (ρ:=ρ) a0 a b).1 g0
@[go_sem] def ai8:=wk (nT (ρ:=ρ) (aF.mk z0 z1) z9 (au.mk z3 z4 z5 z6 z7 z10)) ((wD (aF.mk z0 z1) z9 (au.mk z3 z4 z5 z6 z7 z10)).2 β κ _ (λ_ _=>rfl))
def CA(a0 d c:Int):=mkF (p:=λβ (κ:KT ρ) (g:Int->Int->U ρ)=>∀b a,κ ([.d (.int .i64 b),.d (.int .i64 a)],[])=g b a) (ds:=λβ=>[eI a0,eI d,eI c]) ak2 (λ_=>rfl) _
def wE(a0 a b:Int)(g0):=(CA (ρ:=ρ) a0 a b).1 g0
@[go_sem] def ai9:=wk (wE (ρ:=ρ) z0 z1 z9) ((CA z0 z1 z9).2 true κ _ (λ_ _=>rfl))
section
variable(p0:J aF)(p1:J aw)(p2:J aB)(p3:J aD)(p4:J az)(p5:J aB)(p6:Int)
@[go_sem] def nL(β:Bool)(n0:Nat)(a:Int)(b:J (Int)):St:=⟨[(0,.d (.sl β (List.map eN p0))),(3,.loc (aj.l 3 0) [] (0) 0),(6,.aH (.l 6 0) [] 0 n0),(7,.d (.int .i64 a))],[((3,0),.own [.d (.agg [.sl β (List.map dB p1),.sl β (List.map dJ p2),.sl β (List.map dP p3),.sl β (List.map (dL β) p4),.sl β (List.map dJ p5),.int .i64 p6])]),((6,0),.own (tl eI b))],[]⟩
@[go_sem] def Bj:=mkL (p:=λβ (c:Int->(J (Int))->((Int)×(J (Int))->U ρ)->XT ρ->U ρ)=>∀(R:St->U ρ) g κ,(∀n0 b a,n0=List.length a->R (nL p0 p1 p2 p3 p4 p5 p6 β n0 b a)=g (b,a))->∀b a,go P hints Cv b80 adm.1 (nL p0 p1 p2 p3 p4 p5 p6 β (List.length a) b a) (kLp R κ)=c b a g κ) _ _
def Bk(β:Bool)(κ:XT ρ)(n0:Nat)(c:Int)(b:J (Int))(a:n0=List.length b):=ll (S:=λn0=>nL p0 p1 p2 p3 p4 p5 p6 β n0 c b) a (dD (κ:=κ) (Φ:=λv k=>(Bj p0 p1 p2 p3 p4 p5 p6 (ρ:=ρ)).f β v.1 v.2 k κ) adm.2 (S:=λv=>nL p0 p1 p2 p3 p4 p5 p6 β (List.length v.2) v.1 v.2) (by intro R g d v;exact(Bj p0 p1 p2 p3 p4 p5 p6 (ρ:=ρ)).ok β R g κ (λn0 c b a=>by subst a;exact d (c,b)) v.1 v.2) (c,b))
end
@[go_sem] def Vx:=wl (Bk z11 z3 z4 z5 z6 z7 z0 false η 0 z1 [] rfl)
@[go_sem] def Vy:=wl (Bk z11 z3 z4 z5 z6 z7 z0 true η 0 z1 [] rfl)
def sA(a0:J aF)(c:au):=mkF (p:=λβ (κ:KT ρ) (g:Int->Int->U ρ)=>∀b a,κ ([.d (.int .i64 b),.d (.int .i64 a)],[])=g b a) (ds:=λβ=>[(oa β) a0,(ir β) c]) avv (λ_=>rfl) _
def oi(a0:J aF)(a:au)(g0):=(sA (ρ:=ρ) a0 a).1 g0
@[go_sem] def af7:=wk (oi (ρ:=ρ) z11 (au.mk z3 z4 z5 z6 z7 z0)) ((sA z11 (au.mk z3 z4 z5 z6 z7 z0)).2 β κ _ (λ_ _=>rfl))
def sB(a0:Int):=mkF (p:=λβ (κ:KT ρ) (g:Bool->U ρ)=>∀a,κ ([.d (.bool a)],[])=g a) (ds:=λβ=>[(eK .i32) a0]) anD (λ_=>rfl) _
def sD(a0:Int)(g0):=(sB (ρ:=ρ) a0).1 g0
@[go_sem] def X!:=wk (sD (ρ:=ρ) z0) ((sB z0).2 true κ _ (λ_=>rfl))
attribute [go_sem] anF
attribute [go_sem] aoB
attribute [go_sem] anI
@[go_sem] theorem aja{ρ:Type}{c b a:SV}{ct:J ((Nat×Nat)×T)}{H:J Ob}{κ:Ex×St->U ρ}:dI P hints nG Qi 0 ⟨[(0,c),(1,b),(8,a)],ct,H⟩ κ=go P hints nG Qi LO.1 ⟨[(0,c),(1,b),(8,a)],ct,H⟩ (kLp (λs=>dI P hints nG Qi 0 s κ) κ):=ap LO.2
section
variable(p0:J UInt8)
@[go_sem] def iF(β:Bool)(a:Int)(b:Bool)(c:Nat):St:=⟨[(0,.d (.str p0)),(1,.d (.fn (Fn.func 180) [] [])),(5,.d (.int .i64 a)),(8,.d (.ptr (0))),(16,.d (.bool b))],[],[.iter p0 c]⟩
@[go_sem] def kH:=mkL (p:=λβ (d:Int->Bool->Nat->((Int)×(Bool)×(Nat)->U ρ)->XT ρ->U ρ)=>∀(R:St->U ρ) g κ,(∀a b c,R (iF p0 β a b c)=g (a,b,c))->∀a b c,go P hints nG Qi LO.1 (iF p0 β a b c) (kLp R κ)=d a b c g κ) _ _
def qG(β:Bool)(κ:XT ρ)(a:Int)(b:Bool)(c:Nat):=dD (κ:=κ) (Φ:=λv k=>(kH p0 (ρ:=ρ)).f β v.1 v.2.1 v.2.2 k κ) LO.2 (S:=λv=>iF p0 β v.1 v.2.1 v.2.2) (by intro R g d v;exact(kH p0 (ρ:=ρ)).ok β R g κ (λa b c=>d (a,b,c)) v.1 v.2.1 v.2.2) (a,b,c)
end
@[go_sem] def IG:=wl (qG z14 true η z0 z15 z12)
section
variable(p0:J UInt8)
@[go_sem] def sE(β:Bool)(a:Int):St:=⟨[(0,.d (.str p0)),(26,.d (.agg (List.map eS (List.take 4 ownL)))),(27,.d (.int .i64 a))],[],[]⟩
@[go_sem] def Bl:=mkL (p:=λβ (b:Int->(Int->U ρ)->XT ρ->U ρ)=>∀(R:St->U ρ) g κ,(∀a,R (sE p0 β a)=g a)->∀a,go P hints hint145 Q! X5.1 (sE p0 β a) (kLp R κ)=b a g κ) _ _
def LY(β:Bool)(κ:XT ρ)(a:Int):=dD (κ:=κ) (Φ:=λv k=>(Bl p0 (ρ:=ρ)).f β v k κ) X5.2 (S:=λv=>sE p0 β v) (by intro R g b v;exact(Bl p0 (ρ:=ρ)).ok β R g κ (λa=>b a) v) a
end
@[go_sem] def o!:=wl (LY z14 true η z0)
def zJ(a0:J UInt8):=mkF (p:=λβ (κ:KT ρ) (g:Bool->U ρ)=>∀a,κ ([.d (.bool a)],[])=g a) (ds:=λβ=>[eS a0]) ame (λ_=>rfl) _
def zK(a0:J UInt8)(g0):=(zJ (ρ:=ρ) a0).1 g0
@[go_sem] def af8:=wk (zK (ρ:=ρ) z14) ((zJ z14).2 true κ _ (λ_=>rfl))
def sG(a0:Int):=mkF (p:=λβ (κ:KT ρ) (g:Bool->U ρ)=>∀a,κ ([.d (.bool a)],[])=g a) (ds:=λβ=>[(eK .u8) a0]) alC (λ_=>rfl) _
def sH(a0:Int)(g0):=(sG (ρ:=ρ) a0).1 g0
@[go_sem] def Y_:=wk (sH (ρ:=ρ) z0) ((sG z0).2 true κ _ (λ_=>rfl))
def uQ(a0:Int):=mkF (p:=λβ (κ:KT ρ) (g:Bool->U ρ)=>∀a,κ ([.d (.bool a)],[])=g a) (ds:=λβ=>[(eK .u8) a0]) alF (λ_=>rfl) _
def uR(a0:Int)(g0):=(uQ (ρ:=ρ) a0).1 g0
@[go_sem] def adQ:=wk (uR (ρ:=ρ) z0) ((uQ z0).2 true κ _ (λ_=>rfl))
def uS:=mkF (p:=λβ (κ:KT ρ) (g:U ρ)=>κ ([.d (.sl false (List.map eS (sgL)))],[])=g) (ds:=λβ=>[]) alI (λ_=>rfl) _
def DL(g0):=(uS (ρ:=ρ)).1 g0
@[go_sem] def adR:=wk (DL (ρ:=ρ)) ((uS).2 true κ _ rfl)
@[go_sem] theorem ajb{ρ:Type}{b c d a:SV}{ct:J ((Nat×Nat)×T)}{H:J Ob}{κ:Ex×St->U ρ}:dI P hints iB Bb 0 ⟨[(0,b),(1,c),(6,d),(13,a)],ct,H⟩ κ=go P hints iB Bb Lv.1 ⟨[(0,b),(1,c),(6,d),(13,a)],ct,H⟩ (kLp (λs=>dI P hints iB Bb 0 s κ) κ):=ap Lv.2
section
variable(p0:J UInt8)(p1:Int)
@[go_sem] def oj(β:Bool)(a:Int):St:=⟨[(0,.d (.str p0)),(1,.d (.int .i64 p1)),(6,.d (.int .i64 a))],[],[]⟩
@[go_sem] def uT:=mkL (p:=λβ (b:Int->(Int->U ρ)->XT ρ->U ρ)=>∀(R:St->U ρ) g κ,(∀a,R (oj p0 p1 β a)=g a)->∀a,go P hints iB Bb Lv.1 (oj p0 p1 β a) (kLp R κ)=b a g κ) _ _
def HD(β:Bool)(κ:XT ρ)(a:Int):=dD (κ:=κ) (Φ:=λv k=>(uT p0 p1 (ρ:=ρ)).f β v k κ) Lv.2 (S:=λv=>oj p0 p1 β v) (by intro R g b v;exact(uT p0 p1 (ρ:=ρ)).ok β R g κ (λa=>b a) v) a
end
@[go_sem] def VA:=wl (HD z14 z0 true η z1)
@[go_sem] theorem ajc{ρ:Type}{b c d a:SV}{ct:J ((Nat×Nat)×T)}{H:J Ob}{κ:Ex×St->U ρ}:dI P hints iB Bb 1 ⟨[(0,b),(1,c),(6,d),(44,a)],ct,H⟩ κ=go P hints iB Bb Lw.1 ⟨[(0,b),(1,c),(6,d),(44,a)],ct,H⟩ (kLp (λs=>dI P hints iB Bb 1 s κ) κ):=ap Lw.2
section
variable(p0:J UInt8)(p1:Int)
@[go_sem] def ol(β:Bool)(a:Int):St:=⟨[(0,.d (.str p0)),(1,.d (.int .i64 p1)),(6,.d (.int .i64 a))],[],[]⟩
@[go_sem] def uU:=mkL (p:=λβ (b:Int->(Int->U ρ)->XT ρ->U ρ)=>∀(R:St->U ρ) g κ,(∀a,R (ol p0 p1 β a)=g a)->∀a,go P hints iB Bb Lw.1 (ol p0 p1 β a) (kLp R κ)=b a g κ) _ _
def HE(β:Bool)(κ:XT ρ)(a:Int):=dD (κ:=κ) (Φ:=λv k=>(uU p0 p1 (ρ:=ρ)).f β v k κ) Lw.2 (S:=λv=>ol p0 p1 β v) (by intro R g b v;exact(uU p0 p1 (ρ:=ρ)).ok β R g κ (λa=>b a) v) a
end
@[go_sem] def VB:=wl (HE z14 z0 true η z1)
section
variable(p0:J UInt8)(p1:Int)
@[go_sem] def om(β:Bool)(a:Int):St:=⟨[(0,.d (.str p0)),(1,.d (.int .i64 p1)),(7,.d (.sl false (List.map eS (sgL)))),(8,.d (.int .i64 a))],[],[]⟩
@[go_sem] def uV:=mkL (p:=λβ (b:Int->(Int->U ρ)->XT ρ->U ρ)=>∀(R:St->U ρ) g κ,(∀a,R (om p0 p1 β a)=g a)->∀a,go P hints iB Bb XF.1 (om p0 p1 β a) (kLp R κ)=b a g κ) _ _
def HG(β:Bool)(κ:XT ρ)(a:Int):=dD (κ:=κ) (Φ:=λv k=>(uV p0 p1 (ρ:=ρ)).f β v k κ) XF.2 (S:=λv=>om p0 p1 β v) (by intro R g b v;exact(uV p0 p1 (ρ:=ρ)).ok β R g κ (λa=>b a) v) a
end
@[go_sem] def VD:=wl (HG z14 z0 true η z1)
def sJ(a0:J UInt8)(c:Int):=mkF (p:=λβ (κ:KT ρ) (g:Int->Int->U ρ)=>∀b a,κ ([.d (.int .i64 b),.d (.int .i64 a)],[])=g b a) (ds:=λβ=>[eS a0,eI c]) akT (λ_=>rfl) _
def sK(a0:J UInt8)(a:Int)(g0):=(sJ (ρ:=ρ) a0 a).1 g0
@[go_sem] def Y?:=wk (sK (ρ:=ρ) z14 z0) ((sJ z14 z0).2 true κ _ (λ_ _=>rfl))
def zL(a0:J UInt8):=mkF (p:=λβ (κ:KT ρ) (g:Bool->U ρ)=>∀a,κ ([.d (.bool a)],[])=g a) (ds:=λβ=>[eS a0]) avu (λ_=>rfl) _
def zM(a0:J UInt8)(g0):=(zL (ρ:=ρ) a0).1 g0
@[go_sem] def af9:=wk (zM (ρ:=ρ) z14) ((zL z14).2 true κ _ (λ_=>rfl))
def uW(a0:Int)(c:J aw):=mkF (p:=λβ (κ:KT ρ) (g:Int->Bool->U ρ)=>∀b a,κ ([.d (.int .i64 b),.d (.bool a)],[])=g b a) (ds:=λβ=>[eI a0,(fT β) c]) anT (λ_=>rfl) _
def uX(a0:Int)(a:J aw)(g0):=(uW (ρ:=ρ) a0 a).1 g0
@[go_sem] def adS:=wk (uX (ρ:=ρ) z0 z3) ((uW z0 z3).2 β κ _ (λ_ _=>rfl))
def sL(a0:aB)(b:J aw):=mkF (p:=λβ (κ:KT ρ) (g:Int->U ρ)=>∀a,κ ([.d (.int .i64 a)],[])=g a) (ds:=λβ=>[dJ a0,(fT β) b]) amm (λ_=>rfl) _
def jK(a0:aB)(a:J aw)(g0):=(sL (ρ:=ρ) a0 a).1 g0
@[go_sem] def Y!:=wk (jK (ρ:=ρ) (aB.mk z14 z0 z1 z9 z10 z16) z3) ((sL (aB.mk z14 z0 z1 z9 z10 z16) z3).2 β κ _ (λ_=>rfl))
def pW(a0:aB)(c:J aw):=mkF (p:=λβ (κ:KT ρ) (g:Int->Int->U ρ)=>∀b a,κ ([.d (.int .i64 b),.d (.int .i64 a)],[])=g b a) (ds:=λβ=>[dJ a0,(fT β) c]) amz (λ_=>rfl) _
def j7(a0:aB)(a:J aw)(g0):=(pW (ρ:=ρ) a0 a).1 g0
@[go_sem] def p_:=wk (j7 (ρ:=ρ) (aB.mk z14 z0 z1 z9 z10 z16) z3) ((pW (aB.mk z14 z0 z1 z9 z10 z16) z3).2 β κ _ (λ_ _=>rfl))
def pX(a0 b:Int):=mkF (p:=λβ (κ:KT ρ) (g:Bool->U ρ)=>∀a,κ ([.d (.bool a)],[])=g a) (ds:=λβ=>[eI a0,eI b]) ana (λ_=>rfl) _
def pY(a0 a:Int)(g0):=(pX (ρ:=ρ) a0 a).1 g0
@[go_sem] def p?:=wk (pY (ρ:=ρ) z0 z1) ((pX z0 z1).2 true κ _ (λ_=>rfl))
def sM(a0:Int)(b:J aw):=mkF (p:=λβ (κ:KT ρ) (g:Bool->U ρ)=>∀a,κ ([.d (.bool a)],[])=g a) (ds:=λβ=>[eI a0,(fT β) b]) am7 (λ_=>rfl) _
def sO(a0:Int)(a:J aw)(g0):=(sM (ρ:=ρ) a0 a).1 g0
@[go_sem] def Z_:=wk (sO (ρ:=ρ) z0 z3) ((sM z0 z3).2 β κ _ (λ_=>rfl))
attribute [go_sem] amV
attribute [go_sem] amY
attribute [go_sem] amS
section
variable(p0:Int)(p1:J aw)
@[go_sem] def fX(β:Bool)(a:Int)(b:J (J UInt8×Bool)):St:=⟨[(1,.d (.int .i64 (2))),(2,.d (.fn (Fn.func 163) [] [.ptr (0)])),(3,.d (.fn (Fn.func 164) [] [.ptr (0)])),(10,.d (.map (1))),(15,.d (.int .i64 p0)),(16,.d (.int .i64 a))],[],[.box (.d (.sl β (List.map dB p1))),.map (jH eS eB b)]⟩
@[go_sem] def iG:=mkL (p:=λβ (c:Int->(J (J UInt8×Bool))->((Int)×(J (J UInt8×Bool))->U ρ)->XT ρ->U ρ)=>∀(R:St->U ρ) g κ,(∀a b,R (fX p0 p1 β a b)=g (a,b))->∀a b,go P hints po Um Cw.1 (fX p0 p1 β a b) (kLp R κ)=c a b g κ) _ _
def iH(β:Bool)(κ:XT ρ)(a:Int)(b:J (J UInt8×Bool)):=dD (κ:=κ) (Φ:=λv k=>(iG p0 p1 (ρ:=ρ)).f β v.1 v.2 k κ) Cw.2 (S:=λv=>fX p0 p1 β v.1 v.2) (by intro R g c v;exact(iG p0 p1 (ρ:=ρ)).ok β R g κ (λa b=>c (a,b)) v.1 v.2) (a,b)
end
@[go_sem] def Ax:=wl (iH z0 z3 false η z1 [])
@[go_sem] def Ay:=wl (iH z0 z3 true η z1 [])
def oq(a0:J aw):=mkF (p:=λβ (κ:KT ρ) (g:Int->Int->U ρ)=>∀b a,κ ([.d (.int .i64 b),.d (.int .i64 a)],[])=g b a) (ds:=λβ=>[(fT β) a0]) alU (λ_=>rfl) _
def ot(a0:J aw)(g0):=(oq (ρ:=ρ) a0).1 g0
@[go_sem] def Ys:=wk (ot (ρ:=ρ) z3) ((oq z3).2 β κ _ (λ_ _=>rfl))
attribute [go_sem] am1
attribute [go_sem] am4
section
variable(p0:Int)(p1:Int)(p2:J aB)(p3:J aw)
@[go_sem] def gN(β:Bool)(a:Int)(b:J (J UInt8×Bool)):St:=⟨[(1,.d (.int .i64 p0)),(2,.d (.fn (Fn.func 165) [] [.ptr (0)])),(3,.d (.fn (Fn.func 166) [] [.ptr (0),.ptr (1)])),(10,.d (.map (2))),(15,.d (.int .i64 p1)),(16,.d (.int .i64 a))],[],[.box (.d (.sl β (List.map dJ p2))),.box (.d (.sl β (List.map dB p3))),.map (jH eS eB b)]⟩
@[go_sem] def jk:=mkL (p:=λβ (c:Int->(J (J UInt8×Bool))->((Int)×(J (J UInt8×Bool))->U ρ)->XT ρ->U ρ)=>∀(R:St->U ρ) g κ,(∀a b,R (gN p0 p1 p2 p3 β a b)=g (a,b))->∀a b,go P hints po Um Cw.1 (gN p0 p1 p2 p3 β a b) (kLp R κ)=c a b g κ) _ _
def jl(β:Bool)(κ:XT ρ)(a:Int)(b:J (J UInt8×Bool)):=dD (κ:=κ) (Φ:=λv k=>(jk p0 p1 p2 p3 (ρ:=ρ)).f β v.1 v.2 k κ) Cw.2 (S:=λv=>gN p0 p1 p2 p3 β v.1 v.2) (by intro R g c v;exact(jk p0 p1 p2 p3 (ρ:=ρ)).ok β R g κ (λa b=>c (a,b)) v.1 v.2) (a,b)
end
@[go_sem] def CB:=wl (jl z0 z1 z4 z3 false η z9 [])
@[go_sem] def CC:=wl (jl z0 z1 z4 z3 true η z9 [])
def uY(a0:J aB)(d:J aw)(c:Int):=mkF (p:=λβ (κ:KT ρ) (g:Int->Int->U ρ)=>∀b a,κ ([.d (.int .i64 b),.d (.int .i64 a)],[])=g b a) (ds:=λβ=>[(tG β) a0,(fT β) d,eI c]) al0 (λ_=>rfl) _
def uZ(a0:J aB)(a:J aw)(b:Int)(g0):=(uY (ρ:=ρ) a0 a b).1 g0
@[go_sem] def adT:=wk (uZ (ρ:=ρ) z4 z3 z0) ((uY z4 z3 z0).2 β κ _ (λ_ _=>rfl))
attribute [go_sem] ane
attribute [go_sem] anh
section
variable(p0:Int)(p1:J aD)(p2:J aw)
@[go_sem] def gB(β:Bool)(a:Int)(b:J (J UInt8×Bool)):St:=⟨[(1,.d (.int .i64 (4))),(2,.d (.fn (Fn.func 169) [] [.ptr (0)])),(3,.d (.fn (Fn.func 170) [] [.ptr (0),.ptr (1)])),(10,.d (.map (2))),(15,.d (.int .i64 p0)),(16,.d (.int .i64 a))],[],[.box (.d (.sl β (List.map dP p1))),.box (.d (.sl β (List.map dB p2))),.map (jH eS eB b)]⟩
@[go_sem] def iY:=mkL (p:=λβ (c:Int->(J (J UInt8×Bool))->((Int)×(J (J UInt8×Bool))->U ρ)->XT ρ->U ρ)=>∀(R:St->U ρ) g κ,(∀a b,R (gB p0 p1 p2 β a b)=g (a,b))->∀a b,go P hints po Um Cw.1 (gB p0 p1 p2 β a b) (kLp R κ)=c a b g κ) _ _
def iZ(β:Bool)(κ:XT ρ)(a:Int)(b:J (J UInt8×Bool)):=dD (κ:=κ) (Φ:=λv k=>(iY p0 p1 p2 (ρ:=ρ)).f β v.1 v.2 k κ) Cw.2 (S:=λv=>gB p0 p1 p2 β v.1 v.2) (by intro R g c v;exact(iY p0 p1 p2 (ρ:=ρ)).ok β R g κ (λa b=>c (a,b)) v.1 v.2) (a,b)
end
@[go_sem] def BP:=wl (iZ z0 z5 z3 false η z1 [])
@[go_sem] def BR:=wl (iZ z0 z5 z3 true η z1 [])
def sP(a0:J aD)(c:J aw):=mkF (p:=λβ (κ:KT ρ) (g:Int->Int->U ρ)=>∀b a,κ ([.d (.int .i64 b),.d (.int .i64 a)],[])=g b a) (ds:=λβ=>[(zD β) a0,(fT β) c]) al6 (λ_=>rfl) _
def sQ(a0:J aD)(a:J aw)(g0):=(sP (ρ:=ρ) a0 a).1 g0
@[go_sem] def Z?:=wk (sQ (ρ:=ρ) z5 z3) ((sP z5 z3).2 β κ _ (λ_ _=>rfl))
def sR(a0:az)(b:au):=mkF (p:=λβ (κ:KT ρ) (g:Int->U ρ)=>∀a,κ ([.d (.int .i64 a)],[])=g a) (ds:=λβ=>[(dL β) a0,(ir β) b]) ank (λ_=>rfl) _
def sS(a0:az)(a:au)(g0):=(sR (ρ:=ρ) a0 a).1 g0
@[go_sem] def Z!:=wk (sS (ρ:=ρ) (az.mk z14 z0 z1 z4 z18) (au.mk z3 z7 z5 z6 z8 z9)) ((sR (az.mk z14 z0 z1 z4 z18) (au.mk z3 z7 z5 z6 z8 z9)).2 β κ _ (λ_=>rfl))
def lq(a0:az)(a:au):=mkF (p:=λβ (κ:KT ρ) (g:U ρ)=>κ ([.d (.agg [.sl β (List.map dB (a.aa)),.sl β (List.map dJ (a.aq)),.sl β (List.map dP (a.ah)),.sl β (List.map (dL β) (a.ak)),.sl β (List.map dJ (a0.aq)),.int .i64 (a0.aG)])],[])=g) (ds:=λβ=>[(dL β) a0,(ir β) a]) anp (λ_=>rfl) _
def nM(a0:az)(a:au)(g0):=(lq (ρ:=ρ) a0 a).1 g0
@[go_sem] def aaa:=wk (nM (ρ:=ρ) (az.mk z14 z0 z1 z4 z18) (au.mk z3 z7 z5 z6 z8 z9)) ((lq (az.mk z14 z0 z1 z4 z18) (au.mk z3 z7 z5 z6 z8 z9)).2 β κ _ rfl)
def fx(a0:J aw){ρ:Type}:{Φ:(J aw->U ρ)->U ρ // ∀(β:Bool) (κ:J T×J Ob->U ρ) (g:J aw->U ρ),a0≠[]->(∀y,κ ([.own (tl dB y)],[])=g y)->cbK (call 198 [.sl β (List.map dB a0)] []) κ=Φ g}:=by
 refine⟨?f,?h⟩
 case h=>
  intro β κ g a c;refine N5 λr b=> ?_
  cases β
  all_goals
   simp -implicitDefEqProofs (maxSteps:=1000000) [go_sem,aoq,a,c,-List.map_append,-List.map_take,-List.map_drop]
   exact b
def fy(a0:J aw){ρ:Type}(g:J aw->U ρ):U ρ:=(fx a0).1 g
theorem mL(β:Bool):call 198 [.sl β []] []=some ([.own []],[]):=by cases β <;>exact gS.2 ⟨60,by kernel_rfl⟩
@[go_sem] theorem DM{ρ:Type}(β:Bool)(a0:J aw)(κ:J T×J Ob->U ρ):cbK (call 198 [.sl β (List.map dB a0)] []) κ=fy a0 λy=>κ ([.own (tl dB y)],[]):=by
 cases a0 with
 |nil=>show cbK (call 198 [.sl β []] []) κ=_;rw[mL];simp[fy,fx,cbK,jb]
 |cons x l=>exact(fx _).2 β κ _ (by simp) λ_=>rfl
def gw(a0:J aB){ρ:Type}:{Φ:(J aB->U ρ)->U ρ // ∀(β:Bool) (κ:J T×J Ob->U ρ) (g:J aB->U ρ),a0≠[]->(∀y,κ ([.own (tl dJ y)],[])=g y)->cbK (call 199 [.sl β (List.map dJ a0)] []) κ=Φ g}:=by
 refine⟨?f,?h⟩
 case h=>
  intro β κ g a c;refine N5 λr b=> ?_
  cases β
  all_goals
   simp -implicitDefEqProofs (maxSteps:=1000000) [go_sem,aot,a,c,-List.map_append,-List.map_take,-List.map_drop]
   exact b
def gx(a0:J aB){ρ:Type}(g:J aB->U ρ):U ρ:=(gw a0).1 g
theorem qH(β:Bool):call 199 [.sl β []] []=some ([.own []],[]):=by cases β <;>exact gS.2 ⟨60,by kernel_rfl⟩
@[go_sem] theorem JG{ρ:Type}(β:Bool)(a0:J aB)(κ:J T×J Ob->U ρ):cbK (call 199 [.sl β (List.map dJ a0)] []) κ=gx a0 λy=>κ ([.own (tl dJ y)],[]):=by
 cases a0 with
 |nil=>show cbK (call 199 [.sl β []] []) κ=_;rw[qH];simp[gx,gw,cbK,jb]
 |cons x l=>exact(gw _).2 β κ _ (by simp) λ_=>rfl
def fM(a0:J aD){ρ:Type}:{Φ:(J aD->U ρ)->U ρ // ∀(β:Bool) (κ:J T×J Ob->U ρ) (g:J aD->U ρ),a0≠[]->(∀y,κ ([.own (tl dP y)],[])=g y)->cbK (call 200 [.sl β (List.map dP a0)] []) κ=Φ g}:=by
 refine⟨?f,?h⟩
 case h=>
  intro β κ g a c;refine N5 λr b=> ?_
  cases β
  all_goals
   simp -implicitDefEqProofs (maxSteps:=1000000) [go_sem,aow,a,c,-List.map_append,-List.map_take,-List.map_drop]
   exact b
def fN(a0:J aD){ρ:Type}(g:J aD->U ρ):U ρ:=(fM a0).1 g
theorem oU(β:Bool):call 200 [.sl β []] []=some ([.own []],[]):=by cases β <;>exact gS.2 ⟨60,by kernel_rfl⟩
@[go_sem] theorem Ir{ρ:Type}(β:Bool)(a0:J aD)(κ:J T×J Ob->U ρ):cbK (call 200 [.sl β (List.map dP a0)] []) κ=fN a0 λy=>κ ([.own (tl dP y)],[]):=by
 cases a0 with
 |nil=>show cbK (call 200 [.sl β []] []) κ=_;rw[oU];simp[fN,fM,cbK,jb]
 |cons x l=>exact(fM _).2 β κ _ (by simp) λ_=>rfl
def fO(a0:J aF){ρ:Type}:{Φ:(J aF->U ρ)->U ρ // ∀(β:Bool) (κ:J T×J Ob->U ρ) (g:J aF->U ρ),a0≠[]->(∀y,κ ([.own (tl eN y)],[])=g y)->cbK (call 226 [.sl β (List.map eN a0)] []) κ=Φ g}:=by
 refine⟨?f,?h⟩
 case h=>
  intro β κ g a c;refine N5 λr b=> ?_
  cases β
  all_goals
   simp -implicitDefEqProofs (maxSteps:=1000000) [go_sem,apG,a,c,-List.map_append,-List.map_take,-List.map_drop]
   exact b
def fP(a0:J aF){ρ:Type}(g:J aF->U ρ):U ρ:=(fO a0).1 g
theorem oV(β:Bool):call 226 [.sl β []] []=some ([.own []],[]):=by cases β <;>exact gS.2 ⟨60,by kernel_rfl⟩
@[go_sem] theorem Is{ρ:Type}(β:Bool)(a0:J aF)(κ:J T×J Ob->U ρ):cbK (call 226 [.sl β (List.map eN a0)] []) κ=fP a0 λy=>κ ([.own (tl eN y)],[]):=by
 cases a0 with
 |nil=>show cbK (call 226 [.sl β []] []) κ=_;rw[oV];simp[fP,fO,cbK,jb]
 |cons x l=>exact(fO _).2 β κ _ (by simp) λ_=>rfl
@[go_sem] def Pd:=wk (nM (ρ:=ρ) (az.mk z14 z0 z1 z4 z18) (au.mk z3 z7 z5 z6 ([]:J aB) z9)) ((lq (az.mk z14 z0 z1 z4 z18) (au.mk z3 z7 z5 z6 ([]:J aB) z9)).2 β κ _ rfl)
attribute [go_sem] apr
def zN(a0:aK)(b:az):=mkF (p:=λβ (κ:KT ρ) (g:Int->U ρ)=>∀a,κ ([.d (.int .i64 a)],[])=g a) (ds:=λβ=>[(fU β) a0,(dL β) b]) aof (λ_=>rfl) _
def zO(a0:aK)(a:az)(g0):=(zN (ρ:=ρ) a0 a).1 g0
@[go_sem] def aga:=wk (zO (ρ:=ρ) (aK.mk z14 z0 z1 z11 z19 z15) (az.mk z20 z9 z10 z4 z18)) ((zN (aK.mk z14 z0 z1 z11 z19 z15) (az.mk z20 z9 z10 z4 z18)).2 β κ _ (λ_=>rfl))
def u0(a0:aO):=mkF (p:=λβ (κ:KT ρ) (g:Bool->U ρ)=>∀a,κ ([.d (.bool a)],[])=g a) (ds:=λβ=>[(jU β) a0]) avz (λ_=>rfl) _
def u5(a0:aO)(g0):=(u0 (ρ:=ρ) a0).1 g0
@[go_sem] def adU:=wk (u5 (ρ:=ρ) (aO.mk z0 z1 z9 z11 z21)) ((u0 (aO.mk z0 z1 z9 z11 z21)).2 β κ _ (λ_=>rfl))
def u6(a0 d:Int)(c:au):=mkF (p:=λβ (κ:KT ρ) (g:Int->Bool->U ρ)=>∀b a,κ ([.d (.int .i64 b),.d (.bool a)],[])=g b a) (ds:=λβ=>[eI a0,eI d,(ir β) c]) apW (λ_=>rfl) _
def u7(a0 a:Int)(b:au)(g0):=(u6 (ρ:=ρ) a0 a b).1 g0
@[go_sem] def adV:=wk (u7 (ρ:=ρ) z0 z1 (au.mk z3 z4 z5 z6 z7 z9)) ((u6 z0 z1 (au.mk z3 z4 z5 z6 z7 z9)).2 β κ _ (λ_ _=>rfl))
def ou(a0:J aB)(j:Int)(k:au):=mkF (p:=λβ (κ:KT ρ) (g:(J UInt8)->Int->Int->Int->Int->Int->Int->Bool->U ρ)=>∀i f e h d a b c,κ ([.d (.agg [.str i,.int .i64 f,.int .i64 e,.int .i64 h,.int .i64 d,.int .i64 a]),.d (.int .i64 b),.d (.bool c)],[])=g i f e h d a b c) (ds:=λβ=>[(tG β) a0,eI j,(ir β) k]) apx (λ_=>rfl) _
def ov(a0:J aB)(a:Int)(b:au)(g0):=(ou (ρ:=ρ) a0 a b).1 g0
@[go_sem] def Yt:=wk (ov (ρ:=ρ) z4 z0 (au.mk z3 z7 z5 z6 z8 z1)) ((ou z4 z0 (au.mk z3 z7 z5 z6 z8 z1)).2 β κ _ (λ_ _ _ _ _ _ _ _=>rfl))
def pZ(a0:Int)(c:au):=mkF (p:=λβ (κ:KT ρ) (g:Int->Bool->U ρ)=>∀b a,κ ([.d (.int .i64 b),.d (.bool a)],[])=g b a) (ds:=λβ=>[eI a0,(ir β) c]) apA (λ_=>rfl) _
def qa(a0:Int)(a:au)(g0):=(pZ (ρ:=ρ) a0 a).1 g0
@[go_sem] def p!:=wk (qa (ρ:=ρ) z0 (au.mk z3 z4 z5 z6 z7 z1)) ((pZ z0 (au.mk z3 z4 z5 z6 z7 z1)).2 β κ _ (λ_ _=>rfl))
def ow(a0:aO)(c:Int)(b:au):=mkF (p:=λβ (κ:KT ρ) (g:Int->U ρ)=>∀a,κ ([.d (.int .i64 a)],[])=g a) (ds:=λβ=>[(jU β) a0,eI c,(ir β) b]) apD (λ_=>rfl) _
def oz(a0:aO)(a:Int)(b:au)(g0):=(ow (ρ:=ρ) a0 a b).1 g0
@[go_sem] def Yu:=wk (oz (ρ:=ρ) (aO.mk z0 z1 z9 z11 z21) z10 (au.mk z3 z4 z5 z6 z7 z16)) ((ow (aO.mk z0 z1 z9 z11 z21) z10 (au.mk z3 z4 z5 z6 z7 z16)).2 β κ _ (λ_=>rfl))
section
variable(p0:J aB)(p1:Int)(p2:J aw)(p3:J aD)(p4:J az)(p5:J aX)
@[go_sem] def lP(β:Bool)(a:Int)(b:Int):St:=⟨[(1,.loc (aj.l 1 0) [] (0) 0),(5,.d (.int .i64 (0))),(6,.d (.int .i64 (0))),(7,.d (.int .i64 a)),(16,.d (.sl β (List.map dJ p0))),(17,.d (.int .i64 p1)),(18,.d (.int .i64 b))],[((1,0),.own [.d (.agg [.sl β (List.map dB p2),.sl β (List.map dJ p0),.sl β (List.map dP p3),.sl β (List.map (dL β) p4),.sl β (List.map (fw β) p5)])])],[]⟩
@[go_sem] def qI:=mkL (p:=λβ (c:Int->Int->((Int)×(Int)->U ρ)->XT ρ->U ρ)=>∀(R:St->U ρ) g κ,(∀a b,R (lP p0 p1 p2 p3 p4 p5 β a b)=g (a,b))->∀a b,go P hints ma N7 X2.1 (lP p0 p1 p2 p3 p4 p5 β a b) (kLp R κ)=c a b g κ) _ _
def qJ(β:Bool)(κ:XT ρ)(a:Int)(b:Int):=dD (κ:=κ) (Φ:=λv k=>(qI p0 p1 p2 p3 p4 p5 (ρ:=ρ)).f β v.1 v.2 k κ) X2.2 (S:=λv=>lP p0 p1 p2 p3 p4 p5 β v.1 v.2) (by intro R g c v;exact(qI p0 p1 p2 p3 p4 p5 (ρ:=ρ)).ok β R g κ (λa b=>c (a,b)) v.1 v.2) (a,b)
end
@[go_sem] def RH:=wl (qJ z4 z0 z3 z5 z6 z22 false η z1 z9)
@[go_sem] def RI:=wl (qJ z4 z0 z3 z5 z6 z22 true η z1 z9)
section
variable(p0:J aD)(p1:Int)(p2:J aw)(p3:J aB)(p4:J az)(p5:J aX)
@[go_sem] def lQ(β:Bool)(a:Int)(b:Int):St:=⟨[(1,.loc (aj.l 1 0) [] (0) 0),(5,.d (.int .i64 (0))),(6,.d (.int .i64 (0))),(7,.d (.int .i64 a)),(30,.d (.sl β (List.map dP p0))),(31,.d (.int .i64 p1)),(32,.d (.int .i64 b))],[((1,0),.own [.d (.agg [.sl β (List.map dB p2),.sl β (List.map dJ p3),.sl β (List.map dP p0),.sl β (List.map (dL β) p4),.sl β (List.map (fw β) p5)])])],[]⟩
@[go_sem] def qK:=mkL (p:=λβ (c:Int->Int->((Int)×(Int)->U ρ)->XT ρ->U ρ)=>∀(R:St->U ρ) g κ,(∀a b,R (lQ p0 p1 p2 p3 p4 p5 β a b)=g (a,b))->∀a b,go P hints ma N7 X3.1 (lQ p0 p1 p2 p3 p4 p5 β a b) (kLp R κ)=c a b g κ) _ _
def qL(β:Bool)(κ:XT ρ)(a:Int)(b:Int):=dD (κ:=κ) (Φ:=λv k=>(qK p0 p1 p2 p3 p4 p5 (ρ:=ρ)).f β v.1 v.2 k κ) X3.2 (S:=λv=>lQ p0 p1 p2 p3 p4 p5 β v.1 v.2) (by intro R g c v;exact(qK p0 p1 p2 p3 p4 p5 (ρ:=ρ)).ok β R g κ (λa b=>c (a,b)) v.1 v.2) (a,b)
end
@[go_sem] def RJ:=wl (qL z5 z0 z3 z4 z6 z22 false η z1 z9)
@[go_sem] def RK:=wl (qL z5 z0 z3 z4 z6 z22 true η z1 z9)
section
variable(p0:J az)(p1:Int)(p2:J aw)(p3:J aB)(p4:J aD)(p5:J aX)
@[go_sem] def lR(β:Bool)(c:Int)(d:Int)(a:Int)(b:Int):St:=⟨[(1,.loc (aj.l 1 0) [] (0) 0),(5,.d (.int .i64 c)),(6,.d (.int .i64 d)),(7,.d (.int .i64 a)),(45,.d (.sl β (List.map (dL β) p0))),(46,.d (.int .i64 p1)),(47,.d (.int .i64 b))],[((1,0),.own [.d (.agg [.sl β (List.map dB p2),.sl β (List.map dJ p3),.sl β (List.map dP p4),.sl β (List.map (dL β) p0),.sl β (List.map (fw β) p5)])])],[]⟩
@[go_sem] def qM:=mkL (p:=λβ (e:Int->Int->Int->Int->((Int)×(Int)×(Int)×(Int)->U ρ)->XT ρ->U ρ)=>∀(R:St->U ρ) g κ,(∀b c d a,R (lR p0 p1 p2 p3 p4 p5 β b c d a)=g (b,c,d,a))->∀b c d a,go P hints ma N7 X4.1 (lR p0 p1 p2 p3 p4 p5 β b c d a) (kLp R κ)=e b c d a g κ) _ _
def qO(β:Bool)(κ:XT ρ)(a:Int)(b:Int)(c:Int)(d:Int):=dD (κ:=κ) (Φ:=λv k=>(qM p0 p1 p2 p3 p4 p5 (ρ:=ρ)).f β v.1 v.2.1 v.2.2.1 v.2.2.2 k κ) X4.2 (S:=λv=>lR p0 p1 p2 p3 p4 p5 β v.1 v.2.1 v.2.2.1 v.2.2.2) (by intro R g e v;exact(qM p0 p1 p2 p3 p4 p5 (ρ:=ρ)).ok β R g κ (λa b c d=>e (a,b,c,d)) v.1 v.2.1 v.2.2.1 v.2.2.2) (a,b,c,d)
end
@[go_sem] def RL:=wl (qO z6 z0 z3 z4 z5 z22 false η z1 z9 z10 z16)
@[go_sem] def RM:=wl (qO z6 z0 z3 z4 z5 z22 true η z1 z9 z10 z16)
def oA(a0:ae):=mkF (p:=λβ (κ:KT ρ) (g:Int->Int->Int->U ρ)=>∀c a b,κ ([.d (.int .i64 c),.d (.int .i64 a),.d (.int .i64 b)],[])=g c a b) (ds:=λβ=>[(gM β) a0]) amc (λ_=>rfl) _
def oB(a0:ae)(g0):=(oA (ρ:=ρ) a0).1 g0
@[go_sem] def Yv:=wk (oB (ρ:=ρ) (ae.mk z3 z4 z5 z6 z22)) ((oA (ae.mk z3 z4 z5 z6 z22)).2 β κ _ (λ_ _ _=>rfl))
section
variable(p0:J aw)(p1:Int)
@[go_sem] def m9(β:Bool)(a:Int):St:=⟨[(0,.d (.sl β (List.map dB p0))),(4,.d (.int .i64 p1)),(5,.d (.int .i64 a))],[],[]⟩
@[go_sem] def tH:=mkL (p:=λβ (b:Int->(Int->U ρ)->XT ρ->U ρ)=>∀(R:St->U ρ) g κ,(∀a,R (m9 p0 p1 β a)=g a)->∀a,go P hints uG b70 ac5.1 (m9 p0 p1 β a) (kLp R κ)=b a g κ) _ _
def tI(β:Bool)(κ:XT ρ)(a:Int):=dD (κ:=κ) (Φ:=λv k=>(tH p0 p1 (ρ:=ρ)).f β v k κ) ac5.2 (S:=λv=>m9 p0 p1 β v) (by intro R g b v;exact(tH p0 p1 (ρ:=ρ)).ok β R g κ (λa=>b a) v) a
end
@[go_sem] def UD:=wl (tI z3 z0 false η z1)
@[go_sem] def UE:=wl (tI z3 z0 true η z1)
section
variable(p0:J aw)
@[go_sem] def na(β:Bool)(a:Int):St:=⟨[(0,.d (.sl β (List.map dB p0))),(4,.d (.int .i64 a))],[],[]⟩
@[go_sem] def tJ:=mkL (p:=λβ (b:Int->(Int->U ρ)->XT ρ->U ρ)=>∀(R:St->U ρ) g κ,(∀a,R (na p0 β a)=g a)->∀a,go P hints uG b70 ac6.1 (na p0 β a) (kLp R κ)=b a g κ) _ _
def tK(β:Bool)(κ:XT ρ)(a:Int):=dD (κ:=κ) (Φ:=λv k=>(tJ p0 (ρ:=ρ)).f β v k κ) ac6.2 (S:=λv=>na p0 β v) (by intro R g b v;exact(tJ p0 (ρ:=ρ)).ok β R g κ (λa=>b a) v) a
end
@[go_sem] def UF:=wl (tK z3 false η z0)
@[go_sem] def UG:=wl (tK z3 true η z0)
def qb(a0:J aw):=mkF (p:=λβ (κ:KT ρ) (g:Int->Int->U ρ)=>∀b a,κ ([.d (.int .i64 b),.d (.int .i64 a)],[])=g b a) (ds:=λβ=>[(fT β) a0]) avl (λ_=>rfl) _
def qc(a0:J aw)(g0):=(qb (ρ:=ρ) a0).1 g0
@[go_sem] def q_:=wk (qc (ρ:=ρ) z3) ((qb z3).2 β κ _ (λ_ _=>rfl))
def zP(a0:J aw)(b:Int):=mkF (p:=λβ (κ:KT ρ) (g:Int->U ρ)=>∀a,κ ([.d (.int .i64 a)],[])=g a) (ds:=λβ=>[(fT β) a0,eI b]) akM (λ_=>rfl) _
def zQ(a0:J aw)(a:Int)(g0):=(zP (ρ:=ρ) a0 a).1 g0
@[go_sem] def agb:=wk (zQ (ρ:=ρ) z3 z0) ((zP z3 z0).2 β κ _ (λ_=>rfl))
def zR(a0 b:Int):=mkF (p:=λβ (κ:KT ρ) (g:Bool->U ρ)=>∀a,κ ([.d (.bool a)],[])=g a) (ds:=λβ=>[eI a0,eI b]) akP (λ_=>rfl) _
def zS(a0 a:Int)(g0):=(zR (ρ:=ρ) a0 a).1 g0
@[go_sem] def agc:=wk (zS (ρ:=ρ) z0 z1) ((zR z0 z1).2 true κ _ (λ_=>rfl))
def oC(a0:aB)(b:J aw):=mkF (p:=λβ (κ:KT ρ) (g:Int->U ρ)=>∀a,κ ([.d (.int .i64 a)],[])=g a) (ds:=λβ=>[dJ a0,(fT β) b]) akJ (λ_=>rfl) _
def oD(a0:aB)(a:J aw)(g0):=(oC (ρ:=ρ) a0 a).1 g0
@[go_sem] def Yw:=wk (oD (ρ:=ρ) (aB.mk z14 z0 z1 z9 z10 z16) z3) ((oC (aB.mk z14 z0 z1 z9 z10 z16) z3).2 β κ _ (λ_=>rfl))
section
variable(p0:J aB)(p1:J aw)(p2:Int)(p3:Int)
@[go_sem] def sU(β:Bool)(a:Int):St:=⟨[(0,.d (.sl β (List.map dJ p0))),(1,.d (.sl β (List.map dB p1))),(2,.d (.int .i64 p2)),(8,.d (.int .i64 p3)),(9,.d (.int .i64 a))],[],[]⟩
@[go_sem] def Bm:=mkL (p:=λβ (b:Int->(Int->U ρ)->XT ρ->U ρ)=>∀(R:St->U ρ) g κ,(∀a,R (sU p0 p1 p2 p3 β a)=g a)->∀a,go P hints uH b71 ac7.1 (sU p0 p1 p2 p3 β a) (kLp R κ)=b a g κ) _ _
def Bn(β:Bool)(κ:XT ρ)(a:Int):=dD (κ:=κ) (Φ:=λv k=>(Bm p0 p1 p2 p3 (ρ:=ρ)).f β v k κ) ac7.2 (S:=λv=>sU p0 p1 p2 p3 β v) (by intro R g b v;exact(Bm p0 p1 p2 p3 (ρ:=ρ)).ok β R g κ (λa=>b a) v) a
end
@[go_sem] def q?:=wl (Bn z4 z3 z0 z1 false η z9)
@[go_sem] def q!:=wl (Bn z4 z3 z0 z1 true η z9)
section
variable(p0:J aB)(p1:J aw)(p2:Int)
@[go_sem] def sW(β:Bool)(a:Int):St:=⟨[(0,.d (.sl β (List.map dJ p0))),(1,.d (.sl β (List.map dB p1))),(2,.d (.int .i64 p2)),(8,.d (.int .i64 a))],[],[]⟩
@[go_sem] def Bo:=mkL (p:=λβ (b:Int->(Int->U ρ)->XT ρ->U ρ)=>∀(R:St->U ρ) g κ,(∀a,R (sW p0 p1 p2 β a)=g a)->∀a,go P hints uH b71 ac8.1 (sW p0 p1 p2 β a) (kLp R κ)=b a g κ) _ _
def Bp(β:Bool)(κ:XT ρ)(a:Int):=dD (κ:=κ) (Φ:=λv k=>(Bo p0 p1 p2 (ρ:=ρ)).f β v k κ) ac8.2 (S:=λv=>sW p0 p1 p2 β v) (by intro R g b v;exact(Bo p0 p1 p2 (ρ:=ρ)).ok β R g κ (λa=>b a) v) a
end
@[go_sem] def r_:=wl (Bp z4 z3 z0 false η z1)
@[go_sem] def r?:=wl (Bp z4 z3 z0 true η z1)
def zT(a0:J aB)(d:J aw)(c:Int):=mkF (p:=λβ (κ:KT ρ) (g:Int->Int->U ρ)=>∀b a,κ ([.d (.int .i64 b),.d (.int .i64 a)],[])=g b a) (ds:=λβ=>[(tG β) a0,(fT β) d,eI c]) avm (λ_=>rfl) _
def zU(a0:J aB)(a:J aw)(b:Int)(g0):=(zT (ρ:=ρ) a0 a b).1 g0
@[go_sem] def agd:=wk (zU (ρ:=ρ) z4 z3 z0) ((zT z4 z3 z0).2 β κ _ (λ_ _=>rfl))
section
variable(p0:J aD)(p1:J aw)(p2:Int)
@[go_sem] def qd(β:Bool)(a:Int):St:=⟨[(0,.d (.sl β (List.map dP p0))),(1,.d (.sl β (List.map dB p1))),(6,.d (.int .i64 p2)),(7,.d (.int .i64 a))],[],[]⟩
@[go_sem] def xw:=mkL (p:=λβ (b:Int->(Int->U ρ)->XT ρ->U ρ)=>∀(R:St->U ρ) g κ,(∀a,R (qd p0 p1 p2 β a)=g a)->∀a,go P hints uI b74 adg.1 (qd p0 p1 p2 β a) (kLp R κ)=b a g κ) _ _
def xy(β:Bool)(κ:XT ρ)(a:Int):=dD (κ:=κ) (Φ:=λv k=>(xw p0 p1 p2 (ρ:=ρ)).f β v k κ) adg.2 (S:=λv=>qd p0 p1 p2 β v) (by intro R g b v;exact(xw p0 p1 p2 (ρ:=ρ)).ok β R g κ (λa=>b a) v) a
end
@[go_sem] def Yx:=wl (xy z5 z3 z0 false η z1)
@[go_sem] def Yy:=wl (xy z5 z3 z0 true η z1)
section
variable(p0:J aD)(p1:J aw)
@[go_sem] def qe(β:Bool)(a:Int):St:=⟨[(0,.d (.sl β (List.map dP p0))),(1,.d (.sl β (List.map dB p1))),(6,.d (.int .i64 a))],[],[]⟩
@[go_sem] def xz:=mkL (p:=λβ (b:Int->(Int->U ρ)->XT ρ->U ρ)=>∀(R:St->U ρ) g κ,(∀a,R (qe p0 p1 β a)=g a)->∀a,go P hints uI b74 adh.1 (qe p0 p1 β a) (kLp R κ)=b a g κ) _ _
def xE(β:Bool)(κ:XT ρ)(a:Int):=dD (κ:=κ) (Φ:=λv k=>(xz p0 p1 (ρ:=ρ)).f β v k κ) adh.2 (S:=λv=>qe p0 p1 β v) (by intro R g b v;exact(xz p0 p1 (ρ:=ρ)).ok β R g κ (λa=>b a) v) a
end
@[go_sem] def Yz:=wl (xE z5 z3 false η z0)
@[go_sem] def YA:=wl (xE z5 z3 true η z0)
def u9(a0:J aD)(c:J aw):=mkF (p:=λβ (κ:KT ρ) (g:Int->Int->U ρ)=>∀b a,κ ([.d (.int .i64 b),.d (.int .i64 a)],[])=g b a) (ds:=λβ=>[(zD β) a0,(fT β) c]) avp (λ_=>rfl) _
def vb(a0:J aD)(a:J aw)(g0):=(u9 (ρ:=ρ) a0 a).1 g0
@[go_sem] def adW:=wk (vb (ρ:=ρ) z5 z3) ((u9 z5 z3).2 β κ _ (λ_ _=>rfl))
def HH(a0:J aF)(c:Int)(b:au):=mkF (p:=λβ (κ:KT ρ) (g:Int->U ρ)=>∀a,κ ([.d (.int .i64 a)],[])=g a) (ds:=λβ=>[(oa β) a0,eI c,(ir β) b]) alw (λ_=>rfl) _
def HI(a0:J aF)(a:Int)(b:au)(g0):=(HH (ρ:=ρ) a0 a b).1 g0
@[go_sem] def aqX:=wk (HI (ρ:=ρ) z11 z0 (au.mk z3 z4 z5 z6 z7 z1)) ((HH z11 z0 (au.mk z3 z4 z5 z6 z7 z1)).2 β κ _ (λ_=>rfl))
def zV(a0:aO)(b:au):=mkF (p:=λβ (κ:KT ρ) (g:Int->U ρ)=>∀a,κ ([.d (.int .i64 a)],[])=g a) (ds:=λβ=>[(jU β) a0,(ir β) b]) amK (λ_=>rfl) _
def zW(a0:aO)(a:au)(g0):=(zV (ρ:=ρ) a0 a).1 g0
@[go_sem] def age:=wk (zW (ρ:=ρ) (aO.mk z0 z1 z9 z11 z21) (au.mk z3 z4 z5 z6 z7 z10)) ((zV (aO.mk z0 z1 z9 z11 z21) (au.mk z3 z4 z5 z6 z7 z10)).2 β κ _ (λ_=>rfl))
def vc(a0:J aB)(d:Int)(c:au):=mkF (p:=λβ (κ:KT ρ) (g:Int->Int->U ρ)=>∀b a,κ ([.d (.int .i64 b),.d (.int .i64 a)],[])=g b a) (ds:=λβ=>[(tG β) a0,eI d,(ir β) c]) amN (λ_=>rfl) _
def vd(a0:J aB)(a:Int)(b:au)(g0):=(vc (ρ:=ρ) a0 a b).1 g0
@[go_sem] def adX:=wk (vd (ρ:=ρ) z4 z0 (au.mk z3 z7 z5 z6 z8 z1)) ((vc z4 z0 (au.mk z3 z7 z5 z6 z8 z1)).2 β κ _ (λ_ _=>rfl))
def CE(a0:aO)(c:au)(b:Bool):=mkF (p:=λβ (κ:KT ρ) (g:Int->U ρ)=>∀a,κ ([.d (.int .i64 a)],[])=g a) (ds:=λβ=>[(jU β) a0,(ir β) c,eB b]) alz (λ_=>rfl) _
def wF(a0:aO)(a:au)(b:Bool)(g0):=(CE (ρ:=ρ) a0 a b).1 g0
@[go_sem] def ajd:=wk (wF (ρ:=ρ) (aO.mk z0 z1 z9 z11 z21) (au.mk z3 z4 z5 z6 z7 z10) z15) ((CE (aO.mk z0 z1 z9 z11 z21) (au.mk z3 z4 z5 z6 z7 z10) z15).2 β κ _ (λ_=>rfl))
section
variable(p0:J UInt8)(p1:Int)(p2:Int)(p3:J aF)(p4:J aO)(p5:Bool)(p6:J aw)(p7:J aB)(p8:J aD)(p9:J az)(p10:J aB)(p11:Int)
@[go_sem] def qf(β a:Bool)(b:Int):St:=⟨[(3,.loc (aj.l 3 0) [] (0) 0),(5,.loc (aj.l 5 0) [] (0) 0),(9,.d (.bool a)),(10,.d (.int .i64 b))],[((3,0),.own [.d (.agg [.str p0,.int .i64 p1,.int .i64 p2,.sl β (List.map eN p3),.sl β (List.map (jU β) p4),.bool p5])]),((5,0),.own [.d (.agg [.sl β (List.map dB p6),.sl β (List.map dJ p7),.sl β (List.map dP p8),.sl β (List.map (dL β) p9),.sl β (List.map dJ p10),.int .i64 p11])])],[]⟩
@[go_sem] def xI:=mkL (p:=λβ (c:Bool->Int->((Bool)×(Int)->U ρ)->XT ρ->U ρ)=>∀(R:St->U ρ) g κ,(∀a b,R (qf p0 p1 p2 p3 p4 p5 p6 p7 p8 p9 p10 p11 β a b)=g (a,b))->∀a b,go P hints wA Q? XD.1 (qf p0 p1 p2 p3 p4 p5 p6 p7 p8 p9 p10 p11 β a b) (kLp R κ)=c a b g κ) _ _
def x7(β:Bool)(κ:XT ρ)(a:Bool)(b:Int):=dD (κ:=κ) (Φ:=λv k=>(xI p0 p1 p2 p3 p4 p5 p6 p7 p8 p9 p10 p11 (ρ:=ρ)).f β v.1 v.2 k κ) XD.2 (S:=λv=>qf p0 p1 p2 p3 p4 p5 p6 p7 p8 p9 p10 p11 β v.1 v.2) (by intro R g c v;exact(xI p0 p1 p2 p3 p4 p5 p6 p7 p8 p9 p10 p11 (ρ:=ρ)).ok β R g κ (λa b=>c (a,b)) v.1 v.2) (a,b)
end
@[go_sem] def YC:=wl (x7 z14 z0 z1 z11 z19 z15 z3 z4 z5 z6 z7 z9 false η z23 z10)
@[go_sem] def YD:=wl (x7 z14 z0 z1 z11 z19 z15 z3 z4 z5 z6 z7 z9 true η z23 z10)
def ve(a0:aK)(d:az)(c:au):=mkF (p:=λβ (κ:KT ρ) (g:Int->Int->U ρ)=>∀b a,κ ([.d (.int .i64 b),.d (.int .i64 a)],[])=g b a) (ds:=λβ=>[(fU β) a0,(dL β) d,(ir β) c]) akR (λ_=>rfl) _
def vf(a0:aK)(a:az)(b:au)(g0):=(ve (ρ:=ρ) a0 a b).1 g0
@[go_sem] def adY:=wk (vf (ρ:=ρ) (aK.mk z14 z0 z1 z11 z19 z15) (az.mk z20 z9 z10 z4 z18) (au.mk z3 z7 z5 z6 z8 z16)) ((ve (aK.mk z14 z0 z1 z11 z19 z15) (az.mk z20 z9 z10 z4 z18) (au.mk z3 z7 z5 z6 z8 z16)).2 β κ _ (λ_ _=>rfl))
section
variable(p0:Int)(p1:J UInt8)(p2:Int)(p3:Int)(p4:J aB)(p5:J aK)(p6:J aw)(p7:J aB)(p8:J aD)(p9:J az)(p10:J aB)(p11:Int)
@[go_sem] def qg(β:Bool)(a:Int):St:=⟨[(2,.loc (aj.l 2 0) [] (0) 0),(3,.loc (aj.l 3 0) [] (0) 0),(9,.d (.int .i64 p0)),(10,.d (.int .i64 a))],[((2,0),.own [.d (.agg [.str p1,.int .i64 p2,.int .i64 p3,.sl β (List.map dJ p4),.sl β (List.map (fU β) p5)])]),((3,0),.own [.d (.agg [.sl β (List.map dB p6),.sl β (List.map dJ p7),.sl β (List.map dP p8),.sl β (List.map (dL β) p9),.sl β (List.map dJ p10),.int .i64 p11])])],[]⟩
@[go_sem] def x9:=mkL (p:=λβ (b:Int->(Int->U ρ)->XT ρ->U ρ)=>∀(R:St->U ρ) g κ,(∀a,R (qg p0 p1 p2 p3 p4 p5 p6 p7 p8 p9 p10 p11 β a)=g a)->∀a,go P hints mY b75 adi.1 (qg p0 p1 p2 p3 p4 p5 p6 p7 p8 p9 p10 p11 β a) (kLp R κ)=b a g κ) _ _
def ya(β:Bool)(κ:XT ρ)(a:Int):=dD (κ:=κ) (Φ:=λv k=>(x9 p0 p1 p2 p3 p4 p5 p6 p7 p8 p9 p10 p11 (ρ:=ρ)).f β v k κ) adi.2 (S:=λv=>qg p0 p1 p2 p3 p4 p5 p6 p7 p8 p9 p10 p11 β v) (by intro R g b v;exact(x9 p0 p1 p2 p3 p4 p5 p6 p7 p8 p9 p10 p11 (ρ:=ρ)).ok β R g κ (λa=>b a) v) a
end
@[go_sem] def YE:=wl (ya z0 z14 z1 z9 z4 z18 z3 z7 z5 z6 z8 z10 false η z16)
@[go_sem] def YF:=wl (ya z0 z14 z1 z9 z4 z18 z3 z7 z5 z6 z8 z10 true η z16)
section
variable(p0:J UInt8)(p1:Int)(p2:Int)(p3:J aB)(p4:J aK)(p5:J aw)(p6:J aB)(p7:J aD)(p8:J az)(p9:J aB)(p10:Int)
@[go_sem] def qh(β:Bool)(a:Int):St:=⟨[(2,.loc (aj.l 2 0) [] (0) 0),(3,.loc (aj.l 3 0) [] (0) 0),(9,.d (.int .i64 a))],[((2,0),.own [.d (.agg [.str p0,.int .i64 p1,.int .i64 p2,.sl β (List.map dJ p3),.sl β (List.map (fU β) p4)])]),((3,0),.own [.d (.agg [.sl β (List.map dB p5),.sl β (List.map dJ p6),.sl β (List.map dP p7),.sl β (List.map (dL β) p8),.sl β (List.map dJ p9),.int .i64 p10])])],[]⟩
@[go_sem] def yb:=mkL (p:=λβ (b:Int->(Int->U ρ)->XT ρ->U ρ)=>∀(R:St->U ρ) g κ,(∀a,R (qh p0 p1 p2 p3 p4 p5 p6 p7 p8 p9 p10 β a)=g a)->∀a,go P hints mY b75 adj.1 (qh p0 p1 p2 p3 p4 p5 p6 p7 p8 p9 p10 β a) (kLp R κ)=b a g κ) _ _
def yc(β:Bool)(κ:XT ρ)(a:Int):=dD (κ:=κ) (Φ:=λv k=>(yb p0 p1 p2 p3 p4 p5 p6 p7 p8 p9 p10 (ρ:=ρ)).f β v k κ) adj.2 (S:=λv=>qh p0 p1 p2 p3 p4 p5 p6 p7 p8 p9 p10 β v) (by intro R g b v;exact(yb p0 p1 p2 p3 p4 p5 p6 p7 p8 p9 p10 (ρ:=ρ)).ok β R g κ (λa=>b a) v) a
end
@[go_sem] def YG:=wl (yc z14 z0 z1 z4 z18 z3 z7 z5 z6 z8 z9 false η z10)
@[go_sem] def YH:=wl (yc z14 z0 z1 z4 z18 z3 z7 z5 z6 z8 z9 true η z10)
section
variable(p0:Int)(p1:J UInt8)(p2:Int)(p3:Int)(p4:J aB)(p5:J aK)(p6:J aw)(p7:J aB)(p8:J aD)(p9:J az)
@[go_sem] def qi(β:Bool)(a:Int):St:=⟨[(2,.loc (aj.l 2 0) [] (0) 0),(11,.loc (aj.l 11 0) [] (0) 0),(12,.d (.int .i64 p0)),(15,.d (.int .i64 a))],[((2,0),.own [.d (.agg [.str p1,.int .i64 p2,.int .i64 p3,.sl β (List.map dJ p4),.sl β (List.map (fU β) p5)])]),((11,0),.own [.d (.agg [.sl β (List.map dB p6),.sl β (List.map dJ p7),.sl β (List.map dP p8),.sl β (List.map (dL β) p9),.sl β (List.map dJ p4),.int .i64 p2])])],[]⟩
@[go_sem] def yd:=mkL (p:=λβ (b:Int->(Int->U ρ)->XT ρ->U ρ)=>∀(R:St->U ρ) g κ,(∀a,R (qi p0 p1 p2 p3 p4 p5 p6 p7 p8 p9 β a)=g a)->∀a,go P hints mY b75 adk.1 (qi p0 p1 p2 p3 p4 p5 p6 p7 p8 p9 β a) (kLp R κ)=b a g κ) _ _
def ye(β:Bool)(κ:XT ρ)(a:Int):=dD (κ:=κ) (Φ:=λv k=>(yd p0 p1 p2 p3 p4 p5 p6 p7 p8 p9 (ρ:=ρ)).f β v k κ) adk.2 (S:=λv=>qi p0 p1 p2 p3 p4 p5 p6 p7 p8 p9 β v) (by intro R g b v;exact(yd p0 p1 p2 p3 p4 p5 p6 p7 p8 p9 (ρ:=ρ)).ok β R g κ (λa=>b a) v) a
end
@[go_sem] def YI:=wl (ye z0 z14 z1 z9 z4 z18 z3 z7 z5 z6 false η z10)
@[go_sem] def YJ:=wl (ye z0 z14 z1 z9 z4 z18 z3 z7 z5 z6 true η z10)
section
variable(p0:J UInt8)(p1:Int)(p2:Int)(p3:J aB)(p4:J aK)(p5:J aw)(p6:J aB)(p7:J aD)(p8:J az)
@[go_sem] def qj(β:Bool)(a:Int):St:=⟨[(2,.loc (aj.l 2 0) [] (0) 0),(11,.loc (aj.l 11 0) [] (0) 0),(12,.d (.int .i64 a))],[((2,0),.own [.d (.agg [.str p0,.int .i64 p1,.int .i64 p2,.sl β (List.map dJ p3),.sl β (List.map (fU β) p4)])]),((11,0),.own [.d (.agg [.sl β (List.map dB p5),.sl β (List.map dJ p6),.sl β (List.map dP p7),.sl β (List.map (dL β) p8),.sl β (List.map dJ p3),.int .i64 p1])])],[]⟩
@[go_sem] def yf:=mkL (p:=λβ (b:Int->(Int->U ρ)->XT ρ->U ρ)=>∀(R:St->U ρ) g κ,(∀a,R (qj p0 p1 p2 p3 p4 p5 p6 p7 p8 β a)=g a)->∀a,go P hints mY b75 adl.1 (qj p0 p1 p2 p3 p4 p5 p6 p7 p8 β a) (kLp R κ)=b a g κ) _ _
def yg(β:Bool)(κ:XT ρ)(a:Int):=dD (κ:=κ) (Φ:=λv k=>(yf p0 p1 p2 p3 p4 p5 p6 p7 p8 (ρ:=ρ)).f β v k κ) adl.2 (S:=λv=>qj p0 p1 p2 p3 p4 p5 p6 p7 p8 β v) (by intro R g b v;exact(yf p0 p1 p2 p3 p4 p5 p6 p7 p8 (ρ:=ρ)).ok β R g κ (λa=>b a) v) a
end
@[go_sem] def YK:=wl (yg z14 z0 z1 z4 z18 z3 z7 z5 z6 false η z9)
@[go_sem] def YL:=wl (yg z14 z0 z1 z4 z18 z3 z7 z5 z6 true η z9)
def vg(a0:az)(d:au):=mkF (p:=λβ (κ:KT ρ) (g:Int->Int->Int->U ρ)=>∀c b a,κ ([.d (.int .i64 c),.d (.int .i64 b),.d (.int .i64 a)],[])=g c b a) (ds:=λβ=>[(dL β) a0,(ir β) d]) avq (λ_=>rfl) _
def vh(a0:az)(a:au)(g0):=(vg (ρ:=ρ) a0 a).1 g0
@[go_sem] def adZ:=wk (vh (ρ:=ρ) (az.mk z14 z0 z1 z4 z18) (au.mk z3 z7 z5 z6 z8 z9)) ((vg (az.mk z14 z0 z1 z4 z18) (au.mk z3 z7 z5 z6 z8 z9)).2 β κ _ (λ_ _ _=>rfl))
def vj(a0:ae)(c:Int):=mkF (p:=λβ (κ:KT ρ) (g:(J aB)->Int->U ρ)=>(∀(b:J aB) (a:Int),κ ([.d (.agg [.sl β (List.map dB (a0.aa)),.sl β (List.map dJ (a0.aq)),.sl β (List.map dP (a0.ah)),.sl β (List.map (dL β) (a0.ak)),.sl β (List.map dJ b),.int .i64 a])],[])=g b a)/\(∀(a:Int),κ ([.d (.agg [.sl β (List.map dB (a0.aa)),.sl β (List.map dJ (a0.aq)),.sl β (List.map dP (a0.ah)),.sl β (List.map (dL β) (a0.ak)),.sl β (List.map dJ ([]:J aB)),.int .i64 a])],[])=g ([]:J aB) a)) (ds:=λβ=>[(gM β) a0,eI c]) avr (λ_=>rfl) _
def vk(a0:ae)(a:Int)(g0):=(vj (ρ:=ρ) a0 a).1 g0
@[go_sem] def ad0:=wk (vk (ρ:=ρ) (ae.mk z3 z4 z5 z6 z22) z0) ((vj (ae.mk z3 z4 z5 z6 z22) z0).2 β κ _ ⟨(λ_ _=>rfl),(λ_=>rfl)⟩)
def pz(a0:aB)(b:J aw):=mkF (p:=λβ (κ:KT ρ) (g:Int->U ρ)=>∀a,κ ([.d (.int .i64 a)],[])=g a) (ds:=λβ=>[dJ a0,(fT β) b]) avs (λ_=>rfl) _
def pA(a0:aB)(a:J aw)(g0):=(pz (ρ:=ρ) a0 a).1 g0
@[go_sem] def ad1:=wk (pA (ρ:=ρ) (aB.mk z14 z0 z1 z9 z10 z16) z3) ((pz (aB.mk z14 z0 z1 z9 z10 z16) z3).2 β κ _ (λ_=>rfl))
def vl(a0:ae)(b:az):=mkF (p:=λβ (κ:KT ρ) (g:Int->U ρ)=>∀a,κ ([.d (.int .i64 a)],[])=g a) (ds:=λβ=>[(gM β) a0,(dL β) b]) avt (λ_=>rfl) _
def DN(a0:ae)(a:az)(g0):=(vl (ρ:=ρ) a0 a).1 g0
@[go_sem] def ad2:=wk (DN (ρ:=ρ) (ae.mk z3 z4 z5 z6 z22) (az.mk z14 z0 z1 z7 z18)) ((vl (ae.mk z3 z4 z5 z6 z22) (az.mk z14 z0 z1 z7 z18)).2 β κ _ (λ_=>rfl))
section
variable(p0:J aw)(p1:J aB)(p2:J aD)(p3:J az)(p4:J aX)
@[go_sem] def oE(β:Bool)(a:Int)(b:Int):St:=⟨[(1,.loc (aj.l 1 0) [] (0) 0),(5,.d (.int .i64 (0))),(6,.d (.int .i64 (0))),(7,.d (.int .i64 a)),(8,.d (.int .i64 b))],[((1,0),.own [.d (.agg [.sl β (List.map dB p0),.sl β (List.map dJ p1),.sl β (List.map dP p2),.sl β (List.map (dL β) p3),.sl β (List.map (fw β) p4)])])],[]⟩
@[go_sem] def vm:=mkL (p:=λβ (c:Int->Int->((Int)×(Int)->U ρ)->XT ρ->U ρ)=>∀(R:St->U ρ) g κ,(∀a b,R (oE p0 p1 p2 p3 p4 β a b)=g (a,b))->∀a b,go P hints pS b49 acU.1 (oE p0 p1 p2 p3 p4 β a b) (kLp R κ)=c a b g κ) _ _
def vo(β:Bool)(κ:XT ρ)(a:Int)(b:Int):=dD (κ:=κ) (Φ:=λv k=>(vm p0 p1 p2 p3 p4 (ρ:=ρ)).f β v.1 v.2 k κ) acU.2 (S:=λv=>oE p0 p1 p2 p3 p4 β v.1 v.2) (by intro R g c v;exact(vm p0 p1 p2 p3 p4 (ρ:=ρ)).ok β R g κ (λa b=>c (a,b)) v.1 v.2) (a,b)
end
@[go_sem] def VF:=wl (vo z3 z4 z5 z6 z22 false η z0 z1)
@[go_sem] def VG:=wl (vo z3 z4 z5 z6 z22 true η z0 z1)
section
variable(p0:J aw)(p1:J aB)(p2:J aD)(p3:J az)(p4:J aX)
@[go_sem] def oF(β:Bool)(a:Int)(b:Int):St:=⟨[(1,.loc (aj.l 1 0) [] (0) 0),(5,.d (.int .i64 (0))),(6,.d (.int .i64 (0))),(7,.d (.int .i64 a)),(9,.d (.int .i64 b))],[((1,0),.own [.d (.agg [.sl β (List.map dB p0),.sl β (List.map dJ p1),.sl β (List.map dP p2),.sl β (List.map (dL β) p3),.sl β (List.map (fw β) p4)])])],[]⟩
@[go_sem] def vp:=mkL (p:=λβ (c:Int->Int->((Int)×(Int)->U ρ)->XT ρ->U ρ)=>∀(R:St->U ρ) g κ,(∀a b,R (oF p0 p1 p2 p3 p4 β a b)=g (a,b))->∀a b,go P hints pS b49 acV.1 (oF p0 p1 p2 p3 p4 β a b) (kLp R κ)=c a b g κ) _ _
def vq(β:Bool)(κ:XT ρ)(a:Int)(b:Int):=dD (κ:=κ) (Φ:=λv k=>(vp p0 p1 p2 p3 p4 (ρ:=ρ)).f β v.1 v.2 k κ) acV.2 (S:=λv=>oF p0 p1 p2 p3 p4 β v.1 v.2) (by intro R g c v;exact(vp p0 p1 p2 p3 p4 (ρ:=ρ)).ok β R g κ (λa b=>c (a,b)) v.1 v.2) (a,b)
end
@[go_sem] def VH:=wl (vq z3 z4 z5 z6 z22 false η z0 z1)
@[go_sem] def VI:=wl (vq z3 z4 z5 z6 z22 true η z0 z1)
section
variable(p0:J aw)(p1:J aB)(p2:J aD)(p3:J az)(p4:J aX)
@[go_sem] def oG(β:Bool)(c:Int)(d:Int)(a:Int)(b:Int):St:=⟨[(1,.loc (aj.l 1 0) [] (0) 0),(5,.d (.int .i64 c)),(6,.d (.int .i64 d)),(7,.d (.int .i64 a)),(10,.d (.int .i64 b))],[((1,0),.own [.d (.agg [.sl β (List.map dB p0),.sl β (List.map dJ p1),.sl β (List.map dP p2),.sl β (List.map (dL β) p3),.sl β (List.map (fw β) p4)])])],[]⟩
@[go_sem] def vt:=mkL (p:=λβ (e:Int->Int->Int->Int->((Int)×(Int)×(Int)×(Int)->U ρ)->XT ρ->U ρ)=>∀(R:St->U ρ) g κ,(∀b c d a,R (oG p0 p1 p2 p3 p4 β b c d a)=g (b,c,d,a))->∀b c d a,go P hints pS b49 acW.1 (oG p0 p1 p2 p3 p4 β b c d a) (kLp R κ)=e b c d a g κ) _ _
def vu(β:Bool)(κ:XT ρ)(a:Int)(b:Int)(c:Int)(d:Int):=dD (κ:=κ) (Φ:=λv k=>(vt p0 p1 p2 p3 p4 (ρ:=ρ)).f β v.1 v.2.1 v.2.2.1 v.2.2.2 k κ) acW.2 (S:=λv=>oG p0 p1 p2 p3 p4 β v.1 v.2.1 v.2.2.1 v.2.2.2) (by intro R g e v;exact(vt p0 p1 p2 p3 p4 (ρ:=ρ)).ok β R g κ (λa b c d=>e (a,b,c,d)) v.1 v.2.1 v.2.2.1 v.2.2.2) (a,b,c,d)
end
@[go_sem] def VJ:=wl (vu z3 z4 z5 z6 z22 false η z0 z1 z9 z10)
@[go_sem] def VK:=wl (vu z3 z4 z5 z6 z22 true η z0 z1 z9 z10)
def sX(a0:ae):=mkF (p:=λβ (κ:KT ρ) (g:Int->Int->Int->U ρ)=>∀c a b,κ ([.d (.int .i64 c),.d (.int .i64 a),.d (.int .i64 b)],[])=g c a b) (ds:=λβ=>[(gM β) a0]) au6 (λ_=>rfl) _
def sY(a0:ae)(g0):=(sX (ρ:=ρ) a0).1 g0
@[go_sem] def aab:=wk (sY (ρ:=ρ) (ae.mk z3 z4 z5 z6 z22)) ((sX (ae.mk z3 z4 z5 z6 z22)).2 β κ _ (λ_ _ _=>rfl))
section
variable(p0:Int)(p1:Int)(p2:J aw)(p3:J aB)(p4:J aD)(p5:J az)(p6:J aX)
@[go_sem] def md(β:Bool)(n0:Nat)(a:Int)(b:J (J UInt8)):St:=⟨[(1,.d (.int .i64 p0)),(2,.d (.int .i64 p1)),(3,.loc (aj.l 3 0) [] (0) 0),(7,.aH (.l 7 0) [] 0 n0),(8,.d (.int .i64 a))],[((3,0),.own [.d (.agg [.sl β (List.map dB p2),.sl β (List.map dJ p3),.sl β (List.map dP p4),.sl β (List.map (dL β) p5),.sl β (List.map (fw β) p6)])]),((7,0),.own (tl eS b))],[]⟩
@[go_sem] def yh:=mkL (p:=λβ (c:Int->(J (J UInt8))->((Int)×(J (J UInt8))->U ρ)->XT ρ->U ρ)=>∀(R:St->U ρ) g κ,(∀n0 b a,n0=List.length a->R (md p0 p1 p2 p3 p4 p5 p6 β n0 b a)=g (b,a))->∀b a,go P hints lm b73 ada.1 (md p0 p1 p2 p3 p4 p5 p6 β (List.length a) b a) (kLp R κ)=c b a g κ) _ _
def yi(β:Bool)(κ:XT ρ)(n0:Nat)(c:Int)(b:J (J UInt8))(a:n0=List.length b):=ll (S:=λn0=>md p0 p1 p2 p3 p4 p5 p6 β n0 c b) a (dD (κ:=κ) (Φ:=λv k=>(yh p0 p1 p2 p3 p4 p5 p6 (ρ:=ρ)).f β v.1 v.2 k κ) ada.2 (S:=λv=>md p0 p1 p2 p3 p4 p5 p6 β (List.length v.2) v.1 v.2) (by intro R g d v;exact(yh p0 p1 p2 p3 p4 p5 p6 (ρ:=ρ)).ok β R g κ (λn0 c b a=>by subst a;exact d (c,b)) v.1 v.2) (c,b))
end
@[go_sem] def UH:=wl (yi z0 z1 z3 z4 z5 z6 z22 false η 0 z9 [] rfl)
@[go_sem] def UI:=wl (yi z0 z1 z3 z4 z5 z6 z22 true η 0 z9 [] rfl)
section
variable(p0:Int)(p1:Int)(p2:J aw)(p3:J aB)(p4:J aD)(p5:J az)(p6:J aX)
@[go_sem] def me(β:Bool)(n0:Nat)(a:Int)(b:J (J UInt8)):St:=⟨[(1,.d (.int .i64 p0)),(2,.d (.int .i64 p1)),(3,.loc (aj.l 3 0) [] (0) 0),(7,.aH (.l 7 0) [] 0 n0),(9,.d (.int .i64 a))],[((3,0),.own [.d (.agg [.sl β (List.map dB p2),.sl β (List.map dJ p3),.sl β (List.map dP p4),.sl β (List.map (dL β) p5),.sl β (List.map (fw β) p6)])]),((7,0),.own (tl eS b))],[]⟩
@[go_sem] def yj:=mkL (p:=λβ (c:Int->(J (J UInt8))->((Int)×(J (J UInt8))->U ρ)->XT ρ->U ρ)=>∀(R:St->U ρ) g κ,(∀n0 b a,n0=List.length a->R (me p0 p1 p2 p3 p4 p5 p6 β n0 b a)=g (b,a))->∀b a,go P hints lm b73 adb.1 (me p0 p1 p2 p3 p4 p5 p6 β (List.length a) b a) (kLp R κ)=c b a g κ) _ _
def yk(β:Bool)(κ:XT ρ)(n0:Nat)(c:Int)(b:J (J UInt8))(a:n0=List.length b):=ll (S:=λn0=>me p0 p1 p2 p3 p4 p5 p6 β n0 c b) a (dD (κ:=κ) (Φ:=λv k=>(yj p0 p1 p2 p3 p4 p5 p6 (ρ:=ρ)).f β v.1 v.2 k κ) adb.2 (S:=λv=>me p0 p1 p2 p3 p4 p5 p6 β (List.length v.2) v.1 v.2) (by intro R g d v;exact(yj p0 p1 p2 p3 p4 p5 p6 (ρ:=ρ)).ok β R g κ (λn0 c b a=>by subst a;exact d (c,b)) v.1 v.2) (c,b))
end
@[go_sem] def YM(a:z12=List.length z24):=wl (yk z0 z1 z3 z4 z5 z6 z22 false η z12 z9 z24 a)
@[go_sem] def YN(a:z12=List.length z24):=wl (yk z0 z1 z3 z4 z5 z6 z22 true η z12 z9 z24 a)
section
variable(p0:Int)(p1:Int)(p2:J aw)(p3:J aB)(p4:J aD)(p5:J az)(p6:J aX)
@[go_sem] def mf(β:Bool)(n0:Nat)(a:Int)(b:J (J UInt8)):St:=⟨[(1,.d (.int .i64 p0)),(2,.d (.int .i64 p1)),(3,.loc (aj.l 3 0) [] (0) 0),(7,.aH (.l 7 0) [] 0 n0),(10,.d (.int .i64 a))],[((3,0),.own [.d (.agg [.sl β (List.map dB p2),.sl β (List.map dJ p3),.sl β (List.map dP p4),.sl β (List.map (dL β) p5),.sl β (List.map (fw β) p6)])]),((7,0),.own (tl eS b))],[]⟩
@[go_sem] def yl:=mkL (p:=λβ (c:Int->(J (J UInt8))->((Int)×(J (J UInt8))->U ρ)->XT ρ->U ρ)=>∀(R:St->U ρ) g κ,(∀n0 b a,n0=List.length a->R (mf p0 p1 p2 p3 p4 p5 p6 β n0 b a)=g (b,a))->∀b a,go P hints lm b73 adc.1 (mf p0 p1 p2 p3 p4 p5 p6 β (List.length a) b a) (kLp R κ)=c b a g κ) _ _
def ym(β:Bool)(κ:XT ρ)(n0:Nat)(c:Int)(b:J (J UInt8))(a:n0=List.length b):=ll (S:=λn0=>mf p0 p1 p2 p3 p4 p5 p6 β n0 c b) a (dD (κ:=κ) (Φ:=λv k=>(yl p0 p1 p2 p3 p4 p5 p6 (ρ:=ρ)).f β v.1 v.2 k κ) adc.2 (S:=λv=>mf p0 p1 p2 p3 p4 p5 p6 β (List.length v.2) v.1 v.2) (by intro R g d v;exact(yl p0 p1 p2 p3 p4 p5 p6 (ρ:=ρ)).ok β R g κ (λn0 c b a=>by subst a;exact d (c,b)) v.1 v.2) (c,b))
end
@[go_sem] def YO(a:z12=List.length z24):=wl (ym z0 z1 z3 z4 z5 z6 z22 false η z12 z9 z24 a)
@[go_sem] def YP(a:z12=List.length z24):=wl (ym z0 z1 z3 z4 z5 z6 z22 true η z12 z9 z24 a)
section
variable(p0:Int)(p1:Int)(p2:J aw)(p3:J aB)(p4:J aD)(p5:J az)(p6:J aX)
@[go_sem] def mg(β:Bool)(n0:Nat)(a:Int)(b:J (J UInt8)):St:=⟨[(1,.d (.int .i64 p0)),(2,.d (.int .i64 p1)),(3,.loc (aj.l 3 0) [] (0) 0),(7,.aH (.l 7 0) [] 0 n0),(11,.d (.int .i64 a))],[((3,0),.own [.d (.agg [.sl β (List.map dB p2),.sl β (List.map dJ p3),.sl β (List.map dP p4),.sl β (List.map (dL β) p5),.sl β (List.map (fw β) p6)])]),((7,0),.own (tl eS b))],[]⟩
@[go_sem] def yn:=mkL (p:=λβ (c:Int->(J (J UInt8))->((Int)×(J (J UInt8))->U ρ)->XT ρ->U ρ)=>∀(R:St->U ρ) g κ,(∀n0 b a,n0=List.length a->R (mg p0 p1 p2 p3 p4 p5 p6 β n0 b a)=g (b,a))->∀b a,go P hints lm b73 ade.1 (mg p0 p1 p2 p3 p4 p5 p6 β (List.length a) b a) (kLp R κ)=c b a g κ) _ _
def yp(β:Bool)(κ:XT ρ)(n0:Nat)(c:Int)(b:J (J UInt8))(a:n0=List.length b):=ll (S:=λn0=>mg p0 p1 p2 p3 p4 p5 p6 β n0 c b) a (dD (κ:=κ) (Φ:=λv k=>(yn p0 p1 p2 p3 p4 p5 p6 (ρ:=ρ)).f β v.1 v.2 k κ) ade.2 (S:=λv=>mg p0 p1 p2 p3 p4 p5 p6 β (List.length v.2) v.1 v.2) (by intro R g d v;exact(yn p0 p1 p2 p3 p4 p5 p6 (ρ:=ρ)).ok β R g κ (λn0 c b a=>by subst a;exact d (c,b)) v.1 v.2) (c,b))
end
@[go_sem] def YQ(a:z12=List.length z24):=wl (yp z0 z1 z3 z4 z5 z6 z22 false η z12 z9 z24 a)
@[go_sem] def YR(a:z12=List.length z24):=wl (yp z0 z1 z3 z4 z5 z6 z22 true η z12 z9 z24 a)
section
variable(p0:Int)(p1:Int)(p2:J aw)(p3:J aB)(p4:J aD)(p5:J az)(p6:J aX)
@[go_sem] def mh(β:Bool)(n0:Nat)(a:Int)(b:J (J UInt8)):St:=⟨[(1,.d (.int .i64 p0)),(2,.d (.int .i64 p1)),(3,.loc (aj.l 3 0) [] (0) 0),(7,.aH (.l 7 0) [] 0 n0),(12,.d (.int .i64 a))],[((3,0),.own [.d (.agg [.sl β (List.map dB p2),.sl β (List.map dJ p3),.sl β (List.map dP p4),.sl β (List.map (dL β) p5),.sl β (List.map (fw β) p6)])]),((7,0),.own (tl eS b))],[]⟩
@[go_sem] def yq:=mkL (p:=λβ (c:Int->(J (J UInt8))->((Int)×(J (J UInt8))->U ρ)->XT ρ->U ρ)=>∀(R:St->U ρ) g κ,(∀n0 b a,n0=List.length a->R (mh p0 p1 p2 p3 p4 p5 p6 β n0 b a)=g (b,a))->∀b a,go P hints lm b73 adf.1 (mh p0 p1 p2 p3 p4 p5 p6 β (List.length a) b a) (kLp R κ)=c b a g κ) _ _
def yr(β:Bool)(κ:XT ρ)(n0:Nat)(c:Int)(b:J (J UInt8))(a:n0=List.length b):=ll (S:=λn0=>mh p0 p1 p2 p3 p4 p5 p6 β n0 c b) a (dD (κ:=κ) (Φ:=λv k=>(yq p0 p1 p2 p3 p4 p5 p6 (ρ:=ρ)).f β v.1 v.2 k κ) adf.2 (S:=λv=>mh p0 p1 p2 p3 p4 p5 p6 β (List.length v.2) v.1 v.2) (by intro R g d v;exact(yq p0 p1 p2 p3 p4 p5 p6 (ρ:=ρ)).ok β R g κ (λn0 c b a=>by subst a;exact d (c,b)) v.1 v.2) (c,b))
end
@[go_sem] def YS(a:z12=List.length z24):=wl (yr z0 z1 z3 z4 z5 z6 z22 false η z12 z9 z24 a)
@[go_sem] def YT(a:z12=List.length z24):=wl (yr z0 z1 z3 z4 z5 z6 z22 true η z12 z9 z24 a)
def kI(a0:ae)(c:Int)(b:Int):=mkF (p:=λβ (κ:KT ρ) (g:(J (J UInt8))->U ρ)=>∀a,κ ([.d (.sl false (List.map eS a))],[])=g a) (ds:=λβ=>[(gM β) a0,eI c,eI b]) avo (λ_=>rfl) _
def ik(a0:ae)(a:Int)(b:Int)(g0):=(kI (ρ:=ρ) a0 a b).1 g0
@[go_sem] def ad3:=wk (ik (ρ:=ρ) (ae.mk z3 z4 z5 z6 z22) z0 z1) ((kI (ae.mk z3 z4 z5 z6 z22) z0 z1).2 β κ _ (λ_=>rfl))
section
variable(p0:J (J UInt8))(p1:J UInt8)
@[go_sem] def vw(β:Bool)(a:Int):St:=⟨[(0,.d (.sl β (List.map eS p0))),(1,.d (.str p1)),(5,.d (.int .i64 a))],[],[]⟩
@[go_sem] def DO:=mkL (p:=λβ (b:Int->(Int->U ρ)->XT ρ->U ρ)=>∀(R:St->U ρ) g κ,(∀a,R (vw p0 p1 β a)=g a)->∀a,go P hints Cu b72 ac9.1 (vw p0 p1 β a) (kLp R κ)=b a g κ) _ _
def DP(β:Bool)(κ:XT ρ)(a:Int):=dD (κ:=κ) (Φ:=λv k=>(DO p0 p1 (ρ:=ρ)).f β v k κ) ac9.2 (S:=λv=>vw p0 p1 β v) (by intro R g b v;exact(DO p0 p1 (ρ:=ρ)).ok β R g κ (λa=>b a) v) a
end
@[go_sem] def aac:=wl (DP z24 z14 false η z0)
@[go_sem] def aad:=wl (DP z24 z14 true η z0)
def CF(a0:J (J UInt8))(b:J UInt8):=mkF (p:=λβ (κ:KT ρ) (g:Bool->U ρ)=>∀a,κ ([.d (.bool a)],[])=g a) (ds:=λβ=>[(Yc β) a0,eS b]) avn (λ_=>rfl) _
def CG(a0:J (J UInt8))(a:J UInt8)(g0):=(CF (ρ:=ρ) a0 a).1 g0
@[go_sem] def aje:=wk (CG (ρ:=ρ) z24 z14) ((CF z24 z14).2 β κ _ (λ_=>rfl))
section
variable(p0:J aw)(p1:J aB)(p2:J aD)(p3:J az)(p4:J aX)
@[go_sem] def sZ(β:Bool)(a:Int):St:=⟨[(1,.loc (aj.l 1 0) [] (0) 0),(2,.loc (aj.l 2 0) [] (0) 0),(5,.d (.int .i64 a))],[((1,0),.own [.d (.agg [.sl β (List.map dB p0),.sl β (List.map dJ p1),.sl β (List.map dP p2),.sl β (List.map (dL β) p3),.sl β (List.map (fw β) p4)])]),((2,0),.own [.d (.agg [.int .i64 (0),.int .i64 (0),.int .i64 (0),.int .i64 (0)])])],[]⟩
@[go_sem] def Bq:=mkL (p:=λβ (b:Int->(Int->U ρ)->XT ρ->U ρ)=>∀(R:St->U ρ) g κ,(∀a,R (sZ p0 p1 p2 p3 p4 β a)=g a)->∀a,go P hints uF b47 acR.1 (sZ p0 p1 p2 p3 p4 β a) (kLp R κ)=b a g κ) _ _
def Br(β:Bool)(κ:XT ρ)(a:Int):=dD (κ:=κ) (Φ:=λv k=>(Bq p0 p1 p2 p3 p4 (ρ:=ρ)).f β v k κ) acR.2 (S:=λv=>sZ p0 p1 p2 p3 p4 β v) (by intro R g b v;exact(Bq p0 p1 p2 p3 p4 (ρ:=ρ)).ok β R g κ (λa=>b a) v) a
end
@[go_sem] def s_:=wl (Br z3 z4 z5 z6 z22 false η z0)
@[go_sem] def s?:=wl (Br z3 z4 z5 z6 z22 true η z0)
section
variable(p0:J aw)(p1:J aB)(p2:J aD)(p3:J az)(p4:J aX)
@[go_sem] def s6(β:Bool)(a:Int):St:=⟨[(1,.loc (aj.l 1 0) [] (0) 0),(2,.loc (aj.l 2 0) [] (0) 0),(8,.d (.int .i64 a))],[((1,0),.own [.d (.agg [.sl β (List.map dB p0),.sl β (List.map dJ p1),.sl β (List.map dP p2),.sl β (List.map (dL β) p3),.sl β (List.map (fw β) p4)])]),((2,0),.own [.d (.agg [.int .i64 (0),.int .i64 (0),.int .i64 (0),.int .i64 (0)])])],[]⟩
@[go_sem] def Bs:=mkL (p:=λβ (b:Int->(Int->U ρ)->XT ρ->U ρ)=>∀(R:St->U ρ) g κ,(∀a,R (s6 p0 p1 p2 p3 p4 β a)=g a)->∀a,go P hints uF b47 acS.1 (s6 p0 p1 p2 p3 p4 β a) (kLp R κ)=b a g κ) _ _
def Bt(β:Bool)(κ:XT ρ)(a:Int):=dD (κ:=κ) (Φ:=λv k=>(Bs p0 p1 p2 p3 p4 (ρ:=ρ)).f β v k κ) acS.2 (S:=λv=>s6 p0 p1 p2 p3 p4 β v) (by intro R g b v;exact(Bs p0 p1 p2 p3 p4 (ρ:=ρ)).ok β R g κ (λa=>b a) v) a
end
@[go_sem] def t_:=wl (Bt z3 z4 z5 z6 z22 false η z0)
@[go_sem] def t?:=wl (Bt z3 z4 z5 z6 z22 true η z0)
def zX(a0:ae):=mkF (p:=λβ (κ:KT ρ) (g:Int->Int->Int->U ρ)=>∀c a b,κ ([.d (.agg [.int .i64 c,.int .i64 a,.int .i64 b,.int .i64 (0)])],[])=g c a b) (ds:=λβ=>[(gM β) a0]) au4 (λ_=>rfl) _
def zY(a0:ae)(g0):=(zX (ρ:=ρ) a0).1 g0
@[go_sem] def agf:=wk (zY (ρ:=ρ) (ae.mk z3 z4 z5 z6 z22)) ((zX (ae.mk z3 z4 z5 z6 z22)).2 β κ _ (λ_ _ _=>rfl))
section
variable(p0:Int)(p1:J aw)(p2:J aB)(p3:J aD)(p4:J az)(p5:J aX)(p6:J UInt8)(p7:Int)(p8:Int)(p9:J aB)(p10:J aK)
@[go_sem] def nb(β:Bool)(a:Int):St:=⟨[(1,.d (.int .i64 p0)),(2,.loc (aj.l 2 0) [] (0) 0),(4,.loc (aj.l 4 0) [] (0) 0),(5,.loc (aj.l 5 0) [] (0) 0),(9,.d (.int .i64 a))],[((2,0),.own [.d (.agg [.sl β (List.map dB p1),.sl β (List.map dJ p2),.sl β (List.map dP p3),.sl β (List.map (dL β) p4),.sl β (List.map (fw β) p5)])]),((4,0),.own [.d (.agg [.int .i64 (0),.int .i64 (0),.int .i64 (0),.int .i64 (0)])]),((5,0),.own [.d (.agg [.str p6,.int .i64 p7,.int .i64 p8,.sl β (List.map dJ p9),.sl β (List.map (fU β) p10)])])],[]⟩
@[go_sem] def tL:=mkL (p:=λβ (b:Int->(Int->U ρ)->XT ρ->U ρ)=>∀(R:St->U ρ) g κ,(∀a,R (nb p0 p1 p2 p3 p4 p5 p6 p7 p8 p9 p10 β a)=g a)->∀a,go P hints Cp b48 acT.1 (nb p0 p1 p2 p3 p4 p5 p6 p7 p8 p9 p10 β a) (kLp R κ)=b a g κ) _ _
def tM(β:Bool)(κ:XT ρ)(a:Int):=dD (κ:=κ) (Φ:=λv k=>(tL p0 p1 p2 p3 p4 p5 p6 p7 p8 p9 p10 (ρ:=ρ)).f β v k κ) acT.2 (S:=λv=>nb p0 p1 p2 p3 p4 p5 p6 p7 p8 p9 p10 β v) (by intro R g b v;exact(tL p0 p1 p2 p3 p4 p5 p6 p7 p8 p9 p10 (ρ:=ρ)).ok β R g κ (λa=>b a) v) a
end
@[go_sem] def UJ:=wl (tM z0 z3 z4 z5 z6 z22 z14 z1 z9 z7 z18 false η z10)
@[go_sem] def UK:=wl (tM z0 z3 z4 z5 z6 z22 z14 z1 z9 z7 z18 true η z10)
def qk(a0:ae)(e:Int):=mkF (p:=λβ (κ:KT ρ) (g:Int->Int->Int->Int->U ρ)=>∀d b a c,κ ([.d (.agg [.int .i64 d,.int .i64 b,.int .i64 a,.int .i64 c])],[])=g d b a c) (ds:=λβ=>[(gM β) a0,eI e]) au5 (λ_=>rfl) _
def ql(a0:ae)(a:Int)(g0):=(qk (ρ:=ρ) a0 a).1 g0
@[go_sem] def t!:=wk (ql (ρ:=ρ) (ae.mk z3 z4 z5 z6 z22) z0) ((qk (ae.mk z3 z4 z5 z6 z22) z0).2 β κ _ (λ_ _ _ _=>rfl))
@[go_sem] def RN:=wk (oi (ρ:=ρ) z11 (au.mk z3 z4 z5 z6 ([]:J aB) z0)) ((sA z11 (au.mk z3 z4 z5 z6 ([]:J aB) z0)).2 β κ _ (λ_ _=>rfl))
def lr(a0:ae)(b:Int):=mkF (p:=λβ (κ:KT ρ) (g:Int->U ρ)=>∀a,κ ([.d (.int .i64 a)],[])=g a) (ds:=λβ=>[(gM β) a0,eI b]) au7 (λ_=>rfl) _
def jm(a0:ae)(a:Int)(g0):=(lr (ρ:=ρ) a0 a).1 g0
@[go_sem] def RO:=wk (jm (ρ:=ρ) (ae.mk z3 z4 z5 z6 z22) z0) ((lr (ae.mk z3 z4 z5 z6 z22) z0).2 β κ _ (λ_=>rfl))
section
variable(p0:J aw)(p1:J aB)(p2:J aD)(p3:J az)(p4:J aX)
@[go_sem] def qm(β:Bool)(d:Int)(e:Int)(b:Int)(c:Int)(a:Int):St:=⟨[(1,.loc (aj.l 1 0) [] (0) 0),(2,.loc (aj.l 2 0) [] (0) 0),(3,.loc (aj.l 3 0) [] (0) 0),(4,.d (.int .i64 d))],[((1,0),.own [.d (.agg [.sl β (List.map dB p0),.sl β (List.map dJ p1),.sl β (List.map dP p2),.sl β (List.map (dL β) p3),.sl β (List.map (fw β) p4)])]),((2,0),.own [.d (.agg [.int .i64 (0),.int .i64 (0),.int .i64 (0),.int .i64 (0)])]),((3,0),.own [.d (.agg [.int .i64 e,.int .i64 b,.int .i64 c,.int .i64 a])])],[]⟩
@[go_sem] def yt:=mkL (p:=λβ (f:Int->Int->Int->Int->Int->((Int)×(Int)×(Int)×(Int)×(Int)->U ρ)->XT ρ->U ρ)=>∀(R:St->U ρ) g κ,(∀b c e a d,R (qm p0 p1 p2 p3 p4 β b c e a d)=g (b,c,e,a,d))->∀b c e a d,go P hints uD b25 acJ.1 (qm p0 p1 p2 p3 p4 β b c e a d) (kLp R κ)=f b c e a d g κ) _ _
def yu(β:Bool)(κ:XT ρ)(a:Int)(b:Int)(c:Int)(d:Int)(e:Int):=dD (κ:=κ) (Φ:=λv k=>(yt p0 p1 p2 p3 p4 (ρ:=ρ)).f β v.1 v.2.1 v.2.2.1 v.2.2.2.1 v.2.2.2.2 k κ) acJ.2 (S:=λv=>qm p0 p1 p2 p3 p4 β v.1 v.2.1 v.2.2.1 v.2.2.2.1 v.2.2.2.2) (by intro R g f v;exact(yt p0 p1 p2 p3 p4 (ρ:=ρ)).ok β R g κ (λa b c d e=>f (a,b,c,d,e)) v.1 v.2.1 v.2.2.1 v.2.2.2.1 v.2.2.2.2) (a,b,c,d,e)
end
@[go_sem] def YU:=wl (yu z3 z4 z5 z6 z22 false η z0 z1 z9 z10 z16)
@[go_sem] def YV:=wl (yu z3 z4 z5 z6 z22 true η z0 z1 z9 z10 z16)
section
variable(p0:J aw)(p1:J aB)(p2:J aD)(p3:J az)(p4:J aX)
@[go_sem] def qn(β:Bool)(a:Int):St:=⟨[(1,.loc (aj.l 1 0) [] (0) 0),(2,.loc (aj.l 2 0) [] (0) 0),(8,.d (.int .i64 a))],[((1,0),.own [.d (.agg [.sl β (List.map dB p0),.sl β (List.map dJ p1),.sl β (List.map dP p2),.sl β (List.map (dL β) p3),.sl β (List.map (fw β) p4)])]),((2,0),.own [.d (.agg [.int .i64 (0),.int .i64 (0),.int .i64 (0),.int .i64 (0)])])],[]⟩
@[go_sem] def yw:=mkL (p:=λβ (b:Int->(Int->U ρ)->XT ρ->U ρ)=>∀(R:St->U ρ) g κ,(∀a,R (qn p0 p1 p2 p3 p4 β a)=g a)->∀a,go P hints uD b25 acK.1 (qn p0 p1 p2 p3 p4 β a) (kLp R κ)=b a g κ) _ _
def yx(β:Bool)(κ:XT ρ)(a:Int):=dD (κ:=κ) (Φ:=λv k=>(yw p0 p1 p2 p3 p4 (ρ:=ρ)).f β v k κ) acK.2 (S:=λv=>qn p0 p1 p2 p3 p4 β v) (by intro R g b v;exact(yw p0 p1 p2 p3 p4 (ρ:=ρ)).ok β R g κ (λa=>b a) v) a
end
@[go_sem] def YW:=wl (yx z3 z4 z5 z6 z22 false η z0)
@[go_sem] def YX:=wl (yx z3 z4 z5 z6 z22 true η z0)
def vx(a0:ae):=mkF (p:=λβ (κ:KT ρ) (g:Int->Int->Int->Int->U ρ)=>∀d a b c,κ ([.d (.agg [.int .i64 d,.int .i64 a,.int .i64 b,.int .i64 c])],[])=g d a b c) (ds:=λβ=>[(gM β) a0]) auS (λ_=>rfl) _
def vy(a0:ae)(g0):=(vx (ρ:=ρ) a0).1 g0
@[go_sem] def ad4:=wk (vy (ρ:=ρ) (ae.mk z3 z4 z5 z6 z22)) ((vx (ae.mk z3 z4 z5 z6 z22)).2 β κ _ (λ_ _ _ _=>rfl))
def CH(a0:ae):=mkF (p:=λβ (κ:KT ρ) (g:Bool->U ρ)=>∀a,κ ([.d (.bool a)],[])=g a) (ds:=λβ=>[(gM β) a0]) au1 (λ_=>rfl) _
def CJ(a0:ae)(g0):=(CH (ρ:=ρ) a0).1 g0
@[go_sem] def ajf:=wk (CJ (ρ:=ρ) (ae.mk z3 z4 z5 z6 z22)) ((CH (ae.mk z3 z4 z5 z6 z22)).2 β κ _ (λ_=>rfl))
end
abbrev w64(n:Int):Int:=IntKind.i64.wrap n
def oW(n:Int)(s:au):Bool:=decide (0<=n)&&decide (n<=(s.aa.length:Int))
def kOf(n:Int):Int:=if n=0 then 0 else w64 (1+n)
def i4(l:J aB)(n:Int)(s:au):U aB:=
 if 0<=n then(l[n.toNat]?).bind λv=>if(oW v.aC s&&oW v.aG s)=true then some v else none else none
def Qs(n:Int):Int×Int:=if -1048576<=n/\n<=1048576 then(0,0)else(0,10)
def vz(x:aF)(s:au):Int×Int:=
 if x.Op=5 then(if 1<=s.Self/\s.Self<=(s.aa.length:Int)then(w64 (1+s.Self),0)else(0,8))
 else if x.Op=6 then(if 0<=x.N then match s.ah[x.N.toNat]? with |some c=>if oW c.aC s=true then(0,0)else(0,8) |none=>(0,8)else(0,8))
 else if x.Op=7 then(if 0<=x.N/\w64 (Int.tdiv x.N 16)<(s.ak.length:Int)then match s.ak[(w64 (Int.tdiv x.N 16)).toNat]? with |some p=>if Int.tmod x.N 16<p.bF then(0,0)else(0,8) |none=>(0,8)else(0,8))
 else if x.Op=8 then(if 0<=x.N/\x.N<(s.aa.length:Int)then(w64 (2+x.N),0)else(0,8))
 else(0,8)
def Of:U aB->Int×Int
 |some v=>if v.aG=0 then(kOf v.aC,0)else(0,9)
 |none=>(0,8)
def JH(x:aF)(s:au):Int×Int:=
 if x.Op=1 then Qs x.N
 else if x.Op=2 then Of (i4 s.aq x.N s)
 else if x.Op=4 then Of (i4 s.bB x.N s)
 else vz x s
def RP(x:aF)(k:Int)(s:au):Int×Int:=
 match i4 s.aq x.N s with |some v=>if v.aG=0 then(0,9)else if k=w64 (1+v.aG)then(kOf v.aC,0)else(0,9) |none=>(0,8)
section
variable{ρ:Type}{s:au}
theorem YY{n:Int}{g:Int->Bool->U ρ}:pU n s g=if oW n s=true then g (kOf n) true else g 0 false:=by
 simp only[pU,pT,mkF,oW,kOf]
 by_cases a:n=0
 .subst a;simp
 .by_cases b:n<0
  .simp[a,b,show¬(0<=n)by omega]
  .by_cases c:(s.aa.length:Int)<n
   .simp[a,b,c,show¬(n<=(s.aa.length:Int))by omega]
   .simp[a,b,c,show 0<=n by omega,show n<=(s.aa.length:Int)by omega]
theorem ad5(hs:s.aa.length<=1000){n:Int}(h:oW n s=true):kOf n=0↔n=0:=by
 grind [oW,kOf,lg]
theorem RR{l:J aB}{n:Int}{g:Int->Int->Bool->U ρ}{e:U ρ}(c:∀a b,g a b false=e):kq l n s g=match i4 l n s with |some v=>g (kOf v.aC) (kOf v.aG) true |none=>e:=by
 simp only[kq,m8,mkF,i4,YY]
 by_cases f:n<0
 .simp[f,show¬(0<=n)by omega,c]
 .by_cases h:(l.length:Int)<=n
  .have:l[n.toNat]? =none:=lX (by omega)
   simp[f,h,this,c,show 0<=n by omega]
  .have d:n.toNat<l.length:=by omega
   simp only[f,h,if_false,show 0<=n by omega,if_true,xG d,xS]
   cases i:oW l[n.toNat].aC s <;>cases j:oW l[n.toNat].aG s <;>simp[c]
theorem YZ{n:Int}(h0:0<=n)(hn:n<=9223372036854775807):0<=w64 (Int.tdiv n 16):=by
 grind [lg]
theorem UL{x:aF}(a:x.N<=9223372036854775807){g:Int->Int->U ρ}:sq x s g=g (vz x s).1 (vz x s).2:=by
 simp only[sq,sk,mkF,vz,YY]
 by_cases h5:x.Op=5
 .grind
 grind [YZ]
theorem wG{l:J Int}(hl:l.length<=1000){g:Bool->U ρ}:jJ l g=g (l.all λn=>decide (-1048576<=n)&&decide (n<=1048576)):=by
 simp only[jJ,nK,mkF]
 refine(iterC_all l.length (λi:Nat=>(i:Int)) (λi=>match l[i]? with |some n=>decide (-1048576<=n)&&decide (n<=1048576) |none=>true) (g false) (g true) (λi k a=> ?_) (λk=> ?_)).trans ?_
 .grind [eW]
 .grind
 grind [List.mem_iff_getElem]
theorem pB{n:Int}{a b:U ρ}:(Cz n 0 λ_ y=>if y=false then a else b)=if Qs n=(0,0)then b else a:=by
 simp only[Cz,Cy,mkF,DK,uL,wG (show([n,0]:J Int).length<=1000 by simp),wG (show([w64 (n+0)]:J Int).length<=1000 by simp),Qs]
 by_cases h:-1048576<=n/\n<=1048576
 .have c:IntKind.i64.wrap (n+0)=n:=by rw[lg (by omega) (by omega)];omega
  simp only[c];simp[h]
 .simp only[h,if_false]
  have:(decide (-1048576<=n)&&decide (n<=1048576))=false:=by
   by_cases a:-1048576<=n
   .by_cases b:n<=1048576
    .exact absurd ⟨a,b⟩ h
    .simp[a,b]
   .simp[a]
  simp[this]
theorem Qt{n:Int}{g:Bool->U ρ}:su n s g=g (oW n s):=by
 simp only[su,sr,mkF,oW]
 by_cases h:0<=n <;>simp[h]
theorem Bu{n:Int}{g:Int->U ρ}:sy n g=g (kOf n):=by
 grind [sy,sw,mkF,kOf]
theorem F3{l:J aB}{n:Int}{g:J UInt8->Int->Int->Int->Int->Int->Bool->U ρ}{e:U ρ}(h:∀a b c d f i,g a b c d f i false=e):lp l n s g=match i4 l n s with |some v=>g v.Name v.aC v.aG v.Lo v.Hi v.Init true |none=>e:=by
 simp only[lp,oh,mkF,i4,Qt]
 by_cases k:n<0
 .simp[k,show¬(0<=n)by omega,h]
 .by_cases m:(l.length:Int)<=n
  .have:l[n.toNat]? =none:=lX (by omega)
   simp[k,m,this,h,show 0<=n by omega]
  .have j:n.toNat<l.length:=by omega
   simp only[k,m,if_false,show 0<=n by omega,if_true,xG j,xS]
   cases o:oW l[n.toNat].aC s <;>cases p:oW l[n.toNat].aG s <;>simp[h]
theorem Y0{x:aF}(q:x.N<=9223372036854775807)(i:x.Op=1\/x.Op=2\/x.Op=4\/x.Op=5\/x.Op=6\/x.Op=7\/x.Op=8){g:Int->Int->U ρ}:zI x s g=g (JH x s).1 (JH x s).2:=by
 simp only[zI,zH,mkF,JH,Bu]
 have p:∀l:J aB,(lp l x.N s λo f c m k n d=>if d=false then g 0 8 else if c=0 then g (kOf f) 0 else g 0 9)=g (Of (i4 l x.N s)).1 (Of (i4 l x.N s)).2:=λl=>by
  rw[F3 (e:=g 0 8) (λ_ _ _ _ _ _=>by simp)]
  grind [Of]
 obtain h |h |h |h |h |h |h:=i
 .grind [Qs]
 .grind
 .grind
 .grind [vz]
 .simp only[h,vz,if_true,show¬((6:Int)=1)by decide,show¬((6:Int)=2)by decide,show¬((6:Int)=4)by decide,show¬((6:Int)=5)by decide,if_false,mc,mb,mkF,Qt]
  by_cases a:x.N<0
  .simp[a,show¬(0<=x.N)by omega]
  .by_cases b:(s.ah.length:Int)<=x.N
   .have:s.ah[x.N.toNat]? =none:=lX (by omega)
    simp[a,b,this]
   .have j:x.N.toNat<s.ah.length:=by omega
    simp only[a,b,if_false,show 0<=x.N by omega,if_true,xG j,xS]
    cases oW s.ah[x.N.toNat].aC s <;>simp
 .grind [vz,YZ]
 grind [vz]
end
def e9(op:Int):Int:=if op=3 then 1 else if 1<=op/\op<=8 then 0 else if opH op=true then opP op else -1
def ok29(a:Int)(l:J Int)(i:Nat):Bool:=(l.drop i).all λy=>(decide (a=-1) || decide (y=a))&&decide (l[0]? =some y)
def wY(op:Int)(l:J Int):Int×Int:=if ok29 (opT op) l 0=true then(opM op,0)else(0,9)
def jn(x:aF)(s:au)(st:J Int):Int×Int:=
 if x.Op=3 then(match st.getLast? with |some k=>RP x k s |none=>(0,8))
 else if e9 x.Op=0 then JH x s
 else wY x.Op (st.drop (st.length - (e9 x.Op).toNat))
def gP(x:aF)(s:au)(st:J Int):Int×J Int:=
 if e9 x.Op<0 then(3,st)else if(st.length:Int)<e9 x.Op then(4,st)
 else if(jn x s st).2≠0 then((jn x s st).2,st)
 else(if 12<st.length - (e9 x.Op).toNat+1 then 12 else 0,st.take (st.length - (e9 x.Op).toNat)++[(jn x s st).1])
def lB(s:au):List aF->List Int->Int×List Int
 | [],a=>(0,a)
 |x::r,a=>if(gP x s a).1=0 then lB s r (gP x s a).2 else gP x s a
def lu(e:J aF)(s:au):Int×Int:=
 if 24<e.length then(0,5)else if e=[]then(0,4)
 else if(lB s e []).1≠0 then(0,(lB s e []).1)else if 1<(lB s e []).2.length then(0,5)else((lB s e []).2.headD 0,0)
theorem lw{x:Int}:opH x=true↔9<=x/\x<=19:=by
 simp only[opH,ic,yD];omega
theorem vA{x:Int}(h:9<=x/\x<=19):opP x=if x<=10 then 1 else 2:=by
 unfold opP;split
 .simp_all
 split
 .simp_all
 by_cases h10:x<=10
 .omega
 grind
theorem mM(op:Int):(e9 op=-1/\(op<1\/19<op))\/(e9 op=0/\1<=op/\op<=8/\op≠3)\/(e9 op=1/\(op=3\/op=9\/op=10))\/(e9 op=2/\11<=op/\op<=19):=by
 grind [e9,lw,vA]
section
variable{ρ:Type}{s:au}
theorem UM{op:Int}{g:Int->U ρ}:uP op g=g (e9 op):=by
 simp only[uP,uO,mkF]
 obtain⟨h,q⟩ |⟨h,q⟩ |⟨h,q⟩ |⟨h,q⟩:=mM op
 .rw[h]
  simp only[show¬op=1 by omega,show¬op=2 by omega,show¬op=4 by omega,show¬op=5 by omega,show¬op=6 by omega,show¬op=7 by omega,show¬op=8 by omega,show¬op=3 by omega,show¬op=9 by omega,show¬op=10 by omega,show¬op=11 by omega,show¬op=12 by omega,show¬op=13 by omega,show¬op=14 by omega,show¬op=15 by omega,show¬op=16 by omega,show¬op=17 by omega,show¬op=18 by omega,show¬op=19 by omega,if_false]
 .grind
 .grind
 .rw[h]
  obtain⟨b,a⟩:=q
  have:op=11\/op=12\/op=13\/op=14\/op=15\/op=16\/op=17\/op=18\/op=19:=by omega
  rcases this with q |q |q |q |q |q |q |q |q <;>subst q <;>simp
theorem JI{x:aF}{k:Int}:RP x k s=match i4 s.aq x.N s with |some v=>if v.aG=0 then(0,9)else if k=w64 (1+v.aG)then(kOf v.aC,0)else(0,9) |none=>(0,8):=rfl
theorem UN{x:aF}(h:x.Op=3){k:Int}{g:Int->Int->U ρ}:nT x k s g=g (RP x k s).1 (RP x k s).2:=by
 simp only[nT,wD,mkF,Bu,h,if_true];rw[F3 (e:=g 0 8) (λ_ _ _ _ _ _=>by simp),JI]
 grind
theorem agh{a k:Int}:ok29 a [k] 0=(decide (a=-1) || decide (k=a)):=by simp[ok29]
theorem agi{c a b:Int}:ok29 c [a,b] 0=((decide (c=-1) || decide (a=c))&&decide (a=b)):=by
 grind [ok29]
theorem aae{x:aF}(h:x.Op=9\/x.Op=10){k:Int}{g:Int->Int->U ρ}:nT x k s g=g (wY x.Op [k]).1 (wY x.Op [k]).2:=by
 simp only[nT,wD,mkF,wY,agh]
 obtain h |h:=h
 .grind [opT,opM]
 grind [opT,opM]
theorem aaf{op:Int}(h:11<=op/\op<=19){a b:Int}{g:Int->Int->U ρ}:wE op a b g=g (wY op [a,b]).1 (wY op [a,b]).2:=by
 simp only[wE,CA,mkF,wY,agi]
 have:op=11\/op=12\/op=13\/op=14\/op=15\/op=16\/op=17\/op=18\/op=19:=by omega
 by_cases c:a=b
 .subst c
  rcases this with q |q |q |q |q |q |q |q |q <;>subst q
  .grind [opT,opM]
  .grind [opT,opM]
  .grind [opT,opM]
  .simp[opT,opM]
  .simp[opT,opM]
  .grind [opT,opM]
  .grind [opT,opM]
  .grind [opT,opM]
  grind [opT,opM]
 grind
end
theorem plainT_tl(l:J Int):fW (tl eI l)=true:=by
 induction l with
 |nil=>rfl
 |cons a l b=>grind [tl,fW]
def Og{ρ:Type}(g:Int->Int->U ρ)(p:Int×J Int):U ρ:=
 if p.1≠0 then g 0 p.1 else if 1<p.2.length then g 0 5 else(p.2[0]?).bind λa=>g a 0
section
variable{ρ:Type}{s:au}
theorem HJ{n m:Nat}(h:m<=n)(hn:n<4611686018427387904):IntKind.i64.wrap ((n:Int) - (m:Int))=((n - m:Nat):Int):=by grind [lg]
theorem Y1{e:J aF}(P:∀x∈e,x.N<=9223372036854775807){g:Int->Int->U ρ}:oi e s g=if 24<e.length then g 0 5 else if e=[]then g 0 4 else Og g (lB s e []):=by
 simp only[oi,sA,mkF]
 by_cases w:24<e.length
 .grind
 rw[if_neg (by omega),if_neg w]
 by_cases K:e=[]
 .grind
 rw[if_neg K,if_neg K];refine qD (λv:Int×J Int=>∃i:Nat,v.1=i/\i<=e.length/\v.2.length<=12) (λv=>Og g (lB s (e.drop v.1.toNat) v.2)) (λv=>e.length - v.1.toNat) ?_ (v:=((0:Int),([]:J Int))) ⟨0,rfl,eJ _,by simp⟩ |>.trans (by simp)
 rintro⟨i,a⟩ k ⟨n,M,N,u⟩ hk
 simp only at M u N |-
 subst M
 by_cases d:n<e.length
 .rw[if_pos (by omega),if_pos (by omega),xV,xG d,xS,xW d,lB]
  have o:∀b:J Int,b.length<=12->k (w64 ((n:Int)+1),b)=Og g (lB s (e.drop (n+1)) b):=λb X=>by
   have F:w64 ((n:Int)+1)=((n+1:Nat):Int):=eW (by omega)
   rw[F];exact hk (((n+1:Nat):Int),b) ⟨n+1,rfl,by omega,X⟩ (by grind)
  have L:=P e[n] (eO d)
  revert o
  generalize e[n]=x at L |-
  intro o;simp only[UM];have Y:∀(y:Int) (b:J Int),y≠0->Og g (if(y,b).1=0 then lB s (e.drop (n+1)) (y,b).2 else(y,b))=g 0 y:=λy b T=>by simp[T,Og]
  have f:∀(m:Nat) (r:Int×Int),e9 x.Op=(m:Int)->m<=a.length->m<=2->jn x s a=r->
    (if r.2=0 then if((a.length - m:Nat):Int)<=(a.length:Int)then if fW (tl eI (List.take (a.length - m) a))=true then if min (a.length - m) a.length * 8<=140737488355328/\min (a.length - m) a.length<=9223372036854775807 then if(min (a.length - m) a.length+1) * 8<=140737488355328/\min (a.length - m) a.length<=9223372036854775806 then
     if(12:Int)<((min (a.length - m) a.length:Nat):Int)+1 then g 0 12 else k (w64 ((n:Int)+1),List.take (min (a.length - m) a.length) (List.take (a.length - m) a)++[r.1])else none else none else none else none else g 0 r.2)=
     Og g (if(gP x s a).1=0 then lB s (e.drop (n+1)) (gP x s a).2 else gP x s a):=by
   intro m r Q Z R E
   have F:gP x s a=if r.2≠0 then(r.2,a)else(if 12<a.length - m+1 then 12 else 0,a.take (a.length - m)++[r.1]):=by
    unfold gP;rw[Q,if_neg (by omega),if_neg (by omega),E,xV]
   rw[F]
   by_cases G:r.2=0
   .have C:fW (tl eI (List.take (a.length - m) a))=true:=plainT_tl _
    have p:min (a.length - m) a.length=a.length - m:=by omega
    simp only[G,if_true,C,p,List.take_take,Nat.min_self];rw[if_pos (by omega),if_pos ⟨by omega,by omega⟩,if_pos ⟨by omega,by omega⟩]
    by_cases W:12<a.length - m+1
    .rw[if_pos (by omega)]
     simp_all
    grind
   .grind
  obtain⟨h,q⟩ |⟨h,q⟩ |⟨h,q⟩ |⟨h,q⟩:=mM x.Op
  .rw[h,if_pos (by omega),show gP x s a=(3,a)by unfold gP;rw[h,if_pos (by omega)]]
   grind
  .have V:e9 x.Op=((0:Nat):Int):=h
   have B:x.Op=1\/x.Op=2\/x.Op=4\/x.Op=5\/x.Op=6\/x.Op=7\/x.Op=8:=by omega
   have E:jn x s a=JH x s:=by unfold jn;rw[if_neg q.2.2,if_pos h]
   have:=f 0 _ V (eJ _) (by omega) E
   rw[<-this];have A:IntKind.i64.wrap ((a.length:Int) - 0)=((a.length - 0:Nat):Int):=HJ (m:=0) (by omega) (by omega)
   simp only[h,A,show(0:Int)<=((a.length - 0:Nat):Int)by omega,show¬((0:Int)<0)by omega,show¬((a.length:Int)<0)by omega,show¬((0:Int)=1)by omega,show¬((0:Int)=2)by omega,if_false,if_true,Y0 L B,xV,xG d,xS]
   rfl
  .have S:e9 x.Op=((1:Nat):Int):=h
   by_cases hs:a.length<1
   .rw[h,if_neg (by omega),if_pos (by omega),show gP x s a=(4,a)by unfold gP;rw[h,if_neg (by omega),if_pos (by omega)]]
    grind
   have c:a.length - 1<a.length:=by omega
   have I:a.getLast? =some a[a.length - 1]:=by rw[List.getLast?_eq_getElem?,xG c]
   have l:∀j:Int->Int->U ρ,nT x a[a.length - 1] s j=j (jn x s a).1 (jn x s a).2:=λj=>by
    unfold jn
    by_cases h3:x.Op=3
    .grind [UN]
    .rw[if_neg h3,if_neg (by omega),aae (by omega),h,show a.drop (a.length - (1:Int).toNat)=[a[a.length - 1]]by
      rw[show(1:Int).toNat=1 from rfl,xW c,List.drop_eq_nil_of_le (by omega)]]
   have:=f 1 _ S (by omega) (by omega) rfl
   rw[<-this];have D:IntKind.i64.wrap ((a.length:Int) - 1)=((a.length - 1:Nat):Int):=HJ (m:=1) (by omega) (by omega)
   simp only[h,show(0:Int)<=(n:Int)by omega,show¬((1:Int)<0)by omega,show¬((a.length:Int)<1)by omega,show¬((1:Int)=0)by omega,show¬((1:Int)=2)by omega,if_false,if_true,D,show(0:Int)<=((a.length - 1:Nat):Int)by omega,show((a.length - 1:Nat):Int)<(a.length:Int)by omega,and_self,xV,xG c,xS,l]
  .have O:e9 x.Op=((2:Nat):Int):=h
   by_cases hs:a.length<2
   .rw[h,if_neg (by omega),if_pos (by omega),show gP x s a=(4,a)by grind [gP]]
    grind
   have c:a.length - 1<a.length:=by omega
   have z:a.length - 2<a.length:=by omega
   have t:∀j:Int->Int->U ρ,wE x.Op a[a.length - 2] a[a.length - 1] j=j (jn x s a).1 (jn x s a).2:=λj=>by
    unfold jn
    rw[if_neg (by omega),if_neg (by omega),aaf q,h,show a.drop (a.length - (2:Int).toNat)=[a[a.length - 2],a[a.length - 1]]by
     grind [xW]]
   have:=f 2 _ O (by omega) (by omega) rfl
   rw[<-this];have D:IntKind.i64.wrap ((a.length:Int) - 1)=((a.length - 1:Nat):Int):=HJ (m:=1) (by omega) (by omega)
   have H:IntKind.i64.wrap ((a.length:Int) - 2)=((a.length - 2:Nat):Int):=HJ (m:=2) (by omega) (by omega)
   simp only[h,show(0:Int)<=(n:Int)by omega,show¬((2:Int)<0)by omega,show¬((a.length:Int)<2)by omega,show¬((2:Int)=0)by omega,show¬((2:Int)=1)by omega,if_false,if_true,D,H,show(0:Int)<=((a.length - 1:Nat):Int)by omega,show((a.length - 1:Nat):Int)<(a.length:Int)by omega,show(0:Int)<=((a.length - 2:Nat):Int)by omega,show((a.length - 2:Nat):Int)<(a.length:Int)by omega,and_self,xV,xG c,xG z,xS,t]
 grind [xV,lB,Og]
end
set_option maxHeartbeats 4000000
noncomputable section
@[go_sem] abbrev D7(β:Bool)(s:au):D:=.agg [.sl β (List.map dB s.aa),.sl β (List.map dJ s.aq),.sl β (List.map dP s.ah),.sl β (List.map (dL β) s.ak),.sl β (List.map dJ s.bB),.int .i64 s.Self]
@[go_sem] abbrev HKd(a:D)(st:J Int):J Ob:=[.box (.d a),.box (.agg [.own (tl eI st),.d (.map 3)]),.box (.d (.ptr 1)),.map opsL,.box (.d (.fn (.func 211) [] [])),.box (.d (.fn (.func 212) [] [])),.box (.d (.fn (.func 213) [] [])),.box (.d (.fn (.func 214) [] [])),.box (.d (.fn (.func 215) [] [])),.box (.d (.fn (.func 216) [] []))]
def FK1(d e:Int)(p2:J aw)(p3:J aB)(p4:J aD)(p5:J az)(p6:J aB)(p7:Int)(st:J Int){ρ:Type}:
  {Φ:(Int->Int->U ρ)->U ρ // ∀(β:Bool) (κ:J T×J Ob->U ρ) (g:Int->Int->U ρ),(∀a c,κ ([.d (.int .i64 a),.d (.int .i64 c)],(HKd (.agg [.sl β (List.map dB p2),.sl β (List.map dJ p3),.sl β (List.map dP p4),.sl β (List.map (dL β) p5),.sl β (List.map dJ p6),.int .i64 p7]) st))=g a c)->
   cbK (call 181 [.agg [.int .i64 d,.int .i64 e],.ptr 2,.ptr 0] ((HKd (.agg [.sl β (List.map dB p2),.sl β (List.map dJ p3),.sl β (List.map dP p4),.sl β (List.map (dL β) p5),.sl β (List.map dJ p6),.int .i64 p7]) st))) κ=Φ g}:=by
 refine⟨?Φ,?h⟩
 case h=>
  intro β κ g b
  refine(anL _ _ _ rfl).trans ?_
  try simp only[go_sem]at b
  refine N5 λr f=> ?_
  cases β
  all_goals (simp -implicitDefEqProofs (maxSteps:=1000000) [go_sem,b,anO,Bc,-List.map_append,-List.map_take,-List.map_drop,-List.map_set];exact f)
def fK1(a b:Int)(p2:J aw)(p3:J aB)(p4:J aD)(p5:J az)(p6:J aB)(p7:Int)(st:J Int){ρ:Type}(g:Int->Int->U ρ):U ρ:=(FK1 a b p2 p3 p4 p5 p6 p7 st).1 g
@[go_sem] theorem WK1(a b:Int)(p2:J aw)(p3:J aB)(p4:J aD)(p5:J az)(p6:J aB)(p7:Int)(st:J Int){ρ:Type}(β:Bool)(κ:J T×J Ob->U ρ):
   cbK (call 181 [.agg [.int .i64 a,.int .i64 b],.ptr 2,.ptr 0] ((HKd (.agg [.sl β (List.map dB p2),.sl β (List.map dJ p3),.sl β (List.map dP p4),.sl β (List.map (dL β) p5),.sl β (List.map dJ p6),.int .i64 p7]) st))) κ=fK1 a b p2 p3 p4 p5 p6 p7 st λd c=>κ ([.d (.int .i64 d),.d (.int .i64 c)],(HKd (.agg [.sl β (List.map dB p2),.sl β (List.map dJ p3),.sl β (List.map dP p4),.sl β (List.map (dL β) p5),.sl β (List.map dJ p6),.int .i64 p7]) st)):=
 (FK1 a b p2 p3 p4 p5 p6 p7 st).2 β κ _ λ_ _=>rfl
theorem Y2{a:Int}{l:J Int}{i:Nat}(h:l.length<=i):ok29 a l i=true:=by simp[ok29,List.drop_eq_nil_of_le h]
theorem aag{a:Int}{l:J Int}{i:Nat}(h:i<l.length):ok29 a l i=((decide (a=-1) || decide (l[i]=a))&&decide (l[0]? =some l[i])&&ok29 a l (i+1)):=by
 grind [ok29,xW]
theorem Y3{ρ:Type}(d a nm:Int)(l:J Int)(fn:Nat)(b:J D)(c:Bool)(H:J Ob)(κ:Ex×St->U ρ)(i:Int):
  dI P hints nH Qj 0 ((⟨[(1,SV.d (D.sl c (List.map eI l))),(2,SV.loc (aj.l 2 0) [] 0 0),(8,SV.d (D.sl c (List.map eI l))),(9,SV.d (D.int .i64 (List.length l))),(10,SV.d (D.int .i64 i))],[((2,0),T.own [T.d (D.agg [D.int .i64 d,D.int .i64 a,D.int .i64 nm,D.fn (Fn.func fn) [] b])])],H⟩:St)) κ=if i<(l.length:Int)then(if 0<=i then(l[i.toNat]?).bind λy=>if a=-1 then(l[0]?).bind λe=>if y=e then dI P hints nH Qj 0 ((⟨[(1,SV.d (D.sl c (List.map eI l))),(2,SV.loc (aj.l 2 0) [] 0 0),(8,SV.d (D.sl c (List.map eI l))),(9,SV.d (D.int .i64 (List.length l))),(10,SV.d (D.int .i64 (IntKind.i64.wrap (i+1))))],[((2,0),T.own [T.d (D.agg [D.int .i64 d,D.int .i64 a,D.int .i64 nm,D.fn (Fn.func fn) [] b])])],H⟩:St)) κ else κ (.ret,⟨[(4,.d (.int .i64 0)),(5,.d (.int .i64 9))],[],H⟩)else if y=a then(l[0]?).bind λe=>if y=e then dI P hints nH Qj 0 ((⟨[(1,SV.d (D.sl c (List.map eI l))),(2,SV.loc (aj.l 2 0) [] 0 0),(8,SV.d (D.sl c (List.map eI l))),(9,SV.d (D.int .i64 (List.length l))),(10,SV.d (D.int .i64 (IntKind.i64.wrap (i+1))))],[((2,0),T.own [T.d (D.agg [D.int .i64 d,D.int .i64 a,D.int .i64 nm,D.fn (Fn.func fn) [] b])])],H⟩:St)) κ else κ (.ret,⟨[(4,.d (.int .i64 0)),(5,.d (.int .i64 9))],[],H⟩)else κ (.ret,⟨[(4,.d (.int .i64 0)),(5,.d (.int .i64 9))],[],H⟩)else none)
   else κ (.exit 0,⟨[(1,SV.d (D.sl c (List.map eI l))),(2,SV.loc (aj.l 2 0) [] 0 0),(8,SV.d (D.sl c (List.map eI l))),(9,SV.d (D.int .i64 (List.length l))),(10,SV.d (D.int .i64 i)),(11,SV.d (D.bool false))],[((2,0),T.own [T.d (D.agg [D.int .i64 d,D.int .i64 a,D.int .i64 nm,D.fn (Fn.func fn) [] b])])],H⟩):=by
 refine(ap afh.2).trans ?_
 simp -implicitDefEqProofs (maxSteps:=1000000) [go_sem,-List.map_append,-List.map_take,-List.map_drop,-List.map_set]
theorem avO{ρ:Type}(g b nm:Int)(l:J Int)(hl:l.length<=1000)(fn:Nat)(f:J D)(c:Bool)(H:J Ob)(κ:Ex×St->U ρ):∀(n i:Nat),l.length - i=n->i<=l.length->
  dI P hints nH Qj 0 ((⟨[(1,SV.d (D.sl c (List.map eI l))),(2,SV.loc (aj.l 2 0) [] 0 0),(8,SV.d (D.sl c (List.map eI l))),(9,SV.d (D.int .i64 (List.length l))),(10,SV.d (D.int .i64 i))],[((2,0),T.own [T.d (D.agg [D.int .i64 g,D.int .i64 b,D.int .i64 nm,D.fn (Fn.func fn) [] f])])],H⟩:St)) κ=if ok29 b l i=true then κ (.exit 0,⟨[(1,SV.d (D.sl c (List.map eI l))),(2,SV.loc (aj.l 2 0) [] 0 0),(8,SV.d (D.sl c (List.map eI l))),(9,SV.d (D.int .i64 (List.length l))),(10,SV.d (D.int .i64 (List.length l))),(11,SV.d (D.bool false))],[((2,0),T.own [T.d (D.agg [D.int .i64 g,D.int .i64 b,D.int .i64 nm,D.fn (Fn.func fn) [] f])])],H⟩)else κ (.ret,⟨[(4,.d (.int .i64 0)),(5,.d (.int .i64 9))],[],H⟩):=by
 intro n
 induction n with
 |zero=>
  grind [Y3,Y2]
 |succ n j=>
  intro i k m;have a:i<l.length:=by omega
  have h:IntKind.i64.wrap ((i:Int)+1)=((i+1:Nat):Int):=by exact eW (by omega)
  rw[Y3,if_pos (by omega),if_pos (by omega),xV,xG a,xS,h,j (i+1) (by omega) (by omega),aag a,xG (Nat.lt_of_le_of_lt (eJ _) a),xS]
  simp only[xJ]
  by_cases e:b=-1
  .simp only[e,decide_true,Bool.true_or,nw,if_true]
   by_cases d:l[0]=l[i]
   .simp[d]
   grind
  .simp only[e,decide_false,Bool.false_or,if_false]
   by_cases d:l[i]=b
   .rw[if_pos d]
    by_cases h3:l[i]=l[0]
    .simp_all
    grind
   grind
def x29{ρ:Type}(b d nm:Int)(l:J Int)(fn:Nat)(a:J D)(c:Bool)(H:J Ob)(κ:J T×J Ob->U ρ):U ρ:=cbK (call 183 [.agg [.int .i64 b,.int .i64 d,.int .i64 nm,.fn (.func fn) [] a],.sl c (List.map eI l)] H) κ
theorem W29{ρ:Type}(e a nm:Int)(l:J Int)(fn:Nat)(b:J D)(c:Bool)(H:J Ob)(κ:J T×J Ob->U ρ):cbK (call 183 [.agg [.int .i64 e,.int .i64 a,.int .i64 nm,.fn (.func fn) [] b],.sl c (List.map eI l)] H) κ=
  if l.length<=1000 then(if ok29 a l 0=true then κ ([.d (.int .i64 nm),.d (.int .i64 0)],H)else κ ([.d (.int .i64 0),.d (.int .i64 9)],H))else x29 e a nm l fn b c H κ:=by
 by_cases d:l.length<=1000
 .rw[if_pos d]
  refine(anQ _ _ _ rfl).trans ?_
  have h:=λκ=>avO (ρ:=ρ) e a nm l d fn b c H κ _ 0 rfl (eJ _)
  simp only[eA]at h
  simp -implicitDefEqProofs (maxSteps:=1000000) [go_sem,h,-List.map_append,-List.map_take,-List.map_drop,-List.map_set]
 .rw[if_neg d];rfl
attribute [go_sem] W29
attribute [irreducible] x29
theorem jo:(opsL.all λe=>e.1.cX&&e.2.cX)=true:=rfl
theorem Y4(b a:Int)(s:au)(hs:s.aa.length<=1000)(r:a<=9223372036854775807)(st:J Int)(o:st.length<=12)(hx:b=3->st≠[]){ρ:Type}(g:Int->Int->U ρ)(ht:e9 b=0\/b=3):
  fK1 b a s.aa s.aq s.ah s.ak s.bB s.Self st g=g (jn ⟨b,a⟩ s st).1 (jn ⟨b,a⟩ s st).2:=by
 have i:au.mk s.aa s.aq s.ah s.ak s.bB s.Self=s:=rfl;simp only[fK1,FK1,i,pB,jn]
 obtain ht |ht:=ht
 .have h3:¬b=3:=λe=>by grind [e9]
  simp only[h3,if_false,ht,if_true,JH]
  have u:∀l:J aB,(kq l a s λf d c=>if c=false then g 0 8 else if d=0 then g f 0 else g 0 9)=g (Of (i4 l a s)).1 (Of (i4 l a s)).2:=λl=>by
   rw[RR (e:=g 0 8) (λ_ _=>by simp)]
   cases p:i4 l a s with
   |none=>rfl
   |some v=>
    grind [i4,ad5,Of]
  grind [Qs,UL]
 .subst ht
  have j:=hx rfl;obtain⟨k,hk⟩:∃k,st.getLast? =some k:=by cases h:st.getLast? with |none=>grind [List.getLast?_eq_none_iff] |some k=>exact⟨k,rfl⟩
  have n:0<st.length:=List.length_pos_iff.2 j;have t:IntKind.i64.wrap ((st.length:Int) - 1)=((st.length - 1:Nat):Int):=HJ (m:=1) (by omega) (by omega)
  have q:st[st.length - 1]? =some k:=by rw[<-List.getLast?_eq_getElem?];exact hk
  simp only[show¬((3:Int)=1)by decide,show¬((3:Int)=4)by decide,show¬((3:Int)=2)by decide,if_false,if_true,hk,JI]
  rw[RR (e:=g 0 8) (λ_ _=>by simp)]
  cases p:i4 s.aq a s with
  |none=>rfl
  |some v=>
   grind [i4,ad5,xV,kOf]
def zZ{ρ:Type}(β:Bool)(s:au)(κ:J T×J Ob->U ρ)(p:Int×J Int):U ρ:=κ ([.d (.int .i64 p.1)],(HKd (D7 β s) p.2))
set_option maxHeartbeats 8000000 in
theorem aqY(β:Bool)(a t:Int)(s:au)(st:J Int)(q:st.length<=12)(m:Nat)(u:1<=m)(r:m<=2)(hP:opP a=(m:Int))(hx:9<=a/\a<=19)(hl:m<=st.length){ρ:Type}(κ:J T×J Ob->U ρ):
   cbK (call 187 [.ptr 1,.agg [.int .i64 a,.int .i64 t],.fn (.func 181) [] [.ptr 2,.ptr 0],.fn (.func 183) [] []] ((HKd (D7 β s) st))) κ=
    zZ β s κ (if(wY a (st.drop (st.length - m))).2≠0 then((wY a (st.drop (st.length - m))).2,st)else(if 12<st.length - m+1 then 12 else 0,st.take (st.length - m)++[(wY a (st.drop (st.length - m))).1])):=by
 refine(xq _ _ _ rfl).trans ?_
 have g:opH a=true:=lw.2 hx;have j:¬a=3:=by omega
 have l:¬a<=8:=by omega
 have n0:¬(m:Int)<0:=by omega
 have n:¬(st.length:Int)<(m:Int):=by omega
 have h:IntKind.i64.wrap ((st.length:Int) - (m:Int))=((st.length - m:Nat):Int):=HJ hl (by omega)
 have k:(0:Int)<=((st.length - m:Nat):Int):=by omega
 have o:((st.length - m:Nat):Int)<=(st.length:Int):=by omega
 have q3:st.length<=1000+(st.length - m):=by omega
 have p:(st.length - m+1) * 8<=140737488355328:=by omega
 have i:st.length<=9223372036854775806+m:=by omega
 have f:st.length - (st.length - m)=m:=by omega
 have q4:m<=1000:=by omega
 have c:List.take m (List.drop (st.length - m) st)=List.drop (st.length - m) st:=gy (by simp;omega)
 have d:¬12<st.length - m+1:=by omega
 have b:¬(12:Int)<((st.length - m:Nat):Int)+1:=by omega
 by_cases hk:ok29 (opT a) (st.drop (st.length - m)) 0=true
 .have e:wY a (st.drop (st.length - m))=(opM a,0):=by rw[wY,if_pos hk]
  rw[e]
  cases β <;>simp -implicitDefEqProofs (maxSteps:=1000000) [go_sem,jj,g,hP,j,l,n0,n,h,k,o,q3,p,i,f,c,q4,hk,d,b,jo,zZ,-List.map_append,-List.map_take,-List.map_drop,-List.map_set]
 .have e:wY a (st.drop (st.length - m))=(0,9):=by rw[wY,if_neg hk]
  rw[e]
  cases β <;>simp -implicitDefEqProofs (maxSteps:=1000000) [go_sem,jj,g,hP,j,l,n0,n,h,k,o,q3,p,i,f,c,q4,hk,d,b,jo,zZ,-List.map_append,-List.map_take,-List.map_drop,-List.map_set]
set_option maxHeartbeats 8000000 in
theorem avP(β:Bool)(b f:Int)(s:au)(hs:s.aa.length<=1000)(H:f<=9223372036854775807)(st:J Int)(o:st.length<=12){ρ:Type}(κ:J T×J Ob->U ρ):
   cbK (call 187 [.ptr 1,.agg [.int .i64 b,.int .i64 f],.fn (.func 181) [] [.ptr 2,.ptr 0],.fn (.func 183) [] []] ((HKd (D7 β s) st))) κ=zZ β s κ (gP ⟨b,f⟩ s st):=by
 refine(xq _ _ _ rfl).trans ?_
 have z:∀n:Nat,n<=st.length->n<=2->IntKind.i64.wrap ((st.length:Int) - (n:Int))=((st.length - n:Nat):Int):=λn v E=>HJ v (by omega)
 have stp:∀n:Nat,e9 b=(n:Int)->n<=st.length->gP ⟨b,f⟩ s st=if(jn ⟨b,f⟩ s st).2≠0 then((jn ⟨b,f⟩ s st).2,st)else(if 12<st.length - n+1 then 12 else 0,st.take (st.length - n)++[(jn ⟨b,f⟩ s st).1]):=λn L v=>by
  simp_all [gP,if_neg]
 obtain⟨h,q⟩ |⟨h,q⟩ |⟨h,q⟩ |⟨h,q⟩:=mM b
 ·-- none
  have l:¬opH b=true:=λK=>by grind [lw]
  have m:¬b=3:=by omega
  have B:¬(1<=b/\b<=8):=by omega
  have d:gP ⟨b,f⟩ s st=(3,st):=by unfold gP;rw[h,if_pos (by omega)]
  rw[d]
  by_cases u:1<=b
  .have r:¬b<=8:=λq=>B ⟨u,q⟩
   cases β <;>simp -implicitDefEqProofs (maxSteps:=1000000) [go_sem,jj,l,m,u,r,zZ,-List.map_append,-List.map_take,-List.map_drop,-List.map_set]
  .cases β <;>simp -implicitDefEqProofs (maxSteps:=1000000) [go_sem,jj,l,m,u,zZ,-List.map_append,-List.map_take,-List.map_drop,-List.map_set]
 ·-- a leaf
  have l:¬opH b=true:=λK=>by grind [lw]
  have k:opH b=false:=by simpa using l
  have m:¬b=3:=by omega
  have u:1<=b:=q.1;have r:b<=8:=q.2.1;have A:=z 0 (eJ _) (by omega)
  have t:IntKind.i64.wrap ((st.length:Int))=(st.length:Int):=by simpa using A
  have c:=λg=>Y4 b f s hs H st o (λe=>absurd e m) (ρ:=ρ) g (.inl h)
  have n0:¬(st.length:Int)<0:=by omega
  have w:(st.length+1) * 8<=140737488355328:=by omega
  have y:st.length<=9223372036854775806:=by omega
  rw[stp 0 h (eJ _)]
  by_cases x:(jn ⟨b,f⟩ s st).2=0
  .by_cases p:12<st.length+1
   .have i:(12:Int)<(st.length:Int)+1:=by omega
    cases β <;>simp -implicitDefEqProofs (maxSteps:=1000000) [go_sem,jj,l,k,m,u,r,t,c,jo,n0,w,y,x,p,i,zZ,-List.map_append,-List.map_take,-List.map_drop,-List.map_set]
   .have i:¬(12:Int)<(st.length:Int)+1:=by omega
    cases β <;>simp -implicitDefEqProofs (maxSteps:=1000000) [go_sem,jj,l,k,m,u,r,t,c,jo,n0,w,y,x,p,i,zZ,-List.map_append,-List.map_take,-List.map_drop,-List.map_set]
  .cases β <;>simp -implicitDefEqProofs (maxSteps:=1000000) [go_sem,jj,l,k,m,u,r,t,c,jo,n0,w,y,x,zZ,-List.map_append,-List.map_take,-List.map_drop,-List.map_set]
 .by_cases C:st.length<1
  .have d:gP ⟨b,f⟩ s st=(4,st):=by unfold gP;rw[h,if_neg (by omega),if_pos (by omega)]
   have j:(st.length:Int)<1:=by omega
   rw[d]
   obtain q |q:=q
   .cases β <;>simp -implicitDefEqProofs (maxSteps:=1000000) [go_sem,jj,q,j,zZ,-List.map_append,-List.map_take,-List.map_drop,-List.map_set]
   .have l:opH b=true:=lw.2 (by omega)
    have m:¬b=3:=by omega
    have r:¬b<=8:=by omega
    have hP:opP b=1:=by rw[vA (by omega),if_pos (by omega)]
    cases β <;>simp -implicitDefEqProofs (maxSteps:=1000000) [go_sem,jj,l,hP,m,r,j,zZ,-List.map_append,-List.map_take,-List.map_drop,-List.map_set]
  have n0:¬(st.length:Int)<1:=by omega
  have A:IntKind.i64.wrap ((st.length:Int) - 1)=((st.length - 1:Nat):Int):=z 1 (by omega) (by omega)
  have F:(0:Int)<=((st.length - 1:Nat):Int):=by omega
  have G:((st.length - 1:Nat):Int)<=(st.length:Int):=by omega
  have q3:st.length<=1000+(st.length - 1):=by omega
  have w:(st.length - 1+1) * 8<=140737488355328:=by omega
  have y:st.length<=9223372036854775806+1:=by omega
  have b3:st.length<=9223372036854775807:=by omega
  have D:st.length - (st.length - 1)=1:=by omega
  have I:e9 b=((1:Nat):Int):=h;rw[stp 1 I (by omega)]
  obtain q |q:=q
  .subst q
   have k:opH 3=false:=rfl;have c:=λg=>Y4 3 f s hs H st o (λ_ e=>by grind) (ρ:=ρ) g (.inr rfl)
   by_cases x:(jn ⟨3,f⟩ s st).2=0
   .by_cases p:12<st.length - 1+1
    .omega
    .have i:¬(12:Int)<((st.length - 1:Nat):Int)+1:=by omega
     cases β <;>simp -implicitDefEqProofs (maxSteps:=1000000) [go_sem,jj,k,A,F,G,q3,c,jo,n0,w,y,b3,D,x,p,i,zZ,-List.map_append,-List.map_take,-List.map_drop,-List.map_set]
   .cases β <;>simp -implicitDefEqProofs (maxSteps:=1000000) [go_sem,jj,k,A,F,G,q3,c,jo,n0,w,y,b3,D,x,zZ,-List.map_append,-List.map_take,-List.map_drop,-List.map_set]
  .have v:jn ⟨b,f⟩ s st=wY b (st.drop (st.length - 1)):=by
    unfold jn;rw[if_neg (by grind),if_neg (by grind),show(e9 b).toNat=1 by rw[h];rfl]
   rw[v,<-aqY β b f s st o 1 (by omega) (by omega) (by grind [vA]) (by omega) (by omega)]
   grind [xq]
 .by_cases C:st.length<2
  .have d:gP ⟨b,f⟩ s st=(4,st):=by unfold gP;rw[h,if_neg (by omega),if_pos (by omega)]
   have j:(st.length:Int)<2:=by omega
   rw[d];have l:opH b=true:=lw.2 (by omega)
   have m:¬b=3:=by omega
   have r:¬b<=8:=by omega
   have hP:opP b=2:=by rw[vA (by omega),if_neg (by omega)]
   cases β <;>simp -implicitDefEqProofs (maxSteps:=1000000) [go_sem,jj,l,hP,m,r,j,zZ,-List.map_append,-List.map_take,-List.map_drop,-List.map_set]
  have E:e9 b=((2:Nat):Int):=h;rw[stp 2 E (by omega)]
  have v:jn ⟨b,f⟩ s st=wY b (st.drop (st.length - 2)):=by
   unfold jn;rw[if_neg (by grind),if_neg (by grind),show(e9 b).toNat=2 by rw[h];rfl]
  rw[v,<-aqY β b f s st o 2 (by omega) (by omega) (by grind [vA]) (by omega) (by omega)]
  grind [xq]
end
noncomputable section
theorem agj(β:Bool)(e:J aF)(s:au)(hs:s.aa.length<=1000)(st:J Int)(a:st.length<=12)(i:Nat)(hi:i<e.length)(h:e[i].N<=9223372036854775807)(c:e.length<=24){ρ:Type}(κ:Ex×St->U ρ):dI P hints jI Hy 0 ((⟨[(0,.d (.ptr (1))),(2,.d (.fn (Fn.func 181) [] [.ptr (2),.ptr (0)])),(3,.d (.fn (Fn.func 183) [] [])),(25,.d (.sl β (List.map eN e))),(26,.d (.int .i64 (List.length e))),(27,.d (.int .i64 (i:Int)))],[],(HKd (D7 β s) st)⟩:St)) κ=
  if(gP e[i] s st).1=0 then dI P hints jI Hy 0 ((⟨[(0,.d (.ptr (1))),(2,.d (.fn (Fn.func 181) [] [.ptr (2),.ptr (0)])),(3,.d (.fn (Fn.func 183) [] [])),(25,.d (.sl β (List.map eN e))),(26,.d (.int .i64 (List.length e))),(27,.d (.int .i64 ((i+1:Nat):Int)))],[],(HKd (D7 β s) ((gP e[i] s st).2))⟩:St)) κ else κ (.ret,⟨[(8,SV.d (D.int .i64 0)),(9,SV.d (D.int .i64 (gP e[i] s st).1))],[],(HKd (D7 β s) ((gP e[i] s st).2))⟩):=by
 refine(ap LK.2).trans ?_
 have f:IntKind.i64.wrap ((i:Int)+1)=((i+1:Nat):Int):=eW (by omega)
 have d:(i:Int)<(e.length:Int):=by omega
 have g:e[i]? =some e[i]:=xG hi;have b:=λκ=>avP (ρ:=ρ) β e[i].Op e[i].N s hs h st a κ
 cases β <;>simp -implicitDefEqProofs (maxSteps:=1000000) [go_sem,d,g,f,b,zZ,-List.map_append,-List.map_take,-List.map_drop,-List.map_set]
theorem agk(β:Bool)(e:J aF)(s:au)(st:J Int){ρ:Type}(κ:Ex×St->U ρ):dI P hints jI Hy 0 ((⟨[(0,.d (.ptr (1))),(2,.d (.fn (Fn.func 181) [] [.ptr (2),.ptr (0)])),(3,.d (.fn (Fn.func 183) [] [])),(25,.d (.sl β (List.map eN e))),(26,.d (.int .i64 (List.length e))),(27,.d (.int .i64 (e.length:Int)))],[],(HKd (D7 β s) st)⟩:St)) κ=κ (.exit 1,(⟨[(0,.d (.ptr (1))),(2,.d (.fn (Fn.func 181) [] [.ptr (2),.ptr (0)])),(3,.d (.fn (Fn.func 183) [] [])),(25,.d (.sl β (List.map eN e))),(26,.d (.int .i64 (List.length e))),(27,.d (.int .i64 (List.length e))),(28,SV.d (D.bool false))],[],(HKd (D7 β s) st)⟩:St)):=by
 refine(ap LK.2).trans ?_
 cases β <;>simp -implicitDefEqProofs (maxSteps:=1000000) [go_sem,-List.map_append,-List.map_take,-List.map_drop,-List.map_set]
theorem Oh{x:aF}{s:au}{st:J Int}(h:st.length<=12)(h0:(gP x s st).1=0):(gP x s st).2.length<=12:=by
 grind [gP]
theorem agl(β:Bool)(e:J aF)(s:au)(hs:s.aa.length<=1000)(d:∀x∈e,x.N<=9223372036854775807)(b:e.length<=24){ρ:Type}(κ:Ex×St->U ρ):∀(n i:Nat) (st:J Int),e.length - i=n->i<=e.length->st.length<=12->dI P hints jI Hy 0 ((⟨[(0,.d (.ptr (1))),(2,.d (.fn (Fn.func 181) [] [.ptr (2),.ptr (0)])),(3,.d (.fn (Fn.func 183) [] [])),(25,.d (.sl β (List.map eN e))),(26,.d (.int .i64 (List.length e))),(27,.d (.int .i64 (i:Int)))],[],(HKd (D7 β s) st)⟩:St)) κ=
  if(lB s (e.drop i) st).1=0 then κ (.exit 1,(⟨[(0,.d (.ptr (1))),(2,.d (.fn (Fn.func 181) [] [.ptr (2),.ptr (0)])),(3,.d (.fn (Fn.func 183) [] [])),(25,.d (.sl β (List.map eN e))),(26,.d (.int .i64 (List.length e))),(27,.d (.int .i64 (List.length e))),(28,SV.d (D.bool false))],[],(HKd (D7 β s) ((lB s (e.drop i) st).2))⟩:St))else κ (.ret,⟨[(8,SV.d (D.int .i64 0)),(9,SV.d (D.int .i64 (lB s (e.drop i) st).1))],[],(HKd (D7 β s) ((lB s (e.drop i) st).2))⟩):=by
 intro n
 induction n with
 |zero=>
  grind [agk,wj,lB]
 |succ n g=>
  intro i st f h c;have a:i<e.length:=by omega
  rw[agj β e s hs st c i a (d _ (eO a)) b,xW a,lB]
  grind [Oh]
theorem LZ{s:au}:∀{e:J aF} {st:J Int},st.length<=12->(lB s e st).1=0->(lB s e st).2.length<=12/\(e≠[]->0<(lB s e st).2.length)
 | [],st,h,_=>⟨h,λq=>absurd rfl q⟩
 |x::r,st,h,a=>by
  unfold lB at a |-
  by_cases b:(gP x s st).1=0
  .rw[if_pos b]at a |-
   have c:=Oh h b
   have:=LZ c a
   refine⟨this.1,λ_=> ?_⟩
   cases r with
   |cons y r=>grind
   |nil=>
    grind [lB,gP]
  grind
set_option maxHeartbeats 8000000 in
theorem RU(β:Bool)(e:J aF)(s:au)(hs:s.aa.length<=1000)(m:∀x∈e,x.N<=9223372036854775807){ρ:Type}(κ:J T×J Ob->U ρ):
  cbK (call 146 [.sl β (List.map eN e),.agg [.sl β (List.map dB s.aa),.sl β (List.map dJ s.aq),.sl β (List.map dP s.ah),.sl β (List.map (dL β) s.ak),.sl β (List.map dJ s.bB),.int .i64 s.Self]] []) κ=κ ([.d (.int .i64 (lu e s).1),.d (.int .i64 (lu e s).2)],[]):=by
 refine(amh _ _ _ rfl).trans ?_
 unfold lu
 by_cases f:24<e.length
 .have b:(24:Int)<(e.length:Int):=by omega
  rw[if_pos f]
  cases β <;>simp -implicitDefEqProofs (maxSteps:=1000000) [go_sem,xo,xp,xr,b,-List.map_append,-List.map_take,-List.map_drop,-List.map_set]
 rw[if_neg f];have b:¬(24:Int)<(e.length:Int):=by omega
 by_cases d:e=[]
 .rw[if_pos d]
  subst d
  cases β <;>simp -implicitDefEqProofs (maxSteps:=1000000) [go_sem,xo,xp,xr,-List.map_append,-List.map_take,-List.map_drop,-List.map_set]
 rw[if_neg d];have g:=λκ=>agl (ρ:=ρ) β e s hs m (by omega) κ _ 0 [] rfl (eJ _) (by simp)
 simp only[HKd,D7,eA,jg,jb]at g
 by_cases h:(lB s e []).1=0
 .have i:=LZ (s:=s) (e:=e) (st:=[]) (by simp) h
  have j:=i.2 d
  by_cases k:1<(lB s e []).2.length
  .have c:(1:Int)<((lB s e []).2.length:Int):=by omega
   cases β <;>simp -implicitDefEqProofs (maxSteps:=1000000) [go_sem,xo,xp,xr,b,d,g,h,k,c,-List.map_append,-List.map_take,-List.map_drop,-List.map_set]
  .have c:¬(1:Int)<((lB s e []).2.length:Int):=by omega
   obtain⟨a,l⟩:∃a,(lB s e []).2=[a]:=List.length_eq_one_iff.1 (by omega)
   cases β <;>simp -implicitDefEqProofs (maxSteps:=1000000) [go_sem,xo,xp,xr,b,d,g,h,k,c,l,-List.map_append,-List.map_take,-List.map_drop,-List.map_set]
 .cases β <;>simp -implicitDefEqProofs (maxSteps:=1000000) [go_sem,xo,xp,xr,b,d,g,h,-List.map_append,-List.map_take,-List.map_drop,-List.map_set]
end
@[go_sem] theorem axV{x:D}:mU P 181 (.d x)=some (.d (.iface 181 x)):=qF (by kernel_rfl)
@[go_sem] theorem axW{x:D}:rB P 181 true (.d (.iface 181 x))=some (.aS [.d x,.d (.bool true)]):=Ut (by kernel_rfl)
def nf(e a b c:Int):D:=.iface 181 (.agg [.int .i64 e,.int .i64 a,.int .i64 b,.int .i64 c])
def IH(d:D):J T:=[.d d,.agg []]
theorem aah{ρ:Type}(e a b c:Int)(κ:KT ρ):cbK (call 138 [.int .i64 e,.int .i64 a,.int .i64 b,.int .i64 c] []) κ=if e=0 then κ ([],[])else κ (IH (nf e a b c),[]):=by
 refine(alX _ _ _ rfl).trans ?_
 simp -implicitDefEqProofs [go_sem,IH,nf]
attribute [go_sem] aah
@[go_sem] theorem ajg{e a b c:Int}:(nf e a b c).flat=true:=rfl
@[go_sem] theorem aqZ{dst:Nat}{d:D}{k:Wk}:pO dst (IH d) k=some (.aS [.d d,.agg []],k):=by
 simp -implicitDefEqProofs [go_sem,IH]
@[go_sem] theorem aq0(n:Nat):hint140.mv.contains n=false:=rfl
theorem Y5{ρ:Type}(f:D)(l:J (J UInt8×Bool))(R:J Ob)(nm:J UInt8)(a b:Int)(c:gg R=true)(κ:KT ρ):cbK (call 140 [.map 1,.str nm,.int .i64 a,.int .i64 b] (.box (.d f):: .map (jH eS eB l)::R)) κ=
  if kN false l nm=true then κ (IH (nf 7 a b 0),.box (.d f):: .map (jH eS eB l)::R)else κ ([],.box (.d f):: .map (jH eS eB (lj l nm true))::R):=by
 refine(al3 _ _ _ rfl).trans ?_
 simp -implicitDefEqProofs [go_sem,eH (aq0 _)]
 rfl
@[go_sem] theorem aq1{ks:J (J UInt8)}{s:J UInt8}:se P 183 (.sset ks) (.str s) false=some (.d (.bool (ks.contains s))):=by
 grind [eC,eqK,t9,se,acH,Mz,ze4]
theorem Qu(l:J (J UInt8×Bool)):AF (jH eS eB l)=some (l.map (·.1)):=by
 induction l with
 |nil=>rfl
 |cons a l b=>
  grind [AF,jH]
attribute [go_sem] Qu
@[go_sem] theorem avQ{a all:Nat}{W:J Nat}{env:J (Nat×SV)}{ct:J ((Nat×Nat)×T)}{H:J Ob}{q o:Nat}{es:J (D×T)}{ks:J (J UInt8)}(h1:St.get ⟨env,ct,H⟩ a=.d (.map q))(h2:St.get ⟨env,ct,H⟩ all=.d (.map o))(h3:H[q]? =some (.map es))(h4:H[o]? =some (.sset ks)):
  MC P ⟨a,all,183,183,W⟩ ⟨env,ct,H⟩=(AF es).bind λl=>some (.normal,⟨env.filter λe=> !W.contains e.1,ct,H.set o (.sset (l++ks))⟩):=by
 simp only[MC,h1,h2,h3,h4,acH,AC,xS,t9.2.2.2.2.1,and_self,if_true,xF];rfl
def tkn(ns:J (J UInt8)):J (J UInt8×Bool):=ns.foldl (λl x=>lj l x true) []
theorem Y6(l:J (J UInt8×Bool))(x y:J UInt8):kN false (lj l x true) y=if y=x then true else kN false l y:=by
 unfold kN
 induction l with
 |nil=>grind [lj,Ky]
 |cons a l b=>
  grind [lj,Ky]
theorem vB(ns:J (J UInt8))(y:J UInt8):kN false (tkn ns) y=decide (y∈ns):=by
 unfold tkn
 have b:∀(ns:J (J UInt8)) (l:J (J UInt8×Bool)),kN false (ns.foldl (λl x=>lj l x true) l) y=(kN false l y || decide (y∈ns)):=by
  intro ns
  induction ns with
  |nil=>simp
  |cons a ns c=>
   grind [Y6]
 grind [kN,Ky]
theorem Y7(l:J (J UInt8×Bool))(x:J UInt8)(v:Bool)(y:J UInt8):y∈(lj l x v).map (·.1)↔y=x\/y∈l.map (·.1):=by
 induction l with
 |nil=>simp[lj]
 |cons a l b=>
  grind [lj]
theorem Y8(ns:J (J UInt8))(y:J UInt8):y∈(tkn ns).map (·.1)↔y∈ns:=by
 unfold tkn
 have b:∀(ns:J (J UInt8)) (l:J (J UInt8×Bool)),y∈(ns.foldl (λl x=>lj l x true) l).map (·.1)↔y∈l.map (·.1)\/y∈ns:=by
  intro ns
  induction ns with
  |nil=>simp
  |cons a ns c=>
   grind [Y7]
 grind
theorem vC(ns:J (J UInt8))(x:J UInt8):lj (tkn ns) x true=tkn (ns++[x]):=by simp[tkn]
theorem aai:tkn []=[]:=rfl
section
attribute [-simp] List.map_append List.map_take List.map_drop List.map_set
theorem Qv{ρ:Type}{l:J aF}(h:l.length<=1048576)(g:J aF->U ρ):fP l g=g l:=by
 grind [fP,fO]
theorem Qw{ρ:Type}{l:J aB}(h:l.length<=1048576)(g:J aB->U ρ):gx l g=g l:=by
 grind [gx,gw]
theorem agm{ρ:Type}{l:J aD}(h:l.length<=1048576)(g:J aD->U ρ):fN l g=g l:=by
 grind [fN,fM]
theorem agn{ρ:Type}{l:J aw}(h:l.length<=1048576)(g:J aw->U ρ):fy l g=g l:=by
 grind [fy,fx]
def SI(β:Bool)(O:J T)(C:T)(cs:J aK)(j:Int)(b:J aO)(i:Int)(a:J aO):St:=
 ⟨[(3,.aH (.l 3 0) [] 0 O.length),(5,.loc (aj.l 5 0) [] 0 0),(6,.aH (.l 6 0) [] 0 a.length),(9,.d (.sl β (List.map (fU β) cs))),(10,.d (.int .i64 cs.length)),(11,.d (.int .i64 j)),(20,.d (.sl β (List.map (jU β) b))),(21,.d (.int .i64 b.length)),(22,.d (.int .i64 i))],[((3,0),.own O),((5,0),.own [C]),((6,0),.own (tl (jU false) a))],[]⟩
def XI(β:Bool)(O:J T)(C:T)(cs:J aK)(j:Int)(a:J aO)(b:J aO):St:=
 ⟨[(3,.aH (.l 3 0) [] 0 O.length),(5,.loc (aj.l 5 0) [] 0 0),(6,.aH (.l 6 0) [] 0 b.length),(9,.d (.sl β (List.map (fU β) cs))),(10,.d (.int .i64 cs.length)),(11,.d (.int .i64 j)),(20,.d (.sl β (List.map (jU β) a))),(21,.d (.int .i64 a.length)),(22,.d (.int .i64 a.length)),(23,.d (.bool false))],[((3,0),.own O),((5,0),.own [C]),((6,0),.own (tl (jU false) b))],[]⟩
theorem Y9{l:J aO}{a:aO}:tl (jU false) l++[T.d (D.agg [D.int .i64 a.Kind,D.int .i64 a.To,D.int .i64 a.Local,D.sl false (List.map eN a.Index),D.sl false (List.map eN a.Value)])]=tl (jU false) (l++[a]):=nD
theorem Oi{l:J aK}{c:aK}:tl (fU false) l++[T.d (D.agg [D.str c.Name,D.int .i64 c.dm,D.int .i64 c.To,D.sl false (List.map eN c.Guard),D.sl false (List.map (jU false) c.aM),D.bool c.Fair])]=tl (fU false) (l++[c]):=nD
theorem JJ{l:J az}{c:az}:tl (dL false) l++[T.d (D.agg [D.str c.Name,D.int .i64 c.aG,D.int .i64 c.bF,D.sl false (List.map dJ c.aq),D.sl false (List.map (fU false) c.aP)])]=tl (dL false) (l++[c]):=nD
theorem aaj{ρ:Type}(β:Bool)(O:J T)(C:T)(cs:J aK)(j:Int)(a:J aO)(hl:a.length<=1000000)(i:Nat)(hi:i<a.length)(h1:a[i].Index.length<=1048576)(h2:a[i].Value.length<=1048576)(b:J aO)(hd:b.length<=1000000)(R:St->U ρ)(κ:Ex×St->U ρ):
  go P hints ko IE LQ.1 (SI β O C cs j a i b) (kLp R κ)=R (SI β O C cs j a (i+1:Nat) (b++[a[i]])):=by
 have f:a[i]? =some a[i]:=xG hi;have e:(i:Int)<(a.length:Int):=by omega
 have l:=λg=>Qv (ρ:=ρ) h1 g
 have h:=λg=>Qv (ρ:=ρ) h2 g
 have d:IntKind.i64.wrap ((i:Int)+1)=((i+1:Nat):Int):=eW (by omega)
 have k:(b.length+1) * 72<=140737488355328:=by omega
 have c:b.length<=9223372036854775806:=by omega
 unfold SI
 cases β <;>simp -implicitDefEqProofs [go_sem,f,e,l,h,d,k,c,Y9]
theorem aak{ρ:Type}(β:Bool)(O:J T)(C:T)(cs:J aK)(j:Int)(a:J aO)(b:J aO)(R:St->U ρ)(κ:Ex×St->U ρ):
  go P hints ko IE LQ.1 (SI β O C cs j a (a.length:Nat) b) (kLp R κ)=κ (.exit 2,XI β O C cs j a b):=by
 unfold SI XI
 cases β <;>simp -implicitDefEqProofs [go_sem]
theorem aal{ρ:Type}(β:Bool)(O:J T)(C:T)(cs:J aK)(j:Int)(b:J aO)(hl:b.length<=1000000)(h:∀a∈b,a.Index.length<=1048576/\a.Value.length<=1048576)(κ:Ex×St->U ρ):∀(n i:Nat),b.length - i=n->i<=b.length->
  dI P hints ko IE 0 (SI β O C cs j b i (b.take i)) κ=κ (.exit 2,XI β O C cs j b b):=by
 intro n
 induction n with
 |zero=>
  intro i d e
  have:i=b.length:=by omega
  subst this;rw[ap LQ.2,aak,iz]
 |succ n f=>
  intro i d e;have c:i<b.length:=by omega
  rw[ap LQ.2,aaj β O C cs j b hl i c (h _ (eO c)).1 (h _ (eO c)).2 _ (by simp;omega),<-eD c]
  grind
def SO(β:Bool)(O:J aK)(cs:J aK)(j:Int):St:=
 ⟨[(3,.aH (.l 3 0) [] 0 O.length),(9,.d (.sl β (List.map (fU β) cs))),(10,.d (.int .i64 cs.length)),(11,.d (.int .i64 j))],[((3,0),.own (tl (fU false) O))],[]⟩
def XO(β:Bool)(O:J aK)(cs:J aK):St:=
 ⟨[(3,.aH (.l 3 0) [] 0 O.length),(9,.d (.sl β (List.map (fU β) cs))),(10,.d (.int .i64 cs.length)),(11,.d (.int .i64 cs.length)),(12,.d (.bool false))],[((3,0),.own (tl (fU false) O))],[]⟩
structure CmdOk(c:aK):Prop where
 g:c.Guard.length<=1000
 n:c.aM.length<=1000
 a:∀a∈c.aM,a.Index.length<=1048576/\a.Value.length<=1048576
theorem Za{ρ:Type}(β:Bool)(cs:J aK)(hl:cs.length<=1000000)(i:Nat)(hi:i<cs.length)(hc:CmdOk cs[i])(O:J aK)(hd:O.length<=1000000)(R:St->U ρ)(κ:Ex×St->U ρ):
  go P hints ko IE LR.1 (SO β O cs i) (kLp R κ)=R (SO β (O++[cs[i]]) cs (i+1:Nat)):=by
 have m:cs[i]? =some cs[i]:=xG hi;have f:(i:Int)<(cs.length:Int):=by omega
 have j:=λg=>Qv (ρ:=ρ) (l:=cs[i].Guard) (by have:=hc.g;omega) g
 have e:IntKind.i64.wrap ((i:Int)+1)=((i+1:Nat):Int):=eW (by omega)
 have d:=λ(b:Bool) (O:J T) (C:T) κ=>aal (ρ:=ρ) b O C cs i cs[i].aM (by have:=hc.n;omega) (λa n=>by have:=hc.a a n;omega) κ _ 0 rfl (eJ _)
 simp only[SI,XI,jB,yN,eA,jb]at d
 have h:(O.length+1) * 88<=140737488355328:=by omega
 have k:O.length<=9223372036854775806:=by omega
 unfold SO;cases β
 .have c:=d false (tl (fU false) O)
  simp only[Xm]at c
  simp -implicitDefEqProofs [go_sem,m,f,j,e,c,h,k,Oi]
 .have c:=d true (tl (fU false) O)
  simp only[Xm]at c
  simp -implicitDefEqProofs [go_sem,m,f,j,e,c,h,k,Oi]
theorem Zb{ρ:Type}(β:Bool)(cs:J aK)(O:J aK)(R:St->U ρ)(κ:Ex×St->U ρ):
  go P hints ko IE LR.1 (SO β O cs (cs.length:Nat)) (kLp R κ)=κ (.exit 0,XO β O cs):=by
 unfold SO XO
 cases β <;>simp -implicitDefEqProofs [go_sem]
theorem Zc{ρ:Type}(β:Bool)(cs:J aK)(hl:cs.length<=1000000)(h:∀c∈cs,CmdOk c)(κ:Ex×St->U ρ):∀(n i:Nat),cs.length - i=n->i<=cs.length->
  dI P hints ko IE 1 (SO β (cs.take i) cs i) κ=κ (.exit 0,XO β cs cs):=by
 intro n
 induction n with
 |zero=>
  intro i b d
  have:i=cs.length:=by omega
  subst this;rw[ap LR.2,Zb,iz]
 |succ n e=>
  intro i b d;have a:i<cs.length:=by omega
  rw[ap LR.2,Za β cs hl i a (h _ (eO a)) _ (by simp;omega),<-eD a]
  grind
theorem Qx{ρ:Type}(β:Bool)(cs:J aK)(hl:cs.length<=1000000)(h:∀c∈cs,CmdOk c)(κ:KT ρ):cbK (call 201 [.sl β (List.map (fU β) cs)] []) κ=κ ([.d (.sl false (List.map (fU false) cs))],[]):=by
 refine(aoy _ _ _ rfl).trans ?_
 have a:=λκ=>Zc (ρ:=ρ) β cs hl h κ _ 0 rfl (eJ _)
 simp only[SO,XO,jB,yN,eA,jb]at a
 cases β <;>simp -implicitDefEqProofs [go_sem,a]
structure ProcOk(p:az):Prop where
 v:p.aq.length<=1000
 n:p.aP.length<=1000
 c:∀c∈p.aP,CmdOk c
def SP(β:Bool)(s:au)(i:Int)(a:J az):St:=
 ⟨[(1,.loc (.l 1 0) [] 0 0),(2,.loc (.l 2 0) [] 0 0),(3,.aH (.l 3 0) [] 0 a.length),(23,.d (.sl β (List.map (dL β) s.ak))),(24,.d (.int .i64 s.ak.length)),(25,.d (.int .i64 i))],
  [((1,0),.own [.agg [.own (tl dB s.aa),.own (tl dJ s.aq),.own (tl dP s.ah),.d (.sl β (List.map (dL β) s.ak)),.own (tl dJ s.bB),.d (.int .i64 s.Self)]]),((2,0),.own [.agg [.own [],.own [],.own [],.own [],.own [],.d (.int .i64 0)]]),((3,0),.own (tl (dL false) a))],[]⟩
theorem aam{ρ:Type}(β:Bool)(s:au)(hl:s.ak.length<=1000000)(i:Nat)(hi:i<s.ak.length)(hc:ProcOk s.ak[i])(a:J az)(hd:a.length<=1000000)(R:St->U ρ)(κ:Ex×St->U ρ):
  go P hints pu Uq LN.1 (SP β s i a) (kLp R κ)=R (SP β s (i+1:Nat) (a++[s.ak[i]])):=by
 have j:s.ak[i]? =some s.ak[i]:=xG hi;have f:(i:Int)<(s.ak.length:Int):=by omega
 have k:=λg=>Qw (ρ:=ρ) (l:=s.ak[i].aq) (by have:=hc.v;omega) g
 have e:IntKind.i64.wrap ((i:Int)+1)=((i+1:Nat):Int):=eW (by omega)
 have c:=λ(b:Bool) κ=>Qx (ρ:=ρ) b s.ak[i].aP (by have:=hc.n;omega) hc.c κ
 have h:(a.length+1) * 80<=140737488355328:=by omega
 have d:a.length<=9223372036854775806:=by omega
 unfold SP;cases β
 .simp -implicitDefEqProofs [go_sem,j,f,k,e,c,h,d,JJ]
 .simp -implicitDefEqProofs [go_sem,j,f,k,e,c,h,d,JJ]
def XP(β:Bool)(s:au)(a:J az):St:=
 ⟨[(1,.loc (.l 1 0) [] 0 0),(2,.loc (.l 2 0) [] 0 0),(3,.aH (.l 3 0) [] 0 a.length),(23,.d (.sl β (List.map (dL β) s.ak))),(24,.d (.int .i64 s.ak.length)),(25,.d (.int .i64 s.ak.length)),(26,.d (.bool false))],
  [((1,0),.own [.agg [.own (tl dB s.aa),.own (tl dJ s.aq),.own (tl dP s.ah),.d (.sl β (List.map (dL β) s.ak)),.own (tl dJ s.bB),.d (.int .i64 s.Self)]]),((2,0),.own [.agg [.own [],.own [],.own [],.own [],.own [],.d (.int .i64 0)]]),((3,0),.own (tl (dL false) a))],[]⟩
theorem aan{ρ:Type}(β:Bool)(s:au)(a:J az)(R:St->U ρ)(κ:Ex×St->U ρ):
  go P hints pu Uq LN.1 (SP β s (s.ak.length:Nat) a) (kLp R κ)=κ (.exit 0,XP β s a):=by
 unfold SP XP
 cases β <;>simp -implicitDefEqProofs [go_sem]
theorem aao{ρ:Type}(β:Bool)(s:au)(hl:s.ak.length<=1000000)(h:∀p∈s.ak,ProcOk p)(κ:Ex×St->U ρ):∀(n i:Nat),s.ak.length - i=n->i<=s.ak.length->
  dI P hints pu Uq 0 (SP β s i (s.ak.take i)) κ=κ (.exit 0,XP β s s.ak):=by
 intro n
 induction n with
 |zero=>
  intro i b c
  have:i=s.ak.length:=by omega
  subst this;rw[ap LN.2,aan,iz]
 |succ n d=>
  intro i b c;have a:i<s.ak.length:=by omega
  rw[ap LN.2,aam β s hl i a (h _ (eO a)) _ (by simp;omega),<-eD a]
  grind
structure ScOk(s:au):Prop where
 sc:s.aa.length<=1000
 v:s.aq.length<=1000
 c:s.ah.length<=1000
 l:s.bB.length<=1000
 n:s.ak.length<=1000
 p:∀p∈s.ak,ProcOk p
abbrev scD(β:Bool)(s:au):D:=.agg [.sl β (List.map dB s.aa),.sl β (List.map dJ s.aq),.sl β (List.map dP s.ah),.sl β (List.map (dL β) s.ak),.sl β (List.map dJ s.bB),.int .i64 s.Self]
theorem Oj{ρ:Type}(β:Bool)(s:au)(h:ScOk s)(κ:KT ρ):cbK (call 177 [scD β s] []) κ=κ ([.d (scD false s)],[]):=by
 refine(anA _ _ _ rfl).trans ?_
 have a:=λκ=>aao (ρ:=ρ) β s (by have:=h.n;omega) h.p κ _ 0 rfl (eJ _)
 simp only[SP,XP,jB,yN,eA,jb]at a
 have e:=λg=>agn (ρ:=ρ) (l:=s.aa) (by have:=h.sc;omega) g
 have d:=λg=>Qw (ρ:=ρ) (l:=s.aq) (by have:=h.v;omega) g
 have c:=λg=>agm (ρ:=ρ) (l:=s.ah) (by have:=h.c;omega) g
 have b:=λg=>Qw (ρ:=ρ) (l:=s.bB) (by have:=h.l;omega) g
 cases β
 .simp -implicitDefEqProofs [go_sem,a,e,d,c,b]
 .simp -implicitDefEqProofs [go_sem,a,e,d,c,b]
structure cE(m:ae):Prop where
 sc:m.aa.length<=1000
 v:m.aq.length<=1000
 c:m.ah.length<=1000
 n:m.ak.length<=1000
 q:m.aL.length<=1000
 p:∀p∈m.ak,ProcOk p
def eV(m:ae)(i:Nat):au:=match m.ak[i]? with |some p=>⟨m.aa,m.aq,m.ah,m.ak,p.aq,p.aG⟩ |none=>⟨m.aa,m.aq,m.ah,m.ak,[],0⟩
theorem Zd{m:ae}(h:cE m)(i:Nat):ScOk (eV m i):=by
 unfold eV
 cases a:m.ak[i]? with
 |none=>exact⟨h.sc,h.v,h.c,by simp,h.n,h.p⟩
 |some p=>exact⟨h.sc,h.v,h.c,(h.p p (yS a)).v,h.n,h.p⟩
abbrev moD(m:ae):D:=.agg [.sl false (List.map dB m.aa),.sl false (List.map dJ m.aq),.sl false (List.map dP m.ah),.sl false (List.map (dL false) m.ak),.sl false (List.map (fw false) m.aL)]
theorem ad6:hint143.nvAt 30=1099511627776:=rfl
theorem ad7:hint143.nvAt 32=6:=rfl
theorem aap{ρ:Type}(m:ae)(h:cE m)(i:Nat)(hi:i<m.ak.length)(κ:KT ρ):cbK (call 143 [moD m,.int .i64 i] []) κ=κ ([.d (scD false (eV m i))],[]):=by
 refine(adx _ _ _ rfl).trans ?_
 have a:m.ak[i]? =some m.ak[i]:=xG hi;have d:(i:Int)<(m.ak.length:Int):=by omega
 have c:=λb κ=>Oj (ρ:=ρ) b (eV m i) (Zd h i) κ
 simp only[eV,a]at c
 simp only[eV,a]
 simp -implicitDefEqProofs [go_sem,c,a,d,nM,lq,mkF,ad6,ad7]
theorem Ze{ρ:Type}(m:ae)(h:cE m)(κ:KT ρ):cbK (call 143 [moD m,.int .i64 (-1)] []) κ=κ ([.d (scD false ⟨m.aa,m.aq,m.ah,m.ak,[],0⟩)],[]):=by
 refine(adx _ _ _ rfl).trans ?_
 have a:=λb κ=>Oj (ρ:=ρ) b ⟨m.aa,m.aq,m.ah,m.ak,[],0⟩ ⟨h.sc,h.v,h.c,by simp,h.n,h.p⟩ κ
 simp only[scD,g9]at a
 simp -implicitDefEqProofs [go_sem,a,ad6,ad7]
 rfl
end
def D8(n:Int):Bool:=decide (97<=n/\n<=122) || decide (65<=n/\n<=90)
def digB(n:Int):Bool:=decide (48<=n/\n<=57)
def i5(n:Int):Bool:=D8 n || digB n || decide (n=95)
def bI(b:UInt8):Int:=(b.toNat:Int)
def ng(nm:J UInt8):Bool:= !nm.isEmpty&&decide (nm.length<=16)&&D8 (bI (nm.headD 0))&&nm.all (λb=>i5 (bI b))&& !ownL.contains nm
theorem aq2{s:J UInt8}{p:Nat}(h:p<s.length):((⟨s.toArray⟩:ByteArray).get! (p+0))=s[p]:=by
 show(s.toArray)[p]! =_
 simp[h]
theorem aaq{s:J UInt8}{p:Nat}(h:p<s.length)(hb:s[p].toNat<128):Hz s p=(s[p].toNat,1):=by
 grind [Hz,Utf8.decode,aq2]
theorem aar{s:J UInt8}{p:Nat}(h:p<s.length)(hb:128<=s[p].toNat):128<=(Hz s p).1:=by
 grind [Hz,Utf8.decode,aq2,Utf8.runeError]
theorem JK{s:J UInt8}{p:Nat}(h:p<s.length):i5 ((Hz s p).1:Int)=i5 (bI s[p])/\(i5 (bI s[p])=true->(Hz s p).2=1):=by
 grind [aaq,aar,i5,D8,digB,bI]
section
variable{ρ:Type}
theorem aas{n:Int}{g:Bool->U ρ}:sD n g=g (D8 n):=by
 grind [sD,sB,mkF,D8]
theorem aat{n:Int}{g:Bool->U ρ}:sH n g=g (D8 n):=by
 grind [sH,sG,mkF,D8]
theorem aau{n:Int}{g:Bool->U ρ}:uR n g=g (digB n):=by
 grind [uR,uQ,mkF,digB]
theorem UO:List.take 4 ownL=ownL:=rfl
theorem Zf{nm:J UInt8}{g:Bool->U ρ}:(iw (λ(v:Int) k=>if v<4 then if 0<=v/\v<4 then((List.take 4 ownL)[v.toNat]?).bind λy=>if y=nm then g false else k (IntKind.i64.wrap (v+1))else none else g true) 0)=g (!ownL.contains nm):=by
 refine(iterC_all 4 (λi:Nat=>(i:Int)) (λi=>match ownL[i]? with |some y=>decide (y≠nm) |none=>true) (g false) (g true) (λi k b=> ?_) (λk=> ?_)).trans ?_
 .have c:i<ownL.length:=b
  rw[if_pos (by omega),if_pos (by omega),xV,UO,xG c,xS,eW (by omega)]
  grind
 .grind
 .by_cases h:ownL.contains nm=true
  .rw[h,if_neg]
   .rfl
   .intro a
    simp only[List.contains_iff_mem]at h
    obtain⟨i,b,rfl⟩:=List.mem_iff_getElem.1 h
    have:=a i b
    grind
  grind
theorem Bv{nm:J UInt8}{p:Nat}(h:p<nm.length):(nm.drop p).all (λb=>i5 (bI b))=(i5 (bI nm[p])&&(nm.drop (p+1)).all λb=>i5 (bI b)):=by
 grind [xW]
theorem ago(b:UInt8):IntKind.i32.wrap ((b.toNat:Nat):Int)=(b.toNat:Int):=by
 have h:=b.toNat_lt
 revert h
 generalize b.toNat=n;intro h
 have:∀n:Fin 256,IntKind.i32.wrap ((n.val:Nat):Int)=((n.val:Nat):Int):=by decide
 exact this ⟨n,h⟩
theorem Zg{n:Int}{x y:U ρ}:(if D8 n=true then x else if 48<=n then if n<=57 then x else if n=95 then x else y else if n=95 then x else y)=if i5 n=true then x else y:=by
 grind [i5,digB]
theorem lx{nm:J UInt8}{g:Bool->U ρ}:zK nm g=g (ng nm):=by
 simp only[zK,zJ,mkF,aas,Zf,ng]
 by_cases d:nm=[]
 .subst d;rfl
 rw[if_neg d]
 by_cases j:16<nm.length
 .grind
 rw[if_neg (by omega)]
 have a:0<nm.length:=List.length_pos_iff.2 d;have c:nm[0]? =some nm[0]:=xG a;simp only[Zg,c,xS,ago]
 have h:∀p:Nat,p<=nm.length->(iw (λ(v:Int×Bool×Nat) k=>if v.2.2<nm.length then(if i5 ((Hz nm v.2.2).1:Int)=true then k ((v.2.2:Int),false,v.2.2+(Hz nm v.2.2).2)else if v.2.2<nm.length then g false else g (!ownL.contains nm))else g (!ownL.contains nm)) ((0:Int),false,p))=if((nm.drop p).all λb=>i5 (bI b))=true then g (!ownL.contains nm)else g false:=λp i=>by
  refine qD (λv:Int×Bool×Nat=>v.2.2<=nm.length) (λv=>if((nm.drop v.2.2).all λb=>i5 (bI b))=true then g (!ownL.contains nm)else g false) (λv=>nm.length - v.2.2) ?_ (v:=((0:Int),false,p)) i
  grind [JK,Bv]
 have f:nm.all (λb=>i5 (bI b))=(i5 (bI nm[0])&&(nm.drop 1).all λb=>i5 (bI b)):=Bv (p:=0) a
 have e:nm.headD 0=nm[0]:=by cases nm with |nil=>exact absurd rfl d |cons b r=>rfl
 grind [bI,JK]
theorem UP{nm:J UInt8}(h0:nm≠[])(B:nm.length<=16){g:Bool->U ρ}:(sK nm 0 λD F=>if F=1 then g (decide (D=(nm.length:Int)))else g false)=g (D8 (bI (nm.headD 0))&&nm.all λb=>i5 (bI b)):=by
 simp only[sK,sJ,mkF,aat,aau,DL,uS];have c:0<nm.length:=List.length_pos_iff.2 h0;have h:nm[(0:Int).toNat]? =some nm[0]:=xG c;have e:nm.headD 0=nm[0]:=by cases nm with |nil=>exact absurd rfl h0 |cons b r=>rfl
 have l:nm.all (λb=>i5 (bI b))=(i5 (bI nm[0])&&(nm.drop 1).all λb=>i5 (bI b)):=Bv (p:=0) c
 have j:IntKind.i64.wrap ((0:Int)+1)=((1:Nat):Int):=eW (k:=0) (by omega)
 have u:(0:Int)<=0:=Int.le_refl _;have s:(0:Int)<(nm.length:Int):=by omega
 rw[e,l];simp only[u,s,if_true,h,xS,show¬((2:Int)=1)by decide,show¬((3:Int)=1)by decide,show¬((0:Int)=1)by decide,if_false]
 show(if D8 (bI nm[0])=true then _ else _)=_
 cases x:D8 (bI nm[0])with
 |true=>
  rw[if_pos rfl,show D8 ((nm[0].toNat:Nat):Int)=true from x,if_pos rfl,j]
  have E:i5 (bI nm[0])=true:=by simp[i5,x]
  rw[E,nw,nw]
  refine(qD (λv:Int=>∃i:Nat,v=i/\i<=nm.length) (λv=>g ((nm.drop v.toNat).all λb=>i5 (bI b))) (λv=>nm.length - v.toNat) ?_ (v:=((1:Nat):Int)) ⟨1,rfl,c⟩).trans rfl
  rintro v k ⟨i,rfl,w⟩ hk;have o:IntKind.i64.wrap ((i:Int) - 0)=(i:Int):=by rw[Int.sub_zero,lg (by omega) (by omega)]
  rw[xV,o]
  by_cases a:i<nm.length
  .have m:(i:Int)<(nm.length:Int):=by omega
   have d:(0:Int)<=(i:Int):=by omega
   have n:¬((i:Int)=(nm.length:Int)):=by omega
   simp only[m,d,if_true,xG a,xS,eW (show i<4611686018427387904 by omega),n,decide_false]
   have t:k ((i+1:Nat):Int)=g ((nm.drop (i+1)).all λb=>i5 (bI b)):=by
    rw[hk _ ⟨i+1,rfl,a⟩ (by grind),xV]
   grind [Bv,bI,i5]
  grind
 |false=>
  rw[if_neg (by simp),Bool.false_and]
  show(if digB (bI nm[0])=true then _ else _)=_
  cases z:digB (bI nm[0])with
  |true=>
   rw[if_pos rfl,show digB ((nm[0].toNat:Nat):Int)=true from z,if_pos rfl,j]
   refine qD (λv:Int=>∃i:Nat,v=i/\i<=nm.length) (λv=>g false) (λv=>nm.length - v.toNat) ?_ (v:=((1:Nat):Int)) ⟨1,rfl,c⟩
   rintro v k ⟨i,rfl,w⟩ hk
   by_cases a:i<nm.length
   .have m:(i:Int)<(nm.length:Int):=by omega
    have d:(0:Int)<=(i:Int):=by omega
    simp only[m,d,if_true,xV,xG a,xS,eW (show i<4611686018427387904 by omega)]
    split
    .exact hk _ ⟨i+1,rfl,a⟩ (by grind)
    .rfl
   grind
  |false=>
   rw[if_neg (by simp)]
   have q:∀y∈sgL,y.length<=2:=by decide
   refine qD (λv:Int=>∃i:Nat,v=i/\i<=25) (λv=>g false) (λv=>25 - v.toNat) ?_ (v:=(0:Int)) ⟨0,rfl,by omega⟩
   rintro v k ⟨i,rfl,w⟩ hk
   by_cases a:i<25
   .have f:i<sgL.length:=a
    have m:(i:Int)<25:=by omega
    have d:(0:Int)<=(i:Int):=by omega
    have G:=q sgL[i] (eO f);have C:IntKind.i64.wrap ((nm.length:Int) - 0)=(nm.length:Int):=by rw[Int.sub_zero,lg (by omega) (by omega)]
    have A:IntKind.i64.wrap (0+(sgL[i].length:Int))=(sgL[i].length:Int):=by rw[Int.zero_add,lg (by omega) (by omega)]
    have n:(0:Int)<=(sgL[i].length:Int):=by omega
    simp only[m,d,if_true,xV,xG f,xS,eW (show i<4611686018427387904 by omega),C,A,n]
    have t:=hk ((i+1:Nat):Int) ⟨i+1,rfl,a⟩ (by grind)
    grind
   grind
theorem nU{nm:J UInt8}{g:Bool->U ρ}:zM nm g=g (ng nm):=by
 simp only[zM,zL,mkF,ng]
 by_cases a:nm=[]
 .subst a;rfl
 rw[if_neg a]
 by_cases f:16<nm.length
 .grind
 rw[if_neg (by omega)]
 by_cases e:nm=[115,101,108,102]
 .subst e;rfl
 by_cases b:nm=[110,111,110,101]
 .subst b;rfl
 by_cases c:nm=[108,101,110]
 .subst c;rfl
 by_cases d:nm=[97,116]
 .subst d;rfl
 rw[if_neg e,if_neg b,if_neg c,if_neg d,UP a (by omega)]
 grind [ownL]
end
def dQ(n:Nat)(f:Nat->Int):U (Nat×Int):=(List.range n).findSome? λi=>if f i=0 then none else some (i,f i)
theorem UQ{ρ:Type}{f:Nat->Int}{g:Nat->Int->U ρ}{b:U ρ}(N:Nat):((List.range N).findSome? λi=>if f i=0 then none else some (g i (f i))).getD b=(dQ N f).elim b λp=>g p.1 p.2:=by
 unfold dQ;generalize List.range N=l
 induction l with
 |nil=>rfl
 |cons a l c=>
  grind
theorem ft{N:Nat}{f:Nat->Int}{i:Nat}{e:Int}(h:dQ N f=some (i,e)):i<N/\f i=e/\e≠0/\∀k,k<i->f k=0:=by
 unfold dQ at h
 induction N with
 |zero=>simp at h
 |succ N a=>
  rw[List.range_succ,List.findSome?_append]at h
  cases b:(List.range N).findSome? λi=>if f i=0 then none else some (i,f i)with
  |some p=>
   grind
  |none=>
   grind
theorem gX{N:Nat}{f:Nat->Int}(h:dQ N f=none):∀k,k<N->f k=0:=λk hk=>by
 have:=List.findSome?_eq_none_iff.1 h k (List.mem_range.2 hk)
 by_cases a:f k=0
 .exact a
 grind
theorem mN{N:Nat}{f:Nat->Int}{i:Nat}(hi:i<N)(h0:f i≠0)(h:∀k,k<i->f k=0):dQ N f=some (i,f i):=by
 cases g:dQ N f with
 |none=>grind [gX]
 |some p=>
  obtain⟨j,e⟩:=p;obtain⟨a,b,c,d⟩:=ft g
  obtain q |q |q:=Nat.lt_trichotomy i j
  .grind
  .subst q;rw[b]
  grind
theorem i7{N:Nat}{f:Nat->Int}(h:∀k,k<N->f k=0):dQ N f=none:=by
 grind [dQ]
abbrev Nm:=J UInt8
def qP(most:Nat)(a:J Nm)(b:Nat->Int)(i:Nat):Int:=
 if most<=i then 11 else match a[i]? with
 |some x=>if ng x=false then 6 else if x∈a.take i then 7 else b i
 |none=>0
def iP(s:J aw)(k:Int):Int:=
 if 1<=k then match s[(k - 1).toNat]? with |some x=>if 1<=x.cV/\x.cV<=4 then x.cV else 0 |none=>0 else 0
def jW(s:J aw)(k:Int):Bool:=decide (k=0) || decide (iP s k≠0)
def pD(lo hi:Int):Bool:=decide (-1048576<=lo/\lo<=hi/\hi<=1048576/\hi - lo<256)
def JL(x:aw):Int:=if 1<=x.cV/\x.cV<=4 then 0 else 10
def Aa(s:J aw)(v:aB):Int:=
 if(jW s v.aC&&jW s v.aG)=false then 8
 else if v.aC=0 then(if pD v.Lo v.Hi=true/\v.Lo<=v.Init/\v.Init<=v.Hi then 0 else 10)
 else(if 0<=v.Init/\v.Init<=iP s v.aC then 0 else 10)
def tN(s:J aw)(c:aD):Int:=
 if jW s c.aC=false then 8 else if 1<=c.bc/\c.bc<=4/\(c.aC=0->pD c.Lo c.Hi=true)then 0 else 10
def fb{α:Type}(l:J α)(f:α->Int)(i:Nat):Int:=match l[i]? with |some x=>f x |none=>0
def qQ(l:J aw):U (Nat×Int):=dQ l.length (qP 2 (l.map (·.Name)) (fb l JL))
def tO(l:J aB)(s:J aw)(most:Nat):Nat->Int:=qP most (l.map (·.Name)) (fb l (Aa s))
def qR(l:J aB)(s:J aw)(most:Nat):U (Nat×Int):=dQ l.length (tO l s most)
def nh(l:J aD)(s:J aw):Nat->Int:=qP 4 (l.map (·.Name)) (fb l (tN s))
def s7(l:J aD)(s:J aw):U (Nat×Int):=dQ l.length (nh l s)
def atE{ρ:Type}(o:U (Nat×Int))(g:Int->Int->U ρ):U ρ:=o.elim (g 0 0) λp=>g p.1 p.2
def jc(e:J aF)(k:Int)(s:au):Int:=if(lu e s).2=0 then(if(lu e s).1=k then 0 else 9)else(lu e s).2
def vD(n:Int)(s:au):U aD:=if 0<=n then(s.ah[n.toNat]?).bind λc=>if oW c.aC s=true then some c else none else none
def D9(a:aO)(s:au):Int:=
 if a.Kind=1\/a.Kind=2\/a.Kind=3 then
  match i4 (if a.Kind=3 then s.bB else s.aq) a.To s with
  |none=>8
  |some v=>
   if a.Kind=2 then(if v.aG=0 then 9 else if jc a.Index (w64 (1+v.aG)) s=0 then jc a.Value (kOf v.aC) s else jc a.Index (w64 (1+v.aG)) s)
   else(if v.aG=0 then jc a.Value (kOf v.aC) s else 9)
 else if a.Kind=4\/a.Kind=5 then
  match vD a.To s with
  |none=>8
  |some c=>
   if a.Kind=5 then(match i4 s.bB a.Local s with |none=>8 |some v=>if v.aG=0/\kOf v.aC=kOf c.aC then 0 else 9)
   else jc a.Value (kOf c.aC) s
 else 3
def talksP(a:aO):Bool:=decide (a.Kind=4) || decide (a.Kind=5)
def DQ(c:aK)(p:az):Int:=
 if ng c.Name=false then 6 else if 0<=c.dm/\c.dm<p.bF/\0<=c.To/\c.To<p.bF then(if 6<c.aM.length then 11 else 0)else 10
def lG(l:J aO)(s:au)(i:Nat):Int:=match l[i]? with |some a=>if talksP a=true/\(l.take i).any talksP=true then 7 else D9 a s |none=>0
def Ab(c:aK)(p:az)(s:au):Int×Int:=
 if DQ c p≠0 then(0,DQ c p)
 else if 0<c.Guard.length/\jc c.Guard 1 s≠0 then(1,jc c.Guard 1 s)
 else(dQ c.aM.length (lG c.aM s)).elim (0,0) λq=>(2+q.1,q.2)
def vE(p:az)(s:au):Int:=
 if ng p.Name=false then 6 else if p.aG<0\/(s.aa.length:Int)<p.aG then 8 else if p.bF<1\/12<p.bF then 10 else if 12<p.aP.length then 11 else 0
def iI(s:au)(v:aB):Int:=if v.aG≠0 then 9 else if v.Name∈s.aq.map (·.Name)then 7 else 0
def pE(p:az)(s:au):U (Nat×Int):=(qR p.aq s.aa 4).or (dQ p.aq.length (fb p.aq (iI s)))
def innerP(p:az)(s:au):au:={s with bB:=p.aq,Self:=p.aG}
def iQ(p:az)(s:au)(i:Nat):Int×Int:=match p.aP[i]? with |some c=>if(Ab c p s).2≠0 then Ab c p s else if c.Name∈(p.aP.take i).map (·.Name)then(0,7)else(0,0) |none=>(0,0)
def jp(p:az)(s:au):Int×Int×Int:=
 if vE p s≠0 then(0,0,vE p s)
 else match pE p s with
 |some q=>(1,q.1,q.2)
 |none=>(dQ p.aP.length λi=>(iQ p (innerP p s) i).2).elim (0,0,0) λq=>(2+q.1,(iQ p (innerP p s) q.1).1,q.2)
abbrev Flt:=Int×Int×Int×Int
def eX(m:ae)(p:az):Int:=if p.aG=0 then 1 else iP m.aa p.aG
def dN(m:ae)(v:aB):Int:=if v.aG=0 then 1 else iP m.aa v.aG
def s8(c:aD):Int:=1+min (max c.bc 0) 4
def gT{α:Type}(f:α->Int)(l:J α):Int:=l.foldl (λn x=>n+f x) 0
def vF(m:ae):Int:=gT (eX m) m.ak
def vG(m:ae):Int:=gT (dN m) m.aq+gT s8 m.ah+gT (λp=>eX m p * (1+(p.aq.length:Int))) m.ak
def sN(m:ae):J Nm:=m.aa.map (·.Name)
def vN(m:ae):J Nm:=m.aq.map (·.Name)
def cN(m:ae):J Nm:=m.ah.map (·.Name)
def pN(m:ae):J Nm:=m.ak.map (·.Name)
def qN(m:ae):J Nm:=m.aL.map (·.Name)
def orF(n:Nat)(f:Nat->Flt):U Flt:=(List.range n).findSome? λi=>if(f i).1=0 then none else some (f i)
def twF(e:Int)(x:Nm)(l:J Nm):Int:=if e≠0 then e else if x∈l then 7 else 0
def gvF(m:ae)(i:Nat):Flt:=(twF (tO m.aq m.aa 12 i) ((vN m).getD i []) (sN m++(vN m).take i),2,i,0)
def gcF(m:ae)(i:Nat):Flt:=(twF (nh m.ah m.aa i) ((cN m).getD i []) (sN m++vN m++(cN m).take i),3,i,0)
def vH(m:ae):U Flt:=((qQ m.aa).map λq=>(q.2,1,(q.1:Int),0)).or ((orF m.aq.length (gvF m)).or (orF m.ah.length (gcF m)))
def aav(m:ae)(p:az):U (Nat×Int):=dQ p.aq.length (fb p.aq λv=>if v.Name∈sN m++vN m++cN m++pN m then 7 else 0)
def gpF(m:ae)(i:Nat):Flt:=match m.ak[i]? with
 |none=>(0,0,0,0)
 |some p=>if 6<=i then(11,4,i,0)else
  let r:=jp p (eV m i)
  if r.2.2≠0 then(r.2.2,4,i,IntKind.i64.wrap (IntKind.i64.wrap (16 * r.1)+r.2.1))
  else if p.Name∈sN m++vN m++cN m++(pN m).take i then(7,4,i,0)
  else(aav m p).elim (0,0,0,0) λq=>(7,4,i,16+q.1)
def Ac(m:ae):U Flt:=(orF m.ak.length (gpF m)).or (if 12<vF m\/64<vG m then some (11,4,m.ak.length,0)else none)
def oH(m:ae)(i:Nat):Int:=match m.aL[i]? with
 |none=>0
 |some p=>if 8<=i then 11 else if ng p.Name=false then 6 else if p.Name∈sN m++vN m++cN m++pN m++(qN m).take i then 7 else
  let k:=lu p.Expr ⟨m.aa,m.aq,m.ah,m.ak,[],0⟩
  if k.2≠0 then k.2 else if k.1≠1 then 9 else 0
def s9(m:ae):U Flt:=orF m.aL.length λi=>(oH m i,5,i,0)
def hZ(m:ae):U Flt:=(vH m).or ((Ac m).or (s9 m))
section
attribute [-simp] List.map_append List.map_take List.map_drop List.map_set
def okE(e:J aF):Prop:=∀x∈e,x.N<=9223372036854775807
theorem L4{ρ:Type}(e:J aF)(k:Int)(s:au)(hs:s.aa.length<=1000)(a:okE e)(κ:KT ρ):
  cbK (call 195 [.sl false (List.map eN e),.int .i64 k,scD false s] []) κ=κ ([.d (.int .i64 (jc e k s))],[]):=by
 refine(aoi _ _ _ rfl).trans ?_
 have hk:=λκ=>RU (ρ:=ρ) false e s hs a κ
 unfold jc
 simp -implicitDefEqProofs [go_sem,hk]
 grind
section
variable{ρ:Type}
theorem aaw{a:Int}{s:au}(h:a<0\/(s.aa.length:Int)<a):oW a s=false:=by
 grind [oW]
theorem Zh{a:Int}{s:au}(h0:¬a<0)(h1:¬(s.aa.length:Int)<a):oW a s=true:=by
 grind [oW]
theorem Ol{a b:Int}{s:au}{g:Int->Bool->U ρ}:u7 a b s g=if(oW a s&&oW b s)=true then g (kOf a) true else g 0 false:=by
 grind [u7,u6,mkF,aaw,Zh,kOf]
theorem pF{l:J aB}{n:Int}{s:au}{g:J UInt8->Int->Int->Int->Int->Int->Int->Bool->U ρ}{e:U ρ}(i:∀a b c d f h k,g a b c d f h k false=e):ov l n s g=match i4 l n s with |some v=>g v.Name v.aC v.aG v.Lo v.Hi v.Init (kOf v.aC) true |none=>e:=by
 grind [ov,ou,mkF,Ol,i4]
theorem HK{n:Int}{s:au}{g:Int->Bool->U ρ}{e:U ρ}(a:∀k,g k false=e):qa n s g=match vD n s with |some c=>g (kOf c.aC) true |none=>e:=by
 grind [qa,pZ,mkF,Ol,vD,oW]
theorem Om{a:aO}{k:Int}{s:au}{g:Int->U ρ}:oz a k s g=g (match i4 s.bB a.Local s with |none=>8 |some v=>if v.aG=0/\kOf v.aC=k then 0 else 9):=by
 simp only[oz,ow,mkF];rw[pF (e:=g 8) (λ_ _ _ _ _ _ _=>by simp)]
 grind
theorem wH{c:aK}{p:az}{g:Int->U ρ}:zO c p g=g (DQ c p):=by
 simp only[zO,zN,mkF,lx,DQ]
 cases ng c.Name
 .simp
 by_cases b:c.dm<0
 .grind
 by_cases a:p.bF<=c.dm
 .grind
 by_cases d:c.To<0
 .grind
 by_cases h3:p.bF<=c.To
 .grind
 grind
end
structure ActE(a:aO):Prop where
 i:okE a.Index
 v:okE a.Value
theorem aq3{ρ:Type}(x:Int)(a:aO)(s:au)(hs:s.aa.length<=1000)(ha:ActE a)(k:Int)(κ:KT ρ):
  cbK (call 222 [.int .i64 k,.ptr 0,.ptr 1] [.box (.d (.agg [.int .i64 x,.int .i64 a.To,.int .i64 a.Local,.sl false (List.map eN a.Index),.sl false (List.map eN a.Value)])),.box (.d (scD false s))]) κ=
   κ ([.d (.int .i64 (jc a.Value k s))],[.box (.d (.agg [.int .i64 x,.int .i64 a.To,.int .i64 a.Local,.sl false (List.map eN a.Index),.sl false (List.map eN a.Value)])),.box (.d (scD false s))]):=by
 refine(apu _ _ _ rfl).trans ?_
 have b:=λk κ=>L4 (ρ:=ρ) a.Value k s hs ha.v κ
 simp -implicitDefEqProofs [go_sem,b]
theorem aq4{ρ:Type}(a:aO)(s:au)(hs:s.aa.length<=1000)(ha:ActE a)(κ:KT ρ):
  cbK (call 196 [.agg [.int .i64 a.Kind,.int .i64 a.To,.int .i64 a.Local,.sl false (List.map eN a.Index),.sl false (List.map eN a.Value)],scD false s] []) κ=κ ([.d (.int .i64 (D9 a s))],[]):=by
 refine(aol _ _ _ rfl).trans ?_
 have b:=λk κ=>L4 (ρ:=ρ) a.Index k s hs ha.i κ
 have c:=λx k κ=>aq3 (ρ:=ρ) x a s hs ha k κ
 unfold D9
 by_cases d:a.Kind=3
 .simp -implicitDefEqProofs [go_sem,b,c,d]
  rw[pF (e:=κ ([.d (.int .i64 8)],[])) (λ_ _ _ _ _ _ _=>by simp)]
  grind
 by_cases i:a.Kind=1
 .simp -implicitDefEqProofs [go_sem,b,c,i]
  rw[pF (e:=κ ([.d (.int .i64 8)],[])) (λ_ _ _ _ _ _ _=>by simp)]
  grind
 by_cases h:a.Kind=2
 .simp -implicitDefEqProofs [go_sem,b,c,h]
  rw[pF (e:=κ ([.d (.int .i64 8)],[])) (λ_ _ _ _ _ _ _=>by simp)]
  grind
 by_cases f:a.Kind=4
 .simp -implicitDefEqProofs [go_sem,b,c,f]
  rw[HK (e:=κ ([.d (.int .i64 8)],[])) (λ_=>by simp)]
  grind
 by_cases g:a.Kind=5
 .simp -implicitDefEqProofs [go_sem,b,c,g]
  rw[HK (e:=κ ([.d (.int .i64 8)],[])) (λ_=>by simp)]
  grind [Om]
 simp -implicitDefEqProofs [go_sem,b,c,i,h,d,f,g]
abbrev cmD(c:aK):D:=.agg [.str c.Name,.int .i64 c.dm,.int .i64 c.To,.sl false (List.map eN c.Guard),.sl false (List.map (jU false) c.aM),.bool c.Fair]
abbrev prD(p:az):D:=.agg [.str p.Name,.int .i64 p.aG,.int .i64 p.bF,.sl false (List.map dJ p.aq),.sl false (List.map (fU false) p.aP)]
structure CmdE(c:aK):Prop where
 g:okE c.Guard
 a:∀a∈c.aM,ActE a
theorem Oo{ρ:Type}{a:aO}{g:Bool->U ρ}:u5 a g=g (talksP a):=by
 grind [u5,u0,mkF,talksP]
def SC(s:au)(a:J aO)(b:Bool)(i:Int):St:=
 ⟨[(5,.loc (.l 5 0) [] 0 0),(10,.d (.bool b)),(32,.d (.sl false (List.map (jU false) a))),(33,.d (.int .i64 a.length)),(34,.d (.int .i64 i))],[((5,0),.own [.d (scD false s)])],[]⟩
def XC(s:au)(a:J aO)(b:Bool):St:=
 ⟨[(5,.loc (.l 5 0) [] 0 0),(10,.d (.bool b)),(32,.d (.sl false (List.map (jU false) a))),(33,.d (.int .i64 a.length)),(34,.d (.int .i64 a.length)),(35,.d (.bool false))],[((5,0),.own [.d (scD false s)])],[]⟩
def RC(a e:Int):St:=⟨[(6,.d (.int .i64 a)),(7,.d (.int .i64 e))],[],[]⟩
theorem aax{ρ:Type}(s:au)(hs:s.aa.length<=1000)(a:J aO)(hl:a.length<=1000)(i:Nat)(hi:i<a.length)(ha:ActE a[i])(R:St->U ρ)(κ:Ex×St->U ρ):
  go P hints pq Up LM.1 (SC s a ((a.take i).any talksP) i) (kLp R κ)=if lG a s i=0 then R (SC s a ((a.take (i+1)).any talksP) (i+1:Nat))else κ (.ret,RC (2+i) (lG a s i)):=by
 have c:a[i]? =some a[i]:=xG hi;have e:(i:Int)<(a.length:Int):=by omega
 have f:IntKind.i64.wrap ((i:Int)+1)=((i+1:Nat):Int):=eW (by omega)
 have d:IntKind.i64.wrap (2+(i:Int))=2+(i:Int):=dE (by omega) (by omega)
 have hk:=λκ=>aq4 (ρ:=ρ) a[i] s hs ha κ
 have t1:(a.take (i+1)).any talksP=((a.take i).any talksP || talksP a[i]):=by rw[eD hi,List.any_append];simp
 unfold SC RC lG;rw[c,t1]
 simp only
 generalize (a.take i).any talksP=b
 cases b <;>cases g:talksP a[i]
 all_goals
  simp -implicitDefEqProofs [go_sem,c,e,f,d,hk,Oo,g]
theorem aay{ρ:Type}(s:au)(a:J aO)(b:Bool)(R:St->U ρ)(κ:Ex×St->U ρ):
  go P hints pq Up LM.1 (SC s a b (a.length:Nat)) (kLp R κ)=κ (.exit 0,XC s a b):=by
 unfold SC XC
 simp -implicitDefEqProofs [go_sem]
theorem aaz{ρ:Type}(s:au)(hs:s.aa.length<=1000)(b:J aO)(hl:b.length<=1000)(ha:∀a∈b,ActE a)(κ:Ex×St->U ρ):∀(n i:Nat),b.length - i=n->i<=b.length->(∀k,k<i->lG b s k=0)->
  dI P hints pq Up 0 (SC s b ((b.take i).any talksP) i) κ=(dQ b.length (lG b s)).elim (κ (.exit 0,XC s b (b.any talksP))) λq=>κ (.ret,RC (2+q.1) q.2):=by
 intro n
 induction n with
 |zero=>
  intro i f g e
  have:i=b.length:=by omega
  subst this;rw[ap LM.2,aay,iz,i7 e];rfl
 |succ n h=>
  intro i f g e;have c:i<b.length:=by omega
  rw[ap LM.2,aax s hs b hl i c (ha _ (eO c))]
  by_cases d:lG b s i=0
  .rw[if_pos d]
   exact h (i+1) (by omega) (by omega) λk hk=>by
    grind
  .rw[if_neg d,mN c d e];rfl
theorem aq5{ρ:Type}(c:aK)(p:az)(s:au)(hs:s.aa.length<=1000)(hc:CmdE c)(hn:c.aM.length<=1000)(κ:KT ρ):
  cbK (call 174 [cmD c,prD p,scD false s] []) κ=κ ([.d (.int .i64 (Ab c p s).1),.d (.int .i64 (Ab c p s).2)],[]):=by
 refine(anr _ _ _ rfl).trans ?_
 have hk:=λκ=>L4 (ρ:=ρ) c.Guard 1 s hs hc.g κ
 have e:=λκ=>aaz (ρ:=ρ) s hs c.aM hn hc.a κ _ 0 rfl (eJ _) (λk hk=>by omega)
 simp only[SC,XC,RC,jB,List.any_nil,eA]at e
 unfold Ab
 by_cases a:DQ c p=0
 .by_cases b:0<c.Guard.length
  .by_cases f:jc c.Guard 1 s=0
   .cases d:dQ c.aM.length (lG c.aM s)with
    |none=>simp -implicitDefEqProofs [go_sem,hk,e,wH,a,b,f,d]
    |some q=>simp -implicitDefEqProofs [go_sem,hk,e,wH,a,b,f,d]
   .simp -implicitDefEqProofs [go_sem,hk,wH,a,b,f]
  .cases d:dQ c.aM.length (lG c.aM s)with
    |none=>simp -implicitDefEqProofs [go_sem,hk,e,wH,a,b,d]
    |some q=>simp -implicitDefEqProofs [go_sem,hk,e,wH,a,b,d]
 .simp -implicitDefEqProofs [go_sem,hk,wH,a]
theorem aaA{ρ:Type}(x v:aB)(H:J Ob)(n:Nat)(a:H[n]? =some (.box (.d (dJ v))))(κ:KT ρ):
  cbK (call 193 [dJ x,.ptr n] H) κ=κ ([.d (.bool (decide (x.Name=v.Name)))],H):=by
 refine(aoc _ _ _ rfl).trans ?_
 simp -implicitDefEqProofs [go_sem,a]
theorem aaB{ρ:Type}(x v:aK)(H:J Ob)(n:Nat)(a:H[n]? =some (.box (.d (fU false v))))(κ:KT ρ):
  cbK (call 176 [fU false x,.ptr n] H) κ=κ ([.d (.bool (decide (x.Name=v.Name)))],H):=by
 refine(anx _ _ _ rfl).trans ?_
 simp -implicitDefEqProofs [go_sem,a]
def hvS(l:J aB)(n:Nat)(H:J Ob)(i:Int):St:=⟨[(0,.d (.sl false (List.map dJ l))),(1,.d (.fn (.func 193) [] [.ptr n])),(7,.d (.int .i64 l.length)),(8,.d (.int .i64 i))],[],H⟩
def hvX(l:J aB)(n:Nat)(H:J Ob):St:=⟨[(0,.d (.sl false (List.map dJ l))),(1,.d (.fn (.func 193) [] [.ptr n])),(7,.d (.int .i64 l.length)),(8,.d (.int .i64 l.length)),(9,.d (.bool false))],[],H⟩
def hvF(l:J aB)(x:Nm)(i:Nat):Int:=fb l (λy=>if y.Name=x then 1 else 0) i
theorem aaC{ρ:Type}(l:J aB)(hl:l.length<=1000)(v:aB)(H:J Ob)(n:Nat)(e:H[n]? =some (.box (.d (dJ v))))(i:Nat)(hi:i<l.length)(R:St->U ρ)(κ:Ex×St->U ρ):
  go P hints px Us LS.1 (hvS l n H i) (kLp R κ)=if hvF l v.Name i=0 then R (hvS l n H (i+1:Nat))else κ (.ret,⟨[(4,.d (.int .i64 i))],[],H⟩):=by
 have b:l[i]? =some l[i]:=xG hi;have c:(i:Int)<(l.length:Int):=by omega
 have d:IntKind.i64.wrap ((i:Int)+1)=((i+1:Nat):Int):=eW (by omega)
 have hs:=λκ=>aaA (ρ:=ρ) l[i] v H n e κ
 simp only[dJ,eS,eI,eB,oa,JB]at hs
 unfold hvS hvF fb;rw[b]
 by_cases a:l[i].Name=v.Name
 .simp only[decide_eq_true a]at hs
  rw[if_neg (by simp[a])]
  simp -implicitDefEqProofs [go_sem,b,c,d,hs]
 .simp only[decide_eq_false a]at hs
  rw[if_pos (by simp[a])]
  simp -implicitDefEqProofs [go_sem,b,c,d,hs]
theorem aaD{ρ:Type}(l:J aB)(n:Nat)(H:J Ob)(R:St->U ρ)(κ:Ex×St->U ρ):
  go P hints px Us LS.1 (hvS l n H (l.length:Nat)) (kLp R κ)=κ (.exit 0,hvX l n H):=by
 unfold hvS hvX
 simp -implicitDefEqProofs [go_sem]
theorem aaE{ρ:Type}(l:J aB)(hl:l.length<=1000)(v:aB)(H:J Ob)(n:Nat)(e:H[n]? =some (.box (.d (dJ v))))(κ:Ex×St->U ρ):∀(m i:Nat),l.length - i=m->i<=l.length->(∀k,k<i->hvF l v.Name k=0)->
  dI P hints px Us 0 (hvS l n H i) κ=(dQ l.length (hvF l v.Name)).elim (κ (.exit 0,hvX l n H)) λq=>κ (.ret,⟨[(4,.d (.int .i64 q.1))],[],H⟩):=by
 intro m
 induction m with
 |zero=>
  intro i d f c
  have:i=l.length:=by omega
  subst this;rw[ap LS.2,aaD,i7 c];rfl
 |succ m g=>
  intro i d f c;have a:i<l.length:=by omega
  rw[ap LS.2,aaC l hl v H n e i a]
  by_cases b:hvF l v.Name i=0
  .rw[if_pos b]
   exact g (i+1) (by omega) (by omega) λk hk=>by
    grind
  .rw[if_neg b,mN a b c];rfl
theorem aq6(l:J aB)(x:Nm):dQ l.length (hvF l x)=none↔x∉l.map (·.Name):=by
 grind [List.mem_iff_getElem,gX,hvF,fb,i7]
theorem avR{ρ:Type}(l:J aB)(hl:l.length<=1000)(v:aB)(H:J Ob)(n:Nat)(c:H[n]? =some (.box (.d (dJ v))))(κ:KT ρ):
  cbK (call 220 [.sl false (List.map dJ l),.fn (.func 193) [] [.ptr n]] H) κ=κ ([.d (.int .i64 ((dQ l.length (hvF l v.Name)).elim (-1) λq=>(q.1:Int)))],H):=by
 refine(apo _ _ _ rfl).trans ?_
 have a:=λκ=>aaE (ρ:=ρ) l hl v H n c κ _ 0 rfl (eJ _) (λk hk=>by omega)
 simp only[hvS,hvX,eA]at a
 cases b:dQ l.length (hvF l v.Name)with
 |none=>simp -implicitDefEqProofs [go_sem,a,b]
 |some q=>simp -implicitDefEqProofs [go_sem,a,b]
theorem agp{ρ:Type}(l:J aB)(hl:l.length<=1000)(v:aB)(H:J Ob)(n:Nat)(d:H[n]? =some (.box (.d (dJ v))))(κ:KT ρ):
  cbK (call 192 [.sl false (List.map dJ l),.fn (.func 193) [] [.ptr n]] H) κ=κ ([.d (.bool (decide (v.Name∈l.map (·.Name))))],H):=by
 refine(an9 _ _ _ rfl).trans ?_
 have a:=λκ=>avR (ρ:=ρ) l hl v H n d κ
 have b:=aq6 l v.Name
 cases c:dQ l.length (hvF l v.Name)with
 |none=>
  have:v.Name∉l.map (·.Name):=b.1 c
  rw[decide_eq_false this];simp only[c]at a
  simp -implicitDefEqProofs [go_sem,a]
 |some q=>
  have:v.Name∈l.map (·.Name):=Az λh=>by grind
  rw[decide_eq_true this];simp only[c]at a
  simp -implicitDefEqProofs [go_sem,a]
def hcS(l:J aK)(n:Nat)(H:J Ob)(i:Int):St:=⟨[(0,.d (.sl false (List.map (fU false) l))),(1,.d (.fn (.func 176) [] [.ptr n])),(7,.d (.int .i64 l.length)),(8,.d (.int .i64 i))],[],H⟩
def hcX(l:J aK)(n:Nat)(H:J Ob):St:=⟨[(0,.d (.sl false (List.map (fU false) l))),(1,.d (.fn (.func 176) [] [.ptr n])),(7,.d (.int .i64 l.length)),(8,.d (.int .i64 l.length)),(9,.d (.bool false))],[],H⟩
def hcF(l:J aK)(x:Nm)(i:Nat):Int:=fb l (λy=>if y.Name=x then 1 else 0) i
theorem aaF{ρ:Type}(l:J aK)(hl:l.length<=1000)(v:aK)(H:J Ob)(n:Nat)(e:H[n]? =some (.box (.d (fU false v))))(i:Nat)(hi:i<l.length)(R:St->U ρ)(κ:Ex×St->U ρ):
  go P hints pw Ur LP.1 (hcS l n H i) (kLp R κ)=if hcF l v.Name i=0 then R (hcS l n H (i+1:Nat))else κ (.ret,⟨[(4,.d (.int .i64 i))],[],H⟩):=by
 have b:l[i]? =some l[i]:=xG hi;have c:(i:Int)<(l.length:Int):=by omega
 have d:IntKind.i64.wrap ((i:Int)+1)=((i+1:Nat):Int):=eW (by omega)
 have hs:=λκ=>aaB (ρ:=ρ) l[i] v H n e κ
 simp only[fU,eS,eI,eB,oa,JB]at hs
 unfold hcS hcF fb;rw[b]
 by_cases a:l[i].Name=v.Name
 .simp only[decide_eq_true a]at hs
  rw[if_neg (by simp[a])]
  simp -implicitDefEqProofs [go_sem,b,c,d,hs]
 .simp only[decide_eq_false a]at hs
  rw[if_pos (by simp[a])]
  simp -implicitDefEqProofs [go_sem,b,c,d,hs]
theorem aaG{ρ:Type}(l:J aK)(n:Nat)(H:J Ob)(R:St->U ρ)(κ:Ex×St->U ρ):
  go P hints pw Ur LP.1 (hcS l n H (l.length:Nat)) (kLp R κ)=κ (.exit 0,hcX l n H):=by
 unfold hcS hcX
 simp -implicitDefEqProofs [go_sem]
theorem aaH{ρ:Type}(l:J aK)(hl:l.length<=1000)(v:aK)(H:J Ob)(n:Nat)(e:H[n]? =some (.box (.d (fU false v))))(κ:Ex×St->U ρ):∀(m i:Nat),l.length - i=m->i<=l.length->(∀k,k<i->hcF l v.Name k=0)->
  dI P hints pw Ur 0 (hcS l n H i) κ=(dQ l.length (hcF l v.Name)).elim (κ (.exit 0,hcX l n H)) λq=>κ (.ret,⟨[(4,.d (.int .i64 q.1))],[],H⟩):=by
 intro m
 induction m with
 |zero=>
  intro i d f c
  have:i=l.length:=by omega
  subst this;rw[ap LP.2,aaG,i7 c];rfl
 |succ m g=>
  intro i d f c;have a:i<l.length:=by omega
  rw[ap LP.2,aaF l hl v H n e i a]
  by_cases b:hcF l v.Name i=0
  .rw[if_pos b]
   exact g (i+1) (by omega) (by omega) λk hk=>by
    grind
  .rw[if_neg b,mN a b c];rfl
theorem aq7(l:J aK)(x:Nm):dQ l.length (hcF l x)=none↔x∉l.map (·.Name):=by
 grind [List.mem_iff_getElem,gX,hcF,fb,i7]
theorem avS{ρ:Type}(l:J aK)(hl:l.length<=1000)(v:aK)(H:J Ob)(n:Nat)(c:H[n]? =some (.box (.d (fU false v))))(κ:KT ρ):
  cbK (call 197 [.sl false (List.map (fU false) l),.fn (.func 176) [] [.ptr n]] H) κ=κ ([.d (.int .i64 ((dQ l.length (hcF l v.Name)).elim (-1) λq=>(q.1:Int)))],H):=by
 refine(aon _ _ _ rfl).trans ?_
 have a:=λκ=>aaH (ρ:=ρ) l hl v H n c κ _ 0 rfl (eJ _) (λk hk=>by omega)
 simp only[hcS,hcX,eA]at a
 cases b:dQ l.length (hcF l v.Name)with
 |none=>simp -implicitDefEqProofs [go_sem,a,b]
 |some q=>simp -implicitDefEqProofs [go_sem,a,b]
theorem agq{ρ:Type}(l:J aK)(hl:l.length<=1000)(v:aK)(H:J Ob)(n:Nat)(d:H[n]? =some (.box (.d (fU false v))))(κ:KT ρ):
  cbK (call 175 [.sl false (List.map (fU false) l),.fn (.func 176) [] [.ptr n]] H) κ=κ ([.d (.bool (decide (v.Name∈l.map (·.Name))))],H):=by
 refine(anu _ _ _ rfl).trans ?_
 have a:=λκ=>avS (ρ:=ρ) l hl v H n d κ
 have b:=aq7 l v.Name
 cases c:dQ l.length (hcF l v.Name)with
 |none=>
  have:v.Name∉l.map (·.Name):=b.1 c
  rw[decide_eq_false this];simp only[c]at a
  simp -implicitDefEqProofs [go_sem,a]
 |some q=>
  have:v.Name∈l.map (·.Name):=Az λh=>by grind
  rw[decide_eq_true this];simp only[c]at a
  simp -implicitDefEqProofs [go_sem,a]
end
section
variable{ρ:Type}
theorem mO{s:J aw}{k:Int}(h:k<1\/(s.length:Int)<k):iP s k=0:=by
 unfold iP
 by_cases a:1<=k
 .rw[if_pos a,lX (by omega)]
 grind
theorem Bw{s:J aw}{k:Int}(h1:1<=k)(h2:(k - 1).toNat<s.length):iP s k=if 1<=s[(k - 1).toNat].cV/\s[(k - 1).toNat].cV<=4 then s[(k - 1).toNat].cV else 0:=by
 unfold iP;rw[if_pos h1,xG h2]
theorem L5{k:Int}{s:J aw}(hs:s.length<=1000){g:Int->Bool->U ρ}:uX k s g=if iP s k=0 then g 0 false else g (iP s k) true:=by
 simp only[uX,uW,mkF]
 by_cases b:k<1
 .grind [mO]
 by_cases d:(s.length:Int)<k
 .grind [mO]
 have c:IntKind.i64.wrap (k - 1)=k - 1:=dE (by omega) (by omega)
 have a:(k - 1).toNat<s.length:=by omega
 simp only[b,d,if_false,c,show 0<=k - 1 by omega,if_true,xG a,xS,Bw (show 1<=k by omega) a]
 grind
theorem Bx{v:aB}{s:J aw}(hs:s.length<=1000){g:Int->U ρ}:jK v s g=g (if v.aG=0 then 1 else iP s v.aG):=by
 simp only[jK,sL,mkF,L5 hs]
 by_cases h:v.aG=0
 .simp[h]
 grind
theorem wI{v:aB}{s:J aw}(hs:s.length<=1000){g:Int->Int->U ρ}:j7 v s g=if v.aC=0 then g v.Lo v.Hi else g 0 (iP s v.aC):=by
 simp only[j7,pW,mkF,L5 hs]
 by_cases h:v.aC=0
 .simp[h]
 grind
theorem Oq{k:Int}{s:J aw}(hs:s.length<=1000){g:Bool->U ρ}:sO k s g=g (jW s k):=by
 simp only[sO,sM,mkF,L5 hs,jW]
 by_cases h:k=0
 .simp[h]
 grind
theorem JM{a b:Int}{g:Bool->U ρ}:pY a b g=g (pD a b):=by
 grind [pY,pX,mkF,pD,dE]
theorem aaI{most:Nat}{a:J Nm}{b:Nat->Int}{i:Nat}(hi:i<a.length):qP most a b i=if most<=i then 11 else if ng a[i]=false then 6 else if a[i]∈a.take i then 7 else b i:=by
 grind [qP]
theorem L6{α:Type}{most:Nat}{l:J α}{nm:α->Nm}{f:α->Int}{i:Nat}(hi:i<l.length):qP most (l.map nm) (fb l f) i=if most<=i then 11 else if ng (nm l[i])=false then 6 else if nm l[i]∈(l.map nm).take i then 7 else f l[i]:=by
 grind [aaI,fb]
theorem RV{α:Type}{l:J α}{nm:α->Nm}{i:Nat}(hi:i<l.length):lj (tkn ((l.map nm).take i)) (nm l[i]) true=tkn ((l.map nm).take (i+1)):=by
 grind [vC,eD]
theorem Ad{α:Type}(most:Nat)(l:J α)(hl:l.length<=1000000)(nm:α->Nm)(f:α->Int)(g:Int->Int->U ρ)(Φ:Int×J (Nm×Bool)->(Int×J (Nm×Bool)->U ρ)->U ρ)
  (a:∀(i:Nat) (hi:i<l.length) (t:J (Nm×Bool)) (k:Int×J (Nm×Bool)->U ρ),Φ ((i:Int),t) k=if most<=i then g i 11 else if ng (nm l[i])=false then g i 6 else if kN false t (nm l[i])=true then g i 7 else if f l[i]=0 then k (IntKind.i64.wrap ((i:Int)+1),lj t (nm l[i]) true)else g i (f l[i]))
  (hf:∀t k,Φ ((l.length:Int),t) k=g 0 0):iw Φ (0,[])=atE (dQ l.length (qP most (l.map nm) (fb l f))) g:=by
 refine(oc (τ:=Int×J (Nm×Bool)) l.length (λi:Nat=>((i:Int),tkn ((l.map nm).take i))) (λi=>if qP most (l.map nm) (fb l f) i=0 then none else some (g i (qP most (l.map nm) (fb l f) i))) (g 0 0) (λi k hi=> ?_) (λk=>hf _ k)).trans ?_
 .grind [L6,vB,RV,eW]
 .rw[UQ (g:=λi e=>g i e)]
  rfl
theorem Qy{l:J aw}(hl:l.length<=1000){g:Int->Int->U ρ}:ot l g=atE (qQ l) g:=by
 simp only[ot,oq,mkF,lx];refine Ad 2 l (by omega) (·.Name) JL g _ (λi a t k=> ?_) (λt k=> ?_)
 .grind [xV,JL]
 .simp
theorem RW{l:J aB}{s:J aw}{n:Nat}(hl:l.length<=1000)(hs:s.length<=1000){g:Int->Int->U ρ}:uZ l s n g=atE (qR l s n) g:=by
 simp only[uZ,uY,mkF,lx,Oq hs,wI hs,JM];refine Ad n l (by omega) (·.Name) (Aa s) g _ (λi d t k=> ?_) (λt k=> ?_)
 .simp only[show(i:Int)<(l.length:Int)by omega,show(0:Int)<=(i:Int)by omega,if_true,xV,xG d,xS,show¬((n:Int)<0)by omega,if_false,Int.ofNat_le]
  by_cases c:n<=i
  .simp[c]
  simp only[c,if_false,Aa]
  by_cases a:jW s l[i].aC=false
  .simp[a]
  by_cases b:jW s l[i].aG=false
  .simp[a,b]
  grind
 .simp
theorem Zi{l:J aD}{s:J aw}(hl:l.length<=1000)(hs:s.length<=1000){g:Int->Int->U ρ}:sQ l s g=atE (s7 l s) g:=by
 simp only[sQ,sP,mkF,lx,Oq hs,JM];refine Ad 4 l (by omega) (·.Name) (tN s) g _ (λi a t k=> ?_) (λt k=> ?_)
 .simp only[show(i:Int)<(l.length:Int)by omega,show(0:Int)<=(i:Int)by omega,if_true,xV,xG a,xS]
  by_cases b:4<=i
  .grind
  grind [tN]
 .simp
end
section
attribute [-simp] List.map_append List.map_take List.map_drop List.map_set
theorem HL{ρ:Type}{p:az}{s:au}{g:Int->U ρ}:sS p s g=g (vE p s):=by
 simp only[sS,sR,mkF,lx,vE]
 by_cases a:ng p.Name=false
 .simp[a]
 by_cases b:p.aG<0
 .simp[a,b]
 by_cases h3:(s.aa.length:Int)<p.aG
 .simp[a,b,h3]
 grind
def SL(s:au)(l:J aB)(H:J Ob)(i:Int):St:=
 ⟨[(3,.loc (.l 3 0) [] 0 0),(23,.d (.sl false (List.map dJ l))),(24,.d (.int .i64 l.length)),(25,.d (.int .i64 i))],[((3,0),.own [.d (scD false s)])],H⟩
def XL(s:au)(l:J aB)(H:J Ob):St:=
 ⟨[(3,.loc (.l 3 0) [] 0 0),(23,.d (.sl false (List.map dJ l))),(24,.d (.int .i64 l.length)),(25,.d (.int .i64 l.length)),(26,.d (.bool false))],[((3,0),.own [.d (scD false s)])],H⟩
theorem aaJ{ρ:Type}(s:au)(hs:s.aq.length<=1000)(l:J aB)(hl:l.length<=1000)(H:J Ob)(i:Nat)(hi:i<l.length)(R:St->U ρ)(κ:Ex×St->U ρ):
  go P hints pp Uo LL.1 (SL s l H i) (kLp R κ)=if iI s l[i]=0 then R (SL s l (H++[.box (.d (dJ l[i]))]) (i+1:Nat))else κ (.ret,⟨[(4,.d (.int .i64 i)),(5,.d (.int .i64 (iI s l[i])))],[],H++[.box (.d (dJ l[i]))]⟩):=by
 have g:l[i]? =some l[i]:=xG hi;have e:(i:Int)<(l.length:Int):=by omega
 have f:IntKind.i64.wrap ((i:Int)+1)=((i+1:Nat):Int):=eW (by omega)
 have b:=λκ=>agp (ρ:=ρ) s.aq hs l[i] (H++[.box (.d (dJ l[i]))]) H.length (by simp) κ
 simp only[dJ,eS,eI]at b
 unfold SL
 by_cases a:l[i].aG=0
 .simp only[dJ,eS,eI,a]at b
  by_cases d:l[i].Name∈s.aq.map (·.Name)
  .have c:iI s l[i]=7:=by unfold iI;rw[if_neg (λq=>q a),if_pos d]
   rw[c,if_neg (by decide)]
   simp only[decide_eq_true d]at b
   simp -implicitDefEqProofs [go_sem,g,e,f,b,a]
  .have c:iI s l[i]=0:=by unfold iI;rw[if_neg (λq=>q a),if_neg d]
   rw[c,if_pos rfl];simp only[decide_eq_false d]at b
   simp -implicitDefEqProofs [go_sem,g,e,f,b,a]
 .have c:iI s l[i]=9:=by unfold iI;rw[if_pos a]
  rw[c,if_neg (by decide)]
  simp -implicitDefEqProofs [go_sem,g,e,f,a]
theorem aaK{ρ:Type}(s:au)(l:J aB)(H:J Ob)(R:St->U ρ)(κ:Ex×St->U ρ):
  go P hints pp Uo LL.1 (SL s l H (l.length:Nat)) (kLp R κ)=κ (.exit 0,XL s l H):=by
 unfold SL XL
 simp -implicitDefEqProofs [go_sem]
theorem aaL{ρ:Type}(s:au)(hs:s.aq.length<=1000)(l:J aB)(hl:l.length<=1000)(κ:Ex×St->U ρ)(A:U ρ)(B:Nat->Int->U ρ)(h:∀H,κ (.exit 0,XL s l H)=A)(g:∀i e H,κ (.ret,⟨[(4,.d (.int .i64 (i:Nat))),(5,.d (.int .i64 e))],[],H⟩)=B i e):∀(m i:Nat) (H:J Ob),l.length - i=m->i<=l.length->(∀k,k<i->fb l (iI s) k=0)->
  dI P hints pp Uo 0 (SL s l H i) κ=(dQ l.length (fb l (iI s))).elim A λq=>B q.1 q.2:=by
 intro m
 induction m with
 |zero=>
  intro i H f j b
  have:i=l.length:=by omega
  subst this;rw[ap LL.2,aaK,i7 b,h];rfl
 |succ m n=>
  intro i H f j b;have a:i<l.length:=by omega
  have d:fb l (iI s) i=iI s l[i]:=by simp[fb,a]
  rw[ap LL.2,aaJ s hs l hl H i a]
  by_cases c:iI s l[i]=0
  .rw[if_pos c]
   exact n (i+1) _ (by omega) (by omega) λk hk=>by
    grind
  .rw[if_neg c,mN a (by rw[d];exact c) b,d,g];rfl
theorem Zj{ρ:Type}(p:az)(s:au)(hs:s.aq.length<=1000)(c:s.aa.length<=1000)(hl:p.aq.length<=1000)(κ:KT ρ):
  cbK (call 172 [prD p,scD false s] []) κ=(pE p s).elim (κ ([.d (.int .i64 0),.d (.int .i64 0)],[])) λq=>κ ([.d (.int .i64 q.1),.d (.int .i64 q.2)],[]):=by
 refine(anm _ _ _ rfl).trans ?_
 have b:=λg=>RW (ρ:=ρ) (n:=4) hl c (g:=g)
 simp only[show((4:Nat):Int)=4 from rfl]at b
 unfold pE
 cases d:qR p.aq s.aa 4 with
 |some q=>
  obtain⟨l,j,h3,h4⟩:=ft (i:=q.1) (e:=q.2) d
  simp -implicitDefEqProofs [go_sem,b,d,atE,h3]
 |none=>
  have a:=λκ A B f h=>aaL (ρ:=ρ) s hs p.aq hl κ A B f h _ 0 [] rfl (eJ _) (λk hk=>by omega)
  simp only[SL,XL,eA]at a
  simp -implicitDefEqProofs [go_sem,b,d,atE]
  rw[a _ (κ ([.d (.int .i64 0),.d (.int .i64 0)],[])) (λi e=>κ ([.d (.int .i64 i),.d (.int .i64 e)],[]))]
  .intro H
   simp -implicitDefEqProofs [go_sem]
   grind
  .intro i e H
   simp -implicitDefEqProofs [go_sem]
   grind
theorem avT:hint142.nvAt 33=1099511627776:=rfl
structure ProcE(p:az):Prop where
 c:∀c∈p.aP,CmdE c/\c.aM.length<=1000
def SQ(p:az)(s:au)(H:J Ob)(i:Int):St:=
 ⟨[(2,.loc (.l 2 0) [] 0 0),(10,.loc (.l 10 0) [] 0 0),(35,.d (.sl false (List.map (fU false) p.aP))),(36,.d (.int .i64 p.aP.length)),(37,.d (.int .i64 i))],[((2,0),.own [.d (prD p)]),((10,0),.own [.d (scD false (innerP p s))])],H⟩
def XQ(p:az)(s:au)(H:J Ob):St:=
 ⟨[(2,.loc (.l 2 0) [] 0 0),(10,.loc (.l 10 0) [] 0 0),(35,.d (.sl false (List.map (fU false) p.aP))),(36,.d (.int .i64 p.aP.length)),(37,.d (.int .i64 p.aP.length)),(38,.d (.bool false))],[((2,0),.own [.d (prD p)]),((10,0),.own [.d (scD false (innerP p s))])],H⟩
def RQ(a b e:Int)(H:J Ob):St:=⟨[(4,.d (.int .i64 a)),(5,.d (.int .i64 b)),(6,.d (.int .i64 e))],[],H⟩
theorem aaM{ρ:Type}(p:az)(s:au)(k:s.aa.length<=1000)(hl:p.aP.length<=1000)(H:J Ob)(i:Nat)(hi:i<p.aP.length)(hc:CmdE p.aP[i])(hn:p.aP[i].aM.length<=1000)(R:St->U ρ)(κ:Ex×St->U ρ):
  go P hints hint142 Ul LJ.1 (SQ p s H i) (kLp R κ)=if(iQ p (innerP p s) i).2=0 then R (SQ p s (H++[.box (.d (fU false p.aP[i]))]) (i+1:Nat))else κ (.ret,RQ (2+i) (iQ p (innerP p s) i).1 (iQ p (innerP p s) i).2 (H++[.box (.d (fU false p.aP[i]))])):=by
 have b:p.aP[i]? =some p.aP[i]:=xG hi;have j:(i:Int)<(p.aP.length:Int):=by omega
 have m:(i:Int)<=(p.aP.length:Int):=by omega
 have n:i<=p.aP.length:=by omega
 have h:IntKind.i64.wrap ((i:Int)+1)=((i+1:Nat):Int):=eW (by omega)
 have f:IntKind.i64.wrap (2+(i:Int))=2+(i:Int):=dE (by omega) (by omega)
 have g:=λκ=>aq5 (ρ:=ρ) p.aP[i] p (innerP p s) k hc hn κ
 have c:=λκ=>agq (ρ:=ρ) (p.aP.take i) (by simp;omega) p.aP[i] (H++[.box (.d (fU false p.aP[i]))]) H.length (by simp) κ
 simp only[fU,eS,eI,eB,oa,JB]at c
 have l:headD 6 (List.map (fU false) (p.aP.take i))=true:=by cases p.aP.take i <;>rfl
 unfold SQ RQ
 by_cases a:(Ab p.aP[i] p (innerP p s)).2=0
 .by_cases e:p.aP[i].Name∈(p.aP.take i).map (·.Name)
  .have d:iQ p (innerP p s) i=(0,7):=by unfold iQ;rw[b];simp only;rw[if_neg (λq=>q a),if_pos e]
   simp only[decide_eq_true e]at c
   rw[d,if_neg (by decide)]
   simp -implicitDefEqProofs [go_sem,b,j,m,n,h,f,g,c,l,a]
  .have d:iQ p (innerP p s) i=(0,0):=by unfold iQ;rw[b];simp only;rw[if_neg (λq=>q a),if_neg e]
   simp only[decide_eq_false e]at c
   rw[d,if_pos rfl]
   simp -implicitDefEqProofs [go_sem,b,j,m,n,h,f,g,c,l,a]
 .have d:iQ p (innerP p s) i=Ab p.aP[i] p (innerP p s):=by unfold iQ;rw[b];simp only;rw[if_pos a]
  rw[d,if_neg a]
  simp -implicitDefEqProofs [go_sem,b,j,h,f,g,a]
theorem aaN{ρ:Type}(p:az)(s:au)(H:J Ob)(R:St->U ρ)(κ:Ex×St->U ρ):
  go P hints hint142 Ul LJ.1 (SQ p s H (p.aP.length:Nat)) (kLp R κ)=κ (.exit 0,XQ p s H):=by
 unfold SQ XQ
 simp -implicitDefEqProofs [go_sem]
theorem aaO{ρ:Type}(p:az)(s:au)(g:s.aa.length<=1000)(hl:p.aP.length<=1000)(t:ProcE p)(κ:Ex×St->U ρ)(A:U ρ)(B:Nat->Int->Int->U ρ)(n:∀H,κ (.exit 0,XQ p s H)=A)(l:∀(i:Nat) b e H,κ (.ret,RQ (2+(i:Int)) b e H)=B i b e):∀(m i:Nat) (H:J Ob),p.aP.length - i=m->i<=p.aP.length->(∀k,k<i->(iQ p (innerP p s) k).2=0)->
  dI P hints hint142 Ul 0 (SQ p s H i) κ=(dQ p.aP.length λi=>(iQ p (innerP p s) i).2).elim A λq=>B q.1 (iQ p (innerP p s) q.1).1 q.2:=by
 intro m
 induction m with
 |zero=>
  intro i H j o c
  have:i=p.aP.length:=by omega
  subst this;rw[ap LJ.2,aaN,i7 c,n];rfl
 |succ m r=>
  intro i H j o c;have a:i<p.aP.length:=by omega
  have h:=t.c _ (eO a);rw[ap LJ.2,aaM p s g hl H i a h.1 h.2]
  by_cases d:(iQ p (innerP p s) i).2=0
  .rw[if_pos d]
   exact r (i+1) _ (by omega) (by omega) λk hk=>by
    grind
  .rw[if_neg d,mN (f:=λi=>(iQ p (innerP p s) i).2) a d c,l];rfl
theorem agr{ρ:Type}(p:az)(s:au)(hs:s.aq.length<=1000)(d:s.aa.length<=1000)(hl:p.aq.length<=1000)(h:p.aP.length<=1000)(n:ProcE p)(κ:KT ρ):
  cbK (call 142 [prD p,scD false s] []) κ=κ ([.d (.int .i64 (jp p s).1),.d (.int .i64 (jp p s).2.1),.d (.int .i64 (jp p s).2.2)],[]):=by
 refine(al8 _ _ _ rfl).trans ?_
 have f:=λκ=>Zj (ρ:=ρ) p s hs d hl κ
 unfold jp
 by_cases j:vE p s=0
 .cases a:pE p s with
  |some q=>
   have h3:q.2≠0:=by
    unfold pE at a
    cases g:qR p.aq s.aa 4 with
    |some r=>
     rw[g]at a
     simp only[Option.some_or,xJ]at a
     subst a
     exact(ft (i:=r.1) (e:=r.2) g).2.2.1
    |none=>
     rw[g]at a
     simp only[nu]at a
     exact(ft (i:=q.1) (e:=q.2) a).2.2.1
   simp only[a,oX]at f
   simp -implicitDefEqProofs [go_sem,f,j,h3,HL]
  |none=>
   simp only[a,kS]at f
   have c:=λκ A B m l=>aaO (ρ:=ρ) p s d h n κ A B m l _ 0 [] rfl (eJ _) (λk hk=>by omega)
   simp only[SQ,XQ,RQ,eA,innerP]at c
   simp -implicitDefEqProofs [go_sem,f,j,HL,avT,nM,lq,mkF]
   rw[c _ (κ ([.d (.int .i64 0),.d (.int .i64 0),.d (.int .i64 0)],[])) (λi b e=>κ ([.d (.int .i64 (2+(i:Int))),.d (.int .i64 b),.d (.int .i64 e)],[]))]
   .cases o:dQ p.aP.length λi=>(iQ p (innerP p s) i).2 with
    |none=>grind [innerP]
    |some q=>grind [innerP]
   .intro H
    simp -implicitDefEqProofs [go_sem]
    grind
   .intro i b e H
    simp -implicitDefEqProofs [go_sem]
    grind
 .simp -implicitDefEqProofs [go_sem,j,HL]
end
end Go.Etx
