/- A part of the proof: texts of mine, merged by a program (wip/dev/merge.py). -/
import Derived.Test.YteeabnledfmpjaaGreatDoorFr9
set_option linter.defProp false
set_option linter.unusedSimpArgs false
set_option linter.unusedVariables false
namespace Go.Etx
open Go Go.Am Go.Proofs
set_option maxHeartbeats 4000000
set_option maxRecDepth 20000
section
attribute [-simp] List.map_append List.map_take List.map_drop List.map_set
variable{m:ae}{s:J Int}{Q:J GStep}
section
variable{ρ:Type}
theorem CT{r:bC}{x:aE}{p:az}{c:aK}{i k j n:Nat}(hr:(dM m)[n]? =some r)(h:RefAt m r x p c i k j)(κ:KT ρ):cbK (call 32 [.ptr 0,.int .i64 n] (HW m (BQ Q))) κ=κ ([.d (vO c)],HW m (BQ Q)):=by
 refine(N6 _ _ _ rfl).trans ?_
 have a:=h.hi;have b:=h.hj;have h3:=h.hx;have h4:=h.hk;have h5:=h.hp;have h6:=h.hc
 simp [go_sem,HW,WF,vO,hr,a,b,h3,h4,h5,h6]
theorem abK{a off len:Nat}{xs es:J Int}{H:J Ob}{t:J Tr}{b:SV}(hl:xs.length=len)(hn:xs≠[])(h:off+len<=es.length)(hb:qu b ⟨[((a,0),.own (tl eI es))],H,t⟩=some (tl eI xs)):nZ P 29 (.aH (.l a 0) [] off len) b ⟨[((a,0),.own (tl eI es))],H,t⟩=some (.d (.int .i64 (len:Int)),⟨[((a,0),.own (tl eI (i6 es off xs))),((a,0),.own (tl eI es))],H,t⟩):=by
 have d:Nat.min len len=len:=Nat.min_self len
 have:=Bg (P:=P) (t:=29) (u:=3) (by rfl) (by rfl) (r:=.l a 0) (p:=[]) (off:=off) (len:=len) (xs:=xs) (es:=es) (c:=.own (tl eI es)) hb (by simp[go_sem]) rfl (by grind)
 rw[this,hl,d,gy (by omega)]
 simp[go_sem,T.put,hn,i6,hl]
theorem ag2(E:bq m)(R:s.length=(eR m).length){r:bC}{x:aE}{p:az}{c:aK}{i k j n:Nat}(hr:(dM m)[n]? =some r)(h:RefAt m r x p c i k j)(b I:Bool)(t:J Int)(ht:t.length=(eR m).length)
  (l:∀κ:KT ρ,cbK (call 57 [vO c] []) κ=κ ([.d (.int .i64 (kK c).1),.d (.int .i64 (kK c).2)],[])) (q:Nat) (G:(kK c).2=(q:Int)) (g:q<m.ah.length) (κ:KT ρ):cbK (call 59 [.ptr 0,.sl b (List.map eI s),.sl I (List.map eI t),.int .i64 n] (HW m (BQ Q))) κ=κ ([.d (.sl false (List.map eI (JP m s t c)))],HW m (BQ Q)):=by
 refine(avf _ _ _ rfl).trans ?_
 obtain⟨a,f⟩:=jL E.may (xG g);have O:=iN E.may;have T:=f.f;have S:=f.cap
 have L:(cAt m)[q]? =some a:=by
  have N:(cAt m).length=m.ah.length:=by simp[cAt,jx,eF]
  have F:=f.at0;rw[Eg,xG (by omega),gZ]at F
  rw[xG (by omega),F]
 have d:=λκ=>Mp (ρ:=ρ) q g (HW m (BQ Q)) rfl a L ⟨by omega,by omega⟩ (by omega) κ
 have u:=λκ=>CT (ρ:=ρ) (Q:=Q) hr h κ
 have A:=λb κ=>Mq (ρ:=ρ) b t (λe=>by grind) (by omega) κ
 have z:(fe m s q).length=m.ah[q].bc.toNat+1:=(iM f R).1
 have w:List.take (m.ah[q].bc.toNat+1) (List.drop a s)=fe m s q:=by
  simp only[fe,f.at0,vK,xG g,lC]
 have K:(0:Int)<=(a:Int)+1+m.ah[q].bc:=by omega
 have M:a<=((a:Int)+1+m.ah[q].bc).toNat:=by omega
 have q3:(a:Int)+1+m.ah[q].bc<=(s.length:Int):=by omega
 have C:(a:Int)+1+m.ah[q].bc<=(t.length:Int):=by omega
 have q4:((a:Int)+1+m.ah[q].bc).toNat - a=m.ah[q].bc.toNat+1:=by omega
 have q5:¬((a:Int)+1+m.ah[q].bc<(a:Int)):=by omega
 have q6:(a:Int)<=(a:Int)+1+m.ah[q].bc:=by omega
 have B:JP m s t c=i6 t a (fe m s q):=by unfold JP;rw[G,xV,f.at0]
 rw[B];rw[G]at l
 simp only[HW,WF,vO]at u l d
 have D:fe m s q≠[]:=λe=>by grind
 have v:=λ(b:Bool) H P=>abK (a:=11) (off:=a) (len:=m.ah[q].bc.toNat+1) (xs:=fe m s q) (es:=t) (H:=H) (t:=P) (b:=.d (.sl b (List.map eI (fe m s q)))) z D (by omega) F2
 have o:(i6 t a (fe m s q)).length=t.length:=CN (by omega)
 have y:List.take t.length (i6 t a (fe m s q))=i6 t a (fe m s q):=gy (by omega)
 generalize fe m s q=X at v o y w |-
 cases b <;>cases I <;>simp [go_sem,HW,WF,vO,u,l,A,d,w,K,M,q3,C,q4,q5,q6,v,o,y]
structure CommW(m:ae)(c:aK)(ρ:Type):Prop where
 cm:∀κ:KT ρ,cbK (call 57 [vO c] []) κ=κ ([.d (.int .i64 (kK c).1),.d (.int .i64 (kK c).2)],[])
 wy:∀κ:KT ρ,cbK (call 31 [vO c,.sl false (List.map dP m.ah)] []) κ=κ ([.d (.int .i64 (if oO m c=true then 2 else 1))],[])
theorem Z3{c:aK}{s:au}(i:s.ah=m.ah)(ha:∀x∈c.aM,D9 x s=0)(h:oO m c=true):∃q:Nat,(kK c).2=(q:Int)/\q<m.ah.length:=by
 unfold oO at h;simp only[xA,yD]at h
 obtain⟨h4,h⟩:=h;unfold kK at h4 h |-
 cases b:c.aM.find? talksP with
 |none=>grind
 |some a=>
  rw[b]at h h4
  simp only at h h4 |-
  have d:=List.mem_of_find?_eq_some b
  cases Mn (ha a d)with
  |send hk f e g=>grind
  |_=>omega
theorem QL(a:May m)(c:inB m s){r:bC}{t:J Int}(h:mi m s r=some t):t.length=(eR m).length:=by
 unfold mi at h;simp only at h
 split at h
 .simp only[xM]at h
  obtain⟨u,b,rfl⟩:=h;rw[oY]
  exact(HY a c b).1
 .cases h
theorem QM(o:bq m)(w:inB m s)(b:Bool)(n:Nat)(r:bC)(hr:(dM m)[n]? =some r)(hw:CommW m (mQ m r) ρ)(κ:KT ρ):cbK (call 33 [.ptr 0,.sl b (List.map eI s),.int .i64 n] (HW m (BQ Q))) κ=κ ([.d (.sl false (List.map (fS false) (j9 m s r)))],HW m (BQ Q)):=by
 refine(auY _ _ _ rfl).trans ?_
 obtain⟨x,p,c,i,k,j,h⟩:=Ie o.may (yS hr);rw[h.cm]at hw
 have a:=λb κ=>Z2 (ρ:=ρ) (Q:=Q) o w b n r hr κ
 have e:=λκ=>CT (ρ:=ρ) (Q:=Q) hr h κ
 have d:=hw.wy;have f:=λt z b v q y g κ=>ag2 (ρ:=ρ) (s:=s) (Q:=Q) o w.1 hr h b v t z hw.cm q y g κ
 simp only[HW,WF,vO]at e a d f
 unfold j9
 cases u:mi m s r with
 |none=>
  rw[u]at a
  cases b <;>simp [go_sem,HW,WF,vO,e,a]
 |some t=>
  rw[u]at a
  have z:=QL o.may w u;simp only[h.cm]
  by_cases l:oO m c=true
  .obtain⟨q,y,g⟩:=Z3 (oQ h.hp).2.1 h.ok.a l
   have f:=λb v κ=>f t z b v q y g κ
   rw[if_pos l]at d
   cases b <;>simp [go_sem,HW,WF,vO,e,a,d,f,l]
  .rw[if_neg l]at d
   cases b <;>simp [go_sem,HW,WF,vO,e,a,d,l]
end
end
section
attribute [-simp] List.map_append List.map_take List.map_drop List.map_set
variable{m:ae}{s:J Int}{Q:J GStep}
section
variable{ρ:Type}
def MS(m:ae)(Q:J GStep)(s:J Int)(b:Bool)(k:Nat)(a:J bm):St:=⟨[(0,.d (.ptr 0)),(1,.d (.sl b (List.map eI s))),(5,.aH (.l 5 0) [] 0 a.length),(13,.d (.int .i64 (dM m).length)),(14,.d (.int .i64 k))],[((5,0),.own (tl (lF false) a))],HW m (BQ Q)⟩
def MI(m:ae)(Q:J GStep)(s:J Int)(b:Bool)(k:Nat)(l:J (J Int))(j:Nat)(a:J bm):St:=⟨[(0,.d (.ptr 0)),(1,.d (.sl b (List.map eI s))),(5,.aH (.l 5 0) [] 0 a.length),(6,.d (.int .i64 k)),(13,.d (.int .i64 (dM m).length)),(14,.d (.int .i64 k)),(20,.d (.sl false (List.map (fS false) l))),(21,.d (.int .i64 l.length)),(22,.d (.int .i64 j))],[((5,0),.own (tl (lF false) a))],HW m (BQ Q)⟩
def MIX(m:ae)(Q:J GStep)(s:J Int)(b:Bool)(k:Nat)(l:J (J Int))(a:J bm):St:=⟨[(0,.d (.ptr 0)),(1,.d (.sl b (List.map eI s))),(5,.aH (.l 5 0) [] 0 a.length),(6,.d (.int .i64 k)),(13,.d (.int .i64 (dM m).length)),(14,.d (.int .i64 k)),(20,.d (.sl false (List.map (fS false) l))),(21,.d (.int .i64 l.length)),(22,.d (.int .i64 l.length)),(23,.d (.bool false))],[((5,0),.own (tl (lF false) a))],HW m (BQ Q)⟩
theorem abL{l:J bm}{a c:Int}{t:J Int}:tl (lF false) l++[.d (.agg [.int .i64 a,.int .i64 c,.sl false (List.map eI t)])]=tl (lF false) (l++[⟨a,c,t⟩]):=by rw[tl,tl,pM];rfl
theorem abM(b:Bool)(k:Nat)(l:J (J Int))(hl:l.length<=1000)(j:Nat)(c:j<l.length)(a:J bm)(ho:a.length<=100000)(κ:Ex×St->U ρ):dI P hints jS b41 0 (MI m Q s b k l j a) κ=dI P hints jS b41 0 (MI m Q s b k l (j+1) (a++[⟨k,j,l[j]⟩])) κ:=by
 refine(ap acM.2).trans ?_
 have d:IntKind.i64.wrap ((j:Int)+1)=(j:Int)+1:=dE (by omega) (by omega)
 have f:(a.length+1) * 40<=140737488355328:=by omega
 have e:a.length<=9223372036854775806:=by omega
 cases b <;>simp [go_sem,MI,HW,WF,c,d,f,e,abL]
theorem abN(b:Bool)(k:Nat)(l:J (J Int))(a:J bm)(κ:Ex×St->U ρ):dI P hints jS b41 0 (MI m Q s b k l l.length a) κ=κ (.exit 2,MIX m Q s b k l a):=by
 refine(ap acM.2).trans ?_
 simp [go_sem,MI,MIX,HW,WF]
def vP(k:Nat)(l:J (J Int)):J bm:=l.zipIdx.map λ(t,w)=>⟨(k:Int),(w:Int),t⟩
theorem U0(k:Nat)(l:J (J Int)):(vP k l).length=l.length:=by simp[vP]
theorem QN(k:Nat)(l:J (J Int))(j:Nat)(a:j<l.length):(vP k l).take (j+1)=(vP k l).take j++[⟨k,j,l[j]⟩]:=by
 simp_all [take_snoc,vP]
theorem abO(b:Bool)(k:Nat)(l:J (J Int))(hl:l.length<=1000)(a:J bm)(ho:a.length<=90000)(κ:Ex×St->U ρ):dI P hints jS b41 0 (MI m Q s b k l 0 a) κ=κ (.exit 2,MIX m Q s b k l (a++vP k l)):=by
 have h:=DV (F:=λj=>dI P hints jS b41 0 (MI m Q s b k l j (a++(vP k l).take j)) κ) (n:=l.length) (z:=κ (.exit 2,MIX m Q s b k l (a++vP k l))) (λj c=> ?_) ?_
 .simpa using h
 .grind [QN,abM]
 grind [U0,abN]
theorem OQ(r:bC):(j9 m s r).length<=2:=by
 grind [j9]
theorem U1(l:J bC)(r:bC):∀i,fg m s i (l++[r])=fg m s i l++vP (i+l.length) (j9 m s r):=by
 induction l with
 |nil=>grind [fg,vP]
 |cons a l b=>grind [fg]
theorem If(l:J bC):∀i,(fg m s i l).length<=2 * l.length:=by
 induction l with
 |nil=>grind [fg]
 |cons a l b=>
  grind [OQ,fg,List.length_zipIdx]
theorem abP(f:bq m)(h:inB m s)(hw:∀r∈dM m,CommW m (mQ m r) ρ)(b:Bool)(k:Nat)(hk:k<(dM m).length)(g:(dM m).length<=10000)(a:J bm)(ho:a.length<=90000)(κ:Ex×St->U ρ):dI P hints jS b41 1 (MS m Q s b k a) κ=dI P hints jS b41 1 (MS m Q s b (k+1) (a++vP k (j9 m s (dM m)[k]))) κ:=by
 refine(ap acN.2).trans ?_
 have c:=λb κ=>QM (ρ:=ρ) (Q:=Q) f h b k (dM m)[k] (xG hk) (hw _ (eO hk)) κ
 have d:=λκ=>abO (ρ:=ρ) (Q:=Q) (m:=m) (s:=s) b k (j9 m s (dM m)[k]) (by grind [OQ]) a ho κ
 have e:IntKind.i64.wrap ((k:Int)+1)=(k:Int)+1:=dE (by omega) (by omega)
 simp only[MI,MIX,HW,WF,eA]at c d
 cases b <;>simp [go_sem,MS,HW,WF,hk,c,d,e]
def MX(m:ae)(Q:J GStep)(s:J Int)(b:Bool)(a:J bm):St:=⟨[(0,.d (.ptr 0)),(1,.d (.sl b (List.map eI s))),(5,.aH (.l 5 0) [] 0 a.length),(13,.d (.int .i64 (dM m).length)),(14,.d (.int .i64 (dM m).length)),(15,.d (.bool false))],[((5,0),.own (tl (lF false) a))],HW m (BQ Q)⟩
theorem abQ(b:Bool)(a:J bm)(κ:Ex×St->U ρ):dI P hints jS b41 1 (MS m Q s b (dM m).length a) κ=κ (.exit 0,MX m Q s b a):=by
 refine(ap acN.2).trans ?_
 simp [go_sem,MS,MX,HW,WF]
theorem abR(b:Bool):call 53 [.sl b []] []=some ([.own []],[]):=by cases b <;>exact gS.2 ⟨60,by kernel_rfl⟩
theorem Sw(b:Bool)(l:J Int)(hl:l.length<=1000)(κ:KT ρ):cbK (call 53 [.sl b (List.map eI l)] []) κ=κ ([.own (tl eI l)],[]):=by
 cases l with
 |nil=>show cbK (call 53 [.sl b []] []) κ=_;rw[abR];rfl
 |cons x l=>grind [Mq]
theorem Sy(f:bq m)(i:inB m s)(hw:∀r∈dM m,CommW m (mQ m r) ρ)(g:(dM m).length<=10000)(b:Bool)(κ:KT ρ):cbK (call 41 [.ptr 0,.sl b (List.map eI s)] (HW m (BQ Q))) κ=κ ([.d (.sl false (List.map (lF false) (fC m s)))],HW m (BQ Q)):=by
 refine(auZ _ _ _ rfl).trans ?_
 have c:∀κ:Ex×St->U ρ,dI P hints jS b41 1 (MS m Q s b 0 []) κ=κ (.exit 0,MX m Q s b (fg m s 0 (dM m))):=λκ=>by
  have h:=DV (F:=λk=>dI P hints jS b41 1 (MS m Q s b k (fg m s 0 ((dM m).take k))) κ) (n:=(dM m).length) (z:=κ (.exit 0,MX m Q s b (fg m s 0 (dM m)))) (λk hk=> ?_) ?_
  .grind [fg]
  .have a:=If (m:=m) (s:=s) ((dM m).take k) 0
   rw[yR]at a
   rw[take_snoc hk,U1,fu,yR,ry (ny hk)]
   grind [abP]
  grind [abQ]
 have a:=If (m:=m) (s:=s) (dM m) 0;have j:=iN f.may;unfold fC;generalize fg m s 0 (dM m)=L at c a |-
 simp only[MS,MX,HW,WF,eA,yN,jb]at c
 have d:=λb κ=>Sw (ρ:=ρ) b s (by have:=i.1;omega) κ
 by_cases e:L=[]
 .subst e
  cases b <;>simp [go_sem,HW,WF,c,d]
  all_goals trace_state
 .cases b <;>simp [go_sem,HW,WF,c,e]
  all_goals trace_state
end
end
section
attribute [-simp] List.map_append List.map_take List.map_drop List.map_set
variable{m:ae}{s:J Int}
section
variable{ρ:Type}
theorem ag3(a:bq m)(κ:KT ρ):cbK (call 55 [moD m] []) κ=κ ([.d (.ptr 0),.d (.bool true)],HW m []):=by
 refine(avb _ _ _ rfl).trans ?_
 have c:=λκ=>Sh (ρ:=ρ) a κ
 have b:=λκ=>ark (ρ:=ρ) a κ
 have h3:=λκ=>Sj (ρ:=ρ) a κ
 have h4:=λκ=>agH (ρ:=ρ) a κ
 simp only[wC]at b
 simp [go_sem,c,b,h3,h4,HW,WF]
theorem abS(b:bq m)(κ:KT ρ):cbK (call 29 [moD m,.sl false (List.map eI s)] []) κ=κ ([.d (.ptr 0),.d (.bool (jd m s))],HW m []):=by
 refine(auV _ _ _ rfl).trans ?_
 have a:=λκ=>ag3 (ρ:=ρ) b κ
 have c:=λκ=>abx (ρ:=ρ) b s κ
 simp only[HW,WF]at a
 simp [go_sem,a,c,HW,WF]
theorem aeh(n:Int)(κ:KT ρ):cbK (call 30 [.ptr 0,.int .i64 n] (HW m [])) κ=κ ([.d (.bool (decide (0<=n)&&decide (n<((dM m).length:Int))))],HW m []):=by
 refine(auW _ _ _ rfl).trans ?_
 simp [go_sem,HW,WF]
 grind
theorem Mr(d:bq m)(f:jd m s=true)(hw:∀r∈dM m,CommW m (mQ m r) ρ)(a:(dM m).length<=10000)(κ:KT ρ):cbK (call 17 [moD m,.sl false (List.map eI s)] []) κ=κ ([.d (.sl false (List.map (lF false) (fC m s)))],[]):=by
 refine(auQ _ _ _ rfl).trans ?_
 have c:=λκ=>abS (ρ:=ρ) (s:=s) d κ
 have e:=λb κ=>Sy (ρ:=ρ) (s:=s) (Q:=[]) d (nX.1 f).b hw a b κ
 rw[f]at c
 simp only[HW,BQ,g9,WF]at c e
 simp [go_sem,c,e]
end
end
section
attribute [-simp] List.map_append List.map_take List.map_drop List.map_set
variable{m:ae}{s:J Int}
section
variable{ρ:Type}
def CU(m:ae)(n:Nat):bC:=((dM m)[n]?).getD ⟨0,0⟩
def doD(m:ae)(s:J Int)(n:Nat)(a:Int):J Int×Int:=
 if a<0\/(if oO m (mQ m (CU m n))=true then 2 else 1)<=a then([],2)else match (j9 m s (CU m n))[a.toNat]? with |some t=>(t,0) |none=>([],15)
theorem arH(e:bq m)(q:jd m s=true)(hw:∀r∈dM m,CommW m (mQ m r) ρ)(n:Nat)(hn:n<(dM m).length)(d:Int)(κ:KT ρ):cbK (call 11 [moD m,.sl false (List.map eI s),.int .i64 n,.int .i64 d] []) κ=κ ([.d (.sl false (List.map eI (doD m s n d).1)),.d (.int .i64 (doD m s n d).2)],[]):=by
 refine(auN _ _ _ rfl).trans ?_
 have l:(dM m)[n]? =some (dM m)[n]:=xG hn;obtain⟨x,p,c,i,k,j,h⟩:=Ie e.may (eO hn);have o:=λκ=>abS (ρ:=ρ) (s:=s) e κ
 have g:=λb κ=>QM (ρ:=ρ) (s:=s) (Q:=[]) e (nX.1 q).b b n _ l (hw _ (eO hn)) κ
 have h3:=λκ=>aeh (ρ:=ρ) (m:=m) (n:Int) κ
 have h4:=λκ=>CT (ρ:=ρ) (Q:=[]) l h κ
 have h5:=(hw _ (eO hn)).wy;have f:CU m n=(dM m)[n]:=by simp[CU,l]
 unfold doD;rw[f];rw[h.cm]at h5 |-
 rw[q]at o
 have t:(decide ((0:Int)<=(n:Int))&&decide ((n:Int)<((dM m).length:Int)))=true:=by simp[hn]
 rw[t]at h3
 simp only[HW,BQ,g9,WF,vO]at o g h3 h4 h5
 generalize j9 m s (dM m)[n]=L at g |-
 generalize (if oO m c=true then(2:Int)else 1)=lo at h5 |-
 simp [go_sem,o,g,h3,h4,h5]
 by_cases a:d<0
 .simp[a]
 grind
theorem ag4(e:bq m)(g:jd m s=true)(hw:∀r∈dM m,CommW m (mQ m r) ρ)(n:Nat)(hn:n<(dM m).length)(κ:KT ρ):cbK (call 13 [moD m,.sl false (List.map eI s),.int .i64 n] []) κ=κ ([.d (.bool (decide (j9 m s (CU m n)≠[])))],[]):=by
 refine(auO _ _ _ rfl).trans ?_
 have f:(dM m)[n]? =some (dM m)[n]:=xG hn;have d:=λκ=>abS (ρ:=ρ) (s:=s) e κ
 have c:=λb κ=>QM (ρ:=ρ) (s:=s) (Q:=[]) e (nX.1 g).b b n _ f (hw _ (eO hn)) κ
 have h3:=λκ=>aeh (ρ:=ρ) (m:=m) (n:Int) κ
 have a:CU m n=(dM m)[n]:=by simp[CU,f]
 rw[a];rw[g]at d
 have h:(decide ((0:Int)<=(n:Int))&&decide ((n:Int)<((dM m).length:Int)))=true:=by simp[hn]
 rw[h]at h3
 simp only[HW,BQ,g9,WF,vO]at d c h3
 generalize j9 m s (dM m)[n]=L at c |-
 simp [go_sem,d,c,h3]
 cases L <;>simp
end
end
section
attribute [-simp] List.map_append List.map_take List.map_drop List.map_set
variable{m:ae}{s:J Int}
section
variable{ρ:Type}
def OR(x:GStep)(y:bm):Bool:=decide (y.Cmd=x.Cmd)&&decide (y.Way=x.Way)
theorem ag5(x:GStep)(y:bm)(β:Bool)(n:Nat)(H:J Ob)(h:H[n]? =some (.box (.d (.agg [.int .i64 x.Cmd,.int .i64 x.Way]))))(κ:KT ρ):cbK (call 52 [lF β y,.ptr n] H) κ=κ ([.d (.bool (OR x y))],H):=by
 refine(au9 _ _ _ rfl).trans ?_
 simp [go_sem,h,OR]
 by_cases c:y.Cmd=x.Cmd <;>simp[c]
def OS(x:GStep)(l:List bm)(i:Nat):Nat->Int
 |0=> -1
 |d+1=>if(l[i]?.map (OR x))=some true then(i:Int)else OS x l (i+1) d
def FX(m:ae)(x:GStep)(l:J bm)(i:Nat):St:=⟨[(0,.d (.sl false (List.map (lF false) l))),(1,.d (.fn (.func 52) [] [.ptr 1])),(7,.d (.int .i64 l.length)),(8,.d (.int .i64 i))],[],HW m (BQ [x])⟩
theorem JT(x:GStep)(l:J bm)(hl:l.length<=100000)(κ:KT ρ):∀(d i:Nat),i+d=l.length->dI P hints zB b51 0 (FX m x l i) (A7 0 (D4 P hints zB b51 ((CL.reg [{d:=some 4,ty:=3,op:=.assign (.const (.int .i64 (-1))),g:=none}] [4]).seq .ret) (kLv P false [.tmp 4] 2 κ)))=κ ([.d (.int .i64 (OS x l i d))],HW m (BQ [x]))
 |0,i,b=>by
  refine(ap acX.2).trans ?_
  have:i=l.length:=by omega
  subst this
  simp [go_sem,FX,OS]
 |d+1,i,b=>by
  have j:i<l.length:=by omega
  have h:l[i]? =some l[i]:=xG j;have e:(i:Int)<(l.length:Int):=by omega
  have f:IntKind.i64.wrap ((i:Int)+1)=(i:Int)+1:=dE (by omega) (by omega)
  have a:=JT x l hl κ d (i+1) (by omega)
  have h3:=λκ=>ag5 (ρ:=ρ) x l[i] false 1 (HW m (BQ [x])) rfl κ
  simp only[go_sem,FX,Int.natCast_add,Int.natCast_one,HW,BQ,eG,g9]at a h3
  refine(ap acX.2).trans ?_
  simp [go_sem,FX,e,h,f,a,h3,OS]
  by_cases c:OR x l[i]=true
  .simp only[c,if_true]
  .simp only[c,xH,if_false]
theorem ag6(x:GStep)(l:J bm)(hl:l.length<=100000)(κ:KT ρ):cbK (call 51 [.sl false (List.map (lF false) l),.fn (.func 52) [] [.ptr 1]] (HW m (BQ [x]))) κ=κ ([.d (.int .i64 (OS x l 0 l.length))],HW m (BQ [x])):=by
 refine(au8 _ _ _ rfl).trans ?_
 have a:=JT (ρ:=ρ) (m:=m) x l hl κ l.length 0 (by omega)
 simp only[go_sem,FX,eA,HW,BQ,eG,g9]at a
 simp [go_sem,a]
theorem Z4(f:bq m)(h:jd m s=true)(hw:∀r∈dM m,CommW m (mQ m r) ρ)(c:(dM m).length<=10000)(hl:(fC m s).length<=100000)(x:GStep)(i:Nat)(y:bm)(hx:OS x (fC m s) 0 (fC m s).length=i)(a:(fC m s)[i]? =some y)(e:y.To.length<=1000)(b:Bool)(κ:KT ρ):cbK (call 26 [moD m,.sl false (List.map eI s),.sl b [Rq x]] []) κ=κ ([.d (.sl false [.sl false (List.map eI y.To)]),.d (.int .i64 0)],[]):=by
 refine(auT _ _ _ rfl).trans ?_
 have d:=λκ=>abS (ρ:=ρ) (s:=s) f κ
 have g:=λb κ=>Sy (ρ:=ρ) (s:=s) (Q:=[x]) f (nX.1 h).b hw c b κ
 have h3:=λκ=>ag6 (ρ:=ρ) (m:=m) x (fC m s) hl κ
 rw[h]at d
 rw[hx]at h3
 simp only[HW,BQ,g9,eG,WF]at d g h3
 simp [go_sem,d]
 refine(ap acL.2).trans ?_
 have k:=(List.getElem?_eq_some_iff.1 a).1;have j:(fC m s)[i]=y:=(List.getElem?_eq_some_iff.1 a).2;have h4:(i:Int)<((fC m s).length:Int):=by omega
 have h5:=λb κ=>Sw (ρ:=ρ) b y.To e κ
 have h6:¬((i:Int)<0):=by omega
 simp [go_sem,g,h3,h4,a,h5,h6]
 refine(ap acL.2).trans ?_
 simp [go_sem]
end
end
section
noncomputable section
variable{ρ:Type}(β:Bool)(κ:KT ρ)(η:XT ρ)(z0 z7 z8 z11 z15 z21 z22 z23:Int)(z1:J aw)(z2 z9:J aB)(z3:J aD)(z4:J az)(z5:J aX)(z6:J UInt8)(z10:J aK)(z12:J aO)(z13:J aF)(z14:Bool)(z16:Nat)(z17:J aE)(z18:J (aE))(z19:J aA)(z20:J (aA))(z24 z25 z26 z27 z28:J (Int))(z29:J bC)(z30:J (bC))(z31 z32 z33 z34 z35 z36:J Int)
section
variable(p0:Int)(p1:J aw)(p2:J aB)(p3:J aD)(p4:J az)(p5:J aX)(p6:J UInt8)(p7:Int)(p8:Int)(p9:J aB)(p10:J aK)
@[go_sem] def ni(β:Bool)(a:Int):St:=⟨[(1,.loc (aj.l 1 0) [] (0) 0),(3,.d (.int .i64 p0)),(4,.loc (aj.l 4 0) [] (0) 0),(5,.d (.int .i64 a))],[((1,0),.own [.d (.agg [.sl β (List.map dB p1),.sl β (List.map dJ p2),.sl β (List.map dP p3),.sl β (List.map (dL β) p4),.sl β (List.map (fw β) p5)])]),((4,0),.own [.d (.agg [.str p6,.int .i64 p7,.int .i64 p8,.sl β (List.map dJ p9),.sl β (List.map (fU β) p10)])])],[]⟩
@[go_sem] def tQ:=mkL (p:=λβ (b:Int->(Int->U ρ)->XT ρ->U ρ)=>∀(R:St->U ρ) g κ,(∀a,R (ni p0 p1 p2 p3 p4 p5 p6 p7 p8 p9 p10 β a)=g a)->∀a,go P hints DH b9 akA.1 (ni p0 p1 p2 p3 p4 p5 p6 p7 p8 p9 p10 β a) (kLp R κ)=b a g κ) _ _
def tR(β:Bool)(κ:XT ρ)(a:Int):=dD (κ:=κ) (Φ:=λv k=>(tQ p0 p1 p2 p3 p4 p5 p6 p7 p8 p9 p10 (ρ:=ρ)).f β v k κ) akA.2 (S:=λv=>ni p0 p1 p2 p3 p4 p5 p6 p7 p8 p9 p10 β v) (by intro R g b v;exact(tQ p0 p1 p2 p3 p4 p5 p6 p7 p8 p9 p10 (ρ:=ρ)).ok β R g κ (λa=>b a) v) a
end
@[go_sem] def U2:=wl (tR z0 z1 z2 z3 z4 z5 z6 z7 z8 z9 z10 false η z11)
@[go_sem] def U3:=wl (tR z0 z1 z2 z3 z4 z5 z6 z7 z8 z9 z10 true η z11)
section
variable(p0:J aw)(p1:J aB)(p2:J aD)(p3:J az)(p4:J aX)
@[go_sem] def nj(β:Bool)(a:Int):St:=⟨[(1,.loc (aj.l 1 0) [] (0) 0),(3,.d (.int .i64 a))],[((1,0),.own [.d (.agg [.sl β (List.map dB p0),.sl β (List.map dJ p1),.sl β (List.map dP p2),.sl β (List.map (dL β) p3),.sl β (List.map (fw β) p4)])])],[]⟩
@[go_sem] def tS:=mkL (p:=λβ (b:Int->(Int->U ρ)->XT ρ->U ρ)=>∀(R:St->U ρ) g κ,(∀a,R (nj p0 p1 p2 p3 p4 β a)=g a)->∀a,go P hints DH b9 akB.1 (nj p0 p1 p2 p3 p4 β a) (kLp R κ)=b a g κ) _ _
def tT(β:Bool)(κ:XT ρ)(a:Int):=dD (κ:=κ) (Φ:=λv k=>(tS p0 p1 p2 p3 p4 (ρ:=ρ)).f β v k κ) akB.2 (S:=λv=>nj p0 p1 p2 p3 p4 β v) (by intro R g b v;exact(tS p0 p1 p2 p3 p4 (ρ:=ρ)).ok β R g κ (λa=>b a) v) a
end
@[go_sem] def U4:=wl (tT z1 z2 z3 z4 z5 false η z0)
@[go_sem] def U5:=wl (tT z1 z2 z3 z4 z5 true η z0)
def qo(a0:ae):=mkF (p:=λβ (κ:KT ρ) (g:Int->U ρ)=>∀a,κ ([.d (.int .i64 a)],[])=g a) (ds:=λβ=>[(gM β) a0]) ge9 (λ_=>rfl) _
def qp(a0:ae)(g0):=(qo (ρ:=ρ) a0).1 g0
@[go_sem] def u_:=wk (qp (ρ:=ρ) (ae.mk z1 z2 z3 z4 z5)) ((qo (ae.mk z1 z2 z3 z4 z5)).2 β κ _ (λ_=>rfl))
section
variable(p0:J aO)(p1:Int)
@[go_sem] def tm(β:Bool)(a:Int):St:=⟨[(7,.d (.sl β (List.map (jU β) p0))),(8,.d (.int .i64 p1)),(9,.d (.int .i64 a))],[],[]⟩
@[go_sem] def BG:=mkL (p:=λβ (b:Int->(Int->U ρ)->XT ρ->U ρ)=>∀(R:St->U ρ) g κ,(∀a,R (tm p0 p1 β a)=g a)->∀a,go P hints Cq b57 acY.1 (tm p0 p1 β a) (kLp R κ)=b a g κ) _ _
def BH(β:Bool)(κ:XT ρ)(a:Int):=dD (κ:=κ) (Φ:=λv k=>(BG p0 p1 (ρ:=ρ)).f β v k κ) acY.2 (S:=λv=>tm p0 p1 β v) (by intro R g b v;exact(BG p0 p1 (ρ:=ρ)).ok β R g κ (λa=>b a) v) a
end
@[go_sem] def u?:=wl (BH z12 z0 false η z7)
@[go_sem] def u!:=wl (BH z12 z0 true η z7)
def tn(a0:aK):=mkF (p:=λβ (κ:KT ρ) (g:Int->Int->U ρ)=>∀b a,κ ([.d (.int .i64 b),.d (.int .i64 a)],[])=g b a) (ds:=λβ=>[(fU β) a0]) avd (λ_=>rfl) _
def Ak(a0:aK)(g0):=(tn (ρ:=ρ) a0).1 g0
@[go_sem] def ag7:=wk (Ak (ρ:=ρ) (aK.mk z6 z0 z7 z13 z12 z14)) ((tn (aK.mk z6 z0 z7 z13 z12 z14)).2 β κ _ (λ_ _=>rfl))
def Al(a0:aK)(b:J aD):=mkF (p:=λβ (κ:KT ρ) (g:Int->U ρ)=>∀a,κ ([.d (.int .i64 a)],[])=g a) (ds:=λβ=>[(fU β) a0,(zD β) b]) auX (λ_=>rfl) _
def Ig(a0:aK)(a:J aD)(g0):=(Al (ρ:=ρ) a0 a).1 g0
def tp(a0:aB)(c:J aw):=mkF (p:=λβ (κ:KT ρ) (g:Int->Int->U ρ)=>∀b a,κ ([.d (.int .i64 b),.d (.int .i64 a)],[])=g b a) (ds:=λβ=>[dJ a0,(fT β) c]) akG (λ_=>rfl) _
def tq(a0:aB)(a:J aw)(g0):=(tp (ρ:=ρ) a0 a).1 g0
@[go_sem] def abT:=wk (tq (ρ:=ρ) (aB.mk z6 z0 z7 z8 z11 z15) z1) ((tp (aB.mk z6 z0 z7 z8 z11 z15) z1).2 β κ _ (λ_ _=>rfl))
def An(a0:Int):=mkF (p:=λβ (κ:KT ρ) (g:Int->U ρ)=>∀a,κ ([.d (.int .i64 a)],[])=g a) (ds:=λβ=>[eI a0]) alt (λ_=>rfl) _
def Ao(a0:Int)(g0):=(An (ρ:=ρ) a0).1 g0
@[go_sem] def ag8:=wk (Ao (ρ:=ρ) z0) ((An z0).2 true κ _ (λ_=>rfl))
def vQ(a0:ae)(b:az):=mkF (p:=λβ (κ:KT ρ) (g:Int->U ρ)=>∀a,κ ([.d (.int .i64 a)],[])=g a) (ds:=λβ=>[(gM β) a0,(dL β) b]) avh (λ_=>rfl) _
def pH(a0:ae)(a:az)(g0):=(vQ (ρ:=ρ) a0 a).1 g0
@[go_sem] def aei:=wk (pH (ρ:=ρ) (ae.mk z1 z2 z3 z4 z5) (az.mk z6 z0 z7 z9 z10)) ((vQ (ae.mk z1 z2 z3 z4 z5) (az.mk z6 z0 z7 z9 z10)).2 β κ _ (λ_=>rfl))
section
variable(p0:Int)(p1:J aw)(p2:J aB)(p3:J aD)(p4:J az)(p5:J aX)
@[go_sem] def mj(β:Bool)(n0:Nat)(a:Int)(b:J aE):St:=⟨[(1,.loc (aj.l 1 0) [] (0) 0),(3,.aH (.l 3 0) [] 0 n0),(4,.d (.int .i64 p0)),(5,.d (.int .i64 a))],[((1,0),.own [.d (.agg [.sl β (List.map dB p1),.sl β (List.map dJ p2),.sl β (List.map dP p3),.sl β (List.map (dL β) p4),.sl β (List.map (fw β) p5)])]),((3,0),.own (tl ij b))],[]⟩
@[go_sem] def yy:=mkL (p:=λβ (d:Int->(J aE)->((Int)×(J aE)->U ρ)->XT ρ->U ρ)=>∀(R:St->U ρ) g κ,(∀c b a,c=List.length a->R (mj p0 p1 p2 p3 p4 p5 β c b a)=g (b,a))->∀b a,go P hints uE b43 acO.1 (mj p0 p1 p2 p3 p4 p5 β (List.length a) b a) (kLp R κ)=d b a g κ) _ _
def yz(β:Bool)(κ:XT ρ)(n0:Nat)(c:Int)(b:J aE)(a:n0=List.length b):=ll (S:=λn0=>mj p0 p1 p2 p3 p4 p5 β n0 c b) a (dD (κ:=κ) (Φ:=λv k=>(yy p0 p1 p2 p3 p4 p5 (ρ:=ρ)).f β v.1 v.2 k κ) acO.2 (S:=λv=>mj p0 p1 p2 p3 p4 p5 β (List.length v.2) v.1 v.2) (by intro R g d v;exact(yy p0 p1 p2 p3 p4 p5 (ρ:=ρ)).ok β R g κ (λn0 c b a=>by subst a;exact d (c,b)) v.1 v.2) (c,b))
end
@[go_sem] def Z5(a:z16=List.length z17):=wl (yz z0 z1 z2 z3 z4 z5 false η z16 z7 z17 a)
@[go_sem] def Z6(a:z16=List.length z17):=wl (yz z0 z1 z2 z3 z4 z5 true η z16 z7 z17 a)
section
variable(p0:J aw)(p1:J aB)(p2:J aD)(p3:J az)(p4:J aX)
@[go_sem] def ml(β:Bool)(n0:Nat)(a:Int)(b:J (aE)):St:=⟨[(1,.loc (aj.l 1 0) [] (0) 0),(3,.aH (.l 3 0) [] 0 n0),(4,.d (.int .i64 a))],[((1,0),.own [.d (.agg [.sl β (List.map dB p0),.sl β (List.map dJ p1),.sl β (List.map dP p2),.sl β (List.map (dL β) p3),.sl β (List.map (fw β) p4)])]),((3,0),.own (tl ij b))],[]⟩
@[go_sem] def yC:=mkL (p:=λβ (d:Int->(J (aE))->((Int)×(J (aE))->U ρ)->XT ρ->U ρ)=>∀(R:St->U ρ) g κ,(∀c b a,c=List.length a->R (ml p0 p1 p2 p3 p4 β c b a)=g (b,a))->∀b a,go P hints uE b43 acP.1 (ml p0 p1 p2 p3 p4 β (List.length a) b a) (kLp R κ)=d b a g κ) _ _
def yH(β:Bool)(κ:XT ρ)(n0:Nat)(c:Int)(b:J (aE))(a:n0=List.length b):=ll (S:=λn0=>ml p0 p1 p2 p3 p4 β n0 c b) a (dD (κ:=κ) (Φ:=λv k=>(yC p0 p1 p2 p3 p4 (ρ:=ρ)).f β v.1 v.2 k κ) acP.2 (S:=λv=>ml p0 p1 p2 p3 p4 β (List.length v.2) v.1 v.2) (by intro R g d v;exact(yC p0 p1 p2 p3 p4 (ρ:=ρ)).ok β R g κ (λn0 c b a=>by subst a;exact d (c,b)) v.1 v.2) (c,b))
end
@[go_sem] def U6:=wl (yH z1 z2 z3 z4 z5 false η 0 z0 [] rfl)
@[go_sem] def U7:=wl (yH z1 z2 z3 z4 z5 true η 0 z0 [] rfl)
def vR(a0:ae):=mkF (p:=λβ (κ:KT ρ) (g:(J aE)->U ρ)=>∀a,κ ([.d (.sl false (List.map ij a))],[])=g a) (ds:=λβ=>[(gM β) a0]) au0 (λ_=>rfl) _
def vS(a0:ae)(g0):=(vR (ρ:=ρ) a0).1 g0
@[go_sem] def aej:=wk (vS (ρ:=ρ) (ae.mk z1 z2 z3 z4 z5)) ((vR (ae.mk z1 z2 z3 z4 z5)).2 β κ _ (λ_=>rfl))
section
variable(p0:Int)(p1:Int)(p2:Int)(p3:J aw)(p4:J aB)(p5:J aD)(p6:J az)(p7:J aX)
@[go_sem] def mo(β:Bool)(n0:Nat)(a:Int)(b:J aA):St:=⟨[(1,.loc (aj.l 1 0) [] (0) 0),(3,.aH (.l 3 0) [] 0 n0),(4,.d (.int .i64 p0)),(5,.d (.int .i64 p1)),(6,.d (.int .i64 p2)),(7,.d (.int .i64 a))],[((1,0),.own [.d (.agg [.sl β (List.map dB p3),.sl β (List.map dJ p4),.sl β (List.map dP p5),.sl β (List.map (dL β) p6),.sl β (List.map (fw β) p7)])]),((3,0),.own (tl gv b))],[]⟩
@[go_sem] def yT:=mkL (p:=λβ (d:Int->(J aA)->((Int)×(J aA)->U ρ)->XT ρ->U ρ)=>∀(R:St->U ρ) g κ,(∀c b a,c=List.length a->R (mo p0 p1 p2 p3 p4 p5 p6 p7 β c b a)=g (b,a))->∀b a,go P hints jT b91 adq.1 (mo p0 p1 p2 p3 p4 p5 p6 p7 β (List.length a) b a) (kLp R κ)=d b a g κ) _ _
def yU(β:Bool)(κ:XT ρ)(n0:Nat)(c:Int)(b:J aA)(a:n0=List.length b):=ll (S:=λn0=>mo p0 p1 p2 p3 p4 p5 p6 p7 β n0 c b) a (dD (κ:=κ) (Φ:=λv k=>(yT p0 p1 p2 p3 p4 p5 p6 p7 (ρ:=ρ)).f β v.1 v.2 k κ) adq.2 (S:=λv=>mo p0 p1 p2 p3 p4 p5 p6 p7 β (List.length v.2) v.1 v.2) (by intro R g d v;exact(yT p0 p1 p2 p3 p4 p5 p6 p7 (ρ:=ρ)).ok β R g κ (λn0 c b a=>by subst a;exact d (c,b)) v.1 v.2) (c,b))
end
@[go_sem] def Z7(a:z16=List.length z19):=wl (yU z0 z7 z8 z1 z2 z3 z4 z5 false η z16 z11 z19 a)
@[go_sem] def Z8(a:z16=List.length z19):=wl (yU z0 z7 z8 z1 z2 z3 z4 z5 true η z16 z11 z19 a)
section
variable(p0:J aw)(p1:J aB)(p2:J aD)(p3:J az)(p4:J aX)
@[go_sem] def mq(β:Bool)(n0:Nat)(a:Int)(b:J (aA)):St:=⟨[(1,.loc (aj.l 1 0) [] (0) 0),(3,.aH (.l 3 0) [] 0 n0),(4,.d (.int .i64 a))],[((1,0),.own [.d (.agg [.sl β (List.map dB p0),.sl β (List.map dJ p1),.sl β (List.map dP p2),.sl β (List.map (dL β) p3),.sl β (List.map (fw β) p4)])]),((3,0),.own (tl gv b))],[]⟩
@[go_sem] def yV:=mkL (p:=λβ (d:Int->(J (aA))->((Int)×(J (aA))->U ρ)->XT ρ->U ρ)=>∀(R:St->U ρ) g κ,(∀c b a,c=List.length a->R (mq p0 p1 p2 p3 p4 β c b a)=g (b,a))->∀b a,go P hints jT b91 adr.1 (mq p0 p1 p2 p3 p4 β (List.length a) b a) (kLp R κ)=d b a g κ) _ _
def yW(β:Bool)(κ:XT ρ)(n0:Nat)(c:Int)(b:J (aA))(a:n0=List.length b):=ll (S:=λn0=>mq p0 p1 p2 p3 p4 β n0 c b) a (dD (κ:=κ) (Φ:=λv k=>(yV p0 p1 p2 p3 p4 (ρ:=ρ)).f β v.1 v.2 k κ) adr.2 (S:=λv=>mq p0 p1 p2 p3 p4 β (List.length v.2) v.1 v.2) (by intro R g d v;exact(yV p0 p1 p2 p3 p4 (ρ:=ρ)).ok β R g κ (λn0 c b a=>by subst a;exact d (c,b)) v.1 v.2) (c,b))
end
@[go_sem] def U8:=wl (yW z1 z2 z3 z4 z5 false η 0 z0 [] rfl)
@[go_sem] def U9:=wl (yW z1 z2 z3 z4 z5 true η 0 z0 [] rfl)
section
variable(p0:Int)(p1:Int)(p2:Int)(p3:J aw)(p4:J aB)(p5:J aD)(p6:J az)(p7:J aX)(p8:J UInt8)(p9:Int)(p10:Int)(p11:Int)(p12:Int)(p13:Bool)
@[go_sem] def kw(β:Bool)(n0:Nat)(a:Int)(b:J aA):St:=⟨[(1,.loc (aj.l 1 0) [] (0) 0),(3,.aH (.l 3 0) [] 0 n0),(8,.d (.int .i64 p0)),(9,.loc (aj.l 9 0) [] (0) 0),(10,.d (.int .i64 p1)),(11,.d (.int .i64 p2)),(12,.d (.int .i64 a))],[((1,0),.own [.d (.agg [.sl β (List.map dB p3),.sl β (List.map dJ p4),.sl β (List.map dP p5),.sl β (List.map (dL β) p6),.sl β (List.map (fw β) p7)])]),((3,0),.own (tl gv b)),((9,0),.own [.d (.agg [.str p8,.int .i64 p9,.int .i64 p10,.int .i64 p11,.int .i64 p12,.bool p13])])],[]⟩
@[go_sem] def tU:=mkL (p:=λβ (d:Int->(J aA)->((Int)×(J aA)->U ρ)->XT ρ->U ρ)=>∀(R:St->U ρ) g κ,(∀c b a,c=List.length a->R (kw p0 p1 p2 p3 p4 p5 p6 p7 p8 p9 p10 p11 p12 p13 β c b a)=g (b,a))->∀b a,go P hints jT b91 ads.1 (kw p0 p1 p2 p3 p4 p5 p6 p7 p8 p9 p10 p11 p12 p13 β (List.length a) b a) (kLp R κ)=d b a g κ) _ _
def tV(β:Bool)(κ:XT ρ)(n0:Nat)(c:Int)(b:J aA)(a:n0=List.length b):=ll (S:=λn0=>kw p0 p1 p2 p3 p4 p5 p6 p7 p8 p9 p10 p11 p12 p13 β n0 c b) a (dD (κ:=κ) (Φ:=λv k=>(tU p0 p1 p2 p3 p4 p5 p6 p7 p8 p9 p10 p11 p12 p13 (ρ:=ρ)).f β v.1 v.2 k κ) ads.2 (S:=λv=>kw p0 p1 p2 p3 p4 p5 p6 p7 p8 p9 p10 p11 p12 p13 β (List.length v.2) v.1 v.2) (by intro R g d v;exact(tU p0 p1 p2 p3 p4 p5 p6 p7 p8 p9 p10 p11 p12 p13 (ρ:=ρ)).ok β R g κ (λn0 c b a=>by subst a;exact d (c,b)) v.1 v.2) (c,b))
end
@[go_sem] def Va(a:z16=List.length z19):=wl (tV z0 z7 z8 z1 z2 z3 z4 z5 z6 z11 z15 z21 z22 z14 false η z16 z23 z19 a)
@[go_sem] def Vb(a:z16=List.length z19):=wl (tV z0 z7 z8 z1 z2 z3 z4 z5 z6 z11 z15 z21 z22 z14 true η z16 z23 z19 a)
section
variable(p0:J aw)(p1:J aB)(p2:J aD)(p3:J az)(p4:J aX)
@[go_sem] def mr(β:Bool)(n0:Nat)(a:Int)(b:J aA):St:=⟨[(1,.loc (aj.l 1 0) [] (0) 0),(3,.aH (.l 3 0) [] 0 n0),(8,.d (.int .i64 a))],[((1,0),.own [.d (.agg [.sl β (List.map dB p0),.sl β (List.map dJ p1),.sl β (List.map dP p2),.sl β (List.map (dL β) p3),.sl β (List.map (fw β) p4)])]),((3,0),.own (tl gv b))],[]⟩
@[go_sem] def yX:=mkL (p:=λβ (d:Int->(J aA)->((Int)×(J aA)->U ρ)->XT ρ->U ρ)=>∀(R:St->U ρ) g κ,(∀c b a,c=List.length a->R (mr p0 p1 p2 p3 p4 β c b a)=g (b,a))->∀b a,go P hints jT b91 adt.1 (mr p0 p1 p2 p3 p4 β (List.length a) b a) (kLp R κ)=d b a g κ) _ _
def yY(β:Bool)(κ:XT ρ)(n0:Nat)(c:Int)(b:J aA)(a:n0=List.length b):=ll (S:=λn0=>mr p0 p1 p2 p3 p4 β n0 c b) a (dD (κ:=κ) (Φ:=λv k=>(yX p0 p1 p2 p3 p4 (ρ:=ρ)).f β v.1 v.2 k κ) adt.2 (S:=λv=>mr p0 p1 p2 p3 p4 β (List.length v.2) v.1 v.2) (by intro R g d v;exact(yX p0 p1 p2 p3 p4 (ρ:=ρ)).ok β R g κ (λn0 c b a=>by subst a;exact d (c,b)) v.1 v.2) (c,b))
end
@[go_sem] def Z9(a:z16=List.length z19):=wl (yY z1 z2 z3 z4 z5 false η z16 z0 z19 a)
@[go_sem] def a_(a:z16=List.length z19):=wl (yY z1 z2 z3 z4 z5 true η z16 z0 z19 a)
section
variable(p0:J aE)(p1:Int)(p2:J aw)(p3:J aB)(p4:J aD)(p5:J az)(p6:J aX)(p7:J UInt8)(p8:Int)(p9:Int)(p10:J aB)(p11:J aK)
@[go_sem] def ms(β:Bool)(n0:Nat)(a:Int)(b:J aA):St:=⟨[(1,.loc (aj.l 1 0) [] (0) 0),(3,.aH (.l 3 0) [] 0 n0),(13,.d (.sl false (List.map ij p0))),(14,.d (.int .i64 p1)),(15,.loc (aj.l 15 0) [] (0) 0),(16,.d (.int .i64 a))],[((1,0),.own [.d (.agg [.sl β (List.map dB p2),.sl β (List.map dJ p3),.sl β (List.map dP p4),.sl β (List.map (dL β) p5),.sl β (List.map (fw β) p6)])]),((3,0),.own (tl gv b)),((15,0),.own [.d (.agg [.str p7,.int .i64 p8,.int .i64 p9,.sl β (List.map dJ p10),.sl β (List.map (fU β) p11)])])],[]⟩
@[go_sem] def yZ:=mkL (p:=λβ (d:Int->(J aA)->((Int)×(J aA)->U ρ)->XT ρ->U ρ)=>∀(R:St->U ρ) g κ,(∀c b a,c=List.length a->R (ms p0 p1 p2 p3 p4 p5 p6 p7 p8 p9 p10 p11 β c b a)=g (b,a))->∀b a,go P hints jT b91 adu.1 (ms p0 p1 p2 p3 p4 p5 p6 p7 p8 p9 p10 p11 β (List.length a) b a) (kLp R κ)=d b a g κ) _ _
def y3(β:Bool)(κ:XT ρ)(n0:Nat)(c:Int)(b:J aA)(a:n0=List.length b):=ll (S:=λn0=>ms p0 p1 p2 p3 p4 p5 p6 p7 p8 p9 p10 p11 β n0 c b) a (dD (κ:=κ) (Φ:=λv k=>(yZ p0 p1 p2 p3 p4 p5 p6 p7 p8 p9 p10 p11 (ρ:=ρ)).f β v.1 v.2 k κ) adu.2 (S:=λv=>ms p0 p1 p2 p3 p4 p5 p6 p7 p8 p9 p10 p11 β (List.length v.2) v.1 v.2) (by intro R g d v;exact(yZ p0 p1 p2 p3 p4 p5 p6 p7 p8 p9 p10 p11 (ρ:=ρ)).ok β R g κ (λn0 c b a=>by subst a;exact d (c,b)) v.1 v.2) (c,b))
end
@[go_sem] def a?(a:z16=List.length z19):=wl (y3 z17 z0 z1 z2 z3 z4 z5 z6 z7 z8 z9 z10 false η z16 z11 z19 a)
@[go_sem] def a!(a:z16=List.length z19):=wl (y3 z17 z0 z1 z2 z3 z4 z5 z6 z7 z8 z9 z10 true η z16 z11 z19 a)
section
variable(p0:J aE)(p1:J aw)(p2:J aB)(p3:J aD)(p4:J az)(p5:J aX)
@[go_sem] def mu(β:Bool)(n0:Nat)(a:Int)(b:J aA):St:=⟨[(1,.loc (aj.l 1 0) [] (0) 0),(3,.aH (.l 3 0) [] 0 n0),(13,.d (.sl false (List.map ij p0))),(14,.d (.int .i64 a))],[((1,0),.own [.d (.agg [.sl β (List.map dB p1),.sl β (List.map dJ p2),.sl β (List.map dP p3),.sl β (List.map (dL β) p4),.sl β (List.map (fw β) p5)])]),((3,0),.own (tl gv b))],[]⟩
@[go_sem] def y4:=mkL (p:=λβ (d:Int->(J aA)->((Int)×(J aA)->U ρ)->XT ρ->U ρ)=>∀(R:St->U ρ) g κ,(∀c b a,c=List.length a->R (mu p0 p1 p2 p3 p4 p5 β c b a)=g (b,a))->∀b a,go P hints jT b91 adv.1 (mu p0 p1 p2 p3 p4 p5 β (List.length a) b a) (kLp R κ)=d b a g κ) _ _
def y5(β:Bool)(κ:XT ρ)(n0:Nat)(c:Int)(b:J aA)(a:n0=List.length b):=ll (S:=λn0=>mu p0 p1 p2 p3 p4 p5 β n0 c b) a (dD (κ:=κ) (Φ:=λv k=>(y4 p0 p1 p2 p3 p4 p5 (ρ:=ρ)).f β v.1 v.2 k κ) adv.2 (S:=λv=>mu p0 p1 p2 p3 p4 p5 β (List.length v.2) v.1 v.2) (by intro R g d v;exact(y4 p0 p1 p2 p3 p4 p5 (ρ:=ρ)).ok β R g κ (λn0 c b a=>by subst a;exact d (c,b)) v.1 v.2) (c,b))
end
@[go_sem] def b_(a:z16=List.length z19):=wl (y5 z17 z1 z2 z3 z4 z5 false η z16 z0 z19 a)
@[go_sem] def b?(a:z16=List.length z19):=wl (y5 z17 z1 z2 z3 z4 z5 true η z16 z0 z19 a)
def vT(a0:ae):=mkF (p:=λβ (κ:KT ρ) (g:(J aA)->U ρ)=>∀a,κ ([.d (.sl false (List.map gv a))],[])=g a) (ds:=λβ=>[(gM β) a0]) avD (λ_=>rfl) _
def vU(a0:ae)(g0):=(vT (ρ:=ρ) a0).1 g0
@[go_sem] def aek:=wk (vU (ρ:=ρ) (ae.mk z1 z2 z3 z4 z5)) ((vT (ae.mk z1 z2 z3 z4 z5)).2 β κ _ (λ_=>rfl))
section
variable(p0:J aA)
@[go_sem] def vV(β:Bool)(e:Int)(f:J (Int))(b:J (Int))(c:J (Int))(a:J (Int))(d:J (Int)):St:=⟨[(2,.loc (aj.l 2 0) [] (0) 0),(3,.loc (aj.l 3 0) [] (0) 0),(4,.d (.sl false (List.map gv p0))),(5,.d (.int .i64 e))],[((2,0),.own [.agg [.own [],.own [],.own [],.d (.int .i64 (0)),.own [],.own []]]),((3,0),.own [.agg [.own (tl eI f),.own (tl eI b),.own (tl eI c),.d (.int .i64 (0)),.own (tl eI a),.own (tl eI d)]])],[]⟩
@[go_sem] def DW:=mkL (p:=λβ (h:Int->(J (Int))->(J (Int))->(J (Int))->(J (Int))->(J (Int))->((Int)×(J (Int))×(J (Int))×(J (Int))×(J (Int))×(J (Int))->U ρ)->XT ρ->U ρ)=>∀(R:St->U ρ) g κ,(∀a b c d f e,R (vV p0 β a b c d f e)=g (a,b,c,d,f,e))->∀a b c d f e,go P hints Cr b61 ac0.1 (vV p0 β a b c d f e) (kLp R κ)=h a b c d f e g κ) _ _
def OU(β:Bool)(κ:XT ρ)(a:Int)(b:J (Int))(c:J (Int))(d:J (Int))(f:J (Int))(e:J (Int)):=dD (κ:=κ) (Φ:=λv k=>(DW p0 (ρ:=ρ)).f β v.1 v.2.1 v.2.2.1 v.2.2.2.1 v.2.2.2.2.1 v.2.2.2.2.2 k κ) ac0.2 (S:=λv=>vV p0 β v.1 v.2.1 v.2.2.1 v.2.2.2.1 v.2.2.2.2.1 v.2.2.2.2.2) (by intro R g h v;exact(DW p0 (ρ:=ρ)).ok β R g κ (λa b c d f e=>h (a,b,c,d,f,e)) v.1 v.2.1 v.2.2.1 v.2.2.2.1 v.2.2.2.2.1 v.2.2.2.2.2) (a,b,c,d,f,e)
end
@[go_sem] def b!:=wl (OU z19 true η z0 [] [] [] [] [])
def CV(a0:ae):=mkF (p:=λβ (κ:KT ρ) (g:(J Int)->(J Int)->(J Int)->Int->(J Int)->(J Int)->U ρ)=>∀f c b a e d,κ ([.d (.agg [.sl false (List.map eI f),.sl false (List.map eI c),.sl false (List.map eI b),.int .i64 a,.sl false (List.map eI e),.sl false (List.map eI d)])],[])=g f c b a e d) (ds:=λβ=>[(gM β) a0]) avg (λ_=>rfl) _
def wO(a0:ae)(g0):=(CV (ρ:=ρ) a0).1 g0
@[go_sem] def ajl:=wk (wO (ρ:=ρ) (ae.mk z1 z2 z3 z4 z5)) ((CV (ae.mk z1 z2 z3 z4 z5)).2 β κ _ (λ_ _ _ _ _ _=>rfl))
section
variable(p0:J Int)(p1:Int)(p2:Int)(p3:J UInt8)(p4:Int)(p5:Int)(p6:Int)(p7:Int)(p8:Bool)
@[go_sem] def nk(β:Bool)(a:Int):St:=⟨[(1,.d (.sl β (List.map eI p0))),(7,.loc (aj.l 7 0) [] (0) 0),(8,.d (.int .i64 p1)),(9,.d (.int .i64 p2)),(10,.d (.int .i64 a))],[((7,0),.own [.d (.agg [.str p3,.int .i64 p4,.int .i64 p5,.int .i64 p6,.int .i64 p7,.bool p8])])],[]⟩
@[go_sem] def tW:=mkL (p:=λβ (b:Int->(Int->U ρ)->XT ρ->U ρ)=>∀(R:St->U ρ) g κ,(∀a,R (nk p0 p1 p2 p3 p4 p5 p6 p7 p8 β a)=g a)->∀a,go P hints Cs b67 ac3.1 (nk p0 p1 p2 p3 p4 p5 p6 p7 p8 β a) (kLp R κ)=b a g κ) _ _
def tX(β:Bool)(κ:XT ρ)(a:Int):=dD (κ:=κ) (Φ:=λv k=>(tW p0 p1 p2 p3 p4 p5 p6 p7 p8 (ρ:=ρ)).f β v k κ) ac3.2 (S:=λv=>nk p0 p1 p2 p3 p4 p5 p6 p7 p8 β v) (by intro R g b v;exact(tW p0 p1 p2 p3 p4 p5 p6 p7 p8 (ρ:=ρ)).ok β R g κ (λa=>b a) v) a
end
@[go_sem] def Vc:=wl (tX z31 z0 z7 z6 z8 z11 z15 z21 z14 false η z22)
@[go_sem] def Vd:=wl (tX z31 z0 z7 z6 z8 z11 z15 z21 z14 true η z22)
def qq(a0:ae)(c:J Int)(b:Int):=mkF (p:=λβ (κ:KT ρ) (g:Bool->U ρ)=>∀a,κ ([.d (.bool a)],[])=g a) (ds:=λβ=>[(gM β) a0,(fS β) c,eI b]) avi (λ_=>rfl) _
def qr(a0:ae)(a:J Int)(b:Int)(g0):=(qq (ρ:=ρ) a0 a b).1 g0
@[go_sem] def v_:=wk (qr (ρ:=ρ) (ae.mk z1 z2 z3 z4 z5) z31 z0) ((qq (ae.mk z1 z2 z3 z4 z5) z31 z0).2 β κ _ (λ_=>rfl))
section
variable(p0:J Int)(p1:J Int)(p2:J Int)(p3:J Int)(p4:Int)(p5:J Int)(p6:J Int)
@[go_sem] def tx(β:Bool)(a:Int):St:=⟨[(1,.d (.sl β (List.map eI p0))),(2,.loc (aj.l 2 0) [] (0) 0),(5,.d (.int .i64 a))],[((2,0),.own [.d (.agg [.sl β (List.map eI p1),.sl β (List.map eI p2),.sl β (List.map eI p3),.int .i64 p4,.sl β (List.map eI p5),.sl β (List.map eI p6)])])],[]⟩
@[go_sem] def BI:=mkL (p:=λβ (b:Int->(Int->U ρ)->XT ρ->U ρ)=>∀(R:St->U ρ) g κ,(∀a,R (tx p0 p1 p2 p3 p4 p5 p6 β a)=g a)->∀a,go P hints Ct b68 ac4.1 (tx p0 p1 p2 p3 p4 p5 p6 β a) (kLp R κ)=b a g κ) _ _
def BJ(β:Bool)(κ:XT ρ)(a:Int):=dD (κ:=κ) (Φ:=λv k=>(BI p0 p1 p2 p3 p4 p5 p6 (ρ:=ρ)).f β v k κ) ac4.2 (S:=λv=>tx p0 p1 p2 p3 p4 p5 p6 β v) (by intro R g b v;exact(BI p0 p1 p2 p3 p4 p5 p6 (ρ:=ρ)).ok β R g κ (λa=>b a) v) a
end
@[go_sem] def v?:=wl (BJ z31 z32 z33 z34 z0 z35 z36 false η z7)
@[go_sem] def v!:=wl (BJ z31 z32 z33 z34 z0 z35 z36 true η z7)
def Ap(a0:bQ)(b:J Int):=mkF (p:=λβ (κ:KT ρ) (g:Bool->U ρ)=>∀a,κ ([.d (.bool a)],[])=g a) (ds:=λβ=>[(wC β) a0,(fS β) b]) avj (λ_=>rfl) _
def Aq(a0:bQ)(a:J Int)(g0):=(Ap (ρ:=ρ) a0 a).1 g0
@[go_sem] def ag9:=wk (Aq (ρ:=ρ) (bQ.mk z31 z32 z33 z0 z34 z35) z36) ((Ap (bQ.mk z31 z32 z33 z0 z34 z35) z36).2 β κ _ (λ_=>rfl))
section
variable(p0:J Int)(p1:J aw)(p2:J aB)(p3:J aD)(p4:J az)(p5:J aX)(p6:J Int)(p7:J Int)(p8:J Int)(p9:Int)(p10:J Int)(p11:J Int)
@[go_sem] def tz(β:Bool)(a:Int):St:=⟨[(2,.d (.sl β (List.map eI p0))),(3,.loc (aj.l 3 0) [] (0) 0),(4,.loc (aj.l 4 0) [] (0) 0),(7,.d (.int .i64 a))],[((3,0),.own [.d (.agg [.sl β (List.map dB p1),.sl β (List.map dJ p2),.sl β (List.map dP p3),.sl β (List.map (dL β) p4),.sl β (List.map (fw β) p5)])]),((4,0),.own [.d (.agg [.sl β (List.map eI p6),.sl β (List.map eI p7),.sl β (List.map eI p8),.int .i64 p9,.sl β (List.map eI p10),.sl β (List.map eI p11)])])],[]⟩
@[go_sem] def BK:=mkL (p:=λβ (b:Int->(Int->U ρ)->XT ρ->U ρ)=>∀(R:St->U ρ) g κ,(∀a,R (tz p0 p1 p2 p3 p4 p5 p6 p7 p8 p9 p10 p11 β a)=g a)->∀a,go P hints Co b45 acQ.1 (tz p0 p1 p2 p3 p4 p5 p6 p7 p8 p9 p10 p11 β a) (kLp R κ)=b a g κ) _ _
def BL(β:Bool)(κ:XT ρ)(a:Int):=dD (κ:=κ) (Φ:=λv k=>(BK p0 p1 p2 p3 p4 p5 p6 p7 p8 p9 p10 p11 (ρ:=ρ)).f β v k κ) acQ.2 (S:=λv=>tz p0 p1 p2 p3 p4 p5 p6 p7 p8 p9 p10 p11 β v) (by intro R g b v;exact(BK p0 p1 p2 p3 p4 p5 p6 p7 p8 p9 p10 p11 (ρ:=ρ)).ok β R g κ (λa=>b a) v) a
end
@[go_sem] def w_:=wl (BL z31 z1 z2 z3 z4 z5 z32 z33 z34 z0 z35 z36 false η z7)
@[go_sem] def w?:=wl (BL z31 z1 z2 z3 z4 z5 z32 z33 z34 z0 z35 z36 true η z7)
def Ar(a0:ae)(c:bQ)(b:J Int):=mkF (p:=λβ (κ:KT ρ) (g:Bool->U ρ)=>∀a,κ ([.d (.bool a)],[])=g a) (ds:=λβ=>[(gM β) a0,(wC β) c,(fS β) b]) au2 (λ_=>rfl) _
def As(a0:ae)(a:bQ)(b:J Int)(g0):=(Ar (ρ:=ρ) a0 a b).1 g0
@[go_sem] def aha:=wk (As (ρ:=ρ) (ae.mk z1 z2 z3 z4 z5) (bQ.mk z31 z32 z33 z0 z34 z35) z36) ((Ar (ae.mk z1 z2 z3 z4 z5) (bQ.mk z31 z32 z33 z0 z34 z35) z36).2 β κ _ (λ_=>rfl))
def Au(a0:ae):=mkF (p:=λβ (κ:KT ρ) (g:Bool->U ρ)=>∀a,κ ([.d (.bool a)],[])=g a) (ds:=λβ=>[(gM β) a0]) avk (λ_=>rfl) _
def Aw(a0:ae)(g0):=(Au (ρ:=ρ) a0).1 g0
@[go_sem] def ahb:=wk (Aw (ρ:=ρ) (ae.mk z1 z2 z3 z4 z5)) ((Au (ae.mk z1 z2 z3 z4 z5)).2 β κ _ (λ_=>rfl))
def Ih(a0:ae):=mkF (p:=λβ (κ:KT ρ) (g:(J Int)->(J Int)->(J Int)->Int->(J Int)->(J Int)->U ρ)=>(∀(f:J Int) (c:J Int) (b:J Int) (a:Int) (e:J Int) (d:J Int),κ ([.d (.agg [.sl false (List.map eI f),.sl false (List.map eI c),.sl false (List.map eI b),.int .i64 a,.sl false (List.map eI e),.sl false (List.map eI d)])],[])=g f c b a e d)/\(∀(a:Int),κ ([.d (.agg [.sl false (List.map eI ([]:J Int)),.sl false (List.map eI ([]:J Int)),.sl false (List.map eI ([]:J Int)),.int .i64 a,.sl false (List.map eI ([]:J Int)),.sl false (List.map eI ([]:J Int))])],[])=g ([]:J Int) ([]:J Int) ([]:J Int) a ([]:J Int) ([]:J Int))) (ds:=λβ=>[(gM β) a0]) au3 (λ_=>rfl) _
def OV(a0:ae)(g0):=(Ih (ρ:=ρ) a0).1 g0
@[go_sem] def arI:=wk (OV (ρ:=ρ) (ae.mk z1 z2 z3 z4 z5)) ((Ih (ae.mk z1 z2 z3 z4 z5)).2 β κ _ ⟨(λ_ _ _ _ _ _=>rfl),(λ_=>rfl)⟩)
def pK(a0:ae)(b:J Int):=mkF (p:=λβ (κ:KT ρ) (g:Bool->U ρ)=>∀a,κ ([.d (.bool a)],[])=g a) (ds:=λβ=>[(gM β) a0,(fS β) b]) auR (λ_=>rfl) _
def kL(a0:ae)(a:J Int)(g0):=(pK (ρ:=ρ) a0 a).1 g0
@[go_sem] def ael:=wk (kL (ρ:=ρ) (ae.mk z1 z2 z3 z4 z5) z31) ((pK (ae.mk z1 z2 z3 z4 z5) z31).2 β κ _ (λ_=>rfl))
end
set_option maxHeartbeats 4000000
section
variable{ρ:Type}
theorem iS{τ:Type}{Φ:τ->(τ->U ρ)->U ρ}(N:Nat)(mk:Nat->τ)(d:τ->Nat)(m:∀i,d (mk i)=i)(f:Nat->Int)(g:Nat->Int->U ρ)(a:U ρ)
  (n:∀i k,i<N->(∀j,j<i->f j=0)->Φ (mk i) k=if f i=0 then k (mk (i+1))else g i (f i)) (hf:(∀j,j<N->f j=0)->∀k,Φ (mk N) k=a):iw Φ (mk 0)=(dQ N f).elim a λp=>g p.1 p.2:=by
 refine JC (λv e=>e=((dQ N f).elim a λp=>g p.1 p.2)/\∃i,i<=N/\v=mk i/\∀j,j<i->f j=0) (λv=>N - d v) ?_ ⟨rfl,0,eJ _,rfl,λj l=>by omega⟩
 rintro v e k ⟨rfl,i,o,rfl,c⟩ hk
 obtain h |h:=gk i N
 .rw[n i k h c]
  by_cases b:f i=0
  .rw[if_pos b]
   exact hk _ _ ⟨rfl,i+1,h,rfl,λj l=>by
    grind⟩ (by grind)
  .rw[if_neg b,mN h b c];rfl
 grind [i7]
theorem re{a:Type}(l:J a)(nm:a->Nm)(i:Nat)(hi:i<=l.length)(hl:l.length<=1000000)(x:Nm)(A B:U ρ):
  iw (λ(v:Int) (k:Int->U ρ)=>if v<(i:Int)then if 0<=v then(l[v.toNat]?).bind λy=>if nm y=x then A else k (IntKind.i64.wrap (v+1))else none else B) 0=if x∈(l.map nm).take i then A else B:=by
 have c:=oc (ρ:=ρ) (Φ:=λ(v:Int) (k:Int->U ρ)=>if v<(i:Int)then if 0<=v then(l[v.toNat]?).bind λy=>if nm y=x then A else k (IntKind.i64.wrap (v+1))else none else B) i (λj:Nat=>(j:Int)) (λj=>(l[j]?).bind λy=>if nm y=x then some A else none) B (λj k d=>by
  grind [eW]) (λk=>by grind)
 refine c.trans ?_
 have b:∀n,n<=l.length->((List.range n).findSome? λj=>(l[j]?).bind λy=>if nm y=x then some A else none)=if x∈(l.map nm).take n then some A else none:=by
  intro n
  induction n with
  |zero=>intro _;simp
  |succ n e=>
   grind [List.range_succ,eD]
 grind
theorem vW{k:Int}{s:J aw}(e:s.length<=1000){g:Int->U ρ}:zQ s k g=g (iP s k):=by
 simp only[zQ,zP,mkF]
 by_cases b:k<1
 .grind [mO]
 by_cases d:(s.length:Int)<k
 .grind [mO]
 have c:IntKind.i64.wrap (k - 1)=k - 1:=dE (by omega) (by omega)
 have a:(k - 1).toNat<s.length:=by omega
 simp only[b,d,if_false,c,show 0<=k - 1 by omega,if_true,xG a,xS,Bw (show 1<=k by omega) a]
 grind
theorem OW{a b:Int}{g:Bool->U ρ}:zS a b g=g (pD a b):=by
 grind [zS,zR,mkF,pD,dE]
theorem CW{a:Type}(most:Nat)(l:J a)(hl:l.length<=1000000)(nm:a->Nm)(f:a->Int)(g:Int->Int->U ρ)(Φ:Int->(Int->U ρ)->U ρ)
  (b:∀(i:Nat) (hi:i<l.length) (h:i<=most) (k:Int->U ρ),Φ (i:Int) k=if most<=i then g i 11 else if ng (nm l[i])=false then g i 6 else if nm l[i]∈(l.map nm).take i then g i 7 else if f l[i]=0 then k (IntKind.i64.wrap ((i:Int)+1))else g i (f l[i]))
  (hf:∀k,Φ (l.length:Int) k=g 0 0):iw Φ 0=atE (dQ l.length (qP most (l.map nm) (fb l f))) g:=by
 refine iS (τ:=Int) l.length (λi:Nat=>(i:Int)) Int.toNat (λi=>rfl) (qP most (l.map nm) (fb l f)) (λi e=>g i e) (g 0 0) (λi k hi m=> ?_) (λ_=>hf)
 have h:i<=most:=Az λc=>by
  grind [L6]
 rw[b i hi h,L6 hi,eW (show i<4611686018427387904 by omega)]
 by_cases d:most<=i
 .simp[d]
 by_cases j:ng (nm l[i])=false
 .simp[d,j]
 by_cases h3:nm l[i]∈(l.map nm).take i
 .simp[d,j,h3]
 grind
theorem OX{l:J aw}(hl:l.length<=1000){g:Int->Int->U ρ}:qc l g=atE (qQ l) g:=by
 simp only[qc,qb,mkF,nU];refine CW 2 l (by omega) (·.Name) JL g _ (λi a c k=> ?_) (λk=> ?_)
 .simp only[show(i:Int)<(l.length:Int)by omega,show(0:Int)<=(i:Int)by omega,if_true,xV,xG a,xS,JL,re l (·.Name) i (by omega) (by omega)]
  by_cases b:2<=i
  .grind
  by_cases h3:l[i].cV<1
  .grind
  by_cases h4:4<l[i].cV
  .grind
  grind
 .simp
theorem Ms{v:aB}{s:J aw}(a:s.length<=1000){g:Int->U ρ}:oD v s g=g (Aa s v):=by
 simp only[oD,oC,mkF,vW a,OW,Aa,jW]
 by_cases b:v.aC=0
 .grind
 grind
theorem Ii{l:J aB}{s:J aw}{n:Nat}(hl:l.length<=1000)(b:s.length<=1000){g:Int->Int->U ρ}:zU l s n g=atE (qR l s n) g:=by
 simp only[zU,zT,mkF,nU,Ms b];refine CW n l (by omega) (·.Name) (Aa s) g _ (λi a c k=> ?_) (λk=> ?_)
 .simp only[show(i:Int)<(l.length:Int)by omega,show(0:Int)<=(i:Int)by omega,if_true,xV,xG a,xS,Int.ofNat_le,re l (·.Name) i (by omega) (by omega)]
 .simp
theorem Ve{l:J aD}{s:J aw}(hl:l.length<=1000)(b:s.length<=1000){g:Int->Int->U ρ}:vb l s g=atE (s7 l s) g:=by
 simp only[vb,u9,mkF,nU,vW b,OW];refine CW 4 l (by omega) (·.Name) (tN s) g _ (λi a c k=> ?_) (λk=> ?_)
 .simp only[show(i:Int)<(l.length:Int)by omega,show(0:Int)<=(i:Int)by omega,if_true,xV,xG a,xS,re l (·.Name) i (by omega) (by omega),tN,jW]
  by_cases d:4<=i
  .grind
  grind
 .simp
theorem c_{e:J aF}{s:au}(a:∀x∈e,x.N<=9223372036854775807){g:Int->Int->U ρ}:oi e s g=g (lu e s).1 (lu e s).2:=by
 grind [Y1,lu,Og,LZ,yI]
theorem Mu{e:J aF}{k:Int}{s:au}(a:∀x∈e,x.N<=9223372036854775807){g:Int->U ρ}:HI e k s g=g (jc e k s):=by
 grind [HI,HH,mkF,c_,jc]
theorem Vf{l:J aB}{n:Int}{s:au}{g:Int->Int->U ρ}:vd l n s g=match i4 l n s with |none=>g 0 8 |some v=>if v.aG=0 then g (kOf v.aC) 0 else g 0 9:=by
 simp only[vd,vc,mkF,Bu];rw[F3 (e:=g 0 8) (λ_ _ _ _ _ _=>by simp)]
 grind
theorem c?{a:aO}{s:au}(h:ActE a){g:Int->U ρ}:zW a s g=g (match i4 s.aq a.To s with |none=>8 |some v=>if v.aG=0 then 9 else if jc a.Index (w64 (1+v.aG)) s=0 then jc a.Value (kOf v.aC) s else jc a.Index (w64 (1+v.aG)) s):=by
 simp only[zW,zV,mkF,Bu,Mu h.v,Mu h.i];rw[F3 (e:=g 8) (λ_ _ _ _ _ _=>by simp)]
 grind
theorem OY{n:Int}{s:au}{g:J UInt8->Int->Int->Int->Int->Bool->Bool->U ρ}{e:U ρ}(i:∀a b c d f h,g a b c d f h false=e):mc n s g=match vD n s with |some c=>g c.Name c.aC c.bc c.Lo c.Hi c.Lossy true |none=>e:=by
 grind [mc,mb,mkF,Qt,vD]
theorem abU{a:aO}{s:au}{b:Bool}(h:ActE a){g:Int->U ρ}:wF a s b g=g (if talksP a=true/\b=true then 7 else D9 a s):=by
 simp only[wF,CE,mkF,c? h,Vf,Bu,Mu h.v,talksP,D9]
 by_cases d:a.Kind=2
 .grind
 by_cases h3:a.Kind=3
 .grind
 by_cases f:a.Kind=1
 .grind
 by_cases h4:a.Kind=4
 .cases b with
  |true=>simp[h4]
  |false=>
   simp[h4];rw[OY (e:=g 8) (λ_ _ _ _ _ _=>by simp)]
   grind
 by_cases h5:a.Kind=5
 .cases b with
  |true=>simp[h5]
  |false=>
   simp[h5];rw[OY (e:=g 8) (λ_ _ _ _ _ _=>by simp)]
   cases vD a.To s with
   |none=>rfl
   |some c=>
    grind
 grind
theorem c!{a:Type}{p:a->Bool}{l:J a}{i:Nat}(hi:i<l.length):(l.take (i+1)).any p=((l.take i).any p || p l[i]):=by
 grind [eD]
theorem abV{c:aK}{p:az}{s:au}(h:CmdE c)(hn:c.aM.length<=1000){g:Int->Int->U ρ}:vf c p s g=g (Ab c p s).1 (Ab c p s).2:=by
 have t:=λ(a:aO) (j:a∈c.aM) b g=>abU (ρ:=ρ) (a:=a) (s:=s) (b:=b) (h.a a j) (g:=g)
 have d:iw (ρ:=ρ)
   (λ(v:Bool×Int) k=>
    if v.snd< ↑c.aM.length then
     if 0<=v.snd then
      c.aM[v.snd.toNat]?.bind λz=>
       wF z s v.fst λx=>
        if x=0 then
         if v.fst=true then k (true,IntKind.i64.wrap (v.snd+1))
         else
          if 0<=v.snd then
           c.aM[v.snd.toNat]?.bind λy=>
            if y.Kind=4 then k (true,IntKind.i64.wrap (v.snd+1))
            else
             if 0<=v.snd then
              c.aM[v.snd.toNat]?.bind λy=>
               k (decide (y.Kind=5),IntKind.i64.wrap (v.snd+1))
             else none
          else none
        else g (IntKind.i64.wrap (2+v.snd)) x
     else none
    else g 0 0)
   (false,0)=(dQ c.aM.length (lG c.aM s)).elim (g 0 0) λq=>g (2+q.1) q.2:=by
  refine oJ (iS (τ:=Bool×Int) c.aM.length (λi:Nat=>((c.aM.take i).any talksP,(i:Int))) (λv=>v.2.toNat) (λi=>rfl) (lG c.aM s) (λi e=>g (2+(i:Int)) e) (g 0 0) (λi k f w=> ?_) (λ_ k=>by simp)) rfl
  have j:=eO f;have o:lG c.aM s i=if talksP c.aM[i]=true/\(c.aM.take i).any talksP=true then 7 else D9 c.aM[i] s:=by simp only[lG,xG f]
  have n:IntKind.i64.wrap (2+(i:Int))=2+(i:Int):=dE (by omega) (by omega)
  simp only[show(i:Int)<(c.aM.length:Int)by omega,show(0:Int)<=(i:Int)by omega,if_true,xV,xG f,xS,t _ j,<-o,n,eW (show i<4611686018427387904 by omega),c! f]
  by_cases u:lG c.aM s i=0
  .grind [talksP]
  .grind
 simp only[vf,ve,mkF,nU,Mu h.g];rw[d];unfold Ab DQ
 by_cases m:ng c.Name=false
 .simp[m]
 by_cases r:c.dm<0
 .grind
 by_cases h3:p.bF<=c.dm
 .grind
 by_cases h4:c.To<0
 .grind
 by_cases h5:p.bF<=c.To
 .grind
 by_cases h6:6<c.aM.length
 .grind
 have l:ng c.Name=true:=by simpa using m
 simp only[l,r,h3,h4,h5,h6,show¬(6:Int)<(c.aM.length:Int)by omega,show 0<=c.dm by omega,show c.dm<p.bF by omega,show 0<=c.To by omega,show c.To<p.bF by omega,and_self,if_true,if_false,ne_eq,not_true_eq_false,reduceCtorEq]
 by_cases h7:0<c.Guard.length
 .by_cases h8:jc c.Guard 1 s=0
  .simp only[h7,h8,if_true,not_true_eq_false,and_false,if_false]
   cases dQ c.aM.length (lG c.aM s) <;>rfl
  grind
 .simp only[h7,if_false,false_and]
  cases dQ c.aM.length (lG c.aM s) <;>rfl
theorem d_{p:az}{s:au}(t:s.aa.length<=1000)(x:s.aq.length<=1000)(hv:p.aq.length<=1000)(hc:p.aP.length<=1000)(r:ProcE p){g:Int->Int->Int->U ρ}:vh p s g=g (jp p s).1 (jp p s).2.1 (jp p s).2.2:=by
 have o:=λ(c:aK) (d:c∈p.aP) s g=>abV (ρ:=ρ) (c:=c) (p:=p) (s:=s) (r.c c d).1 (r.c c d).2 (g:=g)
 simp only[vh,vg,mkF,nU,Ii hv t];have b:=λg=>Ii (ρ:=ρ) (n:=4) (l:=p.aq) (s:=s.aa) hv t (g:=g)
 simp only[show((4:Nat):Int)=4 from rfl]at b
 rw[b];unfold jp vE
 by_cases f:ng p.Name=false
 .simp[f]
 by_cases m:p.aG<0
 .simp[f,m]
 by_cases h3:(s.aa.length:Int)<p.aG
 .simp[f,m,h3]
 by_cases h4:p.bF<1
 .grind
 by_cases h5:12<p.bF
 .grind
 by_cases h6:12<p.aP.length
 .grind
 have h:ng p.Name=true:=by simpa using f
 simp only[h,m,h3,h4,h5,h6,show¬(12:Int)<(p.aP.length:Int)by omega,if_false,or_self,ne_eq,not_true_eq_false,reduceCtorEq]
 unfold pE
 cases z:(qR p.aq s.aa 4:U (Nat×Int))with
 |some q=>
  obtain⟨A,B,q3,q4⟩:=ft (i:=q.1) (e:=q.2) z
  grind [atE]
 |none=>
  simp only[atE,kS,if_true,nu]
  refine(iS (τ:=Int) p.aq.length (λi:Nat=>(i:Int)) Int.toNat (λi=>rfl) (fb p.aq (iI s)) (λi e=>g 1 i e) ((dQ p.aP.length λi=>(iQ p (innerP p s) i).2).elim (g 0 0 0) λq=>g (2+(q.1:Int)) (iQ p (innerP p s) q.1).1 q.2) (λi k a w=> ?_) (λ_ k=> ?_)).trans ?_
  .have d:fb p.aq (iI s) i=iI s p.aq[i]:=by simp only[fb,xG a]
   simp only[show(i:Int)<(p.aq.length:Int)by omega,show(0:Int)<=(i:Int)by omega,if_true,xV,xG a,xS,re s.aq (·.Name) s.aq.length (dC _) (by omega),d,iI,eW (show i<4611686018427387904 by omega),gy (show(s.aq.map (·.Name)).length<=s.aq.length by simp)]
   by_cases y:p.aq[i].aG=0
   .grind
   grind
  .simp only[o4,if_false]
   refine iS (τ:=Int) p.aP.length (λi:Nat=>(i:Int)) Int.toNat (λi=>rfl) (λi=>(iQ p (innerP p s) i).2) (λi e=>g (2+(i:Int)) (iQ p (innerP p s) i).1 e) (g 0 0 0) (λi k a w=> ?_) (λ_ k=>by simp)
   have u:IntKind.i64.wrap (2+(i:Int))=2+(i:Int):=dE (by omega) (by omega)
   have v:iQ p (innerP p s) i=if(Ab p.aP[i] p (innerP p s)).2≠0 then Ab p.aP[i] p (innerP p s)else if p.aP[i].Name∈(p.aP.take i).map (·.Name)then(0,7)else(0,0):=by simp only[iQ,xG a]
   have j:(p.aP.map (·.Name)).take i=(p.aP.take i).map (·.Name):=List.map_take.symm;simp only[show(i:Int)<(p.aP.length:Int)by omega,show(0:Int)<=(i:Int)by omega,if_true,xV,xG a,xS,o _ (eO a),re p.aP (·.Name) i (by omega) (by omega),u,eW (show i<4611686018427387904 by omega),j,<-innerP.eq_1]
   rw[v]
   by_cases y:(Ab p.aP[i] p (innerP p s)).2=0
   .grind
   grind
  .cases dQ p.aq.length (fb p.aq (iI s))with
   |some q=>rfl
   |none=>
    simp only[kS]
    cases dQ p.aP.length λi=>(iQ p (innerP p s) i).2 <;>rfl
theorem BM{l:J Nm}(hl:l.length<=1000000){x:Nm}{g:Bool->U ρ}:CG l x g=g (decide (x∈l)):=by
 simp only[CG,CF,mkF]
 refine(re l id l.length (dC _) hl x (g true) (g false)).trans ?_
 by_cases h:x∈l <;>simp[h]
theorem mw{a:Type}(l:J a)(nm:a->Nm)(acc:J Nm)(hl:acc.length+l.length<=1000000)(E:Int×J Nm->U ρ):
  iw (λ(v:Int×J Nm) (k:Int×J Nm->U ρ)=>if v.fst<(l.length:Int)then if 0<=v.fst then(l[v.fst.toNat]?).bind λy=>if(v.snd.length+1) * 16<=140737488355328/\v.snd.length<=9223372036854775806 then k (IntKind.i64.wrap (v.fst+1),v.snd++[nm y])else none else none else E v) (0,acc)=E ((l.length:Int),acc++l.map nm):=by
 refine oJ (iterC_all (τ:=Int×J Nm) l.length (λi=>((i:Int),acc++(l.map nm).take i)) (E ((l.length:Int),acc++l.map nm)) (λi k b=> ?_) λk=> ?_) (by simp)
 .grind [eD,xG,eW]
 grind [gy]
theorem BN{a:Type}(l:J a)(nm:a->Nm)(acc:J Nm)(n:Nat)(hn:n<=l.length)(hl:acc.length+l.length<=1000000)(E:Int×J Nm->U ρ):
  iw (λ(v:Int×J Nm) (k:Int×J Nm->U ρ)=>if v.fst<(l.length:Int)then if v.fst<(n:Int)then if 0<=v.fst then(l[v.fst.toNat]?).bind λy=>if(v.snd.length+1) * 16<=140737488355328/\v.snd.length<=9223372036854775806 then k (IntKind.i64.wrap (v.fst+1),v.snd++[nm y])else none else none else E v else E v) (0,acc)=E ((n:Int),acc++(l.map nm).take n):=by
 refine oJ (iterC_all (τ:=Int×J Nm) n (λi=>((i:Int),acc++(l.map nm).take i)) (E ((n:Int),acc++(l.map nm).take n)) (λi k b=> ?_) λk=> ?_) (by simp)
 .grind [eD,xG,eW]
 grind
theorem JU{τ:Type}{Φ:τ->(τ->U ρ)->U ρ}{v:τ}{e:U ρ}(h:∀k,Φ v k=e):iw Φ v=e:=iterC_all (τ:=τ) 0 (λ_=>v) e (λi k hi=>by omega) h
theorem SA{E:J Nm->U ρ}{acc:J Nm}:iw (λ(v:Int×J Nm) (k:Int×J Nm->U ρ)=>E v.snd) (0,acc)=E acc:=JU λ_=>rfl
theorem ahc{m:ae}(h:cE m){i:Nat}(hi:i<=m.aq.length){g:J Nm->U ρ}:ik m 2 i g=g (sN m++(vN m).take i):=by
 have a:=h.sc;have b:=h.v;simp only[ik,kI,mkF,Int.reduceLT,if_true,if_false,ite_self,SA]
 refine(mw m.aa (·.Name) _ (by simp;omega) _).trans ?_
 simp only
 refine(BN m.aq (·.Name) _ i hi (by simp;omega) _).trans ?_
 rfl
theorem ahd{m:ae}(h:cE m){i:Nat}(hi:i<=m.ah.length){g:J Nm->U ρ}:ik m 3 i g=g (sN m++vN m++(cN m).take i):=by
 have a:=h.sc;have b:=h.v;have h3:=h.c;simp only[ik,kI,mkF,Int.reduceLT,if_true,if_false,ite_self,SA]
 refine(mw m.aa (·.Name) _ (by simp;omega) _).trans ?_
 simp only
 refine(mw m.aq (·.Name) _ (by simp;omega) _).trans ?_
 simp only
 refine(BN m.ah (·.Name) _ i hi (by simp;omega) _).trans ?_
 rfl
theorem ahe{m:ae}(h:cE m){i:Nat}(hi:i<=m.ak.length){g:J Nm->U ρ}:ik m 4 i g=g (sN m++vN m++cN m++(pN m).take i):=by
 have b:=h.sc;have a:=h.v;have h3:=h.c;have h4:=h.n;simp only[ik,kI,mkF,Int.reduceLT,if_true,if_false,ite_self,SA]
 refine(mw m.aa (·.Name) _ (by simp;omega) _).trans ?_
 simp only
 refine(mw m.aq (·.Name) _ (by simp;omega) _).trans ?_
 simp only
 refine(mw m.ah (·.Name) _ (by simp;omega) _).trans ?_
 simp only
 refine(BN m.ak (·.Name) _ i hi (by simp;omega) _).trans ?_
 rfl
theorem d?{m:ae}(h:cE m){i:Nat}(hi:i<=m.aL.length){g:J Nm->U ρ}:ik m 5 i g=g (sN m++vN m++cN m++pN m++(qN m).take i):=by
 have b:=h.sc;have a:=h.v;have h3:=h.c;have h4:=h.n;have h5:=h.q;simp only[ik,kI,mkF,Int.reduceLT,if_true,if_false,ite_self,SA]
 refine(mw m.aa (·.Name) _ (by simp;omega) _).trans ?_
 simp only
 refine(mw m.aq (·.Name) _ (by simp;omega) _).trans ?_
 simp only
 refine(mw m.ah (·.Name) _ (by simp;omega) _).trans ?_
 simp only
 refine(mw m.ak (·.Name) _ (by simp;omega) _).trans ?_
 simp only
 refine(BN m.aL (·.Name) _ i hi (by simp;omega) _).trans ?_
 rfl
theorem Vg{m:ae}{i:Nat}(hi:i<m.ak.length){g:J aB->Int->U ρ}:vk m i g=g m.ak[i].aq m.ak[i].aG:=by
 grind [vk,vj,mkF]
theorem Vh{a:Type}{most n:Nat}{l:J a}{nm:a->Nm}{f:a->Int}{j:Nat}(h:j<n)(b:j<l.length):qP most ((l.take n).map nm) (fb (l.take n) f) j=qP most (l.map nm) (fb l f) j:=by
 grind [L6,F6]
theorem Ij{a:Type}{most:Nat}{l:J a}{nm:a->Nm}{f:a->Int}{i:Nat}(hi:i<l.length)(h0:∀j,j<i->qP most (l.map nm) (fb l f) j=0):
  dQ (l.take (i+1)).length (qP most ((l.take (i+1)).map nm) (fb (l.take (i+1)) f))=if qP most (l.map nm) (fb l f) i=0 then none else some (i,qP most (l.map nm) (fb l f) i):=by
 grind [Vh,i7,mN]
theorem aem{e:Int}{x:Nm}{l:J Nm}(h:twF e x l=0):e=0:=by
 grind [twF]
theorem CX{n:Nat}{p:Int}{f:Nat->Flt}(hf:∀i,f i=((f i).1,p,(i:Int),0)):(dQ n λi=>(f i).1).map (λq=>(q.2,p,(q.1:Int),(0:Int)))=orF n f:=by
 cases b:dQ n λi=>(f i).1 with
 |none=>rw[wJ (gX b)];rfl
 |some q=>
  obtain⟨c,a,q3,q4⟩:=ft (i:=q.1) (e:=q.2) b;rw[oI c (by rw[a];exact q3) q4,hf q.1,a];rfl
theorem d!{m:ae}(h:cE m){g:Int->Int->Int->U ρ}:zY m g=(vH m).elim (g 0 0 0) λf=>g f.1 f.2.1 f.2.2.1:=by
 have o:=h.sc;have D:=h.v;have C:=h.c;have r:=λ(i:Nat) g=>Ii (ρ:=ρ) (n:=12) (l:=m.aq.take (i+1)) (s:=m.aa) (by simp;omega) o (g:=g)
 have y:=λ(i:Nat) g=>Ve (ρ:=ρ) (l:=m.ah.take (i+1)) (s:=m.aa) (by simp;omega) o (g:=g)
 simp only[show((12:Nat):Int)=12 from rfl]at r
 simp only[zY,zX,mkF,OX o];unfold vH
 cases B:(qQ m.aa:U (Nat×Int))with
 |some q=>
  obtain⟨E,F,q3,q4⟩:=ft (i:=q.1) (e:=q.2) B
  grind [atE]
 |none=>
  simp only[atE,kS,if_true,Option.map_none,nu]
  refine(iS (τ:=Int) m.aq.length (λi:Nat=>(i:Int)) Int.toNat (λi=>rfl) (λi=>(gvF m i).1) (λi e=>g e 2 i) ((dQ m.ah.length λi=>(gcF m i).1).elim (g 0 0 0) λq=>g q.2 3 q.1) (λi k a x=> ?_) (λ_ k=> ?_)).trans ?_
  .have u:IntKind.i64.wrap ((i:Int)+1)=((i+1:Nat):Int):=eW (by omega)
   have t:headD 6 (List.map dJ (m.aq.take (i+1)))=true:=by cases m.aq.take (i+1) <;>rfl
   have z:=Ij (most:=12) (nm:=λv:aB=>v.Name) (f:=Aa m.aa) a λj w=>aem (x j w)
   have b:(qR (m.aq.take (i+1)) m.aa 12:U (Nat×Int))=if tO m.aq m.aa 12 i=0 then none else some (i,tO m.aq m.aa 12 i):=z
   have d:(vN m).getD i []=m.aq[i].Name:=by simp[vN,a]
   have c:(sN m++(vN m).take i).length<=1000000:=by simp[sN,vN];omega
   have A:(gvF m i).1=twF (tO m.aq m.aa 12 i) m.aq[i].Name (sN m++(vN m).take i):=by simp only[gvF,d]
   simp only[show(i:Int)<(m.aq.length:Int)by omega,if_true,u,show(0:Int)<=((i+1:Nat):Int)by omega,show(0:Int)<=(i:Int)by omega,xV,t,and_true,show((i+1:Nat):Int)<=(m.aq.length:Int)by omega,r,b,xG a,xS,ahc h (ny a),BM c]
   grind [twF,atE]
  .simp only[o4,if_false]
   refine iS (τ:=Int) m.ah.length (λi:Nat=>(i:Int)) Int.toNat (λi=>rfl) (λi=>(gcF m i).1) (λi e=>g e 3 i) (g 0 0 0) (λi k a x=> ?_) (λ_ k=>by simp)
   have u:IntKind.i64.wrap ((i:Int)+1)=((i+1:Nat):Int):=eW (by omega)
   have t:headD 6 (List.map dP (m.ah.take (i+1)))=true:=by cases m.ah.take (i+1) <;>rfl
   have z:=Ij (most:=4) (nm:=λv:aD=>v.Name) (f:=tN m.aa) a λj w=>aem (x j w)
   have b:(s7 (m.ah.take (i+1)) m.aa:U (Nat×Int))=if nh m.ah m.aa i=0 then none else some (i,nh m.ah m.aa i):=z
   have d:(cN m).getD i []=m.ah[i].Name:=by simp[cN,a]
   have c:(sN m++vN m++(cN m).take i).length<=1000000:=by simp[sN,vN,cN];omega
   have A:(gcF m i).1=twF (nh m.ah m.aa i) m.ah[i].Name (sN m++vN m++(cN m).take i):=by simp only[gcF,d]
   simp only[show(i:Int)<(m.ah.length:Int)by omega,if_true,u,show(0:Int)<=((i+1:Nat):Int)by omega,show(0:Int)<=(i:Int)by omega,xV,t,and_true,show((i+1:Nat):Int)<=(m.ah.length:Int)by omega,y,b,xG a,xS,ahd h (ny a),BM c]
   grind [twF,atE]
  .rw[<-CX (p:=2) (f:=gvF m) λi=>rfl,<-CX (p:=3) (f:=gcF m) λi=>rfl]
   cases dQ m.aq.length λi=>(gvF m i).1 with
   |some q=>rfl
   |none=>cases dQ m.ah.length λi=>(gcF m i).1 <;>rfl
theorem arJ{m:ae}{i:Nat}(h:(gpF m i).1=0):gpF m i=(0,0,0,0):=by
 unfold gpF at h |-
 cases a:m.ak[i]? with
 |none=>rfl
 |some p=>
  rw[a]at h
  simp only at h |-
  by_cases d:6<=i
  .grind
  rw[if_neg d]at h |-
  by_cases c:(jp p (eV m i)).2.2≠0
  .grind
  rw[if_neg c]at h |-
  by_cases b:p.Name∈sN m++vN m++cN m++(pN m).take i
  .grind
  rw[if_neg b]at h |-
  cases e:aav m p with
  |none=>rfl
  |some q=>grind
theorem OZ{m:ae}(h:cE m)(y:MoE m){i:Nat}(hi:i<m.ak.length)(h6:i<=6){g:Int->Int->Int->Int->U ρ}:ql m i g=g (gpF m i).1 (gpF m i).2.1 (gpF m i).2.2.1 (gpF m i).2.2.2:=by
 have r:=h.sc;have D:=h.v;have C:=h.c;have B:=h.n;have c:=h.p _ (eO hi);have u:=c.v;have d:m.ak[i]? =some m.ak[i]:=xG hi;have b:=λg=>d_ (ρ:=ρ) (p:=m.ak[i]) (s:=eV m i) (by grind [BA]) (by grind [BA]) c.v c.n (y.p _ (eO hi)) (g:=g)
 have a:eV m i=⟨m.aa,m.aq,m.ah,m.ak,m.ak[i].aq,m.ak[i].aG⟩:=by simp only[eV,d]
 have w:(sN m++vN m++cN m++(pN m).take i).length<=1000000:=by simp[sN,vN,cN,pN];omega
 have A:(sN m++vN m++cN m++pN m++(qN m).take 0).length<=1000000:=by simp[sN,vN,cN,pN];omega
 have f:=λg=>d? (ρ:=ρ) h (i:=0) (eJ _) (g:=g)
 simp only[eA]at f
 simp only[ql,qk,mkF];simp only[gpF,d]
 by_cases z:6<=i
 .grind
 rw[if_neg z];simp only[show¬((i:Int)=6)by omega,if_false,show(0:Int)<=(i:Int)by omega,if_true,xV,d,xS,Vg hi,<-a,b,ahe h (ny hi),BM w,f,BM A]
 by_cases x:(jp m.ak[i] (eV m i)).2.2=0
 .simp only[x,if_true,ne_eq,not_true_eq_false,if_false]
  by_cases l:m.ak[i].Name∈sN m++vN m++cN m++(pN m).take i
  .grind
  .simp only[l,decide_false,if_false,reduceCtorEq]
   refine(iS (τ:=Int) m.ak[i].aq.length (λi:Nat=>(i:Int)) Int.toNat (λi=>rfl) (fb m.ak[i].aq λv=>if v.Name∈sN m++vN m++cN m++pN m then 7 else 0) (λk e=>g e 4 i (16+(k:Int))) (g 0 0 0 0) (λk κ hk F=> ?_) (λ_ k=>by simp)).trans ?_
   .have t:IntKind.i64.wrap ((k:Int)+1)=((k+1:Nat):Int):=eW (by omega)
    have n:IntKind.i64.wrap (16+(k:Int))=16+(k:Int):=dE (by omega) (by omega)
    have o:fb m.ak[i].aq (λv=>if v.Name∈sN m++vN m++cN m++pN m then(7:Int)else 0) k=if m.ak[i].aq[k].Name∈sN m++vN m++cN m++pN m then 7 else 0:=by simp only[fb,xG hk]
    simp only[o,show(k:Int)<(m.ak[i].aq.length:Int)by omega,show(0:Int)<=(k:Int)by omega,if_true,xV,xG hk,xS,t,n,jB,gj]
    grind
   .unfold aav
    cases j:dQ m.ak[i].aq.length (fb m.ak[i].aq λv=>if v.Name∈sN m++vN m++cN m++pN m then(7:Int)else 0)with
    |none=>rfl
    |some q=>
     obtain⟨E,G,q3,q4⟩:=ft (i:=q.1) (e:=q.2) j
     grind [fb]
 grind
theorem e_{m:ae}(h:cE m)(c:MoE m){i:Nat}(hi:i<m.aL.length)(h8:i<=8){g:Int->U ρ}:jm m i g=g (oH m i):=by
 have b:=h.sc;have k:=h.v;have j:=h.c;have f:=h.n;have n:=h.q;have a:m.aL[i]? =some m.aL[i]:=xG hi;have e:(sN m++vN m++cN m++pN m++(qN m).take i).length<=1000000:=by simp[sN,vN,cN,pN,qN];omega
 simp only[jm,lr,mkF];simp only[oH,a]
 by_cases d:8<=i
 .grind
 rw[if_neg d];simp only[show¬((i:Int)=8)by omega,if_false,show(0:Int)<=(i:Int)by omega,if_true,xV,a,xS,nU,d? h (ny hi),BM e,c_ (c.q _ (eO hi))]
 by_cases l:ng m.aL[i].Name=false
 .grind
 grind
theorem QO{m:ae}(h:cE m){g:Int->Int->Int->U ρ}:sY m g=g (vF m) (By m m.ak) (vG m):=by
 have e:∀{i n:Nat},i<n->n<=1000->IntKind.i64.wrap ((i:Int)+1)=((i+1:Nat):Int):=λd r=>eW (by omega)
 have t:=λi=>pG (f:=dN m) (l:=m.aq) (b:=4) (by decide) (λx _=>iJ) i
 have u:=λi=>pG (f:=s8) (l:=m.ah) (b:=5) (by decide) (λx _=>RY) i
 have b3:=λi=>pG (f:=eX m) (l:=m.ak) (b:=4) (by decide) (λx _=>nV) i
 have j:∀p∈m.ak,0<=eX m p * (1+(p.aq.length:Int))/\eX m p * (1+(p.aq.length:Int))<=4004:=λp s=>by
  have d:= @nV m p;have r:=(h.p p s).v
  refine⟨Int.mul_nonneg d.1 (by omega),?_⟩
  calc eX m p * (1+(p.aq.length:Int))<=4 * (1+(p.aq.length:Int)):=Int.mul_le_mul_of_nonneg_right d.2 (by omega)
   _<=4004:=by omega
 have b4:=λi=>pG (f:=λp:az=>eX m p * (1+(p.aq.length:Int))) (l:=m.ak) (b:=4004) (by decide) j i
 have w:=h.v;have c:=h.c;have q:=h.n;have t1:gT (dN m) (m.aq.take m.aq.length)=gT (dN m) m.aq:=by rw[iz]
 have o:gT s8 (m.ah.take m.ah.length)=gT s8 m.ah:=by rw[iz]
 simp only[sY,sX,pA,pz,DN,vl,mkF,vW h.sc];refine iterC_all (τ:=Int×Int) m.aq.length (λi=>(gT (dN m) (m.aq.take i),(i:Int))) _ (λi k a=> ?_) λk=> ?_
 .grind [lS,dN,dE]
 .simp only[o4,if_false,t1]
  refine oJ (iterC_all (τ:=Int×Int) m.ah.length (λi=>(gT (dN m) m.aq+gT s8 (m.ah.take i),(i:Int))) _ (λi k a=> ?_) λk=> ?_) (by simp[gT])
  .simp only[show(i:Int)<(m.ah.length:Int)by omega,if_true,show(0:Int)<=(i:Int)by omega,xV,xG a,xS,e a c,lS a]
   grind [s8,dE]
  .simp only[o4,if_false,o]
   refine oJ (iterC_all (τ:=Int×Int×Int×Int) m.ak.length (λi=>(gT (eX m) (m.ak.take i),By m (m.ak.take i),gT (dN m) m.aq+gT s8 m.ah+gT (λp:az=>eX m p * (1+(p.aq.length:Int))) (m.ak.take i),(i:Int))) _ (λi k a=> ?_) λk=> ?_) (by simp[gT,By])
   .have E:= @nV m m.ak[i]
    have y:=b3 i;have C:=b4 i;have q3:=j _ (eO a);have q4:=t m.aq.length;have q5:=u m.ah.length;rw[t1]at q4
    rw[o]at q5
    have q6:=(h.p _ (eO a)).v;have v:IntKind.i64.wrap (1+(m.ak[i].aq.length:Int))=1+(m.ak[i].aq.length:Int):=dE (by omega) (by omega)
    have A:IntKind.i64.wrap (eX m m.ak[i] * (1+(m.ak[i].aq.length:Int)))=eX m m.ak[i] * (1+(m.ak[i].aq.length:Int)):=dE (by omega) (by omega)
    have z:IntKind.i64.wrap (gT (eX m) (List.take i m.ak)+eX m m.ak[i])=gT (eX m) (List.take i m.ak)+eX m m.ak[i]:=dE (by omega) (by omega)
    have B:IntKind.i64.wrap (gT (dN m) m.aq+gT s8 m.ah+gT (λp:az=>eX m p * (1+(p.aq.length:Int))) (m.ak.take i)+eX m m.ak[i] * (1+(m.ak[i].aq.length:Int)))=gT (dN m) m.aq+gT s8 m.ah+gT (λp:az=>eX m p * (1+(p.aq.length:Int))) (m.ak.take i)+eX m m.ak[i] * (1+(m.ak[i].aq.length:Int)):=dE (by omega) (by omega)
    simp only[show(i:Int)<(m.ak.length:Int)by omega,if_true,show(0:Int)<=(i:Int)by omega,xV,xG a,xS,e a q,v,lS a,HN a]
    by_cases D:m.ak[i].aG=0
    .grind [eX]
    grind [eX]
   .simp only[o4,if_false,iz]
    rfl
theorem QP{N:Nat}{F:Nat->Flt}{Φ:Int×Flt->(Int×Flt->U ρ)->U ρ}{A:U ρ}{G:Flt->U ρ}
  (h0:∀i k,i<N->(∀j,j<i->(F j).1=0)->Φ ((i:Int),0,0,0,0) k=k (((i+1:Nat):Int),F i)) (m:∀k,Φ ((N:Int),0,0,0,0) k=A) (h:∀(i:Nat) f k,f.1≠0->i<=N->Φ ((i:Int),f) k=G f) (hF:∀i,(F i).1=0->F i=(0,0,0,0)):
  iw Φ (0,0,0,0,0)=(orF N F).elim A G:=by
 refine JC (λv e=>(∃i:Nat,i<=N/\v=((i:Int),0,0,0,0)/\(∀j,j<i->(F j).1=0)/\e=(orF N F).elim A G)\/(∃(i:Nat) (f:Flt),i<=N/\v=((i:Int),f)/\f.1≠0/\e=G f)) (λv=>N - v.1.toNat) ?_ (.inl ⟨0,eJ _,rfl,λj g=>by omega,rfl⟩)
 rintro v e k (⟨i,d,rfl,b,rfl⟩ |⟨i,f,d,rfl,l,rfl⟩) hk
 .obtain q |q:=gk i N
  .rw[h0 i k q b]
   have a:N - ((((i+1:Nat):Int),F i).1).toNat<N - (((i:Int),((0,0,0,0):Flt)).1).toNat:=by simp;omega
   by_cases c:(F i).1=0
   .refine hk _ _ (.inl ⟨i+1,q,by rw[hF i c],λj g=> ?_,rfl⟩) a
    obtain r |r:=gk j i
    .exact b j r
    grind
   .exact hk _ _ (.inr ⟨i+1,F i,q,rfl,c,by grind [oI]⟩) a
  grind [wJ]
 grind
theorem Vi{Φ:Int×Flt->(Int×Flt->U ρ)->U ρ}{f:Flt}{e:U ρ}(h:∀k,Φ (0,f) k=e):iw Φ (0,f)=e:=JU h
theorem e?{m:ae}{f:Flt}(h:vH m=some f):f.1≠0/\f.2.2.2=0:=by
 unfold vH at h
 cases d:(qQ m.aa:U (Nat×Int))with
 |some q=>
  rw[d]at h
  simp only[xQ,Option.some_or,xJ]at h
  subst h
  exact⟨(ft (i:=q.1) (e:=q.2) d).2.2.1,rfl⟩
 |none=>
  rw[d]at h
  simp only[Option.map_none,nu]at h
  cases a:orF m.aq.length (gvF m)with
  |some x=>
   rw[a]at h
   simp only[Option.some_or,xJ]at h
   subst h;obtain⟨i,g,b,c⟩:=mP a
   exact⟨c,by rw[<-b];rfl⟩
  |none=>
   rw[a]at h
   simp only[nu]at h
   obtain⟨i,g,b,c⟩:=mP h
   exact⟨c,by rw[<-b];rfl⟩
theorem JV{m:ae}(h:cE m)(o:MoE m){g:Int->Int->Int->Int->U ρ}:vy m g=g ((hZ m).getD (0,0,0,0)).1 ((hZ m).getD (0,0,0,0)).2.1 ((hZ m).getD (0,0,0,0)).2.2.1 ((hZ m).getD (0,0,0,0)).2.2.2:=by
 have r:=h.n;have y:=h.q;simp only[vy,vx,mkF,d! h,QO h];unfold hZ
 cases l:vH m with
 |some f=>
  obtain⟨t,w⟩:=e? l;simp only[oX,Option.some_or,gZ]
  simp_all [Vi]
 |none=>
  simp only[kS,nu]
  have a:iw (ρ:=ρ) (λ(v:Int) k=>if v<(m.aL.length:Int)then jm m v λx=>if x=0 then k (IntKind.i64.wrap (v+1))else g x 5 v 0 else g 0 0 0 0) 0=(dQ m.aL.length (oH m)).elim (g 0 0 0 0) λq=>g q.2 5 q.1 0:=by
   refine iS (τ:=Int) m.aL.length (λi:Nat=>(i:Int)) Int.toNat (λi=>rfl) (oH m) (λi e=>g e 5 i 0) (g 0 0 0 0) (λi k b n=> ?_) (λ_ k=>by simp)
   have h8:i<=8:=Az λc=>by
    grind [oH]
   simp only[show(i:Int)<(m.aL.length:Int)by omega,if_true,e_ h o b h8,eW (show i<4611686018427387904 by omega)]
  refine(QP (N:=m.ak.length) (F:=gpF m) (A:=if 12<vF m then g 11 4 m.ak.length 0 else if 64<vG m then g 11 4 m.ak.length 0 else(dQ m.aL.length (oH m)).elim (g 0 0 0 0) λq=>g q.2 5 q.1 0) (G:=λf=>g f.1 f.2.1 f.2.2.1 f.2.2.2) (λi k b n=> ?_) (λk=> ?_) (λi f k u b=> ?_) (λi=>arJ)).trans ?_
  .have h6:i<=6:=Az λc=>by
    grind [gpF]
   grind [OZ,eW]
  .grind
  .grind
  .unfold Ac s9
   cases s:orF m.ak.length (gpF m)with
   |some f=>rfl
   |none=>
    simp only[kS,nu]
    by_cases j:12<vF m
    .grind
    by_cases d:64<vG m
    .grind
    rw[if_neg j,if_neg d,if_neg (λq=>q.elim j d),nu,<-CX (p:=5) (f:=λi=>(oH m i,5,(i:Int),0)) λi=>rfl]
    cases dQ m.aL.length λi=>oH m i <;>rfl
theorem SD{m:ae}(h:cE m)(a:MoE m){g:Bool->U ρ}:CJ m g=g (decide (((hZ m).getD (0,0,0,0)).1=0)):=by
 grind [CJ,CH,mkF,JV]
theorem SF{c:aK}(h:c.aM.length<=1000){g:Int->Int->U ρ}:Ak c g=g (kK c).1 (kK c).2:=by
 simp only[Ak,tn,mkF,Oo];refine qD (λv:Int=>∃i:Nat,v=i/\i<=c.aM.length) (λv=>match (c.aM.drop v.toNat).find? talksP with |some a=>g a.Kind a.To |none=>g 0 0) (λv=>c.aM.length - v.toNat) ?_ (v:=(0:Int)) ⟨0,rfl,eJ _⟩ |>.trans ?_
 .rintro v k ⟨i,rfl,e⟩ hk
  by_cases b:i<c.aM.length
  .have d:IntKind.i64.wrap ((i:Int)+1)=((i+1:Nat):Int):=eW (by omega)
   rw[if_pos (by omega),if_pos (by omega),xV,xG b,xS,xW b,List.find?_cons]
   cases f:talksP c.aM[i]
   .rw[if_neg (by simp),d,hk _ ⟨i+1,rfl,by omega⟩ (by simp only[xV];omega)]
    rfl
   .rfl
  grind [List.drop_eq_nil_of_le]
 grind [kK]
theorem abW{m:ae}{c:aK}(h:c.aM.length<=1000)(h0:(kK c).1=4->∃q:Nat,(kK c).2=(q:Int)/\q<m.ah.length){g:Int->U ρ}:Ig c m.ah g=g (if oO m c=true then 2 else 1):=by
 grind [Ig,Al,mkF,SF,oO]
def abX(c:aK):Bool:=decide (c.aM.length<=20)&&decide (c.Guard.length<=60)
def SG(p:az):Bool:=decide (p.aq.length<=20)&&(decide (p.aP.length<=30)&&p.aP.all abX)
def lV(m:ae):Bool:=decide (m.aa.length<=10)&&(decide (m.aq.length<=30)&&(decide (m.ah.length<=20)&&(decide (m.ak.length<=20)&&(decide (m.aL.length<=20)&&m.ak.all SG))))
theorem e!{a:Type}{l:J a}{f:a->Bool}:(∀i,i<l.length->(l[i]?).all f=true)↔l.all f=true:=by
 grind [List.getElem?_of_mem]
theorem vX{m:ae}{g:Int->U ρ}:qp m g=g (if lV m=true then 0 else 1):=by
 simp only[qp,qo,mkF];unfold lV
 rcases gk 10 (m.aa.length)with a |a
 .grind
 rcases gk 30 (m.aq.length)with c |c
 .grind
 rcases gk 20 (m.ah.length)with h3 |h3
 .grind
 rcases gk 20 (m.ak.length)with h4 |h4
 .grind
 rcases gk 20 (m.aL.length)with h5 |h5
 .grind
 rw[if_neg (by omega),if_neg (by omega),if_neg (by omega),if_neg (by omega),if_neg (by omega)]
 simp only[show m.aa.length<=10 from a,show m.aq.length<=30 from c,show m.ah.length<=20 from h3,show m.ak.length<=20 from h4,show m.aL.length<=20 from h5,decide_true,nw]
 refine(Am.iterC_all (τ:=Int) m.ak.length (λi:Nat=>(i:Int)) (λi=>(m.ak[i]?).all SG) (g 1) (g 0) (λi k f=> ?_) (λk=>by grind)).trans ?_
 .have e:IntKind.i64.wrap ((i:Int)+1)=((i+1:Nat):Int):=eW (by omega)
  rw[if_pos (by omega),if_pos (by omega),xV,xG f,xS,e,Option.all_some]
  generalize m.ak[i]=p;unfold SG
  rcases gk 20 (p.aq.length)with d |d
  .grind
  rcases gk 30 (p.aP.length)with b |b
  .grind
  rw[if_neg (by omega),if_neg (by omega)]
  simp only[show p.aq.length<=20 from d,show p.aP.length<=30 from b,decide_true,nw]
  refine(Am.iterC_all (τ:=Int) p.aP.length (λi:Nat=>(i:Int)) (λi=>(p.aP[i]?).all abX) (g 1) (k ((i+1:Nat):Int)) (λj l h=> ?_) (λk=>by grind)).trans ?_
  .grind [eW,abX]
  grind [e!]
 grind [e!]
end
section
variable{ρ:Type}{m:ae}
theorem JW{p:az}(e:m.aa.length<=1000){g:Int->U ρ}:pH m p g=g (iP m.aa p.aG):=by
 simp only[pH,vQ,mkF]
 by_cases b:p.aG<1
 .grind [mO]
 by_cases d:(m.aa.length:Int)<p.aG
 .grind [mO]
 have c:IntKind.i64.wrap (p.aG - 1)=p.aG - 1:=dE (by omega) (by omega)
 have a:(p.aG - 1).toNat<m.aa.length:=by omega
 simp only[b,d,if_false,c,show 0<=p.aG - 1 by omega,if_true,xG a,xS,Bw (show 1<=p.aG by omega) a]
 grind
theorem QQ(l:J az)(p:az):∀i,eg m i (l++[p])=eg m i l++iC m (i+l.length) p:=by
 induction l with
 |nil=>grind [eg]
 |cons a l b=>grind [eg]
theorem ahf(i:Nat)(p:az):(iC m i p).length<=5:=by
 have h:= @jv m.aa p.aG
 grind [iC,oK]
theorem from_le(l:J az):∀i,(eg m i l).length<=5 * l.length:=by
 induction l with
 |nil=>grind [eg]
 |cons a l b=>grind [ahf,eg]
theorem SH(f:m.aa.length<=1000){i:Nat}(hi:i<m.ak.length)(acc:J aE)(ha:acc.length<=1000)(K:Int×J aE->U ρ):
  iw (λ(a:Int×J aE) (b:Int×J aE->U ρ)=>if 0<=(i:Int)then(some m.ak[i]).bind λz=>pH m z λx=>if a.1<=x then if(a.2.length+1) * 16<=140737488355328/\a.2.length<=9223372036854775806 then b (IntKind.i64.wrap (a.1+1),a.2++[⟨(i:Int),a.1⟩])else none else K (IntKind.i64.wrap ((i:Int)+1),a.2)else none) (1,acc)=
   K (IntKind.i64.wrap ((i:Int)+1),acc++(List.range (oK m m.ak[i])).map λ(k:Nat)=>⟨(i:Int),(k:Int)+1⟩):=by
 have e:= @jv m.aa m.ak[i].aG
 refine(Am.iterC_runE (τ:=Int×J aE) (oK m m.ak[i]) (λj:Nat=>((j:Int)+1,acc++(List.range j).map λ(k:Nat)=>⟨(i:Int),(k:Int)+1⟩)) (by simp) (λj k c=> ?_) (λk=> ?_))
 .have d:(j:Int)+1<=iP m.aa m.ak[i].aG:=by unfold oK at c;omega
  grind [JW,dE,od]
 grind [oK,JW]
theorem Vj(c:May m){g:J aE->U ρ}:vS m g=g (dA m):=by
 have d:m.aa.length<=1000:=by have:=c.sn;omega
 have j:=c.pn;simp only[vS,vR,mkF]
 refine(Am.iterC_runE (τ:=Int×J aE) m.ak.length (λi:Nat=>((i:Int),eg m 0 (m.ak.take i))) (by simp[eg]) (λi k a=> ?_) (λk=> ?_))
 .have f:IntKind.i64.wrap ((i:Int)+1)=((i+1:Nat):Int):=eW (by omega)
  have h:=from_le (m:=m) (m.ak.take i) 0;rw[yR]at h
  have e:eg m 0 (m.ak.take (i+1))=eg m 0 (m.ak.take i)++iC m i m.ak[i]:=by
   rw[eD a,QQ,fu,yR,ry (ny a)]
  dsimp only
  rw[if_pos (by omega),if_pos (by omega),xV,xG a,xS,e]
  unfold iC
  by_cases b:m.ak[i].aG=0
  .rw[if_pos b,if_pos ⟨by omega,by omega⟩,if_pos b]
   refine(SH d a (eg m 0 (m.ak.take i)++[⟨(i:Int),0⟩]) (by grind) k).trans ?_
   grind
  .rw[if_neg b,if_neg b,gG]
   refine(SH d a (eg m 0 (m.ak.take i)) (by omega) k).trans ?_
   rw[f]
 .simp only
  rw[if_neg (by omega),iz]
  rfl
def kf(n:Int):Int:=if n=0 then 0 else IntKind.i64.wrap (1+n)
theorem f_{n:Int}{g:Int->U ρ}:Ao n g=g (kf n):=by
 grind [Ao,An,mkF,kf]
theorem Ik{v:aB}{s:J aw}(a:s.length<=1000){g:Int->Int->U ρ}:tq v s g=g (fD s v).1 (fD s v).2:=by
 grind [tq,tp,mkF,vW,fD,gb]
theorem ahg{v:aB}(a:m.aa.length<=1000){g:Int->U ρ}:pA v m.aa g=g (dN m v):=by
 grind [pA,pz,mkF,vW,dN]
theorem Il{a:Type}(n:Nat)(hn:n<=1000)(f:Nat->a)(acc:J a)(ha:acc.length<=1000)(c:Nat)(g:c<=100)(b:Int->Prop)[∀z,Decidable (b z)](o:Int)(ho:0<=o/\o<=1)(e:∀j:Nat,j<=n->(b ((j:Int)+o)↔j<n))(d:Int->a)(h:∀j:Nat,j<n->d ((j:Int)+o)=f j)(K:J a->U ρ):
  iw (λ(v:Int×J a) (k:Int×J a->U ρ)=>if b v.1 then if(v.2.length+1) * c<=140737488355328/\v.2.length<=9223372036854775806 then k (IntKind.i64.wrap (v.1+1),v.2++[d v.1])else none else K v.2) (o,acc)=K (acc++(List.range n).map f):=by
 refine(Am.iterC_runE (τ:=Int×J a) n (λj:Nat=>((j:Int)+o,acc++(List.range j).map f)) (by simp) (λj k i=> ?_) (λk=> ?_))
 .have l:IntKind.i64.wrap ((j:Int)+o+1)=((j+1:Nat):Int)+o:=by rw[dE (by omega) (by omega)];omega
  have m:((acc++(List.range j).map f).length+1) * c<=140737488355328:=by
   have:((acc++(List.range j).map f).length+1)<=2001:=by simp;omega
   exact fj (Nat.mul_le_mul this g) (by decide)
  grind [od]
 grind
def jq(m:ae)(i:Nat)(v:aB):J aA:=(List.range (dN m v).toNat).map λ(k:Nat)=>⟨1,(i:Int),(k:Int),(fD m.aa v).1,(fD m.aa v).2,kf v.aC⟩
def bdC(m:ae)(c:aD):Bd:=gb m.aa c.aC (min c.Lo 0) (max c.Hi 0)
def jr(m:ae)(i:Nat)(c:aD):J aA:=⟨2,(i:Int),0,0,c.bc,0⟩::(List.range c.bc.toNat).map λ(k:Nat)=>⟨2,(i:Int),(k:Int)+1,(bdC m c).1,(bdC m c).2,kf c.aC⟩
def mS(m:ae)(i:Nat)(x:aE):J aA:=⟨3,(i:Int),0,0,(eQ m x).bF - 1,0⟩::(List.range (eQ m x).aq.length).map λ(k:Nat)=>⟨3,(i:Int),(k:Int)+1,(((eQ m x).aq[k]?).map (fD m.aa)).elim 0 (·.1),(((eQ m x).aq[k]?).map (fD m.aa)).elim 0 (·.2),(((eQ m x).aq[k]?).map (·.aC)).elim 0 kf⟩
def dU{b β:Type}(f:Nat->b->List β):Nat->List b->List β
 |_,[]=>[]
 |i,a::l=>f i a++dU f (i+1) l
theorem vY{c β:Type}{f:Nat->c->J β}(l:J c)(a:c):∀i,dU f i (l++[a])=dU f i l++f (i+l.length) a:=by
 induction l with
 |nil=>grind [dU]
 |cons b l d=>grind [dU]
theorem rf{a β:Type}{f:Nat->a->J β}{k:Nat}(l:J a):∀i,(∀j,∀x∈l,(f j x).length<=k)->(dU f i l).length<=k * l.length:=by
 induction l with
 |nil=>grind [dU]
 |cons b l c=>
  grind [dU,Nat.mul_add]
def iO(m:ae):J aA:=dU (jq m) 0 m.aq++(dU (jr m) 0 m.ah++dU (mS m) 0 (dA m))
theorem vZ(a:May m){c:aD}(h:c∈m.ah):1<=c.bc/\c.bc<=4:=by
 obtain⟨i,d⟩:=List.getElem?_of_mem h;have b:=a.c c h
 grind [tN]
theorem QS(b:May m){c:aD}(h:c∈m.ah):jW m.aa c.aC=true:=by
 have a:=b.c c h;unfold tN at a
 split at a
 .cases a
 grind
theorem abY(vs:J aB)(hv:vs.length<=4)(a:aB->Bd)(i:Int)(acc:J aA)(ha:acc.length<=100000)(K:J aA->U ρ):
  iw (λ(v:Int×J aA) (k:Int×J aA->U ρ)=>if v.1<(vs.length:Int)then if 0<=v.1 then(vs[v.1.toNat]?).bind λz=>if 0<=v.1 then(vs[v.1.toNat]?).bind λy=>if(v.2.length+1) * 48<=140737488355328/\v.2.length<=9223372036854775806 then k (IntKind.i64.wrap (v.1+1),v.2++[⟨3,i,IntKind.i64.wrap (1+v.1),(a z).1,(a z).2,kf y.aC⟩])else none else none else none else K v.2) (0,acc)=
   K (acc++(List.range vs.length).map λ(k:Nat)=>⟨3,i,(k:Int)+1,((vs[k]?).map a).elim 0 (·.1),((vs[k]?).map a).elim 0 (·.2),((vs[k]?).map (·.aC)).elim 0 kf⟩):=by
 refine(Am.iterC_runE (τ:=Int×J aA) vs.length (λj:Nat=>((j:Int),acc++(List.range j).map λ(k:Nat)=>⟨3,i,(k:Int)+1,((vs[k]?).map a).elim 0 (·.1),((vs[k]?).map a).elim 0 (·.2),((vs[k]?).map (·.aC)).elim 0 kf⟩)) (by simp) (λj k b=> ?_) (λk=> ?_))
 .grind [dE,od]
 grind
theorem Vk(e:May m){g:J aA->U ρ}:vU m g=g (iO m):=by
 have L:m.aa.length<=1000:=by have:=e.sn;omega
 have O:=e.vn;have S:=e.cn;simp only[vU,vT,mkF,Ik L,ahg L,f_,Vj e]
 have T:(dU (jq m) 0 m.aq).length<=48:=by
  have:=rf (f:=jq m) (k:=4) m.aq 0 λj x _=>by simp_all [iJ,jq]
  omega
 refine(Am.iterC_runE (τ:=Int×J aA) m.aq.length (λi:Nat=>((i:Int),dU (jq m) 0 (m.aq.take i))) (by simp[dU]) (λi k b=> ?_) (λk=> ?_))
 .have r:IntKind.i64.wrap ((i:Int)+1)=((i+1:Nat):Int):=eW (by omega)
  have C:=rf (f:=jq m) (k:=4) (m.aq.take i) 0 λj x _=>by simp_all [iJ,jq]
  rw[yR]at C
  have o:dU (jq m) 0 (m.aq.take (i+1))=dU (jq m) 0 (m.aq.take i)++jq m i m.aq[i]:=by
   rw[eD b,vY,fu,yR,ry (ny b)]
  have D:= @iJ m m.aq[i];have y:(0:Int)<=(i:Int):=by omega
  have v:(i:Int)<(m.aq.length:Int):=by omega
  simp only[y,v,if_true,xV,xG b,xS,r,o]
  refine(Il (dN m m.aq[i]).toNat (by omega) (λ(k:Nat)=>(⟨1,(i:Int),(k:Int),(fD m.aa m.aq[i]).1,(fD m.aa m.aq[i]).2,kf m.aq[i].aC⟩:aA)) (dU (jq m) 0 (m.aq.take i)) (by omega) 48 (by omega) (λz=>z<dN m m.aq[i]) 0 (by omega) (λj _=>by omega) (λz=>⟨1,(i:Int),z,(fD m.aa m.aq[i]).1,(fD m.aa m.aq[i]).2,kf m.aq[i].aC⟩) (λj _=>by simp) (λl=>k (((i+1:Nat):Int),l))).trans ?_
  rfl
 .dsimp only
  rw[if_neg (by omega),iz]
  -- the channels
  have X:(dU (jr m) 0 m.ah).length<=20:=by
   have:=rf (f:=jr m) (k:=5) m.ah 0 λj c D=>by
    have:=vZ e D
    simp only[jr,xZ,l7,List.length_range];omega
   omega
  refine(Am.iterC_runE (τ:=Int×J aA) m.ah.length (λi:Nat=>((i:Int),dU (jq m) 0 m.aq++dU (jr m) 0 (m.ah.take i))) (by simp[dU]) (λi k b=> ?_) (λk=> ?_))
  .have r:IntKind.i64.wrap ((i:Int)+1)=((i+1:Nat):Int):=eW (by omega)
   have C:=rf (f:=jr m) (k:=5) (m.ah.take i) 0 λj c D=>by
    have:=vZ e (List.mem_of_mem_take D)
    simp only[jr,xZ,l7,List.length_range];omega
   rw[yR]at C
   have o:dU (jr m) 0 (m.ah.take (i+1))=dU (jr m) 0 (m.ah.take i)++jr m i m.ah[i]:=by
    rw[eD b,vY,fu,yR,ry (ny b)]
   have V:=vZ e (eO b);have y:(0:Int)<=(i:Int):=by omega
   have v:(i:Int)<(m.ah.length:Int):=by omega
   have E:((dU (jq m) 0 m.aq++dU (jr m) 0 (m.ah.take i)).length+1) * 48<=140737488355328/\(dU (jq m) 0 m.aq++dU (jr m) 0 (m.ah.take i)).length<=9223372036854775806:=by rw[xP];omega
   simp only[y,v,if_true,xV,xG b,xS,r,o,if_pos E];have d:=QS e (eO b)
   by_cases B:0<m.ah[i].aC
   .have G:iP m.aa m.ah[i].aC≠0:=by
     unfold jW at d;simp only[ic,yD]at d
     obtain h |h:=d
     .omega
     .exact h
    have q:(m.ah[i].aC - 1).toNat<m.aa.length:=by
     obtain h |h:=gk (m.ah[i].aC - 1).toNat m.aa.length
     .exact h
     .grind [mO]
    have P:iP m.aa m.ah[i].aC=m.aa[(m.ah[i].aC - 1).toNat].cV:=by
     have:=Bw (s:=m.aa) (k:=m.ah[i].aC) (by omega) q
     rw[this]at G |-
     split
     .rfl
     .grind
    have n:IntKind.i64.wrap (m.ah[i].aC - 1)=m.ah[i].aC - 1:=dE (by omega) (by omega)
    have K:bdC m m.ah[i]=(0,m.aa[(m.ah[i].aC - 1).toNat].cV):=by unfold bdC gb;rw[if_neg (by omega),P]
    simp only[B,if_true,n,show(0:Int)<=m.ah[i].aC - 1 by omega,xG q,xS]
    refine(Il m.ah[i].bc.toNat (by omega) (λ(k:Nat)=>(⟨2,(i:Int),(k:Int)+1,0,m.aa[(m.ah[i].aC - 1).toNat].cV,kf m.ah[i].aC⟩:aA)) _ (by grind) 48 (by omega) (λz=>z<=m.ah[i].bc) 1 (by omega) (λj _=>by omega) (λz=>⟨2,(i:Int),z,0,m.aa[(m.ah[i].aC - 1).toNat].cV,kf m.ah[i].aC⟩) (λj _=>rfl) (λl=>k (((i+1:Nat):Int),l))).trans ?_
    grind [jr]
   .have H:m.ah[i].aC=0:=by
     unfold jW at d;simp only[ic,yD]at d
     obtain h |h:=d
     .exact h
     .grind [mO]
    have K:bdC m m.ah[i]=(if m.ah[i].Lo<0 then m.ah[i].Lo else 0,if 0<m.ah[i].Hi then m.ah[i].Hi else 0):=by
     unfold bdC gb;rw[if_pos H];refine kW ?_ ?_
     .grind
     .grind
    simp only[B,if_false]
    refine(Il m.ah[i].bc.toNat (by omega) (λ(k:Nat)=>(⟨2,(i:Int),(k:Int)+1,if m.ah[i].Lo<0 then m.ah[i].Lo else 0,if 0<m.ah[i].Hi then m.ah[i].Hi else 0,kf m.ah[i].aC⟩:aA)) _ (by grind) 48 (by omega) (λz=>z<=m.ah[i].bc) 1 (by omega) (λj _=>by omega) (λz=>⟨2,(i:Int),z,if m.ah[i].Lo<0 then m.ah[i].Lo else 0,if 0<m.ah[i].Hi then m.ah[i].Hi else 0,kf m.ah[i].aC⟩) (λj _=>rfl) (λl=>k (((i+1:Nat):Int),l))).trans ?_
    grind [jr]
  .dsimp only
   rw[if_neg (by omega),iz]
   -- the instances
   have M:=qX e
   refine(Am.iterC_runE (τ:=Int×J aA) (dA m).length (λi:Nat=>((i:Int),(dU (jq m) 0 m.aq++dU (jr m) 0 m.ah)++dU (mS m) 0 ((dA m).take i))) (by simp[dU]) (λi k b=> ?_) (λk=> ?_))
   .have r:IntKind.i64.wrap ((i:Int)+1)=((i+1:Nat):Int):=eW (by omega)
    have C:=rf (f:=mS m) (k:=5) ((dA m).take i) 0 λj x Q=>by
     obtain⟨a,p,hk,_,F,_⟩:=lT (List.mem_of_mem_take Q)
     have:=(e.p a p hk).vn
     grind [mS]
    rw[yR]at C
    have o:dU (mS m) 0 ((dA m).take (i+1))=dU (mS m) 0 ((dA m).take i)++mS m i (dA m)[i]:=by
     rw[eD b,vY,fu,yR,ry (ny b)]
    obtain⟨a,p,hk,I,F,_⟩:=lT (eO b);have t:=e.p a p hk;have w:=t.vn;have R:=t.l;have y:(0:Int)<=(i:Int):=by omega
    have v:(i:Int)<((dA m).length:Int):=by omega
    have N:(0:Int)<=(a:Int):=by omega
    have n:IntKind.i64.wrap (p.bF - 1)=p.bF - 1:=dE (by omega) (by omega)
    have E:(((dU (jq m) 0 m.aq++dU (jr m) 0 m.ah)++dU (mS m) 0 ((dA m).take i)).length+1) * 48<=140737488355328/\((dU (jq m) 0 m.aq++dU (jr m) 0 m.ah)++dU (mS m) 0 ((dA m).take i)).length<=9223372036854775806:=by simp only[xP];omega
    simp only[y,v,if_true,xV,xG b,xS,r,o,I,N,hk,if_pos E,n];have u:((dU (jq m) 0 m.aq++dU (jr m) 0 m.ah)++dU (mS m) 0 ((dA m).take i)).length<=1000:=by simp only[xP];omega
    generalize W:(dU (jq m) 0 m.aq++dU (jr m) 0 m.ah)++dU (mS m) 0 ((dA m).take i)=A at E u |-
    refine(abY p.aq w (fD m.aa) (i:Int) (A++[⟨3,(i:Int),0,0,p.bF - 1,0⟩]) (by grind) (λl=>k (((i+1:Nat):Int),l))).trans ?_
    grind [mS]
   .dsimp only
    rw[if_neg (by omega),iz,xK]
    rfl
def jM(k:Int):Nat->List aA->List Int
 |_,[]=>[]
 |i,c::l=>(if c.Place=0/\c.Sort_=k then [(i:Int)]else [])++jM k (i+1) l
theorem ly(k:Int)(x y:J aA):∀i,jM k i (x++y)=jM k i x++jM k (i+x.length) y:=by
 induction x with
 |nil=>grind [jM]
 |cons c x a=>grind [jM]
theorem wP{k:Int}{x:J aA}(h:∀c∈x,¬(c.Place=0/\c.Sort_=k)):∀i,jM k i x=[]:=by
 induction x with
 |nil=>intro i;rfl
 |cons c x a=>grind [jM]
theorem v7{d:Type}{k:Int}{f:Nat->d->J aA}{B:d->J Bd}(l:J d)(h1:∀i,∀a∈l,(f i a).length=(B a).length)(h2:∀i n,∀a∈l,jM k n (f i a)=[(n:Int)]):∀i n,jM k n (dU f i l)=ofN (ia n (l.map B)):=by
 induction l with
 |nil=>intro i n;rfl
 |cons a l e=>
  intro i n;rw[dU,ly,h2 i n a (by simp),h1 i a (by simp),e (λi b c=>h1 i b (by simp[c])) (λi n b c=>h2 i n b (by simp[c]))]
  rfl
theorem wQ{b:Type}{f:Nat->b->J aA}{B:b->J Bd}(l:J b)(h:∀i,∀a∈l,(f i a).map (λc=>(c.Lo,c.Hi))=B a):∀i,(dU f i l).map (λc=>(c.Lo,c.Hi))=(l.map B).flatten:=by
 induction l with
 |nil=>intro i;rfl
 |cons a l d=>grind [dU]
theorem f?(n:May m){g:J Int->J Int->J Int->Int->J Int->J Int->U ρ}(hl:(iO m).length<=1000):wO m g=g (jM 1 0 (iO m)) (jM 2 0 (iO m)) (jM 3 0 (iO m)) (iO m).length ((iO m).map (·.Lo)) ((iO m).map (·.Hi)):=by
 simp only[wO,CV,mkF,Vk n];generalize iO m=C at hl |-
 have s:∀k i (l:J aA),(jM k i l).length<=l.length:=λk i l=>by
  induction l generalizing i with
  |nil=>exact dC _
  |cons c l t=>grind [jM]
 refine(Am.iterC_runE (τ:=Int×J Int×J Int×J Int×J Int×J Int) C.length (λi:Nat=>((i:Int),jM 1 0 (C.take i),jM 2 0 (C.take i),jM 3 0 (C.take i),(C.take i).map (·.Lo),(C.take i).map (·.Hi))) (by simp[jM]) (λi k a=> ?_) (λk=> ?_))
 .have o:IntKind.i64.wrap ((i:Int)+1)=((i+1:Nat):Int):=eW (by omega)
  have r:(0:Int)<=(i:Int):=by omega
  have p:(i:Int)<(C.length:Int):=by omega
  have j:(C.take i).length=i:=by rw[yR];omega
  have h:∀k,((jM k 0 (C.take i)).length+1) * 8<=140737488355328/\(jM k 0 (C.take i)).length<=9223372036854775806:=λk=>by grind
  have d:(((C.take i).map (·.Lo)).length+1) * 8<=140737488355328/\((C.take i).map (·.Lo)).length<=9223372036854775806:=by rw[l7];omega
  have e:(((C.take i).map (·.Hi)).length+1) * 8<=140737488355328/\((C.take i).map (·.Hi)).length<=9223372036854775806:=by rw[l7];omega
  have q:∀k,jM k 0 (C.take (i+1))=jM k 0 (C.take i)++(if C[i].Place=0/\C[i].Sort_=k then [(i:Int)]else []):=λk=>by
   grind [eD,ly,jM]
  have b:(C.take (i+1)).map (·.Lo)=(C.take i).map (·.Lo)++[C[i].Lo]:=by rw[eD a,pM];rfl
  have f:(C.take (i+1)).map (·.Hi)=(C.take i).map (·.Hi)++[C[i].Hi]:=by rw[eD a,pM];rfl
  simp only[q,b,f];simp only[r,p,if_true,xV,xG a,xS,o,if_pos (h 1),if_pos (h 2),if_pos (h 3),if_pos d,if_pos e]
  grind
 grind
theorem ahh(b:May m){v:aB}(hv:Aa m.aa v=0):1<=(dN m v).toNat:=by
 unfold Aa at hv
 split at hv;· cases hv
 rename_i h;simp only[Bool.not_eq_false,xA]at h
 have a:=h.2;unfold jW at a;simp only[ic,yD]at a
 unfold dN
 have:= @jv m.aa v.aG
 grind
theorem abZ(t:May m){g:J Int->J Int->J Int->Int->J Int->J Int->U ρ}:wO m g=g (dW m).aq (dW m).ah (dW m).Insts (dW m).Cells (dW m).Lo (dW m).Hi:=by
 have lv:∀i,∀v∈m.aq,(jq m i v).map (λc=>(c.Lo,c.Hi))=oL m v:=λi v _=>by
  simp_all [jq,oL,wb,List.map_const']
 have u:∀i,∀c∈m.ah,(jr m i c).map (λc=>(c.Lo,c.Hi))=iK m c:=λi c _=>by
  simp only[jr,iK,eG,ke,wb,List.map_const',List.length_range];rfl
 have w:∀i,∀x∈dA m,(mS m i x).map (λc=>(c.Lo,c.Hi))=kB m x:=λi x _=>by
  simp only[mS,kB,eG,ke,wb];congr 1;refine List.ext_getElem (by simp) λk P L=> ?_
  grind
 have q:(iO m).map (λc=>(c.Lo,c.Hi))=eR m:=by
  simp only[iO,pM,wQ _ lv,wQ _ u,wQ _ w];rfl
 have s:(iO m).length=(eR m).length:=by rw[<-q,l7]
 have E:=iN t;rw[f? t (by omega),s]
 have K:(iO m).map (·.Lo)=(dW m).Lo:=by rw[show(dW m).Lo=(eR m).map (·.1)from rfl,<-q,ke];rfl
 have z:(iO m).map (·.Hi)=(dW m).Hi:=by rw[show(dW m).Hi=(eR m).map (·.2)from rfl,<-q,ke];rfl
 have e:∀{o:Type} {f:Nat->o->J aA} {B:o->J Bd} {l:J o},(∀i,∀a∈l,(f i a).map (λc=>(c.Lo,c.Hi))=B a)->∀i,∀a∈l,(f i a).length=(B a).length:=λh i a r=>by grind
 have p:∀{o:Type} {f:Nat->o->J aA} {B:o->J Bd} {l:J o},(∀i,∀a∈l,(f i a).map (λc=>(c.Lo,c.Hi))=B a)->(dU f 0 l).length=(l.map B).flatten.length:=λh=>by grind [wQ]
 have b:∀{o:Type} {f:Nat->o->J aA} (k:Int) (l:J o),(∀i,∀a∈l,∀c∈f i a,c.Sort_≠k)->∀i n,jM k n (dU f i l)=[]:=λ{o f} k l h=>by
  induction l with
  |nil=>intro i n;rfl
  |cons a l R=>
   grind [dU,ly,wP]
 have M:∀i,∀a∈m.aq,∀c∈jq m i a,c.Sort_=1:=λi a _ c d=>by obtain⟨k,_,rfl⟩:=List.mem_map.1 d;rfl
 have N:∀i,∀a∈m.ah,∀c∈jr m i a,c.Sort_=2:=λi a _ c d=>by
  obtain rfl |d:=List.mem_cons.1 d
  .rfl
  grind
 have Q:∀i,∀a∈dA m,∀c∈mS m i a,c.Sort_=3:=λi a _ c d=>by
  obtain rfl |d:=List.mem_cons.1 d
  .rfl
  grind
 have H:∀i n,∀v∈m.aq,jM 1 n (jq m i v)=[(n:Int)]:=λi n v y=>by
  obtain⟨j,C⟩:∃j,(dN m v).toNat=j+1:=⟨(dN m v).toNat - 1,by have:=ahh t (t.v v y);omega⟩
  simp only[jq,C,List.range_succ_eq_map,eG,ke,jM]
  grind [wP]
 have F:∀i n,∀c∈m.ah,jM 2 n (jr m i c)=[(n:Int)]:=λi n c d=>by
  grind [jr,jM,wP]
 have A:∀i n,∀x∈dA m,jM 3 n (mS m i x)=[(n:Int)]:=λi n x O=>by
  grind [mS,jM,wP]
 have G:jM 1 0 (iO m)=(dW m).aq:=by
  rw[iO,ly,ly,v7 (B:=oL m) _ (e lv) H,b 1 m.ah (λi a r c d=>by grind),b 1 (dA m) (λi a r c d=>by grind)]
  simp[dW,vAt,ef]
 have I:jM 2 0 (iO m)=(dW m).ah:=by
  rw[iO,ly,ly,b 2 m.aq (λi a r c d=>by grind),v7 (B:=iK m) _ (e u) F,b 2 (dA m) (λi a r c d=>by grind),p lv]
  simp[dW,cAt,eF,ef]
 have D:jM 3 0 (iO m)=(dW m).Insts:=by
  rw[iO,ly,ly,b 3 m.aq (λi a r c d=>by grind),b 3 m.ah (λi a r c d=>by grind),v7 (B:=kB m) _ (e w) A,p lv,p u]
  simp[dW,iAt,ku,eF,ef]
 rw[K,z,G,I,D];rfl
def okN(a:Bd)(b:Int)(j:Nat)(v:Int):Bool:=if(j:Int)<b then decide (a.1<=v)&&decide (v<=a.2)else decide (v=0)
theorem ahi(e:May m){l:J Int}{n:Nat}{c:aD}(hc:m.ah[n]? =some c)(hl:l.length=c.bc.toNat+1){g:Bool->U ρ}:qr m l (n:Int) g=g (kC m c l):=by
 have i:m.aa.length<=1000:=by have:=e.sn;omega
 have p:=vZ e (yS hc);have f:l[0]? =some (l[0]'(by omega)):=xG _
 have h:l.headD 0=l[0]'(by omega):=by cases l with |nil=>simp at hl |cons a l=>rfl
 simp only[qr,qq,mkF,Ik i];rw[if_pos (by omega),xV,hc,xS,f,xS]
 simp only[f,xS];unfold kC;simp only[h];generalize l[0]'(by omega)=v0
 by_cases a:v0<0
 .grind
 rw[if_neg a]
 by_cases b:c.bc<v0
 .grind
 rw[if_neg b];have d:fD m.aa ⟨[],c.aC,0,c.Lo,c.Hi,0⟩=fz m.aa c:=rfl;rw[d];generalize fz m.aa c=bd
 refine(Am.iterC_all (τ:=Int) c.bc.toNat (λj:Nat=>(j:Int)+1) (λj=>okN bd v0 j (l.getD (j+1) 0)) (g false) (g true) (λj k o=> ?_) (λk=>by grind)).trans ?_
 .grind [dE,okN]
 grind [okN]
theorem g_(h:May m){s:J Int}(hl:s.length=(eR m).length){g:Bool->U ρ}:Aq (dW m) s g=g ((List.range s.length).all λ(i:Nat)=>match s[i]?,(eR m)[i]? with |some v,some b=>decide (b.1<=v)&&decide (v<=b.2) |_,_=>true):=by
 have o:=iN h;simp only[Aq,Ap,mkF];have e:(dW m).Cells=(s.length:Int):=by rw[hl];rfl
 rw[e]
 refine(Am.iterC_all (τ:=Int) s.length (λi:Nat=>(i:Int)) (λi=>match s[i]?,(eR m)[i]? with |some v,some b=>decide (b.1<=v)&&decide (v<=b.2) |_,_=>true) (g false) (g true) (λi k n=> ?_) (λk=>by grind)).trans ?_
 .have a:i<(eR m).length:=by omega
  have j:IntKind.i64.wrap ((i:Int)+1)=((i+1:Nat):Int):=eW (by omega)
  have l:(0:Int)<=(i:Int):=by omega
  have f:(i:Int)<(s.length:Int):=by omega
  have c:(dW m).Lo[i]? =some ((eR m)[i].1):=by simp[dW,xG a]
  have d:(dW m).Hi[i]? =some ((eR m)[i].2):=by simp[dW,xG a]
  simp only[l,f,if_true,xV,xG n,xG a,c,d,xS,j]
  grind
 grind
def ahj(m:ae)(s:J Int)(i:Nat):Bool:=match m.ah[i]?,(cAt m)[i]? with |some c,some a=>kC m c (lC s a (c.bc.toNat+1)) |_,_=>true
theorem g?(c:May m){s:J Int}{g:Bool->U ρ}(n:s.length<=100000):As m (dW m) s g=g (jd m s):=by
 have p:=iN c;have t:=c.cn;simp only[As,Ar,mkF];unfold jd;rw[show(dW m).Cells=((eR m).length:Int)from rfl]
 obtain d |d |d:=Nat.lt_trichotomy s.length (eR m).length
 .rw[if_neg (show¬(s.length:Int)=((eR m).length:Int)by omega)];simp[show¬s.length=(eR m).length by omega]
 .rw[if_pos (show(s.length:Int)=((eR m).length:Int)by omega)]
  have o:(cAt m).length=m.ah.length:=by simp[cAt,jx,eF]
  simp only[g_ c d];generalize ((List.range s.length).all λ(i:Nat)=>match s[i]?,(eR m)[i]? with |some v,some b=>decide (b.1<=v)&&decide (v<=b.2) |_,_=>true)=F
  rw[show decide (s.length=(eR m).length)=true by simp[d],nw]
  refine(Am.iterC_all (τ:=Int) m.ah.length (λi:Nat=>(i:Int)) (λi=>ahj m s i) (g false) (g F) (λi k f=> ?_) (λk=>by grind)).trans ?_
  .have B:IntKind.i64.wrap ((i:Int)+1)=((i+1:Nat):Int):=eW (by omega)
   have y:(0:Int)<=(i:Int):=by omega
   have C:(i:Int)<(m.ah.length:Int):=by omega
   obtain⟨a,l,_,h,_⟩:=L7 (xG f);have j:(ef m).flatten.length+(eF m).flatten.length<=(eR m).length:=by simp only[eR,xP];omega
   have z:=vZ c (eO f);have r:(dW m).ah[i]? =some (a:Int):=by simp[dW,ofN,l]
   have x:IntKind.i64.wrap ((a:Int)+m.ah[i].bc)=(a:Int)+m.ah[i].bc:=dE (by omega) (by omega)
   have u:IntKind.i64.wrap ((a:Int)+m.ah[i].bc+1)=(a:Int)+m.ah[i].bc+1:=dE (by omega) (by omega)
   have D:(0:Int)<=(a:Int):=by omega
   have w:(0:Int)<=(a:Int)+m.ah[i].bc+1:=by omega
   have A:(a:Int)<=max ((a:Int)+m.ah[i].bc+1) 0/\(a:Int)+m.ah[i].bc+1<=(s.length:Int):=by omega
   have q3:((a:Int)+m.ah[i].bc+1).toNat - a=m.ah[i].bc.toNat+1:=by omega
   have e:List.take (m.ah[i].bc.toNat+1) (List.drop a s)=lC s a (m.ah[i].bc.toNat+1):=rfl;have q:(lC s a (m.ah[i].bc.toNat+1)).length=m.ah[i].bc.toNat+1:=by rw[lC,yR,we];omega
   grind [ahj,xV,ahi]
  grind [ahj]
 .rw[if_neg (show¬(s.length:Int)=((eR m).length:Int)by omega)];simp[show¬s.length=(eR m).length by omega]
theorem g!(ho:cE m)(a:MoE m){g:Bool->U ρ}:Aw m g=g (decide (((hZ m).getD (0,0,0,0)).1=0)):=by
 grind [Aw,Au,mkF,JV]
theorem Im(a:bq m){s:J Int}(b:s.length<=100000){g:Bool->U ρ}:kL m s g=g (jd m s):=by
 have c:decide (((hZ m).getD (0,0,0,0)).1=0)=true:=by rw[a.h];rfl
 simp only[kL,pK,mkF,SD a.o a.e,c,if_true,OV,Ih,g! a.o a.e,Bool.true_eq_false,if_false,abZ a.may];exact g? a.may b
theorem h_(ho:cE m)(a:MoE m)(h0:((hZ m).getD (0,0,0,0)).1≠0){s:J Int}{g:Bool->U ρ}:kL m s g=g false:=by
 grind [kL,pK,mkF,SD]
end
variable{m:ae}{s:J Int}
section
variable{ρ:Type}
theorem Vl{c:aK}{s:au}(h:s.ah=m.ah)(ha:∀x∈c.aM,D9 x s=0)(h4:(kK c).1=4):∃q:Nat,(kK c).2=(q:Int)/\q<m.ah.length:=by
 unfold kK at h4 |-
 cases b:c.aM.find? talksP with
 |none=>grind
 |some a=>
  rw[b]at h4
  simp only at h4 |-
  have d:=List.mem_of_find?_eq_some b
  cases Mn (ha a d)with
  |send hk f e g=>grind
  |_=>omega
theorem h?(e:May m){r:bC}(hr:r∈dM m):CommW m (mQ m r) ρ:=by
 obtain⟨x,p,c,i,k,j,h⟩:=Ie e hr;rw[h.cm];have d:c.aM.length<=1000:=by have:=h.ok.an;omega
 refine⟨λκ=> ?_,λκ=> ?_⟩
 .exact((tn c).2 false κ (λa b=>κ ([.d (.int .i64 a),.d (.int .i64 b)],[])) λ_ _=>rfl).trans (SF d)
 .exact((Al c m.ah).2 false κ (λa=>κ ([.d (.int .i64 a)],[])) λ_=>rfl).trans (abW d (Vl (oQ h.hp).2.1 h.ok.a))
theorem h!(a:May m):(dM m).length<=1000:=by
 have b:∀(l:J aE) (i:Nat),(∀x∈l,x∈dA m)->(jw m i l).length<=12 * l.length:=λl=>by
  induction l with
  |nil=>grind [jw]
  |cons x l f=>
   intro i d;obtain⟨k,p,hk,_,c,_⟩:=lT (d x (by simp))
   have e:=(a.p k p hk).cn
   grind [jw]
 grind [qX,dM]
end
end
theorem Mv{n:Nat}{f:Nat->Flt}{x:Flt}(h:orF n f=some x):x.1≠0:=by
 obtain⟨i,_,a⟩:=List.exists_of_findSome?_eq_some h
 split at a
 .cases a
 grind
theorem Vm{n:Nat}{f:Nat->Int}{x:Nat×Int}(h:dQ n f=some x):x.2≠0:=by
 obtain⟨i,_,a⟩:=List.exists_of_findSome?_eq_some h
 split at a
 .cases a
 grind
theorem i_{m:ae}{f:Flt}(h:hZ m=some f):f.1≠0:=by
 unfold hZ vH Ac s9 at h;simp only[Option.or_eq_some_iff]at h
 obtain (h |⟨_,h |⟨_,h⟩⟩) |⟨_,(h |⟨_,h⟩) |⟨_,h⟩⟩:=h
 .obtain⟨q,a,rfl⟩:=Option.map_eq_some_iff.1 h
  exact Vm a
 .exact Mv h
 .exact Mv h
 .exact Mv h
 .grind
 .exact Mv h
theorem ab0{m:ae}(ho:cE m)(a:MoE m)(h:((hZ m).getD (0,0,0,0)).1=0):bq m:=by
 refine⟨ho,a,?_⟩
 cases b:hZ m with
 |none=>rfl
 |some f=>grind [i_]
def kD:ae:=⟨[],[],[⟨[99],0,1,0,1,true⟩],[⟨[97],0,2,[],[⟨[103,111],0,1,[],[⟨4,0,0,[],[⟨1,1⟩]⟩],false⟩]⟩],[]⟩
theorem QT:hZ kD=none:=by decide
theorem tA:dM kD=[⟨0,0⟩]:=by decide
theorem O1:fC kD [0,0,0]=[⟨0,0,[1,1,1]⟩,⟨0,1,[0,0,1]⟩]:=by decide
section
variable{ρ:Type}
theorem ab1(κ:KT ρ):cbK (call 28 [] []) κ=κ ([.d (moD kD)],[]):=by
 refine(auU _ _ _ rfl).trans ?_
 simp [go_sem]
 rfl
theorem lossy_good:bq kD:=by
 refine⟨⟨by decide,by decide,by decide,by decide,by decide,?_⟩,⟨?_,?_⟩,QT⟩
 .intro p b
  obtain rfl:=List.mem_singleton.1 b
  refine⟨by decide,by decide,?_⟩
  intro c e
  obtain rfl:=List.mem_singleton.1 e
  exact⟨by decide,by decide,λa f=>by grind⟩
 .intro p b
  obtain rfl:=List.mem_singleton.1 b
  refine⟨?_⟩
  intro c e
  obtain rfl:=List.mem_singleton.1 e
  refine⟨⟨?_,?_⟩,by decide⟩
  .intro x d;cases d
  .intro a f
   obtain rfl:=List.mem_singleton.1 f
   refine⟨λx d=>(by cases d),λx d=> ?_⟩
   grind
 .intro p b;cases b
def EqS(b c:Bool)(x y:J Int)(k:Nat):St:=⟨[(0,.d (.sl b (List.map eI x))),(1,.d (.sl c (List.map eI y))),(12,.d (.int .i64 y.length)),(13,.d (.int .i64 k))],[],[]⟩
def EqX(b c:Bool)(x y:J Int):St:=⟨[(0,.d (.sl b (List.map eI x))),(1,.d (.sl c (List.map eI y))),(12,.d (.int .i64 y.length)),(13,.d (.int .i64 y.length)),(14,.d (.bool false))],[],[]⟩
theorem ab2(b c:Bool)(x y:J Int)(h:x.length=y.length)(hl:y.length<=100000)(k:Nat)(hk:k<y.length)(κ:Ex×St->U ρ):dI P hints sf b15 0 (EqS b c x y k) κ=if x[k]'(by omega)=y[k]then dI P hints sf b15 0 (EqS b c x y (k+1)) κ else κ (.ret,⟨[(4,.d (.bool false))],[],[]⟩):=by
 refine(ap acI.2).trans ?_
 have a:IntKind.i64.wrap ((k:Int)+1)=(k:Int)+1:=dE (by omega) (by omega)
 have d:k<x.length:=by omega
 cases b <;>cases c <;>simp [go_sem,EqS,hk,d,a]
 all_goals trace_state
theorem ab3(b c:Bool)(x y:J Int)(κ:Ex×St->U ρ):dI P hints sf b15 0 (EqS b c x y y.length) κ=κ (.exit 0,EqX b c x y):=by
 refine(ap acI.2).trans ?_
 simp [go_sem,EqS,EqX]
theorem SJ(b c:Bool)(x y:J Int)(h:x.length=y.length)(hl:y.length<=100000)(κ:Ex×St->U ρ):∀(d k:Nat),k+d=y.length->dI P hints sf b15 0 (EqS b c x y k) κ=if x.drop k=y.drop k then κ (.exit 0,EqX b c x y)else κ (.ret,⟨[(4,.d (.bool false))],[],[]⟩)
 |0,k,hk=>by
  grind [ab3]
 |d+1,k,hk=>by
  have:=SJ b c x y h hl κ d;grind [ab2,xW]
theorem Mw(b c:Bool)(x y:J Int)(hl:y.length<=100000)(κ:KT ρ):cbK (call 15 [.sl b (List.map eI x),.sl c (List.map eI y)] []) κ=κ ([.d (.bool (decide (x=y)))],[]):=by
 refine(auP _ _ _ rfl).trans ?_
 by_cases h:x.length=y.length
 .have a:=λκ=>SJ (ρ:=ρ) b c x y h hl κ y.length 0 (fu _)
  simp only[EqS,EqX,jg,eA]at a
  by_cases e:x=y
  .subst e
   simp only[if_true]at a
   simp [go_sem,a]
  .simp only[e,if_false]at a
   simp [go_sem,h,a,e]
 .have d:¬((x.length:Int)=(y.length:Int)):=by omega
  have e:¬x=y:=λq=>h (by rw[q])
  simp [go_sem,d,h,e]
theorem BO(κ:KT ρ):cbK (call 10 [] []) κ=κ ([.d (.bool true)],[]):=by
 refine(auM _ _ _ rfl).trans ?_
 have d:=λκ=>ab1 (ρ:=ρ) κ
 have a:∀r∈dM kD,CommW kD (mQ kD r) ρ:=λr e=>h? lossy_good.may e
 have hk:(dM kD).length<=10000:=by rw[tA];decide
 have b:=λκ=>Mr (ρ:=ρ) (s:=[0,0,0]) lossy_good (by decide) a hk κ
 have c:=λκ=>Mr (ρ:=ρ) (s:=[0,0,1]) lossy_good (by decide) a hk κ
 have h3:=λκ=>arH (ρ:=ρ) (s:=[0,0,0]) lossy_good (by decide) a 0 (by rw[tA];decide) 0 κ
 have h4:=λκ=>ag4 (ρ:=ρ) (s:=[0,0,0]) lossy_good (by decide) a 0 (by rw[tA];decide) κ
 have h5:=λκ=>ag4 (ρ:=ρ) (s:=[1,1,0]) lossy_good (by decide) a 0 (by rw[tA];decide) κ
 rw[O1]at b
 rw[show fC kD [0,0,1]=[⟨-1,0,[0,0,1]⟩]by decide]at c
 rw[show doD kD [0,0,0] 0 0=([1,1,1],0)by decide]at h3
 rw[show decide (j9 kD [0,0,0] (CU kD 0)≠[])=true by decide]at h4
 rw[show decide (j9 kD [1,1,0] (CU kD 0)≠[])=false by decide]at h5
 have h6:=λκ=>Mw (ρ:=ρ) false false [0,0,1] [0,0,1] (by decide) κ
 have h7:=λκ=>Mw (ρ:=ρ) false false [1,1,1] [1,1,1] (by decide) κ
 simp only[moD,eG,g9,eI,eK,eA]at d b c h3 h4 h5 h6 h7
 simp [go_sem,d,b,c,h3,h4,h5,h6,h7]
end
section
attribute [-simp] List.map_append List.map_take List.map_drop List.map_set
variable{m:ae}{s:J Int}
end
section
attribute [-simp] List.map_append List.map_take List.map_drop List.map_set
variable{m:ae}{s:J Int}
section
theorem wR{y:bm}:∀(l:J bC) (i:Nat),y∈fg m s i l->∃k r,l[k]? =some r/\y.Cmd=((i+k:Nat):Int)/\0<=y.Way/\(j9 m s r)[y.Way.toNat]? =some y.To
 | [],i,h=>by cases h
 |r::l,i,h=>by
  rw[fg]at h
  obtain h |h:=List.mem_append.1 h
  .obtain⟨⟨t,w⟩,g,rfl⟩:=List.mem_map.1 h
   exact⟨0,r,rfl,rfl,Int.natCast_nonneg w,by simpa using List.mem_zipIdx_iff_getElem?.1 g⟩
  .obtain⟨k,q,a,b,h3⟩:=wR l (i+1) h
   exact⟨k+1,q,by simpa using a,by rw[b];congr 1;omega,h3⟩
theorem ab4{y z:bm}(a:y∈fC m s)(hz:z∈fC m s)(h1:z.Cmd=y.Cmd)(h2:z.Way=y.Way):z.To=y.To:=by
 unfold fC at a hz
 split at a
 .rename_i e
  rw[if_pos e]at hz
  simp only[yQ]at a hz
  rw[a,hz]
 .rename_i e
  rw[if_neg e]at hz
  obtain⟨k,r,f,g,h,c⟩:=wR _ _ a;obtain⟨d,j,b,i,b3,b4⟩:=wR _ _ hz
  have:d=k:=by omega
  subst this;rw[f]at b
  cases b;rw[h2,c]at b4
  exact(Option.some.inj b4).symm
theorem O2(x:GStep)(l:J bm):∀(d i:Nat),i+d=l.length->(∃j z,i<=j/\l[j]? =some z/\OR x z=true)->∃(j:Nat) (z:bm),OS x l i d=(j:Int)/\l[j]? =some z/\OR x z=true
 |0,i,b,⟨j,z,f,a,h3⟩=>by
  have:=(List.getElem?_eq_some_iff.1 a).1
  omega
 |d+1,i,b,⟨j,z,f,a,h3⟩=>by
  unfold OS;split
  .rename_i c
   obtain⟨w,h,g⟩:=Option.map_eq_some_iff.1 c
   exact⟨i,w,rfl,h,g⟩
  .rename_i c
   refine O2 x l d (i+1) (by omega) ⟨j,z,?_,a,h3⟩
   by_cases e:i=j
   .subst e
    rw[a]at c
    exact absurd (by rw[xQ,h3]) c
   .omega
theorem i?{r:bC}:((j9 m s r).length:Int)<=if oO m (mQ m r)=true then 2 else 1:=by
 unfold j9;split
 .split <;>simp
 .split <;>simp
theorem arK{n:Nat}{w:Int}{t:J Int}(h0:0<=w)(h:(j9 m s (CU m n))[w.toNat]? =some t):doD m s n w=(t,0):=by
 have a:=(List.getElem?_eq_some_iff.1 h).1;have b:=i? (m:=m) (s:=s) (r:=CU m n);unfold doD;rw[if_neg (by omega),h]
theorem JX:fC m s≠[]:=by
 unfold fC;split
 .simp
 .assumption
end
end
section
attribute [-simp] List.map_append List.map_take List.map_drop List.map_set
variable{m:ae}{s:J Int}
section
variable{ρ:Type}
theorem ab5(h:lV m=false)(κ:KT ρ):cbK (call 8 [moD m,.sl false (List.map eI s)] []) κ=κ ([.d (.bool true)],[]):=by
 refine(ge8 _ _ _ rfl).trans ?_
 have a:=λκ=>BO (ρ:=ρ) κ
 simp [go_sem,vX,h,a]
theorem ab6(h:lV m=true)(hl:¬s.length<=200)(κ:KT ρ):cbK (call 8 [moD m,.sl false (List.map eI s)] []) κ=κ ([.d (.bool true)],[]):=by
 refine(ge8 _ _ _ rfl).trans ?_
 have b:=λκ=>BO (ρ:=ρ) κ
 have a:(200:Int)<(s.length:Int):=by omega
 simp [go_sem,vX,h,a,b]
theorem ab7(ho:cE m)(b:MoE m)(h0:((hZ m).getD (0,0,0,0)).1≠0)(h:lV m=true)(hl:s.length<=200)(κ:KT ρ):cbK (call 8 [moD m,.sl false (List.map eI s)] []) κ=κ ([.d (.bool true)],[]):=by
 refine(ge8 _ _ _ rfl).trans ?_
 have c:=λκ=>BO (ρ:=ρ) κ
 have a:¬(200:Int)<(s.length:Int):=by omega
 simp [go_sem,vX,h,a,c,h_ ho b h0]
theorem ab8(c:bq m)(h:lV m=true)(hl:s.length<=200)(e:jd m s=false)(κ:KT ρ):cbK (call 8 [moD m,.sl false (List.map eI s)] []) κ=κ ([.d (.bool true)],[]):=by
 refine(ge8 _ _ _ rfl).trans ?_
 have d:=λκ=>BO (ρ:=ρ) κ
 have a:¬(200:Int)<(s.length:Int):=by omega
 have b:=λg=>Im (ρ:=ρ) c (s:=s) (by omega) (g:=g)
 rw[e]at b
 simp [go_sem,vX,h,a,d,b]
def RgS(m:ae)(s:J Int)(L:J bm)(k:Nat):St:=⟨[(1,.d (.sl false (List.map eI s))),(2,.loc (.l 2 0) [] 0 0),(5,.d (.sl false (List.map (lF false) L))),(6,.d (.int .i64 k))],[((2,0),.own [.d (moD m)])],[]⟩
structure MvOK(m:ae)(s:List Int)(y:bm)(ρ:Type):Prop where
 r:∀g,kL m y.To g=(g true:Option ρ)
 f:∀κ:KT ρ,cbK (call 26 [moD m,.sl false (List.map eI s),.sl false [Rq ⟨y.Cmd,y.Way⟩]] []) κ=κ ([.d (.sl false [.sl false (List.map eI y.To)]),.d (.int .i64 0)],[])
 q:∀(b c:Bool) (κ:KT ρ),cbK (call 15 [.sl b (List.map eI y.To),.sl c (List.map eI y.To)] []) κ=κ ([.d (.bool true)],[])
theorem ahk{L:J bm}{y:bm}(k:Nat)(hl:L.length<=100000)(c:L[k]? =some y)(h:MvOK m s y ρ)(hc:y.Cmd<0)(κ:Ex×St->U ρ):dI P hints qE b8 0 (RgS m s L k) κ=dI P hints qE b8 0 (RgS m s L (k+1)) κ:=by
 refine(ap afg.2).trans ?_
 obtain⟨hk,rfl⟩:=List.getElem?_eq_some_iff.1 c;have d:IntKind.i64.wrap ((k:Int)+1)=(k:Int)+1:=dE (by omega) (by omega)
 have e:=h.r;have b:=h.f;have h3:=h.q;have a:¬(0<=L[k].Cmd):=by omega
 simp only[Rq,eI,eK]at b
 simp [go_sem,RgS,hk,c,d,e,b,h3,a]
theorem ahl{L:J bm}{y:bm}(k:Nat)(hl:L.length<=100000)(b:L[k]? =some y)(h:MvOK m s y ρ)(hc:0<=y.Cmd)(h4:∀κ:KT ρ,cbK (call 11 [moD m,.sl false (List.map eI s),.int .i64 y.Cmd,.int .i64 y.Way] []) κ=κ ([.d (.sl false (List.map eI y.To)),.d (.int .i64 0)],[]))(h5:∀κ:KT ρ,cbK (call 13 [moD m,.sl false (List.map eI s),.int .i64 y.Cmd] []) κ=κ ([.d (.bool true)],[]))(κ:Ex×St->U ρ):dI P hints qE b8 0 (RgS m s L k) κ=dI P hints qE b8 0 (RgS m s L (k+1)) κ:=by
 refine(ap afg.2).trans ?_
 obtain⟨hk,rfl⟩:=List.getElem?_eq_some_iff.1 b;have c:IntKind.i64.wrap ((k:Int)+1)=(k:Int)+1:=dE (by omega) (by omega)
 have d:=h.r;have a:=h.f;have h3:=h.q;simp only[Rq,eI,eK]at a
 simp [go_sem,RgS,hk,b,c,d,a,h3,h4,h5,hc]
def RgX(m:ae)(s:J Int)(L:J bm):St:=⟨[(1,.d (.sl false (List.map eI s))),(2,.loc (.l 2 0) [] 0 0),(5,.d (.sl false (List.map (lF false) L))),(6,.d (.int .i64 L.length)),(32,.d (.bool false))],[((2,0),.own [.d (moD m)])],[]⟩
theorem ab9{L:J bm}(κ:Ex×St->U ρ):dI P hints qE b8 0 (RgS m s L L.length) κ=κ (.exit 0,RgX m s L):=by
 refine(ap afg.2).trans ?_
 simp [go_sem,RgS,RgX]
theorem aca(d:bq m)(h:lV m=true)(hl:s.length<=200)(l:jd m s=true)(κ:KT ρ):cbK (call 8 [moD m,.sl false (List.map eI s)] []) κ=κ ([.d (.bool true)],[]):=by
 refine(ge8 _ _ _ rfl).trans ?_
 have L:=λκ=>BO (ρ:=ρ) κ
 have C:¬(200:Int)<(s.length:Int):=by omega
 have v:=λg=>Im (ρ:=ρ) d (s:=s) (by omega) (g:=g)
 have I:=nX.1 l;have e:∀r∈dM m,CommW m (mQ m r) ρ:=λr v=>h? d.may v
 have R:=h! d.may;rw[l]at v
 have D:=λκ=>Mr (ρ:=ρ) (s:=s) d l e (by omega) κ
 have i:(fC m s).length<=100000:=by
  have:=If (m:=m) (s:=s) (dM m) 0
  unfold fC;split
  .simp
  .omega
 have B:(0:Int)<((fC m s).length:Int):=by
  have:=List.length_pos_iff.2 (JX (m:=m) (s:=s))
  omega
 have A:∀k (hk:k<(fC m s).length) (κ:Ex×St->U ρ),dI P hints qE b8 0 (RgS m s (fC m s) k) κ=dI P hints qE b8 0 (RgS m s (fC m s) (k+1)) κ:=λk hk κ=>by
  have x:=xG hk;have a:=eO hk;generalize (fC m s)[k]=y at x a;have o:=ON d.may I y a;have M:y.To.length<=200:=by rw[o.b.1,<-I.b.1];exact hl
  have p:MvOK m s y ρ:=⟨λg=>by
    have:=Im (ρ:=ρ) d (s:=y.To) (by omega) (g:=g)
    rwa [nX.2 o]at this,λκ=>by
    obtain⟨j,z,w,u,f⟩:=O2 ⟨y.Cmd,y.Way⟩ (fC m s) (fC m s).length 0 (by omega) ⟨k,y,by omega,x,by simp[OR]⟩
    simp only[OR,xA,yD]at f
    have J:=ab4 a (yS u) f.1 f.2;rw[<-J]
    exact Z4 d l e (by omega) i ⟨y.Cmd,y.Way⟩ j z w u (by rw[J];omega) false κ,λb c κ=>by
    have:=Mw (ρ:=ρ) b c y.To y.To (by omega) κ
    rwa [decide_eq_true rfl]at this⟩
  by_cases H:y.Cmd<0
  .exact ahk k i x p H κ
  .have Q:∃n:Nat,n<(dM m).length/\y.Cmd=(n:Int)/\0<=y.Way/\(j9 m s (CU m n))[y.Way.toNat]? =some y.To:=by
    unfold fC at a
    split at a
    .simp only[yQ]at a
     subst a;exact absurd (show(-1:Int)<0 by decide) H
    .obtain⟨n,r,G,K,N,O⟩:=wR _ _ a
     refine⟨n,(List.getElem?_eq_some_iff.1 G).1,by rw[K,fu],N,?_⟩
     rw[CU,G];exact O
   obtain⟨n,E,w,u,f⟩:=Q;refine ahl k i x p (by omega) (λκ=> ?_) (λκ=> ?_) κ
   .have:=arH (ρ:=ρ) (s:=s) d l e n E y.Way κ
    rw[arK u f]at this
    rw[w];exact this
   .have:=ag4 (ρ:=ρ) (s:=s) d l e n E κ
    rw[decide_eq_true (by intro q;rw[q]at f;cases f)]at this
    rw[w];exact this
 have t:=λκ:Ex×St->U ρ=>DV (F:=λk=>dI P hints qE b8 0 (RgS m s (fC m s) k) κ) (n:=(fC m s).length) (z:=κ (.exit 0,RgX m s (fC m s))) (λk hk=>A k hk κ) (ab9 κ)
 simp only[RgS,RgX,eA]at t
 simp [go_sem,vX,h,C,L,v,t,D,B,JX]
theorem acb(hb:lV m=true->cE m/\MoE m)(κ:KT ρ):cbK (call 8 [moD m,.sl false (List.map eI s)] []) κ=κ ([.d (.bool true)],[]):=by
 cases a:lV m with
 |false=>exact ab5 a κ
 |true=>
  obtain⟨f,e⟩:=hb a
  by_cases b:s.length<=200
  .by_cases d:((hZ m).getD (0,0,0,0)).1=0
   .have c:=ab0 f e d
    cases g:jd m s with
    |false=>exact ab8 c a b g κ
    |true=>exact aca c a b g κ
   .exact ab7 f e d a b κ
  .exact ab6 a b κ
end
end
end Go.Etx
