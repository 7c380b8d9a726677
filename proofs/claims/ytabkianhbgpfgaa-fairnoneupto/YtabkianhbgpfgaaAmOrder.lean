/- The abstract machine: the operations of a region that draws its order, in any order. Data alone. -/
import Derived.Test.YtabkianhbgpfgaaAmSwap
namespace Go.Am
open Go
set_option linter.unusedSimpArgs false
set_option linter.unusedVariables false

structure Eqv (c d : Cf) : Prop where
  get : ∀ t, d.1.get t = c.1.get t
  ct : ∀ x, lookR d.1.ct x = lookR c.1.ct x
  H : d.1.H = c.1.H
  hi : ∀ t, histOf d.2 t = histOf c.2 t
theorem Eqv.refl (c : Cf) : Eqv c c := ⟨fun _ => rfl, fun _ => rfl, rfl, fun _ => rfl⟩
theorem Eqv.trans {a b c : Cf} (x : Eqv a b) (y : Eqv b c) : Eqv a c := ⟨fun t => (y.get t).trans (x.get t), fun t => (y.ct t).trans (x.ct t), y.H.trans x.H, fun t => (y.hi t).trans (x.hi t)⟩
/-- each slot leans on roots that are told -/
def Inv (c : Cf) : Prop := ∀ t, ∀ r ∈ (c.1.get t).srts, r ∈ histOf c.2 t

theorem mem_meet {a b : List Root} (h : meet a b = false) : ∀ r ∈ b, r ∉ a := fun r hb ha => by
  simp only [meet, List.any_eq_false] at h
  have := h r ha
  simp only [List.any_eq_true, decide_eq_true_eq, not_exists, not_and] at this
  exact this r hb rfl
theorem newKeys_pre {k k' : Wk} {pre : List ((Nat × Nat) × T)} (hp : k'.ct = pre ++ k.ct) : newKeys k k' = pre.map fun p => Root.l p.1.1 p.1.2 := by
  unfold newKeys
  rw [hp]; simp
theorem lookR_none {pre : List ((Nat × Nat) × T)} {n j : Nat} (h : Root.l n j ∉ pre.map fun p => Root.l p.1.1 p.1.2) : lookR pre (n, j) = none := by
  induction pre with
  | nil => rfl
  | cons p pre ih =>
    obtain ⟨⟨a, b⟩, t⟩ := p
    simp only [List.map_cons, List.mem_cons, not_or] at h
    show (if (a, b) = (n, j) then some t else lookR pre (n, j)) = _
    rw [if_neg (fun e => h.1 (by cases e; rfl))]
    exact ih h.2
theorem newKeys_get {k k' : Wk} (hg : ∃ pre, k'.ct = pre ++ k.ct) (n j : Nat) (h : Root.l n j ∉ newKeys k k') : lookR k'.ct (n, j) = lookR k.ct (n, j) := by
  obtain ⟨pre, hp⟩ := hg
  rw [newKeys_pre hp] at h
  rw [hp, lookR_app, lookR_none h]; rfl

section
variable {P : Program} {call : CallF} {h : Hint} {ops : List Oper}

theorem runOpF_some {o : Oper} {c d : Cf} {f : Fp} (e : runOpF P call h ops o c = some (d, f)) :
    ∃ w v k, evalO P call h ops o c.1 = some (w, v, k) ∧ d = (c.1.fin o.dst v k, histAdd c.2 k.tr o.dst v) ∧ f = fpOf h ops o c.2 c.1 w v k := by
  simp only [runOpF, Option.map_eq_some_iff, Prod.mk.injEq] at e
  obtain ⟨⟨w, v, k⟩, e1, e2, e3⟩ := e
  exact ⟨w, v, k, e1, e2.symm, e3.symm⟩
theorem runOpF_mk {o : Oper} {c : Cf} {w : Bool} {v : SV} {k : Wk} (e : evalO P call h ops o c.1 = some (w, v, k)) :
    runOpF P call h ops o c = some ((c.1.fin o.dst v k, histAdd c.2 k.tr o.dst v), fpOf h ops o c.2 c.1 w v k) := by
  simp only [runOpF, e, Option.map_some]
theorem fpOf_congr {o : Oper} {c d : Cf} {w : Bool} {v : SV} {k k' : Wk} (hg : ∀ t ∈ looks ops o, d.1.get t = c.1.get t) (hh : ∀ t ∈ looks ops o, histOf d.2 t = histOf c.2 t) (h1 : newKeys d.1.wk k' = newKeys c.1.wk k) (h2 : k'.tr = k.tr) : fpOf h ops o d.2 d.1 w v k' = fpOf h ops o c.2 c.1 w v k := by
  unfold fpOf
  have : (looks ops o).flatMap (histOf d.2) = (looks ops o).flatMap (histOf c.2) := by
    simp only [List.flatMap_def]
    rw [List.map_congr_left hh]
  have hcur : ((looks ops o).flatMap fun t => (d.1.get t).rts) = (looks ops o).flatMap fun t => (c.1.get t).rts := by
    simp only [List.flatMap_def]
    rw [List.map_congr_left fun t ht => by rw [hg t ht]]
  rw [this, hcur, h1, h2]
theorem Eqv.sm {c d : Cf} (q : Eqv c d) : Sm (fun _ => False) true c.1.wk d.1.wk := by
  refine ⟨fun r _ => ?_, fun _ => q.H, rfl, rfl, by simp⟩
  cases r with
  | l n j => simp only [Wk.get, Go.Am.cont, St.wk, q.ct]
  | o n => simp only [Wk.get, Go.Am.cont, St.wk, q.H]
theorem Par.keys {b : Bool} {k k' k1 k1' : Wk} (p : Par b k k' k1 k1') : newKeys k' k1' = newKeys k k1 := by
  obtain ⟨pre, h1, h2⟩ := p.ct
  rw [newKeys_pre h1, newKeys_pre h2]

theorem runOpF_congr {o : Oper} {c d c1 : Cf} {f : Fp} (q : Eqv c d) (e : runOpF P call h ops o c = some (c1, f)) : ∃ d1, runOpF P call h ops o d = some (d1, f) ∧ Eqv c1 d1 := by
  obtain ⟨w, v, k, e1, rfl, rfl⟩ := runOpF_some e
  obtain ⟨k2, e2, p⟩ := evalO_sim q.sm (fun t _ => q.get t) (fun h => by cases h) (fun _ _ t _ r _ h => h) e1
  refine ⟨(d.1.fin o.dst v k2, histAdd d.2 k2.tr o.dst v), by rw [runOpF_mk e2, fpOf_congr (c := c) (fun t _ => q.get t) (fun t _ => q.hi t) p.keys p.tr], fun t => ?_, fun x => ?_, p.H rfl, fun t => ?_⟩
  · simp only [get_fin, q.get, p.tr]
  · obtain ⟨pre, h1, h2⟩ := p.ct
    show lookR k2.ct x = lookR k.ct x
    rw [h1, h2, lookR_app, lookR_app]
    show _ = (lookR pre x).or (lookR c.1.ct x)
    rw [← q.ct]; rfl
  · simp only [hist_add, q.hi, p.tr]
theorem runOpsF_congr : ∀ (l : List Oper) {c d c1 : Cf} {fs : List Fp}, Eqv c d → runOpsF P call h ops l c = some (c1, fs) → ∃ d1, runOpsF P call h ops l d = some (d1, fs) ∧ Eqv c1 d1
  | [], c, d, c1, fs, q, e => by
    simp only [runOpsF, Option.some.injEq, Prod.mk.injEq] at e
    obtain ⟨rfl, rfl⟩ := e
    exact ⟨d, rfl, q⟩
  | o :: l, c, d, c1, fs, q, e => by
    simp only [runOpsF, Option.bind_eq_some_iff, Option.map_eq_some_iff, Prod.mk.injEq] at e
    obtain ⟨⟨c2, f⟩, e1, ⟨c3, fs'⟩, e2, rfl, rfl⟩ := e
    obtain ⟨d2, g1, q2⟩ := runOpF_congr q e1
    obtain ⟨d3, g2, q3⟩ := runOpsF_congr l q2 e2
    exact ⟨d3, by simp only [runOpsF, g1, Option.bind_some, g2, Option.map_some], q3⟩
theorem Inv.step {o : Oper} {c d : Cf} {f : Fp} (hi : Inv c) (e : runOpF P call h ops o c = some (d, f)) : Inv d := by
  obtain ⟨w, v, k, e1, rfl, rfl⟩ := runOpF_some e
  intro t r hr
  simp only [get_fin, hist_add] at hr ⊢
  split at hr
  · rw [if_pos ‹_›]; exact hr
  · rw [if_neg ‹_›]; exact trv_rts_sub _ _ _ (hi t) r hr

/-- what is changed does not touch what another operation leans on -/
theorem stays {w : Bool} {v : SV} {k : Wk} {o : Oper} {c : Cf} (e : evalO P call h ops o c.1 = some (w, v, k)) {L : List Root}
    (hm : ∀ r ∈ L, r ∉ (fpOf h ops o c.2 c.1 w v k).wr) (hh : (fpOf h ops o c.2 c.1 w v k).hw = true → L.any Root.isO = false) :
    (∀ u : SV, (∀ r ∈ u.srts, r ∈ L) → trv k.tr u = u) ∧ (∀ M : List Root, (∀ r ∈ M, r ∈ L) → histTr k.tr M = M) ∧ ((fpOf h ops o c.2 c.1 w v k).hw = false → k.H = c.1.H ∧ k.tr.any Tr.isKillO = false) := by
  have hwr : (fpOf h ops o c.2 c.1 w v k).wr = newKeys c.1.wk k ++ k.tr.flatMap Tr.rts := rfl
  have hhv : (fpOf h ops o c.2 c.1 w v k).hw = ((w && effOf h (o.dst.getD 0) o.op) && (hOf h (o.dst.getD 0) o.op || ((looks ops o).flatMap fun t => (c.1.get t).rts).any Root.isO || k.tr.any Tr.isKillO)) := rfl
  rw [hwr] at hm
  have hm2 : ∀ r ∈ L, r ∉ k.tr.flatMap Tr.rts := fun r hr hx => hm r hr (List.mem_append_right _ hx)
  obtain ⟨g, g2⟩ := evalO_grown e
  have hw0 : (fpOf h ops o c.2 c.1 w v k).hw = false → k.H = c.1.H ∧ k.tr.any Tr.isKillO = false := fun hf => by
    cases he : (w && effOf h (o.dst.getD 0) o.op) with
    | false => rw [g2 he]; exact ⟨rfl, rfl⟩
    | true =>
      rw [hhv, he] at hf
      simp only [Bool.true_and, Bool.or_eq_false_iff] at hf
      refine ⟨g.H ⟨hf.1.1, fun t ht => ?_⟩, hf.2⟩
      have h3 := List.any_eq_false.1 hf.1.2
      exact List.any_eq_false.2 fun r hr => h3 r (List.mem_flatMap.2 ⟨t, ht, hr⟩)
  refine ⟨fun u hu => trv_id _ _ (fun r hr => hm2 r (hu r hr)) (fun hk => ?_), fun M hM => histTr_id _ _ (fun r hr => hm2 r (hM r hr)), hw0⟩
  have : (fpOf h ops o c.2 c.1 w v k).hw = true := by
    cases hf : (fpOf h ops o c.2 c.1 w v k).hw with
    | true => rfl
    | false => rw [(hw0 hf).2] at hk; cases hk
  exact List.any_eq_false.2 fun r hr => List.any_eq_false.1 (hh this) r (hu r hr)

theorem apart_spec {x y : Fp} (hp : apartFp x y = true) : (∀ d, x.dst = some d → d ∉ y.sl) ∧ (∀ d, x.dst = some d → y.dst ≠ some d) ∧ (∀ d, y.dst = some d → d ∉ x.sl) ∧ (∀ r ∈ y.rd, r ∉ x.wr) ∧ (∀ r ∈ y.wr, r ∉ x.wr) ∧ (∀ r ∈ x.rd, r ∉ y.wr) ∧ (x.hw = true → y.hr = false ∧ y.hw = false) ∧ (y.hw = true → x.hr = false) ∧ (x.ren = false ∨ y.ren = false) := by
  simp only [apartFp, Bool.and_eq_true, Bool.not_eq_true', Bool.and_eq_false_iff] at hp
  obtain ⟨⟨⟨⟨⟨⟨⟨h1, h2⟩, h3⟩, h4⟩, h5⟩, h6⟩, h7⟩, h8⟩ := hp
  refine ⟨fun d hd => ?_, fun d hd => ?_, fun d hd => ?_, mem_meet h3, mem_meet h4, mem_meet h5, fun q => ?_, fun q => ?_, h8⟩
  · rw [hd] at h1; simp at h1; exact h1.1
  · rw [hd] at h1; simp at h1; exact fun e => h1.2 e
  · rw [hd] at h2; simp at h2; exact h2
  · rcases h6 with x | x
    · rw [q] at x; cases x
    · simpa using x
  · rcases h7 with x | x
    · rw [q] at x; cases x
    · exact x

/-- what an operation leans on, if another one does not change it -/
theorem look_same {o p : Oper} {c : Cf} {w wp : Bool} {v vp : SV} {k kp : Wk} {ct : List ((Nat × Nat) × T)} (hi : Inv c) (ep : evalO P call h ops p c.1 = some (wp, vp, kp)) (hd : ∀ t ∈ looks ops o, p.dst ≠ some t)
    {L : List Root} (hL : ∀ t ∈ looks ops o, ∀ r ∈ histOf c.2 t, r ∈ L) (hm : ∀ r ∈ L, r ∉ (fpOf h ops p c.2 c.1 wp vp kp).wr) (hh : (fpOf h ops p c.2 c.1 wp vp kp).hw = true → L.any Root.isO = false) :
    ∀ t ∈ looks ops o, (c.1.fin p.dst vp kp).get t = c.1.get t := fun t ht => by
  obtain ⟨t1, _, _⟩ := stays ep hm hh
  rw [get_fin, if_neg (hd t ht)]
  exact t1 _ (fun r hr => hL t ht r (hi t r hr))

theorem swap {a i : Oper} {c c1 c2 : Cf} {fa fi : Fp} (hi : Inv c) (ea : runOpF P call h ops a c = some (c1, fa)) (ei : runOpF P call h ops i c1 = some (c2, fi)) (hp : apartFp fa fi = true) :
    ∃ d1 d2, runOpF P call h ops i c = some (d1, fi) ∧ runOpF P call h ops a d1 = some (d2, fa) ∧ Eqv c2 d2 := by
  obtain ⟨wa, va, ka, ea1, rfl, hfa⟩ := runOpF_some ea
  obtain ⟨wi, vi, ki, ei1, rfl, hfi⟩ := runOpF_some ei
  obtain ⟨s1, s2, s3, m1, m2, m3, w1, w2, rn⟩ := apart_spec hp
  have da : fa.dst = a.dst := by rw [hfa]; rfl
  have di : fi.dst = i.dst := by rw [hfi]; rfl
  have la : fa.sl = looks ops a := by rw [hfa]; rfl
  have li : fi.sl = looks ops i := by rw [hfi]; rfl
  have ne1 : ∀ t ∈ looks ops i, a.dst ≠ some t := fun t ht e => s1 t (da.trans e) (by rw [li]; exact ht)
  have ne2 : ∀ t ∈ looks ops a, i.dst ≠ some t := fun t ht e => s3 t (di.trans e) (by rw [la]; exact ht)
  have ne3 : ∀ t, a.dst = some t → i.dst ≠ some t := fun t e q => s2 t (da.trans e) (di.trans q)
  simp only at ei1
  -- what i leans on
  have rdI : fi.rd = (looks ops i).flatMap (histOf (histAdd c.2 ka.tr a.dst va)) ++ vi.srts ++ (if reads i.op then (looks ops i).flatMap fun t => ((c.1.fin a.dst va ka).get t).rts else []) := by rw [hfi]; rfl
  have rdA : fa.rd = (looks ops a).flatMap (histOf c.2) ++ va.srts ++ (if reads a.op then (looks ops a).flatMap fun t => (c.1.get t).rts else []) := by rw [hfa]; rfl
  have inI : ∀ t ∈ looks ops i, ∀ r ∈ histOf c.2 t, r ∈ fi.rd := fun t ht r hr => by
    rw [rdI]
    exact List.mem_append_left _ (List.mem_append_left _ (List.mem_flatMap.2 ⟨t, ht, by rw [hist_add, if_neg (ne1 t ht)]; exact histTr_sub _ _ r hr⟩))
  have inIv : ∀ r ∈ vi.srts, r ∈ fi.rd := fun r hr => by rw [rdI]; exact List.mem_append_left _ (List.mem_append_right _ hr)
  have inIc : reads i.op = true → ∀ t ∈ looks ops i, ∀ r ∈ ((c.1.fin a.dst va ka).get t).rts, r ∈ fi.rd := fun hrd t ht r hr => by rw [rdI, if_pos hrd]; exact List.mem_append_right _ (List.mem_flatMap.2 ⟨t, ht, hr⟩)
  have inA : ∀ t ∈ looks ops a, ∀ r ∈ histOf c.2 t, r ∈ fa.rd := fun t ht r hr => by rw [rdA]; exact List.mem_append_left _ (List.mem_append_left _ (List.mem_flatMap.2 ⟨t, ht, hr⟩))
  have inAv : ∀ r ∈ va.srts, r ∈ fa.rd := fun r hr => by rw [rdA]; exact List.mem_append_left _ (List.mem_append_right _ hr)
  have inAc : reads a.op = true → ∀ t ∈ looks ops a, ∀ r ∈ (c.1.get t).rts, r ∈ fa.rd := fun hrd t ht r hr => by rw [rdA, if_pos hrd]; exact List.mem_append_right _ (List.mem_flatMap.2 ⟨t, ht, hr⟩)
  -- of shared objects
  have noA : fi.hw = true → (wa = true → hrOf h (a.dst.getD 0) a.op = false) ∧ fa.rd.any Root.isO = false ∧ fa.wr.any Root.isO = false ∧ ka.tr.any Tr.isKillO = false := fun q => by
    have e : fa.hr = ((wa && hrOf h (a.dst.getD 0) a.op) || fa.rd.any Root.isO || fa.wr.any Root.isO || ka.tr.any Tr.isKillO) := by rw [hfa]; rfl
    have := w2 q
    rw [e] at this
    simp only [Bool.or_eq_false_iff] at this
    exact ⟨fun hw => by simpa [hw] using this.1.1.1, this.1.1.2, this.1.2, this.2⟩
  have noI : fa.hw = true → (wi = true → hrOf h (i.dst.getD 0) i.op = false) ∧ fi.rd.any Root.isO = false ∧ fi.wr.any Root.isO = false ∧ ki.tr.any Tr.isKillO = false := fun q => by
    have e : fi.hr = ((wi && hrOf h (i.dst.getD 0) i.op) || fi.rd.any Root.isO || fi.wr.any Root.isO || ki.tr.any Tr.isKillO) := by rw [hfi]; rfl
    have := (w1 q).1
    rw [e] at this
    simp only [Bool.or_eq_false_iff] at this
    exact ⟨fun hw => by simpa [hw] using this.1.1.1, this.1.1.2, this.1.2, this.2⟩
  have wrA : fa.wr = newKeys c.1.wk ka ++ ka.tr.flatMap Tr.rts := by rw [hfa]; rfl
  have wrI : fi.wr = newKeys (c.1.fin a.dst va ka).wk ki ++ ki.tr.flatMap Tr.rts := by rw [hfi]; rfl
  -- i ahead of a
  have st1 := stays (L := fi.rd) ea1 (fun r hr => by rw [← hfa]; exact m1 r hr) (fun q => by rw [← hfa] at q; exact (noI q).2.1)
  rw [← hfa] at st1
  obtain ⟨t1, t2, t3⟩ := st1
  have getI : ∀ t ∈ looks ops i, (c.1.fin a.dst va ka).get t = c.1.get t := fun t ht => by
    rw [get_fin, if_neg (ne1 t ht)]
    exact t1 _ (fun r hr => inI t ht r (hi t r hr))
  have gA := (evalO_grown ea1).1.ct
  have sm1 : Sm (fun r => r ∈ fa.wr ∨ (fa.hw = true ∧ r.isO = true)) (!fa.hw) (c.1.fin a.dst va ka).wk c.1.wk := by
    refine ⟨fun r hr => ?_, fun q => ?_, rfl, rfl, fun q n => .inr ⟨by simpa using q, rfl⟩⟩
    · cases r with
      | l n j =>
        have : Root.l n j ∉ newKeys c.1.wk ka := fun hx => hr (.inl (by rw [wrA]; exact List.mem_append_left _ hx))
        simp only [Wk.get, Go.Am.cont]
        exact (newKeys_get gA n j this).symm
      | o n =>
        have : fa.hw = false := by cases hw : fa.hw with | false => rfl | true => exact absurd (.inr ⟨hw, rfl⟩) hr
        simp only [Wk.get, Go.Am.cont, St.wk, St.fin, (t3 this).1]
    · exact (t3 (by simpa using q)).1.symm
  obtain ⟨ki', ei2, p1⟩ := evalO_sim sm1 (fun t ht => (getI t ht).symm) (fun q => (noI (by simpa using q)).1) (fun hrd _ t ht r hr hz => by
    have hrI := inIc hrd t ht r hr
    rcases hz with hz | ⟨q, hz⟩
    · exact m1 r hrI hz
    · have := List.any_eq_false.1 (noI q).2.1 r hrI; rw [hz] at this; simp at this) ei1
  have fpi : fpOf h ops i c.2 c.1 wi vi ki' = fi := by
    rw [hfi]
    exact fpOf_congr (c := (c.1.fin a.dst va ka, histAdd c.2 ka.tr a.dst va)) (d := c) (fun t ht => (getI t ht).symm) (fun t ht => by simp only; rw [hist_add, if_neg (ne1 t ht), t2 _ (inI t ht)]) p1.keys p1.tr
  -- a behind it
  have st2 := stays (L := fa.rd) ei2 (fun r hr => by rw [fpi]; exact m3 r hr) (fun q => by rw [fpi] at q; exact (noA q).2.1)
  rw [fpi] at st2
  obtain ⟨u1, u2, u3⟩ := st2
  have getA : ∀ t ∈ looks ops a, (c.1.fin i.dst vi ki').get t = c.1.get t := fun t ht => by
    rw [get_fin, if_neg (ne2 t ht)]
    exact u1 _ (fun r hr => inA t ht r (hi t r hr))
  have gI := (evalO_grown ei2).1.ct
  have wrI' : fi.wr = newKeys c.1.wk ki' ++ ki'.tr.flatMap Tr.rts := by rw [← fpi]; rfl
  have sm2 : Sm (fun r => r ∈ fi.wr ∨ (fi.hw = true ∧ r.isO = true)) (!fi.hw) c.1.wk (c.1.fin i.dst vi ki').wk := by
    refine ⟨fun r hr => ?_, fun q => ?_, rfl, rfl, fun q n => .inr ⟨by simpa using q, rfl⟩⟩
    · cases r with
      | l n j =>
        have : Root.l n j ∉ newKeys c.1.wk ki' := fun hx => hr (.inl (by rw [wrI']; exact List.mem_append_left _ hx))
        simp only [Wk.get, Go.Am.cont]
        exact newKeys_get gI n j this
      | o n =>
        have : fi.hw = false := by cases hw : fi.hw with | false => rfl | true => exact absurd (.inr ⟨hw, rfl⟩) hr
        simp only [Wk.get, Go.Am.cont, St.wk, St.fin, (u3 this).1]
    · exact (u3 (by simpa using q)).1
  obtain ⟨ka', ea2, p2⟩ := evalO_sim sm2 getA (fun q => (noA (by simpa using q)).1) (fun hrd _ t ht r hr hz => by
    have hrA := inAc hrd t ht r hr
    rcases hz with hz | ⟨q, hz⟩
    · exact m3 r hrA hz
    · have := List.any_eq_false.1 (noA q).2.1 r hrA; rw [hz] at this; simp at this) ea1
  have fpa : fpOf h ops a (histAdd c.2 ki'.tr i.dst vi) (c.1.fin i.dst vi ki') wa va ka' = fa := by
    rw [hfa]
    exact fpOf_congr (c := c) (d := (c.1.fin i.dst vi ki', histAdd c.2 ki'.tr i.dst vi)) getA (fun t ht => by simp only; rw [hist_add, if_neg (ne2 t ht), u2 _ (inA t ht)]) p2.keys p2.tr
  -- what is told
  have vi1 : trv ka.tr vi = vi := t1 _ inIv
  have va1 : trv ki'.tr va = va := u1 _ inAv
  have told : ∀ x ∈ ki.tr, ∀ y ∈ ka.tr, (∀ r ∈ x.rts, r ∉ y.rts) ∧ (x.isKillO = true → y.rts.any Root.isO = false) ∧ (y.isKillO = true → x.rts.any Root.isO = false) := fun x hx y hy => by
    have hxw : ∀ r ∈ x.rts, r ∈ fi.wr := fun r hr => by rw [wrI]; exact List.mem_append_right _ (List.mem_flatMap.2 ⟨x, hx, hr⟩)
    have hyw : ∀ r ∈ y.rts, r ∈ fa.wr := fun r hr => by rw [wrA]; exact List.mem_append_right _ (List.mem_flatMap.2 ⟨y, hy, hr⟩)
    refine ⟨fun r h1 h2 => m2 r (hxw r h1) (hyw r h2), fun q => ?_, fun q => ?_⟩
    · have hw : fi.hw = true := by
        cases hw : fi.hw with
        | true => rfl
        | false =>
          have := (u3 hw).2
          rw [p1.tr] at this
          have := List.any_eq_false.1 this x hx
          rw [q] at this; simp at this
      exact List.any_eq_false.2 fun r hr => List.any_eq_false.1 (noA hw).2.2.1 r (hyw r hr)
    · have hw : fa.hw = true := by
        cases hw : fa.hw with
        | true => rfl
        | false =>
          have := List.any_eq_false.1 (t3 hw).2 y hy
          rw [q] at this; simp at this
      exact List.any_eq_false.2 fun r hr => List.any_eq_false.1 (noI hw).2.2.1 r (hxw r hr)
  have rens : ka.tr.any Tr.isRen = false ∨ ki.tr.any Tr.isRen = false := by
    have e1 : fa.ren = ka.tr.any Tr.isRen := by rw [hfa]; rfl
    have e2 : fi.ren = ki.tr.any Tr.isRen := by rw [hfi]; rfl
    rw [← e1, ← e2]; exact rn
  refine ⟨_, _, (runOpF_mk ei2).trans (congrArg some (Prod.ext rfl fpi)), (runOpF_mk (c := (c.1.fin i.dst vi ki', histAdd c.2 ki'.tr i.dst vi)) ea2).trans (congrArg some (Prod.ext rfl fpa)), fun t => ?_, fun x => ?_, ?_, fun t => ?_⟩
  · simp only [get_fin, p1.tr, p2.tr]
    by_cases h1 : a.dst = some t
    · rw [if_pos h1, if_neg (ne3 t h1), if_pos h1, ← p1.tr, va1]
    · rw [if_neg h1, if_neg h1]
      by_cases h2 : i.dst = some t
      · rw [if_pos h2, if_pos h2, vi1]
      · rw [if_neg h2, if_neg h2]
        exact (trv_comm _ _ _ told).symm
  · obtain ⟨pi, q1, q2⟩ := p1.ct
    obtain ⟨pa, q3, q4⟩ := p2.ct
    show lookR ka'.ct x = lookR ki.ct x
    rw [q1, q4]
    show lookR (pa ++ ki'.ct) x = lookR (pi ++ ka.ct) x
    rw [q2, q3, lookR_app, lookR_app, lookR_app, lookR_app]
    obtain ⟨n, j⟩ := x
    by_cases hk : Root.l n j ∈ pa.map fun p => Root.l p.1.1 p.1.2
    · have h1 : Root.l n j ∈ fa.wr := by rw [wrA, newKeys_pre q3]; exact List.mem_append_left _ hk
      have h2 : Root.l n j ∉ pi.map fun p => Root.l p.1.1 p.1.2 := fun hx => m2 _ (by rw [wrI, newKeys_pre q1]; exact List.mem_append_left _ hx) h1
      rw [lookR_none h2]; simp
    · rw [lookR_none hk]; simp
  · show ka'.H = ki.H
    cases hwa : fa.hw with
    | true =>
      have hb : (!fa.hw) = false := by rw [hwa]; rfl
      have hb2 : (!fi.hw) = true := by rw [(w1 hwa).2]; rfl
      rw [p2.H hb2]
      exact (p1.Hs hb).1.symm
    | false =>
      have hb : (!fa.hw) = true := by rw [hwa]; rfl
      have h1 := p1.H hb
      cases hwi : fi.hw with
      | true =>
        have hb2 : (!fi.hw) = false := by rw [hwi]; rfl
        rw [(p2.Hs hb2).2]; exact h1
      | false =>
        have hb2 : (!fi.hw) = true := by rw [hwi]; rfl
        rw [p2.H hb2, ← h1, (t3 hwa).1, (u3 hwi).1]
  · simp only [hist_add, p1.tr, p2.tr]
    by_cases h1 : a.dst = some t
    · rw [if_pos h1, if_neg (ne3 t h1), if_pos h1, ← p1.tr, u2 _ inAv]
    · rw [if_neg h1, if_neg h1]
      by_cases h2 : i.dst = some t
      · rw [if_pos h2, if_pos h2, t2 _ inIv]
      · rw [if_neg h2, if_neg h2]
        exact histTr_comm _ _ _ rens

/-- one that meets none of those ahead of it goes first -/
theorem front : ∀ (A : List Oper) (i : Oper) (B : List Oper) {c c' : Cf} {fs : List Fp}, Inv c → runOpsF P call h ops (A ++ i :: B) c = some (c', fs) → (∀ fi, fs[A.length]? = some fi → ∀ f ∈ fs.take A.length, apartFp f fi = true) →
    ∃ c1 d fi, fs[A.length]? = some fi ∧ runOpF P call h ops i c = some (c1, fi) ∧ runOpsF P call h ops (A ++ B) c1 = some (d, fs.take A.length ++ fs.drop (A.length + 1)) ∧ Eqv c' d
  | [], i, B, c, c', fs, hi, e, hp => by
    simp only [List.nil_append, runOpsF, Option.bind_eq_some_iff, Option.map_eq_some_iff, Prod.mk.injEq] at e
    obtain ⟨⟨c1, f⟩, e1, ⟨c2, fs'⟩, e2, rfl, rfl⟩ := e
    exact ⟨c1, c2, f, rfl, e1, by simpa using e2, .refl _⟩
  | a :: A, i, B, c, c', fs, hi, e, hp => by
    simp only [List.cons_append, runOpsF, Option.bind_eq_some_iff, Option.map_eq_some_iff, Prod.mk.injEq] at e
    obtain ⟨⟨ca, fa⟩, e1, ⟨c2, fs'⟩, e2, rfl, rfl⟩ := e
    simp only at e2
    obtain ⟨c1, d, fi, g1, g2, g3, g4⟩ := front A i B (hi.step e1) e2 (fun fi q f hf => hp fi (by simpa using q) f (by simp [hf]))
    have hap := hp fi (by simpa using g1) fa (by simp)
    obtain ⟨d1, d2, p1, p2, p3⟩ := swap hi e1 g2 hap
    obtain ⟨d3, r1, r2⟩ := runOpsF_congr _ p3 g3
    refine ⟨d1, d3, fi, by simpa using g1, p1, ?_, g4.trans r2⟩
    simp only [List.cons_append, runOpsF, p2, Option.bind_some, r1, Option.map_some, List.length_cons, List.take_succ_cons, List.drop_succ_cons]
end
end Go.Am
