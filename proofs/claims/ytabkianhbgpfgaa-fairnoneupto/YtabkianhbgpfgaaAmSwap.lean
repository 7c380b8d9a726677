/- The abstract machine: two neighbouring operations that do not meet may change places. Data alone. -/
import Derived.Test.YtabkianhbgpfgaaAmSim
namespace Go.Am
open Go
set_option linter.unusedSimpArgs false
set_option linter.unusedVariables false

/-! ### slots and roots -/
theorem look_map {α β : Type} (f : α → β) (l : List (Nat × α)) (t : Nat) : look (l.map fun p => (p.1, f p.2)) t = (look l t).map f := by
  induction l with
  | nil => rfl
  | cons p r ih => obtain ⟨q, v⟩ := p; simp only [List.map_cons, look]; split <;> simp_all
theorem get_fin (s : St) (d : Option Nat) (v : SV) (k : Wk) (t : Nat) : (s.fin d v k).get t = if d = some t then v else trv k.tr (s.get t) := by
  have h0 : (look (trs k.tr s.env) t).getD .dead = trv k.tr (s.get t) := by
    rw [look_trs]
    unfold St.get
    cases look s.env t with
    | none => simp [trv_dead]
    | some u => rfl
  cases d with
  | none => simpa [St.fin, St.get] using h0
  | some d =>
    simp only [St.fin, St.get, look, Option.some.injEq] at h0 ⊢
    split
    · rfl
    · exact h0
theorem histTr_nil : ∀ (a : List Tr), histTr a [] = []
  | [] => rfl
  | x :: a => by
    have : x.hist [] = [] := by cases x <;> simp [Tr.hist]
    simp only [histTr, this, histTr_nil a]
theorem hist_add (hi : Hist) (tr : List Tr) (d : Option Nat) (v : SV) (t : Nat) : histOf (histAdd hi tr d v) t = if d = some t then v.srts else histTr tr (histOf hi t) := by
  have h0 : (look (hi.map fun p => (p.1, histTr tr p.2)) t).getD [] = histTr tr (histOf hi t) := by
    rw [look_map]
    unfold histOf
    cases look hi t with
    | none => simp [histTr_nil]
    | some u => rfl
  cases d with
  | none => simpa [histAdd, histOf] using h0
  | some d =>
    simp only [histAdd, histOf, look, Option.some.injEq] at h0 ⊢
    split
    · rfl
    · exact h0
theorem Tr.hist_sub (x : Tr) (l : List Root) : ∀ r ∈ l, r ∈ x.hist l := fun r hr => by
  cases x <;> simp only [Tr.hist] <;> first | exact hr | (split <;> simp [hr])
theorem histTr_sub : ∀ (a : List Tr) (l : List Root), ∀ r ∈ l, r ∈ histTr a l
  | [], _, r, hr => hr
  | x :: a, l, r, hr => histTr_sub a _ r (Tr.hist_sub x l r hr)
theorem Tr.hist_id (x : Tr) (l : List Root) (h : ∀ r ∈ l, r ∉ x.rts) : x.hist l = l := by
  cases x <;> simp only [Tr.hist] <;> try rfl
  rename_i a b
  rw [if_neg]
  intro hc
  simp only [List.any_eq_true, decide_eq_true_eq] at hc
  obtain ⟨r, hr, rfl⟩ := hc
  exact h _ hr (by simp [Tr.rts])
theorem histTr_id : ∀ (a : List Tr) (l : List Root), (∀ r ∈ l, r ∉ a.flatMap Tr.rts) → histTr a l = l
  | [], _, _ => rfl
  | x :: a, l, h => by
    simp only [histTr]
    rw [Tr.hist_id x l (fun r hr hx => h r hr (by simp [hx])), histTr_id a l (fun r hr hx => h r hr (by simp only [List.flatMap_cons, List.mem_append]; exact .inr hx))]
mutual
theorem Tr.rts_sub (x : Tr) : ∀ (v : SV) (L : List Root), (∀ r ∈ v.srts, r ∈ L) → ∀ r ∈ (x.sv v).srts, r ∈ x.hist L
  | .d y, L, h, r, hr => by cases x <;> simp [Tr.sv, SV.srts] at hr
  | .rp _ _, L, h, r, hr => by cases x <;> simp [Tr.sv, SV.srts] at hr
  | .clip _ _, L, h, r, hr => by cases x <;> simp [Tr.sv, SV.srts] at hr
  | .dead, L, h, r, hr => by cases x <;> simp [Tr.sv, SV.srts] at hr
  | .bor q p o n, L, h, r, hr => by
    have hq : q ∈ L := h q (by simp [SV.srts])
    cases x with
    | ren a b =>
      simp only [Tr.sv, Tr.hist] at hr ⊢
      split at hr
      · rename_i e
        simp only [SV.srts, List.mem_singleton] at hr
        subst hr
        rw [if_pos (by simp only [List.any_eq_true, decide_eq_true_eq]; exact ⟨q, hq, e⟩)]
        simp
      · simp only [SV.srts, List.mem_singleton] at hr
        subst hr
        split <;> simp [hq]
    | _ =>
      simp only [Tr.sv, Tr.hist] at hr ⊢
      (repeat' split at hr) <;> simp [SV.srts] at hr <;> (subst hr; exact hq)
  | .loc q p i o, L, h, r, hr => by
    have hq : q ∈ L := h q (by simp [SV.srts])
    cases x with
    | ren a b =>
      simp only [Tr.sv, Tr.hist] at hr ⊢
      split at hr
      · rename_i e
        simp only [SV.srts, List.mem_singleton] at hr
        subst hr
        rw [if_pos (by simp only [List.any_eq_true, decide_eq_true_eq]; exact ⟨q, hq, e⟩)]
        simp
      · simp only [SV.srts, List.mem_singleton] at hr
        subst hr
        split <;> simp [hq]
    | _ =>
      simp only [Tr.sv, Tr.hist] at hr ⊢
      (repeat' split at hr) <;> simp [SV.srts] at hr <;> (subst hr; exact hq)
  | .agg l, L, h, r, hr => by
    have : x.sv (.agg l) = .agg (Tr.svs x l) := by cases x <;> rfl
    rw [this] at hr
    exact Tr.rtss_sub x l L h r hr
  | .tup l, L, h, r, hr => by
    have : x.sv (.tup l) = .tup (Tr.svs x l) := by cases x <;> rfl
    rw [this] at hr
    exact Tr.rtss_sub x l L h r hr
theorem Tr.rtss_sub (x : Tr) : ∀ (l : List SV) (L : List Root), (∀ r ∈ SV.srtss l, r ∈ L) → ∀ r ∈ SV.srtss (Tr.svs x l), r ∈ x.hist L
  | [], L, h, r, hr => by simp [Tr.svs, SV.srtss] at hr
  | v :: l, L, h, r, hr => by
    simp only [Tr.svs, SV.srtss, List.mem_append] at h hr
    rcases hr with hr | hr
    · exact Tr.rts_sub x v L (fun q hq => h q (.inl hq)) r hr
    · exact Tr.rtss_sub x l L (fun q hq => h q (.inr hq)) r hr
end
theorem trv_rts_sub : ∀ (a : List Tr) (v : SV) (L : List Root), (∀ r ∈ v.srts, r ∈ L) → ∀ r ∈ (trv a v).srts, r ∈ histTr a L
  | [], _, _, h => h
  | x :: a, v, L, h => trv_rts_sub a _ _ (Tr.rts_sub x v L h)
mutual
theorem Tr.sv_id (x : Tr) : ∀ (v : SV), (∀ r ∈ v.srts, r ∉ x.rts) → (x.isKillO = true → v.srts.any Root.isO = false) → x.sv v = v
  | .d _, _, _ => by cases x <;> rfl
  | .rp _ _, _, _ => by cases x <;> rfl
  | .clip _ _, _, _ => by cases x <;> rfl
  | .dead, _, _ => by cases x <;> rfl
  | .bor q p o n, h, hk => by
    have hq := h q (by simp [SV.srts])
    cases x with
    | killO =>
      have : q.isO = false := by simpa [SV.srts] using hk rfl
      cases q with
      | l n j => rfl
      | o n => cases this
    | ren a b => simp only [Tr.rts, List.mem_cons, not_or] at hq; simp only [Tr.sv]; rw [if_neg hq.1]
    | kill r p' => simp only [Tr.rts, List.mem_singleton] at hq; simp only [Tr.sv]; rw [if_neg hq]
    | killN r m => simp only [Tr.rts, List.mem_singleton] at hq; simp only [Tr.sv]; rw [if_neg (fun e => hq e.1)]
    | frz r p' l => simp only [Tr.rts, List.mem_singleton] at hq; simp only [Tr.sv]; rw [if_neg hq]
  | .loc q p i o, h, hk => by
    have hq := h q (by simp [SV.srts])
    cases x with
    | killO =>
      have : q.isO = false := by simpa [SV.srts] using hk rfl
      cases q with
      | l n j => cases p <;> rfl
      | o n => cases this
    | ren a b => simp only [Tr.rts, List.mem_cons, not_or] at hq; simp only [Tr.sv]; rw [if_neg hq.1]
    | kill r p' => simp only [Tr.rts, List.mem_singleton] at hq; simp only [Tr.sv]; rw [if_neg hq]
    | killN r m => simp only [Tr.rts, List.mem_singleton] at hq; simp only [Tr.sv]; rw [if_neg (fun e => hq e.1)]
    | frz r p' l => simp only [Tr.rts, List.mem_singleton] at hq; simp only [Tr.sv]; rw [if_neg hq]
  | .agg l, h, hk => by
    have : x.sv (.agg l) = .agg (Tr.svs x l) := by cases x <;> rfl
    rw [this, Tr.svs_id x l h hk]
  | .tup l, h, hk => by
    have : x.sv (.tup l) = .tup (Tr.svs x l) := by cases x <;> rfl
    rw [this, Tr.svs_id x l h hk]
theorem Tr.svs_id (x : Tr) : ∀ (l : List SV), (∀ r ∈ SV.srtss l, r ∉ x.rts) → (x.isKillO = true → (SV.srtss l).any Root.isO = false) → Tr.svs x l = l
  | [], _, _ => rfl
  | v :: l, h, hk => by
    simp only [SV.srtss, List.mem_append] at h
    simp only [SV.srtss, List.any_append, Bool.or_eq_false_iff] at hk
    simp only [Tr.svs]
    rw [Tr.sv_id x v (fun r hr => h r (.inl hr)) (fun q => (hk q).1), Tr.svs_id x l (fun r hr => h r (.inr hr)) (fun q => (hk q).2)]
end
theorem trv_id : ∀ (a : List Tr) (v : SV), (∀ r ∈ v.srts, r ∉ a.flatMap Tr.rts) → (a.any Tr.isKillO = true → v.srts.any Root.isO = false) → trv a v = v
  | [], _, _, _ => rfl
  | x :: a, v, h, hk => by
    simp only [List.any_cons, Bool.or_eq_true] at hk
    simp only [trv]
    rw [Tr.sv_id x v (fun r hr hx => h r hr (by simp [hx])) (fun q => hk (.inl q)), trv_id a v (fun r hr hx => h r hr (by simp only [List.flatMap_cons, List.mem_append]; exact .inr hx)) (fun q => hk (.inr q))]

/-! ### an operation, by what it looks at -/
theorem ofCell_noO {v : Value} {x : D} (h : D.ofCell v = some x) : SV.rts (.d x) = [] := by
  unfold D.ofCell at h
  split at h <;> simp only [Option.some.injEq, reduceCtorEq] at h <;> subst h <;> rfl
theorem evalC_rts (x : Operand) : (evalC x).rts = [] := by
  unfold evalC
  split
  · rename_i v
    cases hv : D.ofVal v with
    | none => rfl
    | some x =>
      simp only
      unfold D.ofVal at hv
      split at hv
      · simp only [Option.map_eq_some_iff] at hv
        obtain ⟨l, _, rfl⟩ := hv
        rfl
      · exact ofCell_noO hv
  · rfl
  · rfl
theorem tmp_mem {op : Op} {t : Nat} (h : .tmp t ∈ op.operands) : t ∈ tmpsOf op := by
  simp only [tmpsOf, List.mem_filterMap]
  exact ⟨.tmp t, by simpa using h, rfl⟩

section
variable {P : Program} {call : CallF} {h : Hint} {ops : List Oper}

theorem stepE_congr {dst : Nat} {ty : TypeId} (op : Op) {σ τ : Operand → SV} (k : Wk) (hx : ∀ x ∈ op.operands, σ x = τ x) : stepE P call h dst ty op σ k = stepE P call h dst ty op τ k := by
  have hp := opE_congr (P := P) (h := h) (dst := dst) (ty := ty) op k hx
  unfold stepE
  cases op with
  | call c =>
    obtain ⟨callee, args, ats⟩ := c
    cases callee with
    | value f =>
      simp only
      rw [hx f (by simp [Op.operands, Call.operands]), map_congr_op (l := args.toList) fun x hm => hx x (by simp at hm; simp [Op.operands, Call.operands, hm])]
    | _ => exact hp
  | _ => exact hp
theorem val_congr {s s2 : St} {op : Op} (hx : ∀ t ∈ tmpsOf op, s2.get t = s.get t) : ∀ x ∈ op.operands, s2.val x = s.val x := fun x hm => by
  cases x with
  | tmp t => exact hx t (tmp_mem hm)
  | _ => rfl
theorem looks_tmp {o : Oper} {t : Nat} (ht : t ∈ tmpsOf o.op) : t ∈ looks ops o := List.mem_append_left _ ht
theorem wantE_congr {s s2 : St} {o : Oper} (hx : ∀ t ∈ looks ops o, s2.get t = s.get t) : wantE ops s2 o = wantE ops s o := by
  unfold wantE
  split
  · rfl
  · rename_i j want hg
    cases hj : (ops[j]?).bind (·.dst) with
    | none => rfl
    | some t => simp only; rw [hx t (by simp [looks, hg, hj])]
theorem evalO_congr {s s2 : St} {o : Oper} (hx : ∀ t ∈ looks ops o, s2.get t = s.get t) (hc : s2.ct = s.ct) (hH : s2.H = s.H) : evalO P call h ops o s2 = evalO P call h ops o s := by
  unfold evalO
  have hw : s2.wk = s.wk := by simp only [St.wk, hc, hH]
  rw [wantE_congr hx, hw, stepE_congr o.op s.wk (val_congr fun t ht => hx t (looks_tmp ht))]
theorem reads_plain {h : Hint} {dst : Nat} {op : Op} (hr : reads op = false) : effOf h dst op = false ∧ ∀ c, op ≠ .call c := by
  cases op <;> simp [reads] at hr <;> simp [effOf]
theorem stepE_plain {dst : Nat} {ty : TypeId} {op : Op} (hc : ∀ c, op = .call c → ∃ b, c.callee = .builtin b) (σ : Operand → SV) (k : Wk) : stepE P call h dst ty op σ k = opE P h dst ty op σ k := by
  unfold stepE
  cases op with
  | call c =>
    obtain ⟨b, hb⟩ := hc c rfl
    obtain ⟨callee, args, ats⟩ := c
    simp only at hb
    subst hb
    rfl
  | _ => rfl
/-- an operation on contents that agree where it looks -/
theorem evalO_sim {Z : Root → Prop} {b : Bool} {s s2 : St} {o : Oper} {w : Bool} {v : SV} {k : Wk} (sm : Sm Z b s.wk s2.wk) (hg : ∀ t ∈ looks ops o, s2.get t = s.get t) (hh : b = false → w = true → hrOf h (o.dst.getD 0) o.op = false) (ho : reads o.op = true → w = true → ∀ t ∈ looks ops o, Off Z (s.get t))
    (e : evalO P call h ops o s = some (w, v, k)) : ∃ k2, evalO P call h ops o s2 = some (w, v, k2) ∧ Par b s.wk s2.wk k k2 := by
  simp only [evalO, Option.bind_eq_some_iff] at e
  obtain ⟨w0, e0, e⟩ := e
  have hv := val_congr (s := s) (s2 := s2) (op := o.op) fun t ht => hg t (looks_tmp ht)
  split at e
  · rename_i hw0
    subst hw0
    simp only [Option.map_eq_some_iff, Prod.mk.injEq] at e
    obtain ⟨⟨v', k'⟩, e1, rfl, rfl, rfl⟩ := e
    have fin : ∀ k2, stepE P call h (o.dst.getD 0) o.type o.op s.val s2.wk = some (v', k2) → evalO P call h ops o s2 = some (true, v', k2) := fun k2 q => by
      simp only [evalO, wantE_congr hg, e0, Option.bind_some, if_true, stepE_congr o.op s2.wk hv, q, Option.map_some]
    cases hrd : reads o.op with
    | true =>
      obtain ⟨k2, h1, h2⟩ := stepE_sim sm (fun q => hh q rfl) (fun x hx => by
        cases x with
        | tmp t => exact ho hrd rfl t (looks_tmp (tmp_mem hx))
        | _ => intro r hr; simp only [St.val] at hr; rw [evalC_rts] at hr; cases hr) e1
      exact ⟨k2, fin k2 h1, h2⟩
    | false =>
      obtain ⟨q1, q2⟩ := reads_plain (h := h) (dst := o.dst.getD 0) hrd
      have hc : ∀ c, o.op = .call c → ∃ b, c.callee = .builtin b := fun c q => absurd q (q2 c)
      rw [stepE_plain hc] at e1
      obtain ⟨rfl, hr⟩ := opE_read hc q1 e1
      exact ⟨s2.wk, fin _ (by rw [stepE_plain hc]; exact hr s2.wk (fun q => by rw [hrd] at q; cases q) (fun q => by rw [hrd] at q; cases q)), Par.refl sm⟩
  · rename_i hw0
    simp only [Option.some.injEq, Prod.mk.injEq] at e
    obtain ⟨rfl, rfl, rfl⟩ := e
    have : w0 = false := by simpa using hw0
    exact ⟨s2.wk, by simp only [evalO, wantE_congr hg, e0, Option.bind_some, this, Bool.false_eq_true, if_false], Par.refl sm⟩
theorem evalO_grown {s : St} {o : Oper} {w : Bool} {v : SV} {k : Wk} (e : evalO P call h ops o s = some (w, v, k)) : Grown (hOf h (o.dst.getD 0) o.op = false ∧ ∀ t ∈ looks ops o, NoO (s.get t)) s.wk k ∧ ((w && effOf h (o.dst.getD 0) o.op) = false → k = s.wk) := by
  simp only [evalO, Option.bind_eq_some_iff] at e
  obtain ⟨w0, e0, e⟩ := e
  split at e
  · rename_i hw0
    subst hw0
    simp only [Option.map_eq_some_iff, Prod.mk.injEq] at e
    obtain ⟨⟨v', k'⟩, e1, rfl, _, rfl⟩ := e
    refine ⟨(stepE_grown e1).imp fun q => ⟨q.1, fun x hx => ?_⟩, fun he => ?_⟩
    · cases x with
      | tmp t => exact q.2 t (looks_tmp (tmp_mem hx))
      | _ => simp only [St.val]; rw [NoO, evalC_rts]; rfl
    · simp only [Bool.true_and] at he
      have hc : ∀ c, o.op = .call c → ∃ b, c.callee = .builtin b := fun c hcc => by
        obtain ⟨callee, args, ats⟩ := c
        rw [hcc] at he
        cases callee with
        | builtin b => exact ⟨b, rfl⟩
        | value f => simp [effOf] at he
        | invoke r m => simp [effOf] at he
      rw [stepE_plain hc] at e1
      exact (opE_read hc he e1).1
  · simp only [Option.some.injEq, Prod.mk.injEq] at e
    rw [← e.2.2]
    exact ⟨.refl _ _, fun _ => rfl⟩
end

/-! ### what is told of apart roots may be told in either order -/
mutual
theorem Tr.comm (x y : Tr) (hd : ∀ r ∈ x.rts, r ∉ y.rts) (hx : x.isKillO = true → y.rts.any Root.isO = false) (hy : y.isKillO = true → x.rts.any Root.isO = false) : ∀ v : SV, x.sv (y.sv v) = y.sv (x.sv v)
  | .d _ => by cases x <;> cases y <;> rfl
  | .rp _ _ => by cases x <;> cases y <;> rfl
  | .clip _ _ => by cases x <;> cases y <;> rfl
  | .dead => by cases x <;> cases y <;> rfl
  | .agg l => by
    have ex : ∀ l, x.sv (.agg l) = .agg (Tr.svs x l) := fun l => by cases x <;> rfl
    have ey : ∀ l, y.sv (.agg l) = .agg (Tr.svs y l) := fun l => by cases y <;> rfl
    rw [ex, ey, ex, ey, Tr.comms x y hd hx hy l]
  | .tup l => by
    have ex : ∀ l, x.sv (.tup l) = .tup (Tr.svs x l) := fun l => by cases x <;> rfl
    have ey : ∀ l, y.sv (.tup l) = .tup (Tr.svs y l) := fun l => by cases y <;> rfl
    rw [ex, ey, ex, ey, Tr.comms x y hd hx hy l]
  | .bor r p o n => by
    by_cases h1 : r ∈ x.rts
    · have h2 : r ∉ y.rts := hd r h1
      have ok : y.isKillO = true → r.isO = false := fun q => List.any_eq_false.1 (hy q) r h1 |> fun z => by simpa using z
      have e1 : y.sv (.bor r p o n) = .bor r p o n := Tr.sv_id y _ (by simpa [SV.srts] using h2) (fun q => by simpa [SV.srts] using ok q)
      rw [e1]
      refine (Tr.sv_id y _ (fun q hq => ?_) (fun hk => ?_)).symm
      · have := Tr.rts_sub x (.bor r p o n) x.rts (fun q hq => by simp [SV.srts] at hq; subst hq; exact h1) q hq
        cases x <;> simp only [Tr.hist] at this <;> first | exact hd q this | (split at this <;> first | exact hd q this | (rcases List.mem_cons.1 this with rfl | this <;> first | exact hd q this | exact hd _ (by simp [Tr.rts])))
      · have hno := hy hk
        refine List.any_eq_false.2 fun q hq => ?_
        have := Tr.rts_sub x (.bor r p o n) x.rts (fun q hq => by simp [SV.srts] at hq; subst hq; exact h1) q hq
        have hin : q ∈ x.rts := by
          cases x <;> simp only [Tr.hist] at this <;> first | exact this | (split at this <;> first | exact this | (rcases List.mem_cons.1 this with rfl | this <;> first | exact this | simp [Tr.rts]))
        exact List.any_eq_false.1 hno q hin
    · by_cases hk : x.isKillO = true
      · cases x with
        | killO =>
          cases r with
          | l a b =>
            have e1 : Tr.killO.sv (.bor (.l a b) p o n) = .bor (.l a b) p o n := rfl
            rw [e1]
            refine Tr.sv_id .killO _ (by simp [Tr.rts]) (fun _ => List.any_eq_false.2 fun q hq => ?_)
            cases y with
            | ren c d => simp only [Tr.sv] at hq; split at hq <;> simp [SV.srts] at hq <;> subst hq <;> simp [Root.isO]
            | _ => simp only [Tr.sv] at hq; (repeat' split at hq) <;> simp [SV.srts] at hq <;> subst hq <;> simp [Root.isO]
          | o m =>
            have hym : Root.o m ∉ y.rts := fun hq => by have := List.any_eq_false.1 (hx rfl) _ hq; simp [Root.isO] at this
            by_cases hyk : y.isKillO = true
            · cases y <;> simp [Tr.isKillO] at hyk; rfl
            · have e1 : y.sv (.bor (.o m) p o n) = .bor (.o m) p o n := Tr.sv_id y _ (by simpa [SV.srts] using hym) (fun q => absurd q hyk)
              rw [e1]
              have e2 : Tr.killO.sv (.bor (.o m) p o n) = .dead := rfl
              rw [e2]
              cases y <;> rfl
        | _ => simp [Tr.isKillO] at hk
      · have e1 : x.sv (.bor r p o n) = .bor r p o n := Tr.sv_id x _ (by simpa [SV.srts] using h1) (fun q => absurd q hk)
        rw [e1]
        refine Tr.sv_id x _ (fun q hq hin => ?_) (fun q => absurd q hk)
        have := Tr.rts_sub y (.bor r p o n) [r] (fun q hq => by simpa [SV.srts] using hq) q hq
        cases y with
        | ren c d =>
          simp only [Tr.hist] at this
          split at this
          · rcases List.mem_cons.1 this with rfl | this
            · exact hd _ hin (by simp [Tr.rts])
            · simp at this; subst this; exact h1 hin
          · simp at this; subst this; exact h1 hin
        | _ => simp only [Tr.hist, List.mem_singleton] at this; subst this; exact h1 hin
  | .loc r p i o => by
    by_cases h1 : r ∈ x.rts
    · have h2 : r ∉ y.rts := hd r h1
      have ok : y.isKillO = true → r.isO = false := fun q => List.any_eq_false.1 (hy q) r h1 |> fun z => by simpa using z
      have e1 : y.sv (.loc r p i o) = .loc r p i o := Tr.sv_id y _ (by simpa [SV.srts] using h2) (fun q => by simpa [SV.srts] using ok q)
      rw [e1]
      refine (Tr.sv_id y _ (fun q hq => ?_) (fun hk => ?_)).symm
      · have := Tr.rts_sub x (.loc r p i o) x.rts (fun q hq => by simp [SV.srts] at hq; subst hq; exact h1) q hq
        cases x <;> simp only [Tr.hist] at this <;> first | exact hd q this | (split at this <;> first | exact hd q this | (rcases List.mem_cons.1 this with rfl | this <;> first | exact hd q this | exact hd _ (by simp [Tr.rts])))
      · have hno := hy hk
        refine List.any_eq_false.2 fun q hq => ?_
        have := Tr.rts_sub x (.loc r p i o) x.rts (fun q hq => by simp [SV.srts] at hq; subst hq; exact h1) q hq
        have hin : q ∈ x.rts := by
          cases x <;> simp only [Tr.hist] at this <;> first | exact this | (split at this <;> first | exact this | (rcases List.mem_cons.1 this with rfl | this <;> first | exact this | simp [Tr.rts]))
        exact List.any_eq_false.1 hno q hin
    · by_cases hk : x.isKillO = true
      · cases x with
        | killO =>
          cases r with
          | l a b =>
            have e1 : Tr.killO.sv (.loc (.l a b) p i o) = .loc (.l a b) p i o := by cases p <;> rfl
            rw [e1]
            refine Tr.sv_id .killO _ (by simp [Tr.rts]) (fun _ => List.any_eq_false.2 fun q hq => ?_)
            cases y with
            | ren c d => simp only [Tr.sv] at hq; split at hq <;> simp [SV.srts] at hq <;> subst hq <;> simp [Root.isO]
            | _ => simp only [Tr.sv] at hq; (repeat' split at hq) <;> simp [SV.srts] at hq <;> subst hq <;> simp [Root.isO]
          | o m =>
            have hym : Root.o m ∉ y.rts := fun hq => by have := List.any_eq_false.1 (hx rfl) _ hq; simp [Root.isO] at this
            by_cases hyk : y.isKillO = true
            · cases y <;> simp [Tr.isKillO] at hyk; rfl
            · have e1 : y.sv (.loc (.o m) p i o) = .loc (.o m) p i o := Tr.sv_id y _ (by simpa [SV.srts] using hym) (fun q => absurd q hyk)
              rw [e1]
              cases p with
              | nil => exact e1.symm
              | cons a p =>
                have e2 : Tr.killO.sv (.loc (.o m) (a :: p) i o) = .dead := rfl
                rw [e2]
                cases y <;> rfl
        | _ => simp [Tr.isKillO] at hk
      · have e1 : x.sv (.loc r p i o) = .loc r p i o := Tr.sv_id x _ (by simpa [SV.srts] using h1) (fun q => absurd q hk)
        rw [e1]
        refine Tr.sv_id x _ (fun q hq hin => ?_) (fun q => absurd q hk)
        have := Tr.rts_sub y (.loc r p i o) [r] (fun q hq => by simpa [SV.srts] using hq) q hq
        cases y with
        | ren c d =>
          simp only [Tr.hist] at this
          split at this
          · rcases List.mem_cons.1 this with rfl | this
            · exact hd _ hin (by simp [Tr.rts])
            · simp at this; subst this; exact h1 hin
          · simp at this; subst this; exact h1 hin
        | _ => simp only [Tr.hist, List.mem_singleton] at this; subst this; exact h1 hin
theorem Tr.comms (x y : Tr) (hd : ∀ r ∈ x.rts, r ∉ y.rts) (hx : x.isKillO = true → y.rts.any Root.isO = false) (hy : y.isKillO = true → x.rts.any Root.isO = false) : ∀ l : List SV, Tr.svs x (Tr.svs y l) = Tr.svs y (Tr.svs x l)
  | [] => rfl
  | v :: l => by simp only [Tr.svs, Tr.comm x y hd hx hy v, Tr.comms x y hd hx hy l]
end
theorem trv_sv (x : Tr) : ∀ (a : List Tr) (v : SV), (∀ y ∈ a, (∀ r ∈ x.rts, r ∉ y.rts) ∧ (x.isKillO = true → y.rts.any Root.isO = false) ∧ (y.isKillO = true → x.rts.any Root.isO = false)) → x.sv (trv a v) = trv a (x.sv v)
  | [], _, _ => rfl
  | y :: a, v, h => by
    obtain ⟨h1, h2, h3⟩ := h y (by simp)
    simp only [trv]
    rw [trv_sv x a _ (fun z hz => h z (by simp [hz])), Tr.comm x y h1 h2 h3]
theorem trv_comm : ∀ (a b : List Tr) (v : SV), (∀ x ∈ a, ∀ y ∈ b, (∀ r ∈ x.rts, r ∉ y.rts) ∧ (x.isKillO = true → y.rts.any Root.isO = false) ∧ (y.isKillO = true → x.rts.any Root.isO = false)) → trv a (trv b v) = trv b (trv a v)
  | [], _, _, _ => rfl
  | x :: a, b, v, h => by
    simp only [trv]
    rw [trv_sv x b v (h x (by simp)), trv_comm a b _ (fun z hz => h z (by simp [hz]))]
theorem histTr_plain : ∀ (a : List Tr) (l : List Root), a.any Tr.isRen = false → histTr a l = l
  | [], _, _ => rfl
  | x :: a, l, h => by
    simp only [List.any_cons, Bool.or_eq_false_iff] at h
    have : x.hist l = l := by cases x <;> first | rfl | simp [Tr.isRen] at h
    simp only [histTr, this, histTr_plain a l h.2]
theorem histTr_comm (a b : List Tr) (l : List Root) (h : a.any Tr.isRen = false ∨ b.any Tr.isRen = false) : histTr a (histTr b l) = histTr b (histTr a l) := by
  rcases h with h | h
  · rw [histTr_plain a _ h, histTr_plain a _ h]
  · rw [histTr_plain b _ h, histTr_plain b _ h]
end Go.Am
