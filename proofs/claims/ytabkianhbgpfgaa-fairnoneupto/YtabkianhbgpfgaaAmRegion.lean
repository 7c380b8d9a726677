/- The abstract machine: a region against the machine's rule: one that keeps the text's order, and one that draws it. -/
import Derived.Test.YtabkianhbgpfgaaAmOrder
import Derived.Tactics
namespace Go.Am
open Go Go.RowKit
set_option linter.unusedSimpArgs false
set_option linter.unusedVariables false

/-! ### what goes before what -/
theorem befOf_fold (acc : List Nat) (x : Nat) : ∀ (l : List Edge) (m : Nat), (l.foldl (fun m e => if Region.binds .any e then m ||| 2 ^ e.on ||| (acc[e.on]?).getD 0 else m) m).testBit x = true →
    m.testBit x = true ∨ ∃ e ∈ l, Region.binds .any e = true ∧ (x = e.on ∨ ((acc[e.on]?).getD 0).testBit x = true)
  | [], m, h => .inl h
  | e :: l, m, h => by
    simp only [List.foldl_cons] at h
    rcases befOf_fold acc x l _ h with q | ⟨e', h1, h2⟩
    · split at q
      · rename_i hb
        simp only [Nat.testBit_or, Bool.or_eq_true, Nat.testBit_two_pow, decide_eq_true_eq] at q
        rcases q with (q | q) | q
        · exact .inl q
        · exact .inr ⟨e, by simp, hb, .inl q.symm⟩
        · exact .inr ⟨e, by simp, hb, .inr q⟩
      · exact .inl q
    · exact .inr ⟨e', by simp [h1], h2⟩
theorem befs_spec : ∀ (l : List Oper) (acc bs : List Nat), befs l acc = some bs → (∃ r, bs = acc ++ r) ∧ bs.length = acc.length + l.length ∧
    ∀ i o, l[i]? = some o → (∀ e ∈ o.after.toList, Region.binds .any e = true → e.on < acc.length + i) ∧ ∃ b, bs[acc.length + i]? = some b ∧ b = befOf (bs.take (acc.length + i)) o
  | [], acc, bs, h => by simp only [befs, Option.some.injEq] at h; subst h; exact ⟨⟨[], by simp⟩, by simp, by simp⟩
  | o :: l, acc, bs, h => by
    simp only [befs] at h
    split at h
    · rename_i hall
      obtain ⟨⟨r, hr⟩, h2, h3⟩ := befs_spec l _ bs h
      simp only [List.length_append, List.length_cons, List.length_nil] at h2 h3
      refine ⟨⟨befOf acc o :: r, by rw [hr]; simp⟩, by simp only [List.length_cons]; omega, fun i o' ho => ?_⟩
      cases i with
      | zero =>
        simp only [List.getElem?_cons_zero, Option.some.injEq] at ho
        subst ho
        refine ⟨fun e he hb => ?_, befOf acc o, by rw [hr]; simp, ?_⟩
        · have := List.all_eq_true.1 hall e he
          simpa [hb] using this
        · rw [hr]; simp
      | succ i =>
        simp only [List.getElem?_cons_succ] at ho
        obtain ⟨q1, q2⟩ := h3 i o' ho
        have e1 : acc.length + (0 + 1) + i = acc.length + (i + 1) := by omega
        rw [e1] at q1 q2
        exact ⟨q1, q2⟩
    · cases h
theorem checkRow_spec (b : Nat) (f : Fp) : ∀ (l : List Fp) (j : Nat), checkRow b f j l = true → ∀ i g, l[i]? = some g → b.testBit (j + i) = false → apartFp g f = true
  | [], j, _, i, g, hg, _ => by simp at hg
  | a :: l, j, h, i, g, hg, hb => by
    simp only [checkRow, Bool.and_eq_true, Bool.or_eq_true] at h
    cases i with
    | zero =>
      simp only [List.getElem?_cons_zero, Option.some.injEq] at hg
      subst hg
      rcases h.1 with q | q
      · rw [Nat.add_zero] at hb; rw [hb] at q; cases q
      · exact q
    | succ i =>
      simp only [List.getElem?_cons_succ] at hg
      exact checkRow_spec b f l (j + 1) h.2 i g hg (by rw [show j + 1 + i = j + (i + 1) by omega]; exact hb)
theorem checkF_spec (all : List Fp) : ∀ (bs : List Nat) (fs : List Fp) (i : Nat), checkF all i bs fs = true → ∀ j b f, bs[j]? = some b → fs[j]? = some f → checkRow b f 0 (all.take (i + j)) = true
  | [], fs, i, _, j, b, f, hb, _ => by simp at hb
  | b0 :: bs, [], i, _, j, b, f, _, hf => by simp at hf
  | b0 :: bs, f0 :: fs, i, h, j, b, f, hb, hf => by
    simp only [checkF, Bool.and_eq_true] at h
    cases j with
    | zero =>
      simp only [List.getElem?_cons_zero, Option.some.injEq] at hb hf
      subst hb; subst hf
      exact h.1
    | succ j =>
      simp only [List.getElem?_cons_succ] at hb hf
      have := checkF_spec all bs fs (i + 1) h.2 j b f hb hf
      rwa [show i + 1 + j = i + (j + 1) by omega] at this

section
variable {P : Program} {A : Av} {call : CallF} {hint : Hint}

theorem SR.drawn {s : St} {a : Act} {w : World} {n : Nat} (hs : SR A s a w) : SR A s a { w with drawn := n } := by
  obtain ⟨ρ, S, hd, h, hv⟩ := hs
  have ext : Ext (cxOf A s.H.length ρ S [] w) (cxOf A s.H.length ρ S [] { w with drawn := n }) := ⟨fun t b hp => ⟨hp, rfl⟩, Nat.le_refl _, fun _ _ => rfl⟩
  refine ⟨ρ, S, hd, ⟨fun r t ht => TC.ext ext _ _ _ (fun _ _ => rfl) (h.cont r t ht), h.gone, h.obj, fun n es he => ?_, h.dis, h.blk, by simp, ⟨h.fr.os, h.fr.tape, h.fr.output, h.fr.size, h.fr.kept⟩, h.Fold, h.rho⟩, fun t => ?_⟩
  · obtain ⟨m1, en, cl, m2, m3⟩ := h.map n es he
    exact ⟨m1, en, cl, m2, m3.imp (fun a _ b ⟨q1, y, q2, q3⟩ => ⟨VV.ext ext q1, y, q2, VV.ext ext q3⟩)⟩
  · exact SO.keep ext (fun r q => h.hold (k' := s.wk) (hd' := hd) _ rfl rfl (fun _ _ => rfl) q) (hv t)

theorem runOp_evalO {ops : List Oper} {o : Oper} {s : St} : runOp P call hint ops o s = (evalO P call hint ops o s).map fun (w, v, k) => s.fin o.dst v k := by
  unfold runOp evalO
  cases wantE ops s o with
  | none => rfl
  | some w =>
    cases w with
    | true => simp only [Option.bind_some, if_true, Option.map_map]; rfl
    | false => rfl
theorem runOpF_op {ops : List Oper} {o : Oper} {c d : Cf} {f : Fp} (e : runOpF P call hint ops o c = some (d, f)) : runOp P call hint ops o c.1 = some d.1 := by
  obtain ⟨w, v, k, e1, rfl, rfl⟩ := runOpF_some e
  rw [runOp_evalO, e1]; rfl
theorem runOpsF_len {ops : List Oper} : ∀ (l : List Oper) {c d : Cf} {fs : List Fp}, runOpsF P call hint ops l c = some (d, fs) → fs.length = l.length
  | [], c, d, fs, e => by simp only [runOpsF, Option.some.injEq, Prod.mk.injEq] at e; rw [← e.2]; rfl
  | o :: l, c, d, fs, e => by
    simp only [runOpsF, Option.bind_eq_some_iff, Option.map_eq_some_iff, Prod.mk.injEq] at e
    obtain ⟨⟨c1, f⟩, _, ⟨c2, fs'⟩, e2, _, rfl⟩ := e
    simp [runOpsF_len l e2]

/-- the text's order -/
theorem runOps_ok (hc : CallOK P call) {ops : Array Oper} {Q : Exit → Act → World → Prop} {D : List Deferred} {N : Nat} : ∀ (l : List Oper) {s s' : St} {a : Act} {w : World}, SR A s a w → a.defers = D → a.tmps.size = N → (∀ o ∈ l, ∀ d, o.dst = some d → d < N) → runOps P call hint ops.toList l s = some s' →
    (∀ a' w', SR A s' a' w' → a'.defers = D → a'.tmps.size = N → Q .normal a' w') → wpList P ops Q l a w
  | [], s, s', a, w, hs, h1, h2, hd, e, hQ => by
    simp only [runOps, Option.some.injEq] at e
    subst e
    exact hQ a w hs h1 h2
  | o :: l, s, s', a, w, hs, h1, h2, hd, e, hQ => by
    simp only [runOps, Option.bind_eq_some_iff] at e
    obtain ⟨s1, e1, e2⟩ := e
    refine wpList_step fun K hK => runOp_ok hc hs (fun d q => by rw [h2]; exact hd o (by simp) d q) e1 fun a' w' g1 g2 g3 => hK _ _ ?_
    exact runOps_ok hc l g1 (g2.trans h1) (g3.trans h2) (fun o' ho => hd o' (by simp [ho])) e2 hQ

theorem filterMap_len {α : Type} (l : List α) : ∀ (L : List Nat), (∀ i ∈ L, i < l.length) → (L.filterMap fun i => l[i]?).length = L.length
  | [], _ => rfl
  | i :: L, h => by
    have hi := h i (by simp)
    rw [List.filterMap_cons, List.getElem?_eq_getElem hi]
    simp [filterMap_len l L (fun j hj => h j (by simp [hj]))]

theorem setTrue (listed : Array Bool) (i j : Nat) (hi : i < listed.size) : (listed.setIfInBounds i true).getD j true = if j = i then true else listed.getD j true := by
  by_cases h : j = i
  · subst h; simp [hi]
  · rw [if_neg h]; simp [Array.getD_eq_getD_getElem?, Array.getElem?_setIfInBounds_ne (Ne.symm h)]
theorem getD_tf {listed : Array Bool} {i : Nat} (hi : i < listed.size) : listed.getD i false = listed.getD i true := by simp [Array.getD_eq_getD_getElem?, hi]

/-- any order -/
theorem wpAny_ok (hc : CallOK P call) {ops : Array Oper} {bs : List Nat} (hb : befs ops.toList [] = some bs) {Q : Exit → Act → World → Prop} {D : List Deferred} {N : Nat} (hd : ∀ o ∈ ops.toList, ∀ d, o.dst = some d → d < N) :
    ∀ (m : Nat) (listed : Array Bool) (fs : List Fp) (c c' : Cf) (a : Act) (w : World), listed.size = ops.size → ((List.range ops.size).filter fun i => !listed.getD i true).length = m →
      (∀ i b, listed.getD i false = true → bs[i]? = some b → ∀ x, b.testBit x = true → listed.getD x false = true) →
      Inv c → SR A c.1 a w → a.defers = D → a.tmps.size = N →
      runOpsF P call hint ops.toList (((List.range ops.size).filter fun i => !listed.getD i true).filterMap fun i => ops.toList[i]?) c = some (c', fs) →
      (((List.range ops.size).filter fun i => !listed.getD i true).zip fs).Pairwise (fun x y => ∀ b, bs[y.1]? = some b → b.testBit x.1 = false → apartFp x.2 y.2 = true) →
      (∀ c2 a' w', Eqv c' c2 → SR A c2.1 a' w' → a'.defers = D → a'.tmps.size = N → Q .normal a' w') → wpAny P .any ops Q m listed a w := by
  obtain ⟨_, hbl, hbs⟩ := befs_spec _ _ _ hb
  simp only [List.length_nil, Nat.zero_add, Array.length_toList] at hbl hbs
  have hbs' : ∀ i o, ops[i]? = some o → (∀ e ∈ o.after.toList, Region.binds .any e = true → e.on < i) ∧ ∃ b, bs[i]? = some b ∧ b = befOf (bs.take i) o := fun i o ho => hbs i o (by rw [Array.getElem?_toList]; exact ho)
  intro m
  induction m with
  | zero =>
    intro listed fs c c' a w hsz hm hcl hinv hs h1 h2 e hpw hQ
    have hnil := List.eq_nil_of_length_eq_zero hm
    rw [hnil] at e
    simp only [List.filterMap_nil, runOpsF, Option.some.injEq, Prod.mk.injEq] at e
    obtain ⟨rfl, _⟩ := e
    refine ⟨?_, hQ c a w (.refl _) hs h1 h2⟩
    refine List.eq_nil_iff_forall_not_mem.2 fun i hi => ?_
    simp only [Region.ready, List.mem_filter, Bool.and_eq_true] at hi
    have : i ∈ (List.range ops.size).filter fun i => !listed.getD i true := List.mem_filter.2 ⟨hi.1, hi.2.1⟩
    rw [hnil] at this
    cases this
  | succ m ih =>
    intro listed fs c c' a w hsz hm hcl hinv hs h1 h2 e hpw hQ
    refine ⟨fun hr => ?_, fun i hi => ?_⟩
    · -- the first that is left is ready
      exfalso
      generalize hL : ((List.range ops.size).filter fun i => !listed.getD i true) = L at hm
      cases L with
      | nil => cases hm
      | cons l0 L =>
        have hl0 : l0 ∈ (List.range ops.size).filter fun i => !listed.getD i true := by rw [hL]; simp
        obtain ⟨q1, q2⟩ := List.mem_filter.1 hl0
        have hlt : l0 < ops.size := by simpa using q1
        obtain ⟨o, ho⟩ : ∃ o, ops[l0]? = some o := ⟨_, Array.getElem?_eq_getElem hlt⟩
        have : l0 ∈ Region.ready .any ops listed := by
          simp only [Region.ready, List.mem_filter, Bool.and_eq_true]
          refine ⟨q1, q2, ?_⟩
          rw [ho]
          simp only [Option.map_some, Option.getD_some]
          rw [Array.all_eq_true']
          intro e he
          cases hbe : Region.binds .any e with
          | false => rfl
          | true =>
            have hon := (hbs' l0 o ho).1 e (by simpa using he) hbe
            simp only [Bool.not_true, Bool.false_or]
            rw [getD_tf (by omega)]
            cases hx : listed.getD e.on true with
            | true => rfl
            | false =>
              have hmem : e.on ∈ (List.range ops.size).filter fun i => !listed.getD i true := List.mem_filter.2 ⟨by simp; omega, by simp [hx]⟩
              have hsorted : ((List.range ops.size).filter fun i => !listed.getD i true).Pairwise (· < ·) := List.Pairwise.filter _ List.pairwise_lt_range
              rw [hL] at hmem hsorted
              rw [List.pairwise_cons] at hsorted
              rcases List.mem_cons.1 hmem with h | h
              · omega
              · have := hsorted.1 _ h; omega
        rw [hr] at this
        cases this
    · simp only [Region.ready, List.mem_filter, Bool.and_eq_true] at hi
      obtain ⟨q1, q2, q3⟩ := hi
      have hlt : i < ops.size := by simpa using q1
      obtain ⟨o, ho⟩ : ∃ o, ops[i]? = some o := ⟨_, Array.getElem?_eq_getElem hlt⟩
      rw [ho] at q3
      simp only [Option.map_some, Option.getD_some] at q3
      rw [Array.all_eq_true'] at q3
      have hun : listed.getD i true = false := by simpa using q2
      have hmem : i ∈ (List.range ops.size).filter fun i => !listed.getD i true := List.mem_filter.2 ⟨q1, q2⟩
      obtain ⟨LA, LB, hL⟩ := List.append_of_mem hmem
      have hall : ∀ x ∈ LA ++ i :: LB, x < ops.size ∧ listed.getD x true = false := fun x hx => by
        rw [← hL] at hx
        obtain ⟨a1, a2⟩ := List.mem_filter.1 hx
        exact ⟨by simpa using a1, by simpa using a2⟩
      have hsorted : (LA ++ i :: LB).Pairwise (· < ·) := by rw [← hL]; exact List.Pairwise.filter _ List.pairwise_lt_range
      have hnd : (LA ++ i :: LB).Nodup := hsorted.imp (fun h => Nat.ne_of_lt h)
      rw [hL] at e hpw hm
      have hoi : ops.toList[i]? = some o := by rw [Array.getElem?_toList]; exact ho
      have hlenA := filterMap_len ops.toList LA (fun x hx => by rw [Array.length_toList]; exact (hall x (by simp [hx])).1)
      have hlenB := filterMap_len ops.toList LB (fun x hx => by rw [Array.length_toList]; exact (hall x (by simp [hx])).1)
      rw [List.filterMap_append, List.filterMap_cons, hoi] at e
      simp only at e
      have hlen := runOpsF_len _ e
      simp only [List.length_append, List.length_cons, hlenA, hlenB] at hlen
      -- those ahead of it that are left need not go before it
      obtain ⟨hedge, b, hbi, hbo⟩ := hbs' i o ho
      have hfree : ∀ x ∈ LA, b.testBit x = false := fun x hx => by
        cases hbx : b.testBit x with
        | false => rfl
        | true =>
          exfalso
          have hux := (hall x (by simp [hx])).2
          rw [hbo] at hbx
          rcases befOf_fold _ x _ 0 hbx with q | ⟨ed, he, hbe, q⟩
          · simp at q
          · have hon := hedge ed he hbe
            have hlis : listed.getD ed.on false = true := by
              have := q3 ed (by simpa using he)
              simpa [hbe] using this
            rcases q with rfl | q
            · rw [getD_tf (by omega), hux] at hlis; cases hlis
            · rw [List.getElem?_take, if_pos hon] at q
              cases hbe2 : bs[ed.on]? with
              | none => rw [hbe2] at q; simp at q
              | some b2 =>
                rw [hbe2] at q
                have := hcl ed.on b2 hlis hbe2 x q
                rw [getD_tf (by have := (hall x (by simp [hx])).1; omega), hux] at this
                cases this
      -- the footprints, parted
      obtain ⟨fA, fi0, fB, hfs, hfA⟩ : ∃ fA fi fB, fs = fA ++ fi :: fB ∧ fA.length = LA.length := by
        have hlt' : LA.length < fs.length := by omega
        refine ⟨fs.take LA.length, fs[LA.length], fs.drop (LA.length + 1), ?_, by simp; omega⟩
        rw [List.getElem_cons_drop]
        exact (List.take_append_drop _ _).symm
      subst hfs
      rw [List.zip_append (by omega), List.zip_cons_cons] at hpw
      obtain ⟨c1, d, fi, g1, g2, g3, g4⟩ := front _ o _ hinv e (fun fi hfi f hf => by
        rw [hlenA, ← hfA] at hfi hf
        simp only [List.getElem?_append_right (Nat.le_refl _), Nat.sub_self, List.getElem?_cons_zero, Option.some.injEq] at hfi
        subst hfi
        rw [List.take_left'] at hf
        · obtain ⟨p, hp, rfl⟩ := List.getElem_of_mem hf
          have hz : (LA[p]'(by omega), fA[p]) ∈ LA.zip fA := List.mem_iff_getElem.2 ⟨p, by simp; omega, by simp⟩
          exact (List.pairwise_append.1 hpw).2.2 _ hz (i, fi0) (by simp) b hbi (hfree _ (by simp))
        · rfl)
      rw [hlenA, ← hfA] at g1 g3
      simp only [List.getElem?_append_right (Nat.le_refl _), Nat.sub_self, List.getElem?_cons_zero, Option.some.injEq] at g1
      subst g1
      have e3 : (fA ++ fi0 :: fB).take fA.length ++ (fA ++ fi0 :: fB).drop (fA.length + 1) = fA ++ fB := by simp
      rw [e3] at g3
      -- what is left behind it
      have hset : ∀ x, (listed.setIfInBounds i true).getD x true = if x = i then true else listed.getD x true := fun x => setTrue listed i x (by omega)
      have hL2 : ((List.range ops.size).filter fun x => !(listed.setIfInBounds i true).getD x true) = LA ++ LB := by
        have e1 : ((List.range ops.size).filter fun x => !(listed.setIfInBounds i true).getD x true) = ((List.range ops.size).filter fun x => !listed.getD x true).filter fun x => decide (x ≠ i) := by
          rw [List.filter_filter]
          refine List.filter_congr fun x _ => ?_
          rw [hset]
          by_cases hx : x = i
          · simp [hx]
          · simp [hx]
        rw [e1, hL, List.filter_append, List.filter_cons]
        have n1 := List.nodup_append.1 hnd
        rw [List.filter_eq_self.2 (fun x hx => by
          simp only [decide_eq_true_eq]
          exact fun h => n1.2.2 x hx i (by simp) h), List.filter_eq_self.2 (fun x hx => by
          simp only [decide_eq_true_eq]
          intro h
          subst h
          exact (List.nodup_cons.1 n1.2.1).1 hx)]
        simp
      unfold wpOp
      rw [ho]
      simp only
      have main := runOp_ok (Q := Q) hc hs (fun d q => by rw [h2]; exact hd o (List.mem_of_getElem? hoi) d q) (runOpF_op g2) (K := wpAny P .any ops Q m (listed.setIfInBounds i true)) (fun a' w' k1 k2 k3 => by
        refine ih (listed.setIfInBounds i true) (fA ++ fB) c1 d a' w' (by simpa using hsz) ?_ (fun j bj hj hbj x hx => ?_) (hinv.step g2) k1 (k2.trans h1) (k3.trans h2) ?_ ?_ (fun c2 a2 w2 p1 => hQ c2 a2 w2 (g4.trans p1))
        · rw [hL2]; simp only [List.length_append, List.length_cons] at hm ⊢; omega
        · have hjs : j < (listed.setIfInBounds i true).size := by
            rcases Nat.lt_or_ge j (listed.setIfInBounds i true).size with q | q
            · exact q
            · simp [Array.getD_eq_getD_getElem?, Array.getElem?_eq_none q] at hj
          have old : ∀ y, listed.getD y false = true → (listed.setIfInBounds i true).getD y false = true := fun y hy => by
            have hys : y < listed.size := by
              rcases Nat.lt_or_ge y listed.size with q | q
              · exact q
              · simp [Array.getD_eq_getD_getElem?, Array.getElem?_eq_none q] at hy
            rw [getD_tf (by simpa using hys), hset]
            by_cases hyi : y = i
            · rw [if_pos hyi]
            · rw [if_neg hyi]; exact (getD_tf hys).symm.trans hy
          by_cases hji : j = i
          · subst hji
            rw [hbi] at hbj
            simp only [Option.some.injEq] at hbj
            subst hbj
            rw [hbo] at hx
            rcases befOf_fold _ x _ 0 hx with q | ⟨ed, he, hbe, q⟩
            · simp at q
            · have hlis : listed.getD ed.on false = true := by
                have := q3 ed (by simpa using he)
                simpa [hbe] using this
              rcases q with rfl | q
              · exact old _ hlis
              · rw [List.getElem?_take, if_pos (hedge ed he hbe)] at q
                cases hbe2 : bs[ed.on]? with
                | none => rw [hbe2] at q; simp at q
                | some b2 =>
                  rw [hbe2] at q
                  exact old _ (hcl ed.on b2 hlis hbe2 x q)
          · rw [getD_tf hjs, hset, if_neg hji] at hj
            have hjs' : j < listed.size := by simpa using hjs
            rw [← getD_tf hjs'] at hj
            exact old _ (hcl j bj hj hbj x hx)
        · rw [hL2, List.filterMap_append]; exact g3
        · rw [hL2, List.zip_append (by omega)]
          refine hpw.sublist ?_
          exact List.Sublist.append (List.Sublist.refl _) (List.sublist_cons_self _ _))
      split
      · rename_i hw
        rw [if_pos hw] at main
        exact .inl main
      · rename_i hw
        rw [if_neg hw] at main
        exact main

theorem Inv.start (s : St) : Inv (s, hist0 s) := fun t r hr => by
  have : histOf (hist0 s) t = (s.get t).srts := by
    simp only [histOf, hist0, St.get, look_map]
    cases look s.env t with
    | none => rfl
    | some u => rfl
  rw [this]; exact hr

/-- a region that draws its order -/
theorem region_any (hc : CallOK P call) (hm : P.follows .mixedOrders = true) {id : Nat} {ops : Array Oper} {Q : Exit → Act → World → Prop} {s : St} {c' : Cf} {fs : List Fp} {a : Act} {w : World} (hs : SR A s a w) (hd : ∀ o ∈ ops.toList, ∀ d, o.dst = some d → d < a.tmps.size)
    (e : runOpsF P call hint ops.toList ops.toList (s, hist0 s) = some (c', fs)) (hk : checkR ops.toList fs = true)
    (hQ : ∀ c2 a' w', Eqv c' c2 → SR A c2.1 a' w' → a'.defers = a.defers → a'.tmps.size = a.tmps.size → Q .normal a' w') : (Code.region id ops true).wp P Q a w := by
  unfold checkR at hk
  split at hk
  · rename_i bs hb
    have hbl := (befs_spec _ _ _ hb).2.1
    simp only [List.length_nil, Nat.zero_add, Array.length_toList] at hbl
    have hlen := runOpsF_len _ e
    rw [Array.length_toList] at hlen
    have hall : ((List.range ops.size).filter fun i => !(Array.replicate ops.size false).getD i true) = List.range ops.size := by
      refine List.filter_eq_self.2 fun x hx => ?_
      have : x < ops.size := by simpa using hx
      simp [Array.getD_eq_getD_getElem?, this]
    have hfm : (List.range ops.size).filterMap (fun i => ops.toList[i]?) = ops.toList := by
      have : ∀ (l pre : List Oper), (List.range' pre.length l.length).filterMap (fun i => (pre ++ l)[i]?) = l := fun l => by
        induction l with
        | nil => intro pre; rfl
        | cons x l ih =>
          intro pre
          rw [List.length_cons, List.range'_succ, List.filterMap_cons]
          have e1 : (pre ++ x :: l)[pre.length]? = some x := by simp
          rw [e1]
          have := ih (pre ++ [x])
          simp only [List.length_append, List.length_singleton, List.append_assoc, List.singleton_append] at this
          simp only [this]
      have := this ops.toList []
      rw [List.length_nil, ← List.range_eq_range', Array.length_toList] at this
      exact this
    refine wp_region_any hm (wpAny_ok (hint := hint) (D := a.defers) (N := a.tmps.size) hc hb hd ops.size _ fs (s, hist0 s) c' a _ (by simp) (by rw [hall]; simp) (fun i b hi => ?_) (Inv.start s) hs.drawn rfl rfl ?_ ?_ hQ)
    · exfalso
      by_cases hlt : i < ops.size
      · simp [Array.getD_eq_getD_getElem?, hlt] at hi
      · simp [Array.getD_eq_getD_getElem?, hlt] at hi
    · rw [hall, hfm]; exact e
    · rw [hall, List.pairwise_iff_getElem]
      intro i j hi hj hij b hbj hbf
      simp only [List.getElem_zip, List.getElem_range] at hbj hbf ⊢
      simp only [List.length_zip, List.length_range, hlen, Nat.min_self] at hi hj
      have := checkF_spec fs bs fs 0 hk j b (fs[j]'(by omega)) hbj (List.getElem?_eq_getElem _)
      exact checkRow_spec b _ _ 0 this i _ (by rw [Nat.zero_add, List.getElem?_take, if_pos hij]; exact List.getElem?_eq_getElem _) (by simpa using hbf)
  · cases hk
end
end Go.Am
