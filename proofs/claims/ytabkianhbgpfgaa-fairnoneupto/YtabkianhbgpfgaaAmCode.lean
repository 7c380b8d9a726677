/- The abstract machine: code, loops, whole functions: what the abstract machine answers, the machine does. -/
import Derived.Test.YtabkianhbgpfgaaAmRegion
import Derived.LoopN
import Derived.Scope
namespace Go.Am
open Go Go.RowKit
set_option linter.unusedSimpArgs false
set_option linter.unusedVariables false

def Ex.exit' : Ex → Exit
  | .normal => .normal
  | .exit id => .exit id
  | .ret => .ret

section
variable {P : Program} {A : Av} {call : CallF} {hint : Hint}

theorem prune_eqv {c c' : Cf} (q : Eqv c c') (live : List Nat) : prune live c'.1 = prune live c.1 := by
  have : (live.map fun t => (t, c'.1.get t)) = live.map fun t => (t, c.1.get t) := List.map_congr_left fun t _ => by rw [q.get]
  have hp : ∀ l, pick c'.1.ct l = pick c.1.ct l := fun l => by
    induction l with
    | nil => rfl
    | cons x l ih => simp only [pick, q.ct, ih]
  simp only [Go.Am.prune, this, hp, q.H]
theorem opsOk_spec {n : Nat} {ops : Array Oper} (h : opsOk n ops = true) : ∀ o ∈ ops.toList, ∀ d, o.dst = some d → d < n := fun o ho d hd => by
  have := List.all_eq_true.1 h o ho
  rw [hd] at this
  simpa using this

theorem region_text (hc : CallOK P call) {id : Nat} {ops : Array Oper} {Q : Exit → Act → World → Prop} {s s' : St} {a : Act} {w : World} (hs : SR A s a w) (hd : ∀ o ∈ ops.toList, ∀ d, o.dst = some d → d < a.tmps.size)
    (e : runOps P call hint ops.toList ops.toList s = some s') (hQ : ∀ a' w', SR A s' a' w' → a'.defers = a.defers → a'.tmps.size = a.tmps.size → Q .normal a' w') : (Code.region id ops false).wp P Q a w :=
  wp_region (by rw [List.range_eq_range', ← Array.length_toList, wpOps_eq_wpList ops.toList 0 (by simp)]; exact runOps_ok (hint := hint) hc ops.toList hs rfl rfl hd e hQ)

theorem codeN_ok (hc : CallOK P call) (hm : P.follows .mixedOrders = true) (fuel : Nat) : ∀ (c : Code) {s s' : St} {ex : Ex} {a : Act} {w : World} {Q : Exit → Act → World → Prop}, codeN P call hint fuel c s = some (ex, s') → SR A s a w → codeOk a.tmps.size c = true →
    (∀ a' w', SR A s' a' w' → a'.defers = a.defers → a'.tmps.size = a.tmps.size → Q ex.exit' a' w') → c.wp P Q a w
  | .skip, s, s', ex, a, w, Q, e, hs, hk, hQ => by
    simp only [codeN, Option.some.injEq, Prod.mk.injEq] at e
    obtain ⟨rfl, rfl⟩ := e
    exact wp_skip (hQ a w hs rfl rfl)
  | .label l, s, s', ex, a, w, Q, e, hs, hk, hQ => by
    simp only [codeN, Option.some.injEq, Prod.mk.injEq] at e
    obtain ⟨rfl, rfl⟩ := e
    exact wp_label (hQ a w hs rfl rfl)
  | .ret, s, s', ex, a, w, Q, e, hs, hk, hQ => by
    simp only [codeN, Option.some.injEq, Prod.mk.injEq] at e
    obtain ⟨rfl, rfl⟩ := e
    exact wp_ret (hQ a w hs rfl rfl)
  | .exit id, s, s', ex, a, w, Q, e, hs, hk, hQ => by
    simp only [codeN, Option.some.injEq, Prod.mk.injEq] at e
    obtain ⟨rfl, rfl⟩ := e
    exact wp_exit (hQ a w hs rfl rfl)
  | .region id ops dr, s, s', ex, a, w, Q, e, hs, hk, hQ => by
    simp only [codeOk] at hk
    simp only [codeN] at e
    cases dr with
    | true =>
      simp only [if_true, Option.bind_eq_some_iff] at e
      obtain ⟨⟨c', fs⟩, e1, e⟩ := e
      simp only at e
      split at e
      · rename_i hck
        simp only [Option.some.injEq, Prod.mk.injEq] at e
        obtain ⟨rfl, rfl⟩ := e
        refine region_any hc hm hs (opsOk_spec hk) e1 hck fun c2 a' w' q1 q2 q3 q4 => hQ a' w' ?_ q3 q4
        rw [← prune_eqv q1]
        exact q2.prune _
      · cases e
    | false =>
      simp only [Bool.false_eq_true, if_false, Option.map_eq_some_iff, Prod.mk.injEq] at e
      obtain ⟨s1, e1, rfl, rfl⟩ := e
      exact region_text hc hs (opsOk_spec hk) e1 fun a' w' q2 q3 q4 => hQ a' w' (q2.prune _) q3 q4
  | .seq x y, s, s', ex, a, w, Q, e, hs, hk, hQ => by
    simp only [codeOk, Bool.and_eq_true] at hk
    simp only [codeN, Option.bind_eq_some_iff] at e
    obtain ⟨⟨ex1, s1⟩, e1, e2⟩ := e
    refine wp_seq (codeN_ok hc hm fuel x e1 hs hk.1 fun a' w' g1 g2 g3 => ?_)
    simp only at e2
    split at e2
    · refine codeN_ok hc hm fuel y e2 g1 (by rw [g3]; exact hk.2) fun a2 w2 p1 p2 p3 => hQ a2 w2 p1 (p2.trans g2) (p3.trans g3)
    · rename_i ex0 hne
      simp only [Option.some.injEq, Prod.mk.injEq] at e2
      obtain ⟨rfl, rfl⟩ := e2
      cases ex1 with
      | normal => exact absurd rfl hne
      | exit id => exact hQ a' w' g1 g2 g3
      | ret => exact hQ a' w' g1 g2 g3
  | .cond c x y, s, s', ex, a, w, Q, e, hs, hk, hQ => by
    simp only [codeOk, Bool.and_eq_true] at hk
    simp only [codeN] at e
    have hs0 := hs
    obtain ⟨ρ, S, hd, h, hv⟩ := hs0
    have hcv := SR.val hv c
    split at e
    · rename_i t ht
      rw [ht] at hcv
      refine wp_cond (VV.of_bool hcv) ?_
      cases t with
      | true => exact codeN_ok hc hm fuel x e hs hk.1 hQ
      | false => exact codeN_ok hc hm fuel y e hs hk.2 hQ
    · cases e
  | .block id c, s, s', ex, a, w, Q, e, hs, hk, hQ => by
    simp only [codeOk] at hk
    simp only [codeN, Option.map_eq_some_iff, Prod.mk.injEq] at e
    obtain ⟨⟨ex1, s1⟩, e1, e2, rfl⟩ := e
    refine wp_block (codeN_ok hc hm fuel c e1 hs hk fun a' w' g1 g2 g3 => ?_)
    have := hQ a' w' g1 g2 g3
    simp only at e2
    cases ex1 with
    | normal => simp at e2; subst e2; exact this
    | ret => simp at e2; subst e2; exact this
    | exit id' =>
      simp only [Ex.exit', Exit.inBlock]
      by_cases hid : id' = id
      · subst hid; rw [if_pos rfl] at e2 ⊢; subst e2; exact this
      · rw [if_neg hid]; rw [if_neg (by simp [hid])] at e2; subst e2; exact this
  | .loop c, s, s', ex, a, w, Q, e, hs, hk, hQ => by
    simp only [codeOk] at hk
    simp only [codeN] at e
    refine wp_loop_rounds fuel ?_
    have key : ∀ (n : Nat) (s : St) (a1 : Act) (w1 : World), loopN (codeN P call hint fuel c) n s = some (ex, s') → SR A s a1 w1 → a1.defers = a.defers → a1.tmps.size = a.tmps.size → Code.rounds P c Q n a1 w1 := by
      intro n
      induction n with
      | zero => intro s a1 w1 e; cases e
      | succ n ih =>
        intro s a1 w1 e hs h1 h2
        simp only [loopN, Option.bind_eq_some_iff] at e
        obtain ⟨⟨ex1, s1⟩, e1, e2⟩ := e
        rw [rounds_succ]
        refine codeN_ok hc hm fuel c e1 hs (by rw [h2]; exact hk) fun a' w' g1 g2 g3 => ?_
        simp only at e2
        split at e2
        · exact ih s1 a' w' e2 g1 (g2.trans h1) (g3.trans h2)
        · rename_i ex0 hne
          simp only [Option.some.injEq, Prod.mk.injEq] at e2
          obtain ⟨rfl, rfl⟩ := e2
          cases ex1 with
          | normal => exact absurd rfl hne
          | exit id => exact hQ a' w' g1 (g2.trans h1) (g3.trans h2)
          | ret => exact hQ a' w' g1 (g2.trans h1) (g3.trans h2)
    exact key fuel s a w e hs rfl rfl
  | .scope c, s, s', ex, a, w, Q, e, hs, hk, hQ => by
    simp only [codeOk] at hk
    simp only [codeN] at e
    refine wp_scope_straight (codeN_ok hc hm fuel c e hs hk fun a' w' g1 g2 g3 => ?_)
    have := hQ a' w' g1 g2 g3
    cases ex <;> exact this
  | .rangeFunc _ _ _ _, s, s', ex, a, w, Q, e, hs, hk, hQ => by simp [codeN] at e
  | .goto _, s, s', ex, a, w, Q, e, hs, hk, hQ => by simp [codeN] at e
  | .refuse _, s, s', ex, a, w, Q, e, hs, hk, hQ => by simp [codeN] at e

/-! ### a function's results -/
def retF (tmps : Array Value) : ResultVar → Sem Value
  | .tmp t => pure (tmps.getD t undef)
  | .cell p t => do loadVar t (← asAddr (tmps.getD p undef))
theorem retVals_ok {ρ : Nat → Nat} {S : Root → List Nat} {hd : Root → Value} {s : St} {a : Act} {w : World} (h : KR A ρ S hd [] s.wk [] w) (hv : ∀ t, SO (cxOf A s.H.length ρ S [] w) s.wk.get hd (s.get t) (a.tmps.getD t undef)) :
    ∀ (l : List ResultVar) (svs : List SV), retVals P s l = some svs → ∃ vs : List Value, (l.mapM (retF a.tmps)).run P w = .ok vs w ∧ All2 (fun u v => SO (cxOf A s.H.length ρ S [] w) s.wk.get hd u v) svs vs
  | [], svs, e => by
    simp only [retVals, Option.some.injEq] at e
    subst e
    exact ⟨[], by simp, rfl⟩
  | r :: l, svs, e => by
    simp only [retVals, Option.bind_eq_some_iff, Option.map_eq_some_iff] at e
    obtain ⟨u, e1, us, e2, rfl⟩ := e
    obtain ⟨vs, h1, h2⟩ := retVals_ok h hv l us e2
    have one : ∃ v, (retF a.tmps r).run P w = .ok v w ∧ SO (cxOf A s.H.length ρ S [] w) s.wk.get hd u v := by
      cases r with
      | tmp t =>
        simp only [retVal, Option.some.injEq] at e1
        subst e1
        exact ⟨_, rfl, hv t⟩
      | cell p t =>
        obtain ⟨val, q1, q2⟩ := loadE_ok h (hv p) e1
        exact ⟨val, run_sure q1, q2⟩
    obtain ⟨v, g1, g2⟩ := one
    refine ⟨v :: vs, ?_, v, vs, rfl, g2, h2⟩
    rw [List.mapM_cons]
    simp only [Sem.run_bind, g1, Result.andThen_ok, h1, Sem.run_pure]

theorem results_ok {fn : Func} {a : Act} {w : World} {vs : List Value} (h : (fn.results.toList.mapM (retF a.tmps)).run P w = .ok vs w) : (results fn a.tmps).run P w = .ok (tupV vs) w := by
  have e : results fn a.tmps = (do let vs ← fn.results.mapM (retF a.tmps); pure (if h : vs.size = 1 then vs[0] else .tuple vs)) := rfl
  rw [e, Array.mapM_eq_mapM_toList, map_eq_pure_bind]
  simp only [Sem.run_bind, h, Result.andThen_ok, Sem.run_pure]
  match vs with
  | [] => rfl
  | [x] => rfl
  | x :: y :: r => simp [tupV]

theorem frz_fits {b : Bool} {t : T} {x : D} {v : Value} (h : T.frz b t = some x) (hf : fitsT t v) : fits x v := by
  cases t with
  | d y => simp only [T.frz, Option.some.injEq] at h; subst h; exact fits_norm hf
  | own es => simp only [T.frz, Option.map_eq_some_iff] at h; obtain ⟨l, _, rfl⟩ := h; exact hf
  | agg cs => simp only [T.frz, Option.map_eq_some_iff] at h; obtain ⟨l, _, rfl⟩ := h; exact hf
  | dead => simp [T.frz] at h
theorem RetAll.frz {c c' : Cx} (hx : Ext c c') : ∀ (ts : List T) (vs : List Value) (M : List Nat) (xs : List D), T.frzs false ts = some xs → Pure c c' false M → RetAll c ts vs M → RetAll c' (xs.map T.d) vs []
  | [], vs, M, xs, e, _, h => by
    simp only [T.frzs, Option.some.injEq] at e
    subst e
    obtain ⟨rfl, rfl⟩ := h
    exact ⟨rfl, rfl⟩
  | t :: ts, vs, M, xs, e, hp, h => by
    simp only [T.frzs, Option.bind_eq_some_iff, Option.map_eq_some_iff] at e
    obtain ⟨x, e1, ys, e2, rfl⟩ := e
    obtain ⟨v, r, M1, M2, rfl, rfl, h3, h4, h5⟩ := h
    exact ⟨v, _, [], [], rfl, rfl, by simp only [TC]; exact ⟨trivial, T.frz_ok hx false t x _ M1 e1 hp.left h3⟩, frz_fits e1 h4, RetAll.frz hx ts r M2 ys e2 hp.right h5⟩

theorem RetAll.lend {c : Cx} (hm : ∀ b, c.pm false b → c.pm true b) : ∀ (xs : List D) (vs : List Value), RetAll c (xs.map T.d) vs [] → RetAll c ((D.lends xs).map T.d) vs []
  | [], vs, h => h
  | x :: xs, vs, h => by
    obtain ⟨v, r, M1, M2, rfl, hM, h3, h4, h5⟩ := h
    obtain ⟨rfl, rfl⟩ : M1 = [] ∧ M2 = [] := by simpa using hM.symm
    simp only [TC] at h3
    exact ⟨v, r, [], [], rfl, rfl, by simp only [TC]; exact ⟨trivial, VC.lend hm _ _ h3.2⟩, fits_lend h4, RetAll.lend hm xs r h5⟩
theorem RetAll.canon {c : Cx} (hm : ∀ b, c.pm false b → c.pm true b) {sn : Bool} {xs : List D} {vs : List Value} (h : RetAll c (xs.map T.d) vs []) : RetAll c ((canon sn xs).map T.d) vs [] := by
  unfold Go.Am.canon
  split
  · exact h
  · exact RetAll.lend hm xs vs h

theorem leave_ok {fn : Func} {s : St} {a : Act} {w : World} {ex : Ex} {own : Bool} {rs : List T} {H2 : List Ob} (hs : SR A s a w) (e : leave P own fn A.n0 (ex, s) = some (rs, H2)) :
    (∀ id, ex ≠ .exit id) ∧ ∃ v, (results fn a.tmps).run P w = .ok v w ∧ Over A H2 rs v w := by
  have hne : ∀ id, ex ≠ .exit id := fun id h => by subst h; simp [leave] at e
  refine ⟨hne, ?_⟩
  have e' : ((retVals P s fn.results.toList).bind fun vs => (absorbA vs s.wk).bind fun (ts, k) => (settle own ts).map fun ts => (ts, trunc A.n0 ts k.H)) = some (rs, H2) := by
    revert e hne
    cases ex with
    | exit id => intro e hne; exact absurd rfl (hne id)
    | _ => intro e _; exact e
  simp only [Option.bind_eq_some_iff, Option.map_eq_some_iff, Prod.mk.injEq] at e'
  obtain ⟨svs, e1, ⟨ts1, k⟩, e2, ts, e3, rfl, rfl⟩ := e'
  obtain ⟨ρ, S, hd, h, hv⟩ := hs
  obtain ⟨vs, h1, h2⟩ := retVals_ok h hv _ _ e1
  refine ⟨_, results_ok h1, ?_⟩
  have hk : KR A ρ S hd [] s.wk (svs.zip vs) w := h.withVals (fun p hp => by
    have : ∀ (svs : List SV) (vs : List Value), All2 (fun u v => SO (cxOf A s.H.length ρ S [] w) s.wk.get hd u v) svs vs → ∀ p ∈ svs.zip vs, SO (cxOf A s.H.length ρ S [] w) s.wk.get hd p.1 p.2 := by
      intro svs
      induction svs with
      | nil => intro vs _ p hp; simp at hp
      | cons u us ih =>
        intro vs ha p hp
        obtain ⟨v, r, rfl, q1, q2⟩ := ha
        rcases List.mem_cons.1 hp with rfl | hp
        · exact q1
        · exact ih r q2 p hp
    exact this svs vs h2 p hp)
  have hall : All2 (fun u v => (u, v) ∈ svs.zip vs) svs vs := by
    have : ∀ (svs : List SV) (vs : List Value) (L : List (SV × Value)), All2 (fun u v => SO (cxOf A s.H.length ρ S [] w) s.wk.get hd u v) svs vs → (∀ p ∈ svs.zip vs, p ∈ L) → All2 (fun u v => (u, v) ∈ L) svs vs := by
      intro svs
      induction svs with
      | nil => intro vs L ha _; exact ha
      | cons u us ih =>
        intro vs L ha hL
        obtain ⟨v, r, rfl, q1, q2⟩ := ha
        exact ⟨v, r, rfl, hL _ (by simp), ih r L q2 (fun p hp => hL p (by simp [hp]))⟩
    exact this svs vs _ h2 (fun p hp => hp)
  obtain ⟨S1, M1, g1, g2, g3, g4⟩ := absorbA_ok svs vs ts1 s.wk k S [] hk hall e2
  rw [List.append_nil] at g1 g2 g3
  have settled : ∃ M, KR A ρ S1 hd M k (svs.zip vs) w ∧ RetAll (cxOf A k.H.length ρ S1 M w) ts vs M := by
    unfold settle at e3
    split at e3
    · simp only [Option.some.injEq] at e3
      subst e3
      exact ⟨M1, g1, g3⟩
    · simp only [Option.map_eq_some_iff] at e3
      obtain ⟨xs, e3, rfl⟩ := e3
      obtain ⟨q1, q2⟩ := g1.letGo (fl' := []) (by simp) (by simp)
      refine ⟨[], q1, RetAll.canon (cxOf_mono _ _ _ _ _ _) (RetAll.frz q2 ts1 vs M1 xs e3 (fun g hg => ?_) g3)⟩
      have hb := g1.blk g (.inr hg)
      refine ⟨⟨fun ho => ?_, hb.2.1 _, hb.1⟩, rfl⟩
      rcases ho with ⟨r, ho⟩ | ho
      · exact g1.dis.oneF r g ho hg
      · simp at ho
  clear g1 g2 g3
  obtain ⟨M, g1, g3⟩ := settled
  have hn := g1.rho.1
  have full : ∃ S', KR A ρ S' hd M { ct := [], H := k.H } [] w ∧ RetAll (cxOf A k.H.length ρ S' M w) ts vs M := by
    obtain ⟨S', q1, q2⟩ := g1.cut (n2 := k.H.length) (Nat.le_refl _) hn (.inl rfl)
    rw [List.take_length] at q1
    exact ⟨S', q1, RetAll.ext q2 _ _ _ (fun _ _ => rfl) g3⟩
  unfold trunc
  split
  · obtain ⟨S', q1, q2⟩ := full
    exact ⟨ρ, S', hd, M, vs, q1, q2, rfl⟩
  · split
    · rename_i hl
      obtain ⟨hl1, hl2⟩ := hl
      obtain ⟨S', q1, q2⟩ := g1.cut (n2 := A.n0) hn (Nat.le_refl _) (.inr (fun ob hob => List.all_eq_true.1 hl2 ob hob))
      have hlen : (k.H.take A.n0).length = A.n0 := by simp; omega
      exact ⟨ρ, S', hd, M, vs, q1, by rw [hlen]; exact RetAll.ext q2 _ _ _ (fun _ _ => rfl) (RetAll.lo _ _ _ hl1 g3), rfl⟩
    · obtain ⟨S', q1, q2⟩ := full
      exact ⟨ρ, S', hd, M, vs, q1, q2, rfl⟩

/-! ### whole functions -/
theorem look_enter (ds : List D) (vs : List Value) (t : Nat) {c : Cx} {K : Root → Option T} {hd : Root → Value} (h : VVs c ds vs) : ∀ j, SO c K hd ((look ((ds.zipIdx j).map fun p => (p.2, SV.d p.1)) t).getD .dead) ((if j ≤ t then vs[t - j]? else none).getD undef) := by
  induction ds generalizing vs with
  | nil => intro j; trivial
  | cons d ds ih =>
    intro j
    simp only [VVs] at h
    obtain ⟨v, r, rfl, h1, h2, h3⟩ := h
    simp only [List.zipIdx_cons, List.map_cons, look]
    by_cases hj : j = t
    · subst hj
      rw [if_pos rfl, if_pos (Nat.le_refl _), Nat.sub_self]
      exact (⟨h1, h2⟩ : VV c d v)
    · rw [if_neg hj]
      have := ih r h3 (j + 1)
      by_cases hlt : j ≤ t
      · rw [if_pos (by omega)] at this
        rw [if_pos hlt, show t - j = (t - (j + 1)) + 1 by omega, List.getElem?_cons_succ]
        exact this
      · rw [if_neg (by omega)] at this
        rw [if_neg hlt]
        exact this
theorem enter_ok {ds : List D} {H : List Ob} {args : Array Value} {S : Root → List Nat} {hd : Root → Value} {n : Nat} (h : KR A A.ρ0 S hd [] { ct := [], H } [] A.w0) (ha : VVs (cxOf A H.length A.ρ0 S [] A.w0) ds args.toList) :
    SR A (enter ds H) { tmps := args ++ Array.replicate (n - args.size) undef, defers := [] } A.w0 := by
  refine ⟨A.ρ0, S, hd, h, fun t => ?_⟩
  have := look_enter (K := (enter ds H).wk.get) (hd := hd) ds args.toList t ha 0
  simp only [Nat.zero_le, if_true, Nat.sub_zero] at this
  have e2 : ((args ++ Array.replicate (n - args.size) undef).getD t undef) = (args.toList[t]?).getD undef := by
    rw [Array.getElem?_toList]
    by_cases hlt : t < args.size
    · rw [Array.getD_eq_getD_getElem?, Array.getElem?_append_left hlt]
    · rw [Array.getD_eq_getD_getElem?, Array.getElem?_append_right (by omega), Array.getElem?_eq_none (xs := args) (by omega)]
      by_cases h2 : t - args.size < n - args.size
      · rw [Array.getElem?_replicate, if_pos h2]; rfl
      · rw [Array.getElem?_replicate, if_neg h2]
  show SO _ _ _ ((look (ds.zipIdx.map fun p => (p.2, SV.d p.1)) t).getD .dead) _
  rw [e2]
  exact this

theorem VVs.len {c : Cx} : ∀ (l : List D) (vs : List Value), VVs c l vs → vs.length = l.length
  | [], vs, h => by simp only [VVs] at h; simp [h]
  | d :: ds, vs, h => by
    simp only [VVs] at h
    obtain ⟨v, r, rfl, _, _, h3⟩ := h
    simp [VVs.len ds r h3]

theorem opsOk_mono {n m : Nat} (h : n ≤ m) {ops : Array Oper} (hk : opsOk n ops = true) : opsOk m ops = true := by
  refine List.all_eq_true.2 fun o ho => ?_
  have := List.all_eq_true.1 hk o ho
  cases hd : o.dst with
  | none => rfl
  | some d =>
    simp only [hd, decide_eq_true_eq] at this ⊢
    exact Nat.lt_of_lt_of_le this h
theorem codeOk_mono {n m : Nat} (h : n ≤ m) : ∀ (c : Code), codeOk n c = true → codeOk m c = true
  | .region _ ops _, hk => opsOk_mono h hk
  | .seq a b, hk => by simp only [codeOk, Bool.and_eq_true] at hk ⊢; exact ⟨codeOk_mono h a hk.1, codeOk_mono h b hk.2⟩
  | .cond _ a b, hk => by simp only [codeOk, Bool.and_eq_true] at hk ⊢; exact ⟨codeOk_mono h a hk.1, codeOk_mono h b hk.2⟩
  | .block _ c, hk => codeOk_mono h c hk
  | .loop c, hk => codeOk_mono h c hk
  | .scope c, hk => codeOk_mono h c hk
  | .skip, _ => rfl
  | .rangeFunc _ _ _ _, _ => rfl
  | .exit _, _ => rfl
  | .label _, _ => rfl
  | .goto _, _ => rfl
  | .ret, _ => rfl
  | .refuse _, _ => rfl

/-- WHAT THE ABSTRACT MACHINE ANSWERS OF A CALL, THE MACHINE DOES -/
theorem callN_ok (hm : P.follows .mixedOrders = true) (hints : FuncId → Hint) : ∀ n, CallOK P (callN P hints n)
  | 0 => fun f ds H rs H2 e => by simp [callN] at e
  | n + 1 => fun f ds H rs H2 e => by
    have ih := callN_ok hm hints n
    simp only [callN, Option.bind_eq_some_iff] at e
    obtain ⟨fn, hf, c, hb, e⟩ := e
    split at e
    · rename_i hh
      obtain ⟨hl, hk, hnm⟩ := hh
      simp only [Option.bind_eq_some_iff] at e
      obtain ⟨⟨ex, s'⟩, e1, e2⟩ := e
      refine ⟨⟨fn, hf, by rw [hb]; rfl, hnm⟩, fun A S hd args hA hkr hargs => ?_⟩
      refine calls_of_wp hf hb (codeN_ok ih hm n c e1 (enter_ok hkr hargs) (codeOk_mono (by simp; omega) c hk) fun a' w' g1 g2 g3 => ?_)
      rw [← hA] at e2
      obtain ⟨q1, v, q2, q3⟩ := leave_ok g1 e2
      cases ex with
      | exit id => exact absurd rfl (q1 id)
      | normal => exact ⟨g2, v, q2, v, rfl, q3⟩
      | ret => exact ⟨g2, v, q2, v, rfl, q3⟩
    · cases e
end
end Go.Am
