/- The abstract machine: an operation leans on the roots of its operands alone: on contents that agree there it does the same. Data alone. -/
import Derived.Test.YtabkianhbgpfgaaAmEff
namespace Go.Am
open Go
set_option linter.unusedSimpArgs false
set_option linter.unusedVariables false

/-- contents that agree outside Z; the shared objects too, if b -/
structure Sm (Z : Root → Prop) (b : Bool) (k k' : Wk) : Prop where
  get : ∀ r, ¬ Z r → k'.get r = k.get r
  H : b = true → k'.H = k.H
  tr : k'.tr = k.tr
  nr : k.tr.any Tr.isRen = false
  obj : b = false → ∀ n, Z (.o n)
/-- the same was laid on both -/
structure Par (b : Bool) (k k' k1 k1' : Wk) : Prop where
  ct : ∃ pre, k1.ct = pre ++ k.ct ∧ k1'.ct = pre ++ k'.ct
  H : b = true → k1'.H = k1.H
  Hs : b = false → k1.H = k.H ∧ k1'.H = k'.H
  tr : k1'.tr = k1.tr

section
variable {Z : Root → Prop} {b : Bool} {k k' k1 k1' k2 k2' : Wk}
theorem Par.refl (s : Sm Z b k k') : Par b k k' k k' := ⟨⟨[], rfl, rfl⟩, s.H, fun _ => ⟨rfl, rfl⟩, s.tr⟩
theorem Par.trans (x : Par b k k' k1 k1') (y : Par b k1 k1' k2 k2') : Par b k k' k2 k2' := by
  obtain ⟨p, h1, h2⟩ := x.ct
  obtain ⟨q, h3, h4⟩ := y.ct
  exact ⟨⟨q ++ p, by rw [h3, h1, List.append_assoc], by rw [h4, h2, List.append_assoc]⟩, y.H, fun h => ⟨(y.Hs h).1.trans (x.Hs h).1, (y.Hs h).2.trans (x.Hs h).2⟩, y.tr⟩
theorem lookR_app (p l : List ((Nat × Nat) × T)) (x : Nat × Nat) : lookR (p ++ l) x = (lookR p x).or (lookR l x) := by
  induction p with
  | nil => simp [lookR]
  | cons a p ih => obtain ⟨y, t⟩ := a; simp only [List.cons_append, lookR]; split <;> simp [ih]
theorem Sm.next (s : Sm Z b k k') (p : Par b k k' k1 k1') (hn : k1.tr.any Tr.isRen = false) : Sm Z b k1 k1' := by
  obtain ⟨pre, h1, h2⟩ := p.ct
  refine ⟨fun r hr => ?_, p.H, p.tr, hn, s.obj⟩
  cases r with
  | l n j =>
    have := s.get _ hr
    simp only [Wk.get, Go.Am.cont] at this ⊢
    rw [h1, h2, lookR_app, lookR_app, this]
  | o n =>
    cases b with
    | true => simp only [Wk.get, Go.Am.cont, p.H rfl]
    | false => exact absurd (s.obj rfl n) hr
theorem Par.tell (p : Par b k k' k1 k1') (x : Tr) : Par b k k' (k1.tell x) (k1'.tell x) := ⟨p.ct, p.H, p.Hs, by simp [Wk.tell, p.tr]⟩
theorem Par.new (p : Par b k k' k1 k1') (n j : Nat) (t : T) : Par b k k' (k1.new n j t) (k1'.new n j t) := by
  obtain ⟨pre, h1, h2⟩ := p.ct
  exact ⟨⟨((n, j), t) :: pre, by simp [Wk.new, h1], by simp [Wk.new, h2]⟩, p.H, p.Hs, by simp [Wk.new, p.tr]⟩
theorem set_sim (s : Sm Z b k k') {r : Root} (hr : ¬ Z r) {t : T} (e : k.set r t = some k1) : ∃ k1', k'.set r t = some k1' ∧ Par b k k' k1 k1' ∧ k1.tr = k.tr := by
  cases r with
  | l n j =>
    simp only [Wk.set, Option.some.injEq] at e
    subst e
    exact ⟨_, rfl, ⟨⟨[((n, j), t)], rfl, rfl⟩, s.H, fun _ => ⟨rfl, rfl⟩, s.tr⟩, rfl⟩
  | o n =>
    cases b with
    | false => exact absurd (s.obj rfl n) hr
    | true =>
      simp only [Wk.set] at e ⊢
      split at e
      · simp only [Option.some.injEq] at e
        subst e
        exact ⟨_, rfl, ⟨⟨[], rfl, rfl⟩, fun _ => by simp [s.H rfl], by simp, s.tr⟩, rfl⟩
      · cases e

/-! ### roots of values behind what is told -/
mutual
theorem Tr.rts_le (x : Tr) (hx : x.isRen = false) : ∀ (v : SV), ∀ r ∈ (x.sv v).rts, r ∈ v.rts
  | .d y, r, hr => by cases x <;> exact hr
  | .rp _ _, r, hr => by cases x <;> exact hr
  | .clip _ _, r, hr => by cases x <;> exact hr
  | .dead, r, hr => by cases x <;> exact hr
  | .bor q p o m, r, hr => by
    cases x with
    | ren a b => simp [Tr.isRen] at hx
    | _ => simp only [Tr.sv] at hr; (repeat' split at hr) <;> simp [SV.rts] at hr ⊢ <;> exact hr
  | .loc q p i o, r, hr => by
    cases x with
    | ren a b => simp [Tr.isRen] at hx
    | _ => simp only [Tr.sv] at hr; (repeat' split at hr) <;> simp [SV.rts] at hr ⊢ <;> exact hr
  | .agg l, r, hr => by
    have e : x.sv (.agg l) = .agg (Tr.svs x l) := by cases x <;> rfl
    rw [e] at hr
    exact Tr.rtss_le x hx l r hr
  | .tup l, r, hr => by
    have e : x.sv (.tup l) = .tup (Tr.svs x l) := by cases x <;> rfl
    rw [e] at hr
    exact Tr.rtss_le x hx l r hr
theorem Tr.rtss_le (x : Tr) (hx : x.isRen = false) : ∀ (l : List SV), ∀ r ∈ SV.rtss (Tr.svs x l), r ∈ SV.rtss l
  | [], r, hr => hr
  | v :: l, r, hr => by
    simp only [Tr.svs, SV.rtss, List.mem_append] at hr ⊢
    rcases hr with hr | hr
    · exact .inl (Tr.rts_le x hx v r hr)
    · exact .inr (Tr.rtss_le x hx l r hr)
end
theorem trv_rts_le : ∀ (a : List Tr), a.any Tr.isRen = false → ∀ (v : SV), ∀ r ∈ (trv a v).rts, r ∈ v.rts
  | [], _, _, _, hr => hr
  | x :: a, h, v, r, hr => by
    simp only [List.any_cons, Bool.or_eq_false_iff] at h
    exact Tr.rts_le x h.1 v r (trv_rts_le a h.2 _ r hr)
/-- the value leans on nothing in Z -/
abbrev Off (Z : Root → Prop) (v : SV) : Prop := ∀ r ∈ v.rts, ¬ Z r
theorem Off.trv {v : SV} (h : Off Z v) {a : List Tr} (ha : a.any Tr.isRen = false) : Off Z (trv a v) := fun r hr => h r (trv_rts_le a ha v r hr)
theorem Off.bor {r : Root} {p : Path} {o l : Nat} (h : Off Z (.bor r p o l)) : ¬ Z r := h r (by simp [SV.rts])
theorem Off.loc {r : Root} {p : Path} {i o : Nat} (h : Off Z (.loc r p i o)) : ¬ Z r := h r (by simp [SV.rts])
theorem Off.asLoc {v : SV} (h : Off Z v) : Off Z (asLoc v) := by unfold Off; rw [asLoc_rts]; exact h
theorem Off.mem {l : List SV} (h : Off Z (.agg l)) {v : SV} (hv : v ∈ l) : Off Z v := fun r hr => h r (by
  show r ∈ SV.rtss l
  induction l with
  | nil => cases hv
  | cons a l ih =>
    simp only [SV.rtss, List.mem_append]
    rcases List.mem_cons.1 hv with rfl | hv
    · exact .inl hr
    · exact .inr (ih (fun r hr => h r (by show r ∈ SV.rtss (a :: l); simp only [SV.rtss, List.mem_append]; exact .inr hr)) hv))

/-- what one step gives -/
def Step1 (Z : Root → Prop) (b : Bool) (k k' k1 k1' : Wk) : Prop := Par b k k' k1 k1' ∧ k1.tr.any Tr.isRen = false
theorem Step1.refl (s : Sm Z b k k') : Step1 Z b k k' k k' := ⟨Par.refl s, s.nr⟩
theorem Step1.trans (x : Step1 Z b k k' k1 k1') (y : Step1 Z b k1 k1' k2 k2') : Step1 Z b k k' k2 k2' := ⟨x.1.trans y.1, y.2⟩
theorem Sm.step (s : Sm Z b k k') (x : Step1 Z b k k' k1 k1') : Sm Z b k1 k1' := s.next x.1 x.2
theorem Step1.tell (x : Step1 Z b k k' k1 k1') {t : Tr} (ht : t.isRen = false) : Step1 Z b k k' (k1.tell t) (k1'.tell t) := ⟨x.1.tell t, by simp [Wk.tell, x.2, ht]⟩
theorem Step1.new (x : Step1 Z b k k' k1 k1') (n j : Nat) (t : T) : Step1 Z b k k' (k1.new n j t) (k1'.new n j t) := ⟨x.1.new n j t, by simp [Wk.new, x.2, Tr.isRen]⟩
theorem setS (s : Sm Z b k k') {r : Root} (hr : ¬ Z r) {t : T} (e : k.set r t = some k1) : ∃ k1', k'.set r t = some k1' ∧ Step1 Z b k k' k1 k1' := by
  obtain ⟨k1', h1, h2, h3⟩ := set_sim s hr e
  exact ⟨k1', h1, h2, by rw [h3]; exact s.nr⟩

theorem absorb1_sim (s : Sm Z b k k') {nv : Nat} {v : SV} {t : T} (ho : Off Z v) (e : absorb1 nv v k = some (t, k1)) : ∃ k1', absorb1 nv v k' = some (t, k1') ∧ Step1 Z b k k' k1 k1' := by
  cases v with
  | d x => simp only [absorb1, Option.some.injEq, Prod.mk.injEq] at e ⊢; obtain ⟨rfl, rfl⟩ := e; exact ⟨k', ⟨rfl, rfl⟩, .refl s⟩
  | clip c l => simp only [absorb1, Option.some.injEq, Prod.mk.injEq] at e ⊢; obtain ⟨rfl, rfl⟩ := e; exact ⟨k', ⟨rfl, rfl⟩, .refl s⟩
  | bor r p off len =>
    simp only [absorb1, s.get r ho.bor, Option.bind_eq_some_iff] at e ⊢
    obtain ⟨c, hc, nd, hnd, e⟩ := e
    split at e
    · rename_i es
      split at e
      · split at e
        · rename_i n j hcond
          simp only [Option.map_eq_some_iff, Prod.mk.injEq] at e
          obtain ⟨k2, h1, rfl, rfl⟩ := e
          obtain ⟨k2', h2, h3⟩ := setS s ho.bor h1
          exact ⟨_, ⟨c, hc, _, hnd, by simp only; rw [if_pos hcond, h2]; rfl⟩, h3.tell rfl⟩
        · rename_i n j hcond
          simp only [Option.bind_eq_some_iff, Option.map_eq_some_iff, Prod.mk.injEq] at e
          obtain ⟨l, hl, k2, h1, rfl, rfl⟩ := e
          obtain ⟨k2', h2, h3⟩ := setS s ho.bor h1
          exact ⟨_, ⟨c, hc, _, hnd, by simp only; rw [if_neg hcond, hl]; simp only [Option.bind_some, h2, Option.map_some]⟩, h3.tell rfl⟩
      · rename_i r0 p0 hne
        simp only [Option.bind_eq_some_iff, Option.map_eq_some_iff, Prod.mk.injEq] at e
        obtain ⟨l, hl, c', hc', k2, h1, rfl, rfl⟩ := e
        obtain ⟨k2', h2, h3⟩ := setS s ho.bor h1
        refine ⟨_, ⟨c, hc, _, hnd, ?_⟩, h3.tell rfl⟩
        simp only [hl, Option.bind_some, hc', h2, Option.map_some]
    · cases e
  | _ => simp [absorb1] at e
theorem absorbs_sim {nv : Nat} : ∀ (l : List SV) {k k' k1 : Wk} {ts : List T}, Sm Z b k k' → (∀ v ∈ l, Off Z v) → absorbs nv l k = some (ts, k1) → ∃ k1', absorbs nv l k' = some (ts, k1') ∧ Step1 Z b k k' k1 k1'
  | [], k, k', k1, ts, s, _, e => by simp only [absorbs, Option.some.injEq, Prod.mk.injEq] at e ⊢; obtain ⟨rfl, rfl⟩ := e; exact ⟨k', ⟨rfl, rfl⟩, .refl s⟩
  | v :: l, k, k', k1, ts, s, ho, e => by
    simp only [absorbs, Option.bind_eq_some_iff, Option.map_eq_some_iff, Prod.mk.injEq] at e
    obtain ⟨⟨t, k2⟩, e1, ⟨ts', k3⟩, e2, rfl, rfl⟩ := e
    obtain ⟨k2', h1, h2⟩ := absorb1_sim s ((ho v (by simp)).trv s.nr) e1
    obtain ⟨k3', h3, h4⟩ := absorbs_sim l (s.step h2) (fun u hu => ho u (by simp [hu])) e2
    exact ⟨k3', by simp only [absorbs, s.tr, h1, Option.bind_some, h3, Option.map_some], h2.trans h4⟩
theorem absorb_sim (s : Sm Z b k k') {nv : Nat} {v : SV} {t : T} (ho : Off Z v) (e : absorb nv v k = some (t, k1)) : ∃ k1', absorb nv v k' = some (t, k1') ∧ Step1 Z b k k' k1 k1' := by
  by_cases hv : ∃ l, v = .agg l
  · obtain ⟨l, rfl⟩ := hv
    simp only [absorb, Option.map_eq_some_iff, Prod.mk.injEq] at e
    obtain ⟨⟨ts, k2⟩, e1, rfl, rfl⟩ := e
    obtain ⟨k2', h1, h2⟩ := absorbs_sim l s (fun v hv => ho.mem hv) e1
    exact ⟨k2', by simp only [absorb, h1, Option.map_some], h2⟩
  · have eq : ∀ k : Wk, absorb nv v k = absorb1 nv (trv k.tr v) k := fun k => by
      cases v <;> first | rfl | exact absurd ⟨_, rfl⟩ hv
    rw [eq] at e
    rw [eq, s.tr]
    exact absorb1_sim s (ho.trv s.nr) e
theorem absorbP_sim {nv : Nat} : ∀ (l : List (Nat × SV)) {k k' k1 : Wk} {ts : List (Nat × T)}, Sm Z b k k' → (∀ v ∈ l, Off Z v.2) → absorbP nv l k = some (ts, k1) → ∃ k1', absorbP nv l k' = some (ts, k1') ∧ Step1 Z b k k' k1 k1'
  | [], k, k', k1, ts, s, _, e => by simp only [absorbP, Option.some.injEq, Prod.mk.injEq] at e ⊢; obtain ⟨rfl, rfl⟩ := e; exact ⟨k', ⟨rfl, rfl⟩, .refl s⟩
  | (i, v) :: l, k, k', k1, ts, s, ho, e => by
    simp only [absorbP, Option.bind_eq_some_iff, Option.map_eq_some_iff, Prod.mk.injEq] at e
    obtain ⟨⟨t, k2⟩, e1, ⟨ts', k3⟩, e2, rfl, rfl⟩ := e
    obtain ⟨k2', h1, h2⟩ := absorb_sim s (ho (i, v) (by simp)) e1
    obtain ⟨k3', h3, h4⟩ := absorbP_sim l (s.step h2) (fun u hu => ho u (by simp [hu])) e2
    exact ⟨k3', by simp only [absorbP, h1, Option.bind_some, h3, Option.map_some], h2.trans h4⟩

variable {P : Program} {h : Hint} {dst : Nat} {ty : TypeId}
theorem storeE_sim (s : Sm Z b k k') {nv : Nat} {t : TypeId} {a v : SV} (ha : Off Z a) (hv : Off Z v) (e : storeE P nv t a v k = some k1) : ∃ k1', storeE P nv t a v k' = some k1' ∧ Step1 Z b k k' k1 k1' := by
  simp only [storeE, Option.bind_eq_some_iff] at e
  obtain ⟨⟨x, k2⟩, e1, e⟩ := e
  obtain ⟨k2', h1, h2⟩ := absorb_sim s hv e1
  have s2 := s.step h2
  simp only at e
  split at e
  · rename_i r p i off hl
    have hr : ¬ Z r := by
      have := (ha.trv s2.nr).asLoc
      rw [hl] at this
      exact this.loc
    split at e
    · rename_i hc
      simp only [Option.bind_eq_some_iff] at e
      obtain ⟨c, q1, nd, q2, e⟩ := e
      split at e
      · rename_i es
        simp only [Option.bind_eq_some_iff] at e
        obtain ⟨el, q3, e⟩ := e
        split at e
        · rename_i hlt
          simp only [Option.bind_eq_some_iff, Option.map_eq_some_iff] at e
          obtain ⟨c', q4, k3, q5, rfl⟩ := e
          obtain ⟨k3', h3, h4⟩ := setS s2 hr q5
          refine ⟨if isOwn el then k3'.tell (.killN r (p.length + 1)) else k3', ?_, ?_⟩
          · simp only [storeE, h1, Option.bind_some, s2.tr, hl]
            rw [if_pos hc, s2.get r hr, q1]
            simp only [Option.bind_some, q2, q3]
            rw [if_pos hlt, q4]
            simp only [Option.bind_some, h3, Option.map_some]
          · split
            · exact h2.trans (h4.tell rfl)
            · exact h2.trans h4
        · cases e
      · cases e
    · cases e
  · cases e
theorem newsE_sim (s : Sm Z b k k') {nv : Nat} {v : SV} {l : List T} (ho : Off Z v) (e : newsE nv v k = some (l, k1)) : ∃ k1', newsE nv v k' = some (l, k1') ∧ Step1 Z b k k' k1 k1' := by
  cases v with
  | d x => cases x <;> simp only [newsE, Option.some.injEq, Prod.mk.injEq, reduceCtorEq] at e ⊢ <;> (obtain ⟨rfl, rfl⟩ := e; exact ⟨k', ⟨rfl, rfl⟩, .refl s⟩)
  | clip c l => simp only [newsE, Option.some.injEq, Prod.mk.injEq] at e ⊢; obtain ⟨rfl, rfl⟩ := e; exact ⟨k', ⟨rfl, rfl⟩, .refl s⟩
  | bor r p off len =>
    simp only [newsE, s.get r ho.bor, Option.bind_eq_some_iff] at e ⊢
    obtain ⟨c, hc, nd, hnd, e⟩ := e
    split at e
    · split at e
      · rename_i es n j
        split at e
        · rename_i hcond
          simp only [Option.map_eq_some_iff, Prod.mk.injEq] at e
          obtain ⟨k2, h1, rfl, rfl⟩ := e
          obtain ⟨k2', h2, h3⟩ := setS s ho.bor h1
          exact ⟨_, ⟨c, hc, _, hnd, by simp only; rw [if_pos hcond, h2]; rfl⟩, h3.tell rfl⟩
        · rename_i hcond
          split at e
          · rename_i hp
            simp only [Option.some.injEq, Prod.mk.injEq] at e
            obtain ⟨rfl, rfl⟩ := e
            exact ⟨k', ⟨c, hc, _, hnd, by simp only; rw [if_neg hcond, if_pos hp]⟩, .refl s⟩
          · cases e
      · split at e
        · rename_i hp
          simp only [Option.some.injEq, Prod.mk.injEq] at e
          obtain ⟨rfl, rfl⟩ := e
          exact ⟨k', ⟨c, hc, _, hnd, by simp only; rw [if_pos hp]⟩, .refl s⟩
        · cases e
    · cases e
  | _ => simp [newsE] at e
theorem oldsE_sim (s : Sm Z b k k') {n : Nat} {news olds : List T} {v : SV} (ho : Off Z v) (e : oldsE n news v k = some (olds, k1)) : ∃ k1', oldsE n news v k' = some (olds, k1') ∧ Step1 Z b k k' k1 k1' := by
  unfold oldsE at e
  split at e
  · simp only [Option.some.injEq, Prod.mk.injEq] at e; obtain ⟨rfl, rfl⟩ := e; exact ⟨k', rfl, .refl s⟩
  · simp only [Option.some.injEq, Prod.mk.injEq] at e; obtain ⟨rfl, rfl⟩ := e; exact ⟨k', rfl, .refl s⟩
  · rename_i r p off len
    split at e
    · rename_i h0
      simp only [Option.bind_eq_some_iff] at e
      obtain ⟨c, q1, nd, q2, e⟩ := e
      split at e
      · split at e
        · rename_i hc2
          simp only [Option.bind_eq_some_iff, Option.map_eq_some_iff, Prod.mk.injEq] at e
          obtain ⟨c', q3, k4, q4, rfl, rfl⟩ := e
          obtain ⟨k4', h3, h4⟩ := setS s ho.bor q4
          refine ⟨_, ?_, h4.tell rfl⟩
          unfold oldsE
          simp only
          rw [if_pos h0, s.get r ho.bor, q1]
          simp only [Option.bind_some, q2]
          rw [if_pos hc2, q3]
          simp only [Option.bind_some, h3, Option.map_some]
        · cases e
      · cases e
    · cases e
  · cases e
theorem appendE_sim (s : Sm Z b k k') {nv : Nat} {t : TypeId} {x y v : SV} (hx : Off Z x) (hy : Off Z y) (e : appendE P nv dst t x y k = some (v, k1)) : ∃ k1', appendE P nv dst t x y k' = some (v, k1') ∧ Step1 Z b k k' k1 k1' := by
  simp only [appendE, Option.bind_eq_some_iff] at e
  obtain ⟨ety, u1, z, u2, ⟨news, k2⟩, e1, e⟩ := e
  obtain ⟨k2', h1, h2⟩ := newsE_sim s hy e1
  have s2 := s.step h2
  split at e
  · rename_i hcond
    simp only [Option.bind_eq_some_iff] at e
    obtain ⟨⟨olds, k3⟩, e2, e⟩ := e
    obtain ⟨k3', h3, h4⟩ := oldsE_sim s2 (hx.trv s2.nr) e2
    simp only at e
    split at e
    · rename_i hr
      simp only [Option.some.injEq, Prod.mk.injEq] at e
      obtain ⟨rfl, rfl⟩ := e
      refine ⟨k3'.new dst 0 (.own (olds ++ news)), ?_, (h2.trans h4).new _ _ _⟩
      simp only [appendE, u1, u2, Option.bind_some, h1]
      rw [if_pos hcond, s2.tr, h3]
      simp only [Option.bind_some]
      rw [if_pos hr]
    · cases e
  · cases e

theorem assignE_sim (s : Sm Z b k k') {sl : Bool} {u v : SV} (ho : Off Z u) (e : assignE dst sl u k = some (v, k1)) : ∃ k1', assignE dst sl u k' = some (v, k1') ∧ Par b k k' k1 k1' := by
  have plain : (∀ k : Wk, assignE dst sl u k = some (u, k)) → ∃ k1', assignE dst sl u k' = some (v, k1') ∧ Par b k k' k1 k1' := fun hp => by
    rw [hp] at e ⊢
    simp only [Option.some.injEq, Prod.mk.injEq] at e
    obtain ⟨rfl, rfl⟩ := e
    exact ⟨k', rfl, Par.refl s⟩
  cases u with
  | d x =>
    cases x with
    | nils =>
      simp only [assignE] at e ⊢
      split at e <;> simp only [Option.some.injEq, Prod.mk.injEq] at e <;> obtain ⟨rfl, rfl⟩ := e
      · rename_i hs; exact ⟨_, by rw [if_pos hs], (Par.refl s).new _ _ _⟩
      · rename_i hs; exact ⟨_, by rw [if_neg hs], Par.refl s⟩
    | _ => exact plain fun _ => rfl
  | bor r p off len =>
    cases r with
    | o n => exact plain fun _ => rfl
    | l n j =>
      cases p with
      | cons _ _ => exact plain fun _ => rfl
      | nil =>
        cases off with
        | succ _ => exact plain fun _ => rfl
        | zero =>
          simp only [assignE] at e ⊢
          split at e
          · rename_i hc
            simp only [Option.some.injEq, Prod.mk.injEq] at e
            obtain ⟨rfl, rfl⟩ := e
            exact ⟨_, by rw [if_pos hc], Par.refl s⟩
          · rename_i hc
            simp only [Option.bind_eq_some_iff] at e
            obtain ⟨c, hg, e⟩ := e
            rw [if_neg hc, s.get _ ho.bor, hg]
            simp only [Option.bind_some]
            split at e
            · split at e <;> simp only [Option.some.injEq, Prod.mk.injEq] at e <;> obtain ⟨rfl, rfl⟩ := e
              · rename_i es hl
                exact ⟨_, if_pos hl, ⟨⟨[((dst, 0), .own es), ((n, j), .dead)], rfl, rfl⟩, s.H, fun _ => ⟨rfl, rfl⟩, by simp [Wk.tell, Wk.new, s.tr]⟩⟩
              · rename_i hl; exact ⟨_, if_neg hl, Par.refl s⟩
            · cases e
  | _ => exact plain fun _ => rfl
theorem opE_sim (s : Sm Z b k k') {op : Op} {σ : Operand → SV} {v : SV} (hh : b = false → hrOf h dst op = false) (ho : ∀ x ∈ op.operands, Off Z (σ x)) (e : opE P h dst ty op σ k = some (v, k1)) : ∃ k1', opE P h dst ty op σ k' = some (v, k1') ∧ Par b k k' k1 k1' := by
  have pt : b = true ∨ ∀ n, Z (.o n) := by cases b with | true => exact .inl rfl | false => exact .inr (s.obj rfl)
  -- what lies in a map, of an operand
  have mapAt : ∀ {x : Operand} {o : Nat}, x ∈ op.operands → σ x = .d (.map o) → b = true := fun {x o} hx hm => by
    rcases pt with q | q
    · exact q
    · exact absurd (q o) (ho x hx _ (by rw [hm]; simp [SV.rts]))
  by_cases hef : effOf h dst op = false ∧ ∀ c, op = .call c → ∃ b, c.callee = .builtin b
  · obtain ⟨rfl, hr⟩ := opE_read hef.2 hef.1 e
    refine ⟨k', hr k' (fun _ x hx r hrr => s.get r (ho x hx r hrr)) (fun _ => ?_), Par.refl s⟩
    rcases pt with q | q
    · exact .inl (s.H q)
    · right
      intro x hx
      refine List.any_eq_false.2 fun r hr => ?_
      cases r with
      | l n j => simp [Root.isO]
      | o n => exact absurd (q n) (ho x hx _ hr)
  unfold opE at e ⊢
  cases op <;> simp only at e ⊢ <;> simp only [Op.operands] at ho <;> try (exact absurd ⟨rfl, by simp⟩ hef)
  case assign x => exact assignE_sim s (ho x (by simp)) e
  case alloc t =>
    simp only [Option.bind_eq_some_iff] at e ⊢
    obtain ⟨z, hz, e⟩ := e
    unfold boxE at e ⊢
    split at e
    · cases e
    · rename_i hn
      split at e <;> simp only [Option.some.injEq, Prod.mk.injEq] at e <;> obtain ⟨rfl, rfl⟩ := e
      · rename_i hc
        have hb : b = true := by cases b with | true => rfl | false => have := hh rfl; simp only [hrOf] at this; rw [hc] at this; cases this
        have hH := s.H hb
        refine ⟨{ k' with H := k'.H ++ [.box (T.ofZero z)] }, ⟨z, hz, by rw [if_neg hn, if_pos hc, hH]⟩, ⟨⟨[], rfl, rfl⟩, fun _ => by simp [hH], (fun q => by rw [hb] at q; cases q), s.tr⟩⟩
      · rename_i hc; exact ⟨_, ⟨z, hz, by rw [if_neg hn, if_neg hc]⟩, (Par.refl s).new _ _ _⟩
  case box t x =>
    simp only [Option.bind_eq_some_iff] at e ⊢
    obtain ⟨⟨y, k2⟩, e1, e⟩ := e
    obtain ⟨k2', h1, h2⟩ := absorb_sim s (ho x (by simp)) e1
    simp only at e
    split at e
    · rename_i hnc
      unfold boxE at e ⊢
      split at e
      · cases e
      · rename_i hn
        split at e <;> simp only [Option.some.injEq, Prod.mk.injEq] at e <;> obtain ⟨rfl, rfl⟩ := e
        · rename_i hc
          have hb : b = true := by cases b with | true => rfl | false => have := hh rfl; simp only [hrOf] at this; rw [hc] at this; cases this
          have hH := h2.1.H hb
          exact ⟨{ k2' with H := k2'.H ++ [.box y] }, ⟨_, h1, by simp only; rw [if_pos hnc, if_neg hn, if_pos hc, hH]⟩, ⟨h2.1.ct, fun _ => by simp [hH], (fun q => by rw [hb] at q; cases q), h2.1.tr⟩⟩
        · rename_i hc; exact ⟨_, ⟨_, h1, by simp only; rw [if_pos hnc, if_neg hn, if_neg hc]⟩, h2.1.new _ _ _⟩
    · cases e
  case buildSlice t n ps =>
    simp only [buildSliceE, Option.bind_eq_some_iff] at e
    obtain ⟨ety, u1, z, u2, ⟨p1, k2⟩, e1, e⟩ := e
    obtain ⟨k2', h1, h2⟩ := absorbP_sim _ s (fun u hu => by
      simp only [List.mem_map] at hu
      obtain ⟨p, hp, rfl⟩ := hu
      exact ho p.2 (by simp only [List.mem_toArray, List.mem_map]; exact ⟨p, hp, rfl⟩)) e1
    split at e
    · rename_i hcond
      simp only [Option.bind_eq_some_iff] at e
      obtain ⟨es, u3, e⟩ := e
      have goal : ∀ r : Option (SV × Wk), (∃ w1, (if (h.lits.contains dst) = true then (if (ps.toList.map fun p => (p.1, σ p.2)).all (fun p => isD p.2) = true then (T.frzs false es).map fun ds => (.d (.sl false ds), k2') else none) else some (.bor (.l dst 0) [] 0 n, k2'.new dst 0 (.own es))) = some (v, w1) ∧ Par b k k' k1 w1) →
          ∃ k1', buildSliceE P h.nv dst (h.lits.contains dst) t n (ps.toList.map fun p => (p.1, σ p.2)) k' = some (v, k1') ∧ Par b k k' k1 k1' := fun _ ⟨w1, q1, q2⟩ => by
        refine ⟨w1, ?_, q2⟩
        simp only [buildSliceE, u1, u2, Option.bind_some, h1]
        rw [if_pos hcond, u3]
        simpa using q1
      refine goal none ?_
      split at e
      · rename_i hl
        split at e
        · rename_i hall
          simp only [Option.map_eq_some_iff, Prod.mk.injEq] at e
          obtain ⟨ds, u4, rfl, rfl⟩ := e
          exact ⟨k2', by rw [if_pos hl, if_pos hall, u4]; rfl, h2.1⟩
        · cases e
      · rename_i hl
        simp only [Option.some.injEq, Prod.mk.injEq] at e
        obtain ⟨rfl, rfl⟩ := e
        exact ⟨_, by rw [if_neg hl], h2.1.new _ _ _⟩
    · cases e
  case store t a x =>
    simp only [Option.map_eq_some_iff, Prod.mk.injEq] at e ⊢
    obtain ⟨k2, e1, rfl, rfl⟩ := e
    obtain ⟨k2', h1, h2⟩ := storeE_sim s (ho a (by simp)) (ho x (by simp)) e1
    exact ⟨k2', ⟨k2', h1, rfl, rfl⟩, h2.1⟩
  case makeMap t r =>
    have hb : b = true := by cases b with | true => rfl | false => have := hh rfl; simp [hrOf] at this
    have hH := s.H hb
    cases r with
    | none =>
      simp only [Option.some.injEq, Prod.mk.injEq] at e ⊢
      obtain ⟨rfl, rfl⟩ := e
      exact ⟨_, ⟨by rw [hH], rfl⟩, ⟨⟨[], rfl, rfl⟩, fun _ => by simp [hH], (fun q => by rw [hb] at q; cases q), s.tr⟩⟩
    | some n =>
      simp only at e ⊢
      split at e
      · simp only [Option.some.injEq, Prod.mk.injEq] at e
        obtain ⟨rfl, rfl⟩ := e
        exact ⟨{ k' with H := k'.H ++ [.map []] }, by rw [hH], ⟨⟨[], rfl, rfl⟩, fun _ => by simp [hH], (fun q => by rw [hb] at q; cases q), s.tr⟩⟩
      · cases e
  case makeSlice t l c =>
    unfold makeE at e ⊢
    split at e
    · simp only [Option.bind_eq_some_iff] at e ⊢
      obtain ⟨ety, u1, z, u2, e⟩ := e
      split at e
      · rename_i hc
        simp only [Option.some.injEq, Prod.mk.injEq] at e
        obtain ⟨rfl, rfl⟩ := e
        exact ⟨_, ⟨ety, u1, z, u2, by rw [if_pos hc]⟩, (Par.refl s).new _ _ _⟩
      · cases e
    · cases e
  case mapUpdate t m key x =>
    simp only [Option.map_eq_some_iff, Prod.mk.injEq] at e ⊢
    obtain ⟨k2, e1, rfl, rfl⟩ := e
    simp only [mapPutE, Option.bind_eq_some_iff] at e1
    obtain ⟨⟨kt, et⟩, u1, e1⟩ := e1
    simp only at e1
    split at e1
    · rename_i o kd hm hk
      have hb := mapAt (x := m) (by simp [Op.operands]) hm
      split at e1
      · rename_i hc
        simp only [Option.bind_eq_some_iff] at e1
        obtain ⟨⟨y, k3⟩, e2, e1⟩ := e1
        obtain ⟨k3', h1, h2⟩ := absorb_sim s (ho x (by simp)) e2
        have hH := h2.1.H hb
        simp only at e1
        split at e1
        · rename_i y' es hes
          simp only [Option.map_eq_some_iff] at e1
          obtain ⟨es', u2, rfl⟩ := e1
          refine ⟨_, ⟨{ k3' with H := k3'.H.set o (.map es') }, ?_, rfl, rfl⟩, ⟨h2.1.ct, fun _ => by simp [hH], (fun q => by rw [hb] at q; cases q), h2.1.tr⟩⟩
          simp only [mapPutE, u1, Option.bind_some]
          rw [hm, hk]
          simp only
          rw [if_pos hc, h1]
          simp only [Option.bind_some, hH, hes, u2, Option.map_some]
        · cases e1
      · cases e1
    · cases e1
  case call c =>
    obtain ⟨callee, args, ats⟩ := c
    cases callee with
    | builtin bi =>
      cases bi <;> simp only [reduceCtorEq] at e ⊢
      case len => exact absurd ⟨rfl, fun c hc => by cases hc; exact ⟨_, rfl⟩⟩ hef
      case append =>
        split at e
        · rename_i x y t u hx ht
          have hmx : x ∈ args := by rw [← Array.mem_toList_iff, hx]; simp
          have hmy : y ∈ args := by rw [← Array.mem_toList_iff, hx]; simp
          split at e
          · rename_i htu
            obtain ⟨k1', h1, h2⟩ := appendE_sim s (ho x (by simp [Call.operands, hmx])) (ho y (by simp [Call.operands, hmy])) e
            exact ⟨k1', by rw [if_pos htu]; exact h1, h2.1⟩
          · cases e
        · cases e
    | _ => simp at e
  all_goals (cases e)

/-! ### calls -/
theorem snap1_sim (s : Sm Z b k k') {nv : Nat} {v : SV} {l l' : Lend} {x : D} (ho : Off Z v) (e : snap1 nv v k l = some (x, k1, l')) : ∃ k1', snap1 nv v k' l = some (x, k1', l') ∧ Step1 Z b k k' k1 k1' := by
  cases v with
  | d y => simp only [snap1, Option.some.injEq, Prod.mk.injEq] at e ⊢; obtain ⟨rfl, rfl, rfl⟩ := e; exact ⟨k', ⟨rfl, rfl, rfl⟩, .refl s⟩
  | clip c y => simp only [snap1, Option.some.injEq, Prod.mk.injEq] at e ⊢; obtain ⟨rfl, rfl, rfl⟩ := e; exact ⟨k', ⟨rfl, rfl, rfl⟩, .refl s⟩
  | bor r p off len =>
    simp only [snap1, s.get r ho.bor, Option.bind_eq_some_iff] at e ⊢
    obtain ⟨c, hc, nd, hnd, e⟩ := e
    split at e
    · split at e
      · rename_i es n j
        split at e
        · rename_i hcond
          simp only [Option.bind_eq_some_iff, Option.map_eq_some_iff, Prod.mk.injEq] at e
          obtain ⟨y, hy, k2, h1, rfl, rfl, rfl⟩ := e
          obtain ⟨k2', h2, h3⟩ := setS s ho.bor h1
          exact ⟨_, ⟨c, hc, _, hnd, by simp only; rw [if_pos hcond, hy]; simp only [Option.bind_some, h2, Option.map_some]⟩, h3.tell rfl⟩
        · rename_i hcond
          simp only [Option.map_eq_some_iff, Prod.mk.injEq] at e
          obtain ⟨y, hy, rfl, rfl, rfl⟩ := e
          exact ⟨k', ⟨c, hc, _, hnd, by simp only; rw [if_neg hcond, hy]; rfl⟩, .refl s⟩
      · rename_i es n j hne
        simp only [Option.map_eq_some_iff, Prod.mk.injEq] at e
        obtain ⟨y, hy, rfl, rfl, rfl⟩ := e
        refine ⟨k', ⟨c, hc, _, hnd, ?_⟩, .refl s⟩
        cases p with
        | nil => exact absurd rfl hne
        | cons a p => simp only [hy, Option.map_some]
      · rename_i es n
        simp only [Option.map_eq_some_iff, Prod.mk.injEq] at e
        obtain ⟨y, hy, rfl, rfl, rfl⟩ := e
        exact ⟨k', ⟨c, hc, _, hnd, by simp only [hy, Option.map_some]⟩, .refl s⟩
    · cases e
  | _ => simp [snap1] at e
theorem snaps_sim {nv : Nat} : ∀ (l : List SV) {k k' k1 : Wk} {d d' : Lend} {xs : List D}, Sm Z b k k' → (∀ v ∈ l, Off Z v) → snaps nv l k d = some (xs, k1, d') → ∃ k1', snaps nv l k' d = some (xs, k1', d') ∧ Step1 Z b k k' k1 k1'
  | [], k, k', k1, d, d', xs, s, _, e => by simp only [snaps, Option.some.injEq, Prod.mk.injEq] at e ⊢; obtain ⟨rfl, rfl, rfl⟩ := e; exact ⟨k', ⟨rfl, rfl, rfl⟩, .refl s⟩
  | v :: l, k, k', k1, d, d', xs, s, ho, e => by
    simp only [snaps, Option.bind_eq_some_iff, Option.map_eq_some_iff, Prod.mk.injEq] at e
    obtain ⟨⟨x, k2, d2⟩, e1, ⟨ys, k3, d3⟩, e2, rfl, rfl, rfl⟩ := e
    obtain ⟨k2', h1, h2⟩ := snap1_sim s ((ho v (by simp)).trv s.nr) e1
    obtain ⟨k3', h3, h4⟩ := snaps_sim l (s.step h2) (fun u hu => ho u (by simp [hu])) e2
    exact ⟨k3', by simp only [snaps, s.tr, h1, Option.bind_some, h3, Option.map_some], h2.trans h4⟩
theorem snap_sim (s : Sm Z b k k') {nv : Nat} {v : SV} {d d' : Lend} {x : D} (ho : Off Z v) (e : snap nv v k d = some (x, k1, d')) : ∃ k1', snap nv v k' d = some (x, k1', d') ∧ Step1 Z b k k' k1 k1' := by
  by_cases hv : ∃ l, v = .agg l
  · obtain ⟨l, rfl⟩ := hv
    simp only [snap, Option.map_eq_some_iff, Prod.mk.injEq] at e
    obtain ⟨⟨xs, k2, d2⟩, e1, rfl, rfl, rfl⟩ := e
    obtain ⟨k2', h1, h2⟩ := snaps_sim l s (fun v hv => ho.mem hv) e1
    exact ⟨k2', by simp only [snap, h1, Option.map_some], h2⟩
  · have eq : ∀ k : Wk, snap nv v k d = snap1 nv (trv k.tr v) k d := fun k => by
      cases v <;> first | rfl | exact absurd ⟨_, rfl⟩ hv
    rw [eq] at e
    rw [eq, s.tr]
    exact snap1_sim s (ho.trv s.nr) e
theorem snapA_sim {nv : Nat} : ∀ (l : List SV) {k k' k1 : Wk} {d d' : Lend} {xs : List D}, Sm Z b k k' → (∀ v ∈ l, Off Z v) → snapA nv l k d = some (xs, k1, d') → ∃ k1', snapA nv l k' d = some (xs, k1', d') ∧ Step1 Z b k k' k1 k1'
  | [], k, k', k1, d, d', xs, s, _, e => by simp only [snapA, Option.some.injEq, Prod.mk.injEq] at e ⊢; obtain ⟨rfl, rfl, rfl⟩ := e; exact ⟨k', ⟨rfl, rfl, rfl⟩, .refl s⟩
  | v :: l, k, k', k1, d, d', xs, s, ho, e => by
    simp only [snapA, Option.bind_eq_some_iff, Option.map_eq_some_iff, Prod.mk.injEq] at e
    obtain ⟨⟨x, k2, d2⟩, e1, ⟨ys, k3, d3⟩, e2, rfl, rfl, rfl⟩ := e
    obtain ⟨k2', h1, h2⟩ := snap_sim s (ho v (by simp)) e1
    obtain ⟨k3', h3, h4⟩ := snapA_sim l (s.step h2) (fun u hu => ho u (by simp [hu])) e2
    exact ⟨k3', by simp only [snapA, h1, Option.bind_some, h3, Option.map_some], h2.trans h4⟩
theorem resCell_sim (s : Sm Z b k k') {j j' : Nat} {t : T} {v : SV} (e : resCell dst j t k = some (v, j', k1)) : ∃ k1', resCell dst j t k' = some (v, j', k1') ∧ Step1 Z b k k' k1 k1' := by
  cases t <;> simp only [resCell, Option.some.injEq, Prod.mk.injEq, reduceCtorEq] at e ⊢ <;> obtain ⟨rfl, rfl, rfl⟩ := e
  · exact ⟨k', ⟨rfl, rfl, rfl⟩, .refl s⟩
  · exact ⟨_, ⟨rfl, rfl, rfl⟩, (Step1.refl s).new _ _ _⟩
theorem resCells_sim : ∀ (l : List T) {j j' : Nat} {k k' k1 : Wk} {vs : List SV}, Sm Z b k k' → resCells dst j l k = some (vs, j', k1) → ∃ k1', resCells dst j l k' = some (vs, j', k1') ∧ Step1 Z b k k' k1 k1'
  | [], j, j', k, k', k1, vs, s, e => by simp only [resCells, Option.some.injEq, Prod.mk.injEq] at e ⊢; obtain ⟨rfl, rfl, rfl⟩ := e; exact ⟨k', ⟨rfl, rfl, rfl⟩, .refl s⟩
  | t :: l, j, j', k, k', k1, vs, s, e => by
    simp only [resCells, Option.bind_eq_some_iff, Option.map_eq_some_iff, Prod.mk.injEq] at e
    obtain ⟨⟨v, j1, k2⟩, e1, ⟨ws, j2, k3⟩, e2, rfl, rfl, rfl⟩ := e
    obtain ⟨k2', h1, h2⟩ := resCell_sim s e1
    obtain ⟨k3', h3, h4⟩ := resCells_sim l (s.step h2) e2
    exact ⟨k3', by simp only [resCells, h1, Option.bind_some, h3, Option.map_some], h2.trans h4⟩
theorem res1_sim (s : Sm Z b k k') {j j' : Nat} {t : T} {v : SV} (e : res1 dst j t k = some (v, j', k1)) : ∃ k1', res1 dst j t k' = some (v, j', k1') ∧ Step1 Z b k k' k1 k1' := by
  cases t with
  | agg ts =>
    simp only [res1, Option.map_eq_some_iff, Prod.mk.injEq] at e
    obtain ⟨⟨vs, j1, k2⟩, e1, rfl, rfl, rfl⟩ := e
    obtain ⟨k2', h1, h2⟩ := resCells_sim ts s e1
    exact ⟨k2', by simp only [res1, h1, Option.map_some], h2⟩
  | d x => exact resCell_sim (dst := dst) (t := .d x) s e
  | own es => exact resCell_sim (dst := dst) (t := .own es) s e
  | dead => simp [res1, resCell] at e
theorem resAll_sim : ∀ (l : List T) {j : Nat} {k k' k1 : Wk} {vs : List SV}, Sm Z b k k' → resAll dst j l k = some (vs, k1) → ∃ k1', resAll dst j l k' = some (vs, k1') ∧ Step1 Z b k k' k1 k1'
  | [], j, k, k', k1, vs, s, e => by simp only [resAll, Option.some.injEq, Prod.mk.injEq] at e ⊢; obtain ⟨rfl, rfl⟩ := e; exact ⟨k', ⟨rfl, rfl⟩, .refl s⟩
  | t :: l, j, k, k', k1, vs, s, e => by
    simp only [resAll, Option.bind_eq_some_iff, Option.map_eq_some_iff, Prod.mk.injEq] at e
    obtain ⟨⟨v, j1, k2⟩, e1, ⟨ws, k3⟩, e2, rfl, rfl⟩ := e
    obtain ⟨k2', h1, h2⟩ := res1_sim s e1
    obtain ⟨k3', h3, h4⟩ := resAll_sim l (s.step h2) e2
    exact ⟨k3', by simp only [resAll, h1, Option.bind_some, h3, Option.map_some], h2.trans h4⟩
theorem resE_sim (s : Sm Z b k k') {rs : List T} {v : SV} (e : resE dst rs k = some (v, k1)) : ∃ k1', resE dst rs k' = some (v, k1') ∧ Step1 Z b k k' k1 k1' := by
  simp only [resE, Option.map_eq_some_iff, Prod.mk.injEq] at e
  obtain ⟨⟨vs, k2⟩, e1, rfl, rfl⟩ := e
  obtain ⟨k2', h1, h2⟩ := resAll_sim rs s e1
  exact ⟨k2', by simp only [resE, h1, Option.map_some], h2⟩
theorem callE_sim (s : Sm Z true k k') {call : CallF} {f : FuncId} {ds : List D} {d : Lend} {v : SV} (e : callE call h dst f ds d k = some (v, k1)) : ∃ k1', callE call h dst f ds d k' = some (v, k1') ∧ Par true k k' k1 k1' := by
  have hH := s.H rfl
  unfold callE at e ⊢
  rw [hH]
  split at e
  · rename_i hk
    rw [if_pos hk]
    simp only [Option.bind_eq_some_iff] at e ⊢
    obtain ⟨⟨rs, H2⟩, e1, e⟩ := e
    simp only at e
    split at e
    · rename_i hc
      obtain ⟨k1', h1, h2⟩ := resE_sim s e
      exact ⟨k1', ⟨_, e1, by simp only; rw [if_pos hc]; exact h1⟩, h2.1⟩
    · cases e
  · rename_i hk
    rw [if_neg hk]
    simp only [Option.bind_eq_some_iff] at e ⊢
    obtain ⟨⟨rs, H2⟩, e1, e⟩ := e
    simp only at e
    split at e
    · rename_i hc
      have s2 : Sm (fun r => Z r ∨ r.isO = true) true { k with H := unlock k.H d.lk H2, tr := k.tr ++ [.killO] } { k' with H := unlock k.H d.lk H2, tr := k'.tr ++ [.killO] } := by
        refine ⟨fun r hr => ?_, fun _ => rfl, by simp [s.tr], by simp [s.nr, Tr.isRen], by simp⟩
        cases r with
        | l n j => exact s.get (.l n j) (fun hz => hr (.inl hz))
        | o n => exact absurd (.inr rfl) hr
      obtain ⟨k1', h1, h2⟩ := resE_sim s2 e
      obtain ⟨pre, p1, p2⟩ := h2.1.ct
      exact ⟨k1', ⟨_, e1, by simp only; rw [if_pos hc]; exact h1⟩, ⟨⟨pre, p1, p2⟩, h2.1.H, by simp, h2.1.tr⟩⟩
    · cases e
theorem stepE_sim (s : Sm Z b k k') {call : CallF} {op : Op} {σ : Operand → SV} {v : SV} (hh : b = false → hrOf h dst op = false) (ho : ∀ x ∈ op.operands, Off Z (σ x)) (e : stepE P call h dst ty op σ k = some (v, k1)) : ∃ k1', stepE P call h dst ty op σ k' = some (v, k1') ∧ Par b k k' k1 k1' := by
  have plain : opE P h dst ty op σ k = some (v, k1) → ∃ k1', opE P h dst ty op σ k' = some (v, k1') ∧ Par b k k' k1 k1' := fun e => opE_sim s hh ho e
  unfold stepE at e ⊢
  split at e
  · rename_i f args ats
    have hb : b = true := by cases b with | true => rfl | false => have := hh rfl; simp [hrOf] at this
    subst hb
    simp only
    split at e
    · rename_i g first cap hf
      simp only [Option.bind_eq_some_iff] at e ⊢
      obtain ⟨⟨ds, k2, d⟩, e1, e2⟩ := e
      obtain ⟨k2', h1, h2⟩ := snapA_sim _ s (fun u hu => by
        simp only [List.mem_map] at hu
        obtain ⟨x, hx, rfl⟩ := hu
        exact ho x (by simp [Op.operands, Call.operands]; exact .inr (by simpa using hx))) e1
      obtain ⟨k1', h3, h4⟩ := callE_sim (s.step h2) e2
      exact ⟨k1', ⟨_, h1, h3⟩, h2.1.trans h4⟩
    · cases e
  · rename_i hne
    obtain ⟨k1', h1, h2⟩ := plain e
    exact ⟨k1', h1, h2⟩
end
end Go.Am
