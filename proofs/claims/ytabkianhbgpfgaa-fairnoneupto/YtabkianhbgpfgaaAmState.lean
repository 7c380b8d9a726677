/- The abstract machine: when slots hold what they are said to hold; what stays of it when contents change. -/
import Derived.Test.YtabkianhbgpfgaaAmTree
namespace Go.Am
open Go

def All2 {α β : Type} (R : α → β → Prop) : List α → List β → Prop
  | [], l => l = []
  | a :: as, l => ∃ b r, l = b :: r ∧ R a b ∧ All2 R as r
theorem All2.imp {α β : Type} {R R' : α → β → Prop} : ∀ {as : List α} {l : List β}, (∀ a ∈ as, ∀ b, R a b → R' a b) → All2 R as l → All2 R' as l
  | [], _, _, h => h
  | a :: as, l, f, h => by
    obtain ⟨b, r, h1, h2, h3⟩ := h
    exact ⟨b, r, h1, f a (by simp) b h2, All2.imp (fun x hx => f x (by simp [hx])) h3⟩
theorem All2.map {α α' β : Type} {R : α → β → Prop} {R' : α' → β → Prop} (g : α → α') : ∀ {as : List α} {l : List β}, (∀ a ∈ as, ∀ b, R a b → R' (g a) b) → All2 R as l → All2 R' (as.map g) l
  | [], _, _, h => h
  | a :: as, l, f, h => by
    obtain ⟨b, r, h1, h2, h3⟩ := h
    exact ⟨b, r, h1, f a (by simp) b h2, All2.map g (fun x hx => f x (by simp [hx])) h3⟩
theorem All2.len {α β : Type} {R : α → β → Prop} : ∀ {as : List α} {l : List β}, All2 R as l → l.length = as.length
  | [], _, h => by rw [show _ = [] from h]; rfl
  | a :: as, l, h => by
    obtain ⟨b, r, h1, h2, h3⟩ := h
    simp [h1, All2.len h3]
theorem All2.get {α β : Type} {R : α → β → Prop} : ∀ {as : List α} {l : List β}, All2 R as l → ∀ {i : Nat} {a : α}, as[i]? = some a → ∃ b, l[i]? = some b ∧ R a b
  | [], _, _, _, _, h => by simp at h
  | a :: as, l, h, i, x, hx => by
    obtain ⟨b, r, h1, h2, h3⟩ := h
    subst h1
    cases i with
    | zero => simp at hx; subst hx; exact ⟨b, by simp, h2⟩
    | succ i => simp at hx; obtain ⟨y, h4, h5⟩ := All2.get h3 hx; exact ⟨y, by simpa using h4, h5⟩
theorem All2.mem {α β : Type} {R : α → β → Prop} : ∀ {as : List α} {l : List β}, All2 R as l → ∀ a ∈ as, ∃ b ∈ l, R a b
  | [], _, _, a, h => by simp at h
  | x :: as, l, h, a, ha => by
    obtain ⟨b, r, h1, h2, h3⟩ := h
    subst h1
    rcases List.mem_cons.1 ha with rfl | ha
    · exact ⟨b, by simp, h2⟩
    · obtain ⟨y, h4, h5⟩ := All2.mem h3 a ha; exact ⟨y, by simp [h4], h5⟩
theorem All2.append {α β : Type} {R : α → β → Prop} : ∀ {as bs : List α} {l m : List β}, All2 R as l → All2 R bs m → All2 R (as ++ bs) (l ++ m)
  | [], _, _, _, h, h' => by rw [show _ = [] from h]; simpa using h'
  | a :: as, bs, l, m, h, h' => by
    obtain ⟨b, r, h1, h2, h3⟩ := h
    subst h1
    exact ⟨b, r ++ m, rfl, h2, All2.append h3 h'⟩
theorem All2.win {α β : Type} {R : α → β → Prop} : ∀ {as : List α} {l : List β}, All2 R as l → ∀ o n, All2 R (Go.Am.win as o n) (Go.Am.win l o n)
  | [], l, h, o, n => by rw [show l = [] from h]; simp [Go.Am.win, All2]
  | a :: as, l, h, o, n => by
    obtain ⟨b, r, h1, h2, h3⟩ := h
    subst h1
    cases o with
    | zero =>
      cases n with
      | zero => simp [Go.Am.win, All2]
      | succ n =>
        have := All2.win h3 0 n
        simp only [Go.Am.win, List.drop_zero, List.take_succ_cons] at this ⊢
        exact ⟨b, _, rfl, h2, this⟩
    | succ o => simpa [Go.Am.win] using All2.win h3 o n

/-- a window on a row -/
def Win (h : Value) (es : List T) (off len : Nat) (v : Value) : Prop :=
  ∃ a n cap a' cap', h = .slice a n cap ∧ v = .slice a' len cap' ∧ len ≤ cap' ∧ (off = 0 → a' = a ∧ cap' ≤ cap) ∧
    (0 < len → ∃ g el, a = some ⟨g, 0, none⟩ ∧ es[off]? = some el ∧ a' = some ⟨g, off * el.nc, none⟩)

/-- a slot that holds neither a struct nor a tuple of borrowed parts -/
def SB (c : Cx) (K : Root → Option T) (hd : Root → Value) : SV → Value → Prop
  | .d x, v => VV c x v
  | .bor r p off len, v => ∃ t es h', K r = some t ∧ t.at p = some (.own es) ∧ NodeH c (hd r) t p h' ∧ off + len ≤ es.length ∧ Win h' es off len v
  | .loc r p i off, v => ∃ t es g n cap el, K r = some t ∧ t.at p = some (.own es) ∧ NodeH c (hd r) t p (.slice (some ⟨g, 0, none⟩) n cap) ∧ es[i]? = some el ∧ off < el.nc ∧
      v = .pointer (some ⟨g, i * el.nc + off, none⟩)
  | .rp b cs, v => ∃ a vs, v = .pointer (some a) ∧ a.spot = none ∧ c.pm b a.block ∧ (∀ j u, vs[j]? = some u → c.w.cell? (a.add j) = some u) ∧ VCs c cs vs
  | .clip b l, v => VC c (.sl b l) [v] ∧ ∃ a, v = .slice a l.length l.length
  | .agg _, _ => False
  | .tup _, _ => False
  | .dead, _ => True
/-- a cell of a struct -/
def CO (c : Cx) (K : Root → Option T) (hd : Root → Value) : SV → Value → Prop
  | .d x, v => VC c x [v]
  | x, v => SB c K hd x v
def S1 (c : Cx) (K : Root → Option T) (hd : Root → Value) : SV → Value → Prop
  | .agg l, v => ∃ cs, v = .agg cs ∧ All2 (CO c K hd) l cs.toList
  | x, v => SB c K hd x v
def SO (c : Cx) (K : Root → Option T) (hd : Root → Value) : SV → Value → Prop
  | .tup l, v => ∃ vs, v = .tuple vs ∧ All2 (S1 c K hd) l vs.toList
  | x, v => S1 c K hd x v

/-- what is said of a node still holds of it -/
def Hold (c c' : Cx) (K K' : Root → Option T) (hd hd' : Root → Value) (r : Root) (q : Path) : Prop :=
  ∀ t es, K r = some t → t.at q = some (.own es) → ∃ t' es', K' r = some t' ∧ t'.at q = some (.own es') ∧ SameShape es es' ∧ ∀ h, NodeH c (hd r) t q h → NodeH c' (hd' r) t' q h

section
variable {c c' : Cx} {K K' : Root → Option T} {hd hd' : Root → Value}

theorem SB.keep_bor {r : Root} {p : Path} {off len : Nat} {v : Value} (hh : Hold c c' K K' hd hd' r p) (h : SB c K hd (.bor r p off len) v) : SB c' K' hd' (.bor r p off len) v := by
  obtain ⟨t, es, h', h1, h2, h3, h4, h5⟩ := h
  obtain ⟨t', es', k1, k2, k3, k4⟩ := hh t es h1 h2
  refine ⟨t', es', h', k1, k2, k4 _ h3, by rw [k3.1]; exact h4, ?_⟩
  obtain ⟨a, n, cap, a', cap', m1, m2, m3, m4, m5⟩ := h5
  refine ⟨a, n, cap, a', cap', m1, m2, m3, m4, fun hl => ?_⟩
  obtain ⟨g, el, n1, n2, n3⟩ := m5 hl
  obtain ⟨el', o1, o2⟩ := k3.2 _ _ n2
  exact ⟨g, el', n1, o1, by rw [o2]; exact n3⟩
theorem SB.keep_loc {r : Root} {p : Path} {i off : Nat} {v : Value} (hh : Hold c c' K K' hd hd' r p) (h : SB c K hd (.loc r p i off) v) : SB c' K' hd' (.loc r p i off) v := by
  obtain ⟨t, es, g, n, cap, el, h1, h2, h3, h4, h5, h6⟩ := h
  obtain ⟨t', es', k1, k2, k3, k4⟩ := hh t es h1 h2
  obtain ⟨el', o1, o2⟩ := k3.2 _ _ h4
  exact ⟨t', es', g, n, cap, el', k1, k2, k4 _ h3, o1, by rw [o2]; exact h5, by rw [o2]; exact h6⟩
theorem SB.keep_rest (hx : Ext c c') {u : SV} {v : Value} (hb : ∀ r p off len, u ≠ .bor r p off len) (hl : ∀ r p i off, u ≠ .loc r p i off) (h : SB c K hd u v) : SB c' K' hd' u v := by
  cases u with
  | d x => exact VV.ext hx h
  | bor r p off len => exact absurd rfl (hb r p off len)
  | loc r p i off => exact absurd rfl (hl r p i off)
  | rp b cs =>
    obtain ⟨a, vs, h1, h2, h3, h4, h5⟩ := h
    refine ⟨a, vs, h1, h2, (hx.pm _ _ h3).1, fun j u hu => ?_, VCs.ext hx _ _ h5⟩
    rw [cell_same (w := c.w) (by rw [add_block]; exact (hx.pm _ _ h3).2)]
    exact h4 j u hu
  | clip b l => exact ⟨VC.ext hx _ _ h.1, h.2⟩
  | agg l => exact h
  | tup l => exact h
  | dead => trivial
theorem CO.of_SB {u : SV} {v : Value} (h : SB c K hd u v) (ha : ∀ l, u ≠ .d (.agg l)) : CO c K hd u v := by
  cases u with
  | d x => exact VV.inv h (fun l hl => ha l (by rw [hl]))
  | _ => exact h

theorem CO.to_SB {u : SV} {v : Value} (hu : ∀ y, u ≠ .d y) (h : CO c K hd u v) : SB c K hd u v := by
  cases u with
  | d y => exact absurd rfl (hu y)
  | _ => exact h
theorem S1.to_SB {u : SV} {v : Value} (hu : ∀ l, u ≠ .agg l) (h : S1 c K hd u v) : SB c K hd u v := by
  cases u with
  | agg y => exact absurd rfl (hu y)
  | _ => exact h
theorem S1.of_SB {u : SV} {v : Value} (hu : ∀ l, u ≠ .agg l) (h : SB c K hd u v) : S1 c K hd u v := by
  cases u with
  | agg y => exact absurd rfl (hu y)
  | _ => exact h
theorem SO.to_S1 {u : SV} {v : Value} (hu : ∀ l, u ≠ .tup l) (h : SO c K hd u v) : S1 c K hd u v := by
  cases u with
  | tup y => exact absurd rfl (hu y)
  | _ => exact h
theorem SO.of_S1 {u : SV} {v : Value} (hu : ∀ l, u ≠ .tup l) (h : S1 c K hd u v) : SO c K hd u v := by
  cases u with
  | tup y => exact absurd rfl (hu y)
  | _ => exact h

/-- one step told, and the contents behind it: what is to be shown of slots that hold one thing is enough -/
theorem SO.step (x : Tr) (hx : Ext c c') (H : ∀ u v, (∀ y, u ≠ .d y) → SB c K hd u v → SB c' K' hd' (x.sv u) v) (hag : ∀ u l, (∀ y, u ≠ .d y) → x.sv u ≠ .d (.agg l)) {u : SV} {v : Value} (h : SO c K hd u v) : SO c' K' hd' (x.sv u) v := by
  have hdd : ∀ y, x.sv (.d y) = .d y := fun y => by cases x <;> rfl
  have sb : ∀ u v, SB c K hd u v → SB c' K' hd' (x.sv u) v := fun u v h => by
    cases u with
    | d y => rw [hdd]; exact VV.ext hx h
    | _ => exact H _ v (by simp) h
  have co : ∀ u v, CO c K hd u v → CO c' K' hd' (x.sv u) v := fun u v h => by
    by_cases hy : ∃ y, u = .d y
    · obtain ⟨y, rfl⟩ := hy
      rw [hdd]; exact VC.ext hx y _ h
    · have hy' : ∀ y, u ≠ .d y := fun y e => hy ⟨y, e⟩
      exact CO.of_SB (H u v hy' (CO.to_SB hy' h)) (fun l => hag u l hy')
  have svs : ∀ l, Tr.svs x l = l.map x.sv := fun l => by induction l with
    | nil => rfl
    | cons a r ih => simp [Tr.svs, ih]
  have ag : ∀ l, x.sv (.agg l) = .agg (l.map x.sv) := fun l => by rw [← svs]; cases x <;> rfl
  have tu : ∀ l, x.sv (.tup l) = .tup (l.map x.sv) := fun l => by rw [← svs]; cases x <;> rfl
  have nag : ∀ u l, (∀ l, u ≠ .agg l) → x.sv u ≠ .agg l := fun u l hu => by
    cases u <;> simp_all [Tr.sv] <;> cases x <;> simp <;> (repeat' split) <;> simp
  have ntu : ∀ u l, (∀ l, u ≠ .tup l) → x.sv u ≠ .tup l := fun u l hu => by
    cases u <;> simp_all [Tr.sv] <;> cases x <;> simp <;> (repeat' split) <;> simp
  have s1 : ∀ u v, S1 c K hd u v → S1 c' K' hd' (x.sv u) v := fun u v h => by
    by_cases hu : ∃ l, u = .agg l
    · obtain ⟨l, rfl⟩ := hu
      rw [ag]
      obtain ⟨cs, h1, h2⟩ := h
      exact ⟨cs, h1, h2.map _ (fun a _ b hab => co a b hab)⟩
    · have hu' : ∀ l, u ≠ .agg l := fun l e => hu ⟨l, e⟩
      exact S1.of_SB (fun l => nag u l hu') (sb u v (S1.to_SB hu' h))
  by_cases hu : ∃ l, u = .tup l
  · obtain ⟨l, rfl⟩ := hu
    rw [tu]
    obtain ⟨cs, h1, h2⟩ := h
    exact ⟨cs, h1, h2.map _ (fun a _ b hab => s1 a b hab)⟩
  · have hu' : ∀ l, u ≠ .tup l := fun l e => hu ⟨l, e⟩
    exact SO.of_S1 (fun l => ntu u l hu') (s1 u v (SO.to_S1 hu' h))
/-- nothing told: what is said of each node still holds -/
theorem SO.keep (hx : Ext c c') (hh : ∀ r q, Hold c c' K K' hd hd' r q) {u : SV} {v : Value} (h : SO c K hd u v) : SO c' K' hd' u v := by
  have sb : ∀ u v, SB c K hd u v → SB c' K' hd' u v := fun u v h => by
    cases u with
    | bor r p off len => exact SB.keep_bor (hh r p) h
    | loc r p i off => exact SB.keep_loc (hh r p) h
    | _ => exact SB.keep_rest hx (by simp) (by simp) h
  have co : ∀ u v, CO c K hd u v → CO c' K' hd' u v := fun u v h => by
    by_cases hy : ∃ y, u = .d y
    · obtain ⟨y, rfl⟩ := hy
      exact VC.ext hx y _ h
    · have hy' : ∀ y, u ≠ .d y := fun y e => hy ⟨y, e⟩
      have h2 := sb u v (CO.to_SB hy' h)
      cases u <;> first | exact absurd rfl (hy' _) | exact h2
  have s1 : ∀ u v, S1 c K hd u v → S1 c' K' hd' u v := fun u v h => by
    by_cases hu : ∃ l, u = .agg l
    · obtain ⟨l, rfl⟩ := hu
      obtain ⟨cs, h1, h2⟩ := h; exact ⟨cs, h1, h2.imp (fun a _ b hab => co a b hab)⟩
    · have hu' : ∀ l, u ≠ .agg l := fun l e => hu ⟨l, e⟩
      exact S1.of_SB hu' (sb u v (S1.to_SB hu' h))
  by_cases hu : ∃ l, u = .tup l
  · obtain ⟨l, rfl⟩ := hu
    obtain ⟨cs, h1, h2⟩ := h; exact ⟨cs, h1, h2.imp (fun a _ b hab => s1 a b hab)⟩
  · have hu' : ∀ l, u ≠ .tup l := fun l e => hu ⟨l, e⟩
    exact SO.of_S1 hu' (s1 u v (SO.to_S1 hu' h))
/-- of one root the nodes from a place on are forgotten -/
theorem SO.kill (hx : Ext c c') (r : Root) (p : Path) (hh : ∀ r' q, (r' = r → q ≠ p ∧ q.length ≤ p.length) → Hold c c' K K' hd hd' r' q) {u : SV} {v : Value} (h : SO c K hd u v) : SO c' K' hd' ((Tr.kill r p).sv u) v := by
  refine SO.step _ hx (fun u v hu h => ?_) (fun u l hu => ?_) h
  · cases u with
    | bor r' q off len =>
      simp only [Tr.sv]
      split
      · split
        · trivial
        · split
          · trivial
          · exact SB.keep_bor (hh r' q (fun _ => ⟨‹_›, by omega⟩)) h
      · exact SB.keep_bor (hh r' q (fun e => absurd e ‹_›)) h
    | loc r' q i off =>
      simp only [Tr.sv]
      split
      · split
        · trivial
        · split
          · trivial
          · exact SB.keep_loc (hh r' q (fun _ => ⟨‹_›, by omega⟩)) h
      · exact SB.keep_loc (hh r' q (fun e => absurd e ‹_›)) h
    | d y => exact absurd rfl (hu y)
    | agg l => exact h.elim
    | tup l => exact h.elim
    | rp b cs => exact SB.keep_rest (u := .rp b cs) hx (by simp) (by simp) h
    | clip b l => exact SB.keep_rest (u := .clip b l) hx (by simp) (by simp) h
    | dead => trivial
  · cases u <;> simp_all [Tr.sv] <;> (repeat' split) <;> simp
theorem SO.killN (hx : Ext c c') (r : Root) (n : Nat) (hh : ∀ r' q, (r' = r → q.length < n) → Hold c c' K K' hd hd' r' q) {u : SV} {v : Value} (h : SO c K hd u v) : SO c' K' hd' ((Tr.killN r n).sv u) v := by
  refine SO.step _ hx (fun u v hu h => ?_) (fun u l hu => ?_) h
  · cases u with
    | bor r' q off len =>
      simp only [Tr.sv]
      split
      · trivial
      · rename_i hn; exact SB.keep_bor (hh r' q (fun e => by subst e; simpa using hn)) h
    | loc r' q i off =>
      simp only [Tr.sv]
      split
      · trivial
      · rename_i hn; exact SB.keep_loc (hh r' q (fun e => by subst e; simpa using hn)) h
    | d y => exact absurd rfl (hu y)
    | agg l => exact h.elim
    | tup l => exact h.elim
    | rp b cs => exact SB.keep_rest (u := .rp b cs) hx (by simp) (by simp) h
    | clip b l => exact SB.keep_rest (u := .clip b l) hx (by simp) (by simp) h
    | dead => trivial
  · cases u <;> simp_all [Tr.sv] <;> (repeat' split) <;> simp
/-- a node is frozen -/
theorem SO.frz (hx : Ext c c') (r : Root) (p : Path) (l : List D) (hh : ∀ r' q, (r' = r → q ≠ p ∧ q.length ≤ p.length) → Hold c c' K K' hd hd' r' q)
    (hf : ∀ off len v, SB c K hd (.bor r p off len) v → VC c' (.sl false (Go.Am.win l off len)) [v]) {u : SV} {v : Value} (h : SO c K hd u v) : SO c' K' hd' ((Tr.frz r p l).sv u) v := by
  refine SO.step _ hx (fun u v hu h => ?_) (fun u l hu => ?_) h
  · cases u with
    | bor r' q off len =>
      simp only [Tr.sv]
      split
      · split
        · rename_i e1 e2; subst e1; subst e2; exact VV.one (hf off len v h) (by simp)
        · split
          · trivial
          · exact SB.keep_bor (hh r' q (fun _ => ⟨‹_›, by omega⟩)) h
      · exact SB.keep_bor (hh r' q (fun e => absurd e ‹_›)) h
    | loc r' q i off =>
      simp only [Tr.sv]
      split
      · split
        · trivial
        · split
          · trivial
          · exact SB.keep_loc (hh r' q (fun _ => ⟨‹_›, by omega⟩)) h
      · exact SB.keep_loc (hh r' q (fun e => absurd e ‹_›)) h
    | d y => exact absurd rfl (hu y)
    | agg l => exact h.elim
    | tup l => exact h.elim
    | rp b cs => exact SB.keep_rest (u := .rp b cs) hx (by simp) (by simp) h
    | clip b l => exact SB.keep_rest (u := .clip b l) hx (by simp) (by simp) h
    | dead => trivial
  · cases u <;> simp_all [Tr.sv] <;> (repeat' split) <;> simp
/-- a root under another name -/
theorem SO.ren (hx : Ext c c') (a b : Nat × Nat) (hh : ∀ r q, r ≠ .l a.1 a.2 → Hold c c' K K' hd hd' r q)
    (hr : ∀ q t es, K (.l a.1 a.2) = some t → t.at q = some (.own es) → ∃ t' es', K' (.l b.1 b.2) = some t' ∧ t'.at q = some (.own es') ∧ SameShape es es' ∧ ∀ h, NodeH c (hd (.l a.1 a.2)) t q h → NodeH c' (hd' (.l b.1 b.2)) t' q h) {u : SV} {v : Value} (h : SO c K hd u v) : SO c' K' hd' ((Tr.ren a b).sv u) v := by
  refine SO.step _ hx (fun u v hu h => ?_) (fun u l hu => ?_) h
  · cases u with
    | bor r' q off len =>
      simp only [Tr.sv]
      split
      · rename_i e; subst e
        obtain ⟨t, es, h', h1, h2, h3, h4, h5⟩ := h
        obtain ⟨t', es', k1, k2, k3, k4⟩ := hr q t es h1 h2
        refine ⟨t', es', h', k1, k2, k4 _ h3, by rw [k3.1]; exact h4, ?_⟩
        obtain ⟨a, n, cap, a', cap', m1, m2, m3, m4, m5⟩ := h5
        refine ⟨a, n, cap, a', cap', m1, m2, m3, m4, fun hl => ?_⟩
        obtain ⟨g, el, n1, n2, n3⟩ := m5 hl
        obtain ⟨el', o1, o2⟩ := k3.2 _ _ n2
        exact ⟨g, el', n1, o1, by rw [o2]; exact n3⟩
      · exact SB.keep_bor (hh r' q ‹_›) h
    | loc r' q i off =>
      simp only [Tr.sv]
      split
      · rename_i e; subst e
        obtain ⟨t, es, g, n, cap, el, h1, h2, h3, h4, h5, h6⟩ := h
        obtain ⟨t', es', k1, k2, k3, k4⟩ := hr q t es h1 h2
        obtain ⟨el', o1, o2⟩ := k3.2 _ _ h4
        exact ⟨t', es', g, n, cap, el', k1, k2, k4 _ h3, o1, by rw [o2]; exact h5, by rw [o2]; exact h6⟩
      · exact SB.keep_loc (hh r' q ‹_›) h
    | d y => exact absurd rfl (hu y)
    | agg l => exact h.elim
    | tup l => exact h.elim
    | rp b cs => exact SB.keep_rest (u := .rp b cs) hx (by simp) (by simp) h
    | clip b l => exact SB.keep_rest (u := .clip b l) hx (by simp) (by simp) h
    | dead => trivial
  · cases u <;> simp_all [Tr.sv] <;> (repeat' split) <;> simp
theorem SO.killO (hx : Ext c c') (hh : ∀ r q, (∀ n, r = .o n → q = []) → Hold c c' K K' hd hd' r q) {u : SV} {v : Value} (h : SO c K hd u v) : SO c' K' hd' (Tr.killO.sv u) v := by
  refine SO.step _ hx (fun u v hu h => ?_) (fun u l hu => ?_) h
  · cases u with
    | bor r' q off len =>
      cases r' with
      | o n => simp only [Tr.sv]; trivial
      | l n j => simp only [Tr.sv]; exact SB.keep_bor (hh _ q (by simp)) h
    | loc r' q i off =>
      cases r' with
      | o n =>
        cases q with
        | nil => simp only [Tr.sv]; exact SB.keep_loc (hh _ [] (by simp)) h
        | cons a q => simp only [Tr.sv]; trivial
      | l n j => simp only [Tr.sv]; exact SB.keep_loc (hh _ q (by simp)) h
    | d y => exact absurd rfl (hu y)
    | agg l => exact h.elim
    | tup l => exact h.elim
    | rp b cs => exact SB.keep_rest (u := .rp b cs) hx (by simp) (by simp) h
    | clip b l => exact SB.keep_rest (u := .clip b l) hx (by simp) (by simp) h
    | dead => trivial
  · cases u <;> simp_all [Tr.sv] <;> (repeat' split) <;> simp
end
end Go.Am
