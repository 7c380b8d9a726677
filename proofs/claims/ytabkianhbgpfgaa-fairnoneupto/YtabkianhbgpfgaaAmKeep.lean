/- The abstract machine: contents, slots and memory hold together; who owns which block. -/
import Derived.Test.YtabkianhbgpfgaaAmState
namespace Go.Am
open Go

def upd {β : Type} (S : Root → β) (r : Root) (x : β) : Root → β := fun r' => if r' = r then x else S r'
@[simp] theorem upd_same {β : Type} (S : Root → β) (r : Root) (x : β) : upd S r x r = x := by simp [upd]
theorem upd_other {β : Type} (S : Root → β) {r r' : Root} (x : β) (h : r' ≠ r) : upd S r x r' = S r' := by simp [upd, h]

/-- who owns a block -/
def Own (S : Root → List Nat) (fl : List Nat) (b : Nat) : Prop := (∃ r, b ∈ S r) ∨ b ∈ fl
/-- nothing is owned twice -/
structure Dis (S : Root → List Nat) (fl : List Nat) : Prop where
  nd : ∀ r, (S r).Nodup
  ndF : fl.Nodup
  one : ∀ r r' b, b ∈ S r → b ∈ S r' → r = r'
  oneF : ∀ r b, b ∈ S r → b ∉ fl

section
variable {S : Root → List Nat} {fl : List Nat}
theorem Dis.drop (h : Dis S fl) {r : Root} {L M R : List Nat} (e : S r = L ++ M ++ R) : Dis (upd S r (L ++ R)) fl := by
  have hs : ∀ r' b, b ∈ upd S r (L ++ R) r' → b ∈ S r' := fun r' b hb => by
    by_cases hr : r' = r
    · subst hr; rw [upd_same] at hb; rw [e]; simp at hb ⊢; rcases hb with h | h <;> simp [h]
    · rwa [upd_other _ _ hr] at hb
  refine ⟨fun r' => ?_, h.ndF, fun r1 r2 b h1 h2 => h.one r1 r2 b (hs _ _ h1) (hs _ _ h2), fun r' b hb => h.oneF r' b (hs _ _ hb)⟩
  by_cases hr : r' = r
  · subst hr
    rw [upd_same]
    have := h.nd r'
    rw [e] at this
    simp only [List.nodup_append, List.append_assoc] at this ⊢
    grind
  · rw [upd_other _ _ hr]; exact h.nd r'
theorem Own.drop {r : Root} {L M R : List Nat} (e : S r = L ++ M ++ R) {b : Nat} (h : Own (upd S r (L ++ R)) fl b) : Own S fl b := by
  rcases h with ⟨r', hb⟩ | hb
  · left
    by_cases hr : r' = r
    · subst hr; rw [upd_same] at hb; refine ⟨r', ?_⟩; rw [e]; simp at hb ⊢; rcases hb with h | h <;> simp [h]
    · rw [upd_other _ _ hr] at hb; exact ⟨r', hb⟩
  · exact .inr hb
theorem Dis.detach (h : Dis S fl) {r : Root} {L M R : List Nat} (e : S r = L ++ M ++ R) : Dis (upd S r (L ++ R)) (M ++ fl) := by
  have hd := h.drop e
  have hn := h.nd r
  rw [e] at hn
  have hM : ∀ b ∈ M, b ∈ S r := fun b hb => by rw [e]; simp [hb]
  refine ⟨hd.nd, ?_, hd.one, fun r' b hb hc => ?_⟩
  · rw [List.nodup_append]
    simp only [List.nodup_append] at hn
    exact ⟨hn.1.2.1, h.ndF, fun a ha b hb hab => h.oneF r a (hM a ha) (hab ▸ hb)⟩
  · rcases List.mem_append.1 hc with hc | hc
    · by_cases hr : r' = r
      · subst hr
        rw [upd_same] at hb
        simp only [List.nodup_append, List.append_assoc] at hn
        rcases List.mem_append.1 hb with hb | hb
        · exact hn.2.2 b hb b (by simp [hc]) rfl
        · exact hn.2.1.2.2 b hc b hb rfl
      · rw [upd_other _ _ hr] at hb
        exact hr (h.one r' r b hb (hM b hc))
    · exact hd.oneF r' b hb hc
theorem Own.detach {r : Root} {L M R : List Nat} (e : S r = L ++ M ++ R) {b : Nat} : Own (upd S r (L ++ R)) (M ++ fl) b ↔ Own S fl b := by
  constructor
  · rintro (h | hb)
    · exact Own.drop e (.inl h)
    · rcases List.mem_append.1 hb with hb | hb
      · exact .inl ⟨r, by rw [e]; simp [hb]⟩
      · exact .inr hb
  · rintro (⟨r', hb⟩ | hb)
    · by_cases hr : r' = r
      · subst hr
        rw [e] at hb
        simp only [List.mem_append] at hb
        rcases hb with (hb | hb) | hb
        · exact .inl ⟨r', by rw [upd_same]; simp [hb]⟩
        · exact .inr (by simp [hb])
        · exact .inl ⟨r', by rw [upd_same]; simp [hb]⟩
      · exact .inl ⟨r', by rw [upd_other _ _ hr]; exact hb⟩
    · exact .inr (by simp [hb])
theorem Dis.attach {r : Root} {L M R : List Nat} (h : Dis S (M ++ fl)) (e : S r = L ++ R) : Dis (upd S r (L ++ M ++ R)) fl := by
  have hs : ∀ r' b, b ∈ upd S r (L ++ M ++ R) r' → b ∈ S r' ∨ (r' = r ∧ b ∈ M) := fun r' b hb => by
    by_cases hr : r' = r
    · subst hr; rw [upd_same] at hb; rw [e]; simp at hb ⊢; rcases hb with h | h | h <;> simp [h]
    · rw [upd_other _ _ hr] at hb; exact .inl hb
  have hF := h.ndF
  rw [List.nodup_append] at hF
  refine ⟨fun r' => ?_, hF.2.1, fun r1 r2 b h1 h2 => ?_, fun r' b hb hc => ?_⟩
  · by_cases hr : r' = r
    · subst hr
      rw [upd_same]
      have h1 := h.nd r'
      have h2 : ∀ b, b ∈ M → b ∉ S r' := fun b hb hc => h.oneF r' b hc (by simp [hb])
      rw [e] at h1 h2
      simp only [List.nodup_append, List.append_assoc, List.mem_append, not_or] at h1 h2 ⊢
      refine ⟨h1.1, ⟨hF.1, h1.2.1, fun a ha b hb hab => (h2 a ha).2 (hab ▸ hb)⟩, fun a ha b hb hab => ?_⟩
      rcases hb with hb | hb
      · exact (h2 b hb).1 (hab ▸ ha)
      · exact h1.2.2 a ha b hb hab
    · rw [upd_other _ _ hr]; exact h.nd r'
  · rcases hs r1 b h1 with a1 | ⟨a1, b1⟩ <;> rcases hs r2 b h2 with a2 | ⟨a2, b2⟩
    · exact h.one r1 r2 b a1 a2
    · exact absurd (by simp [b2]) (h.oneF r1 b a1)
    · exact absurd (by simp [b1]) (h.oneF r2 b a2)
    · rw [a1, a2]
  · rcases hs r' b hb with a1 | ⟨a1, b1⟩
    · exact h.oneF r' b a1 (by simp [hc])
    · exact hF.2.2 b b1 b hc rfl
theorem Own.attach {r : Root} {L M R : List Nat} (e : S r = L ++ R) {b : Nat} : Own (upd S r (L ++ M ++ R)) fl b ↔ Own S (M ++ fl) b := by
  constructor
  · rintro (⟨r', hb⟩ | hb)
    · by_cases hr : r' = r
      · subst hr
        rw [upd_same] at hb
        simp only [List.mem_append] at hb
        rcases hb with (hb | hb) | hb
        · exact .inl ⟨r', by rw [e]; simp [hb]⟩
        · exact .inr (by simp [hb])
        · exact .inl ⟨r', by rw [e]; simp [hb]⟩
      · exact .inl ⟨r', by rw [upd_other _ _ hr] at hb; exact hb⟩
    · exact .inr (by simp [hb])
  · rintro (⟨r', hb⟩ | hb)
    · by_cases hr : r' = r
      · subst hr
        rw [e] at hb
        refine .inl ⟨r', ?_⟩
        rw [upd_same]
        simp only [List.mem_append] at hb ⊢
        rcases hb with hb | hb <;> simp [hb]
      · exact .inl ⟨r', by rw [upd_other _ _ hr]; exact hb⟩
    · rcases List.mem_append.1 hb with hb | hb
      · exact .inl ⟨r, by rw [upd_same]; simp [hb]⟩
      · exact .inr hb
/-- the floating blocks in another order, some of them let go -/
theorem Dis.float (h : Dis S fl) {fl' : List Nat} (hn : fl'.Nodup) (hs : ∀ b ∈ fl', b ∈ fl) : Dis S fl' :=
  ⟨h.nd, hn, h.one, fun r b hb hc => h.oneF r b hb (hs b hc)⟩
theorem Dis.fresh (h : Dis S fl) {g : Nat} (hg : ¬ Own S fl g) : Dis S (g :: fl) :=
  ⟨h.nd, List.nodup_cons.2 ⟨fun hc => hg (.inr hc), h.ndF⟩, h.one, fun r b hb hc => by
    rcases List.mem_cons.1 hc with rfl | hc
    · exact hg (.inl ⟨r, hb⟩)
    · exact h.oneF r b hb hc⟩
end

/-- what an activation began with: the world; blocks where data of a tag may not lie (false: pure for good; true: lent by a caller); blocks of shared objects -/
structure Av where
  w0 : World
  F : Bool → Nat → Prop
  O0 : Nat → Prop
  n0 : Nat
  ρ0 : Nat → Nat
  mono : ∀ b, F true b → F false b

def cxOf (A : Av) (nO : Nat) (ρ : Nat → Nat) (S : Root → List Nat) (fl : List Nat) (w : World) : Cx :=
  { w, pm := fun t b => ¬ Own S fl b ∧ ¬ A.F t b ∧ b < w.heap.size, nO, ρ }

theorem cxOf_mono (A : Av) (nO : Nat) (ρ : Nat → Nat) (S : Root → List Nat) (fl : List Nat) (w : World) : ∀ b, (cxOf A nO ρ S fl w).pm false b → (cxOf A nO ρ S fl w).pm true b := fun b h => ⟨h.1, fun q => h.2.1 (A.mono b q), h.2.2⟩
def MapOK (c : Cx) (b : Nat) (es : List (D × T)) : Prop :=
  ∃ en clock, c.w.heap[b]? = some (.map en clock) ∧ All2 (fun (e : D × T) (x : MapEntry) => VV c e.1 x.key ∧ ∃ y, e.2 = .d y ∧ VV c y x.val) es en.toList

/-- what has become of the world -/
structure Fr (A : Av) (w : World) : Prop where
  os : w.os = A.w0.os
  tape : w.tape = A.w0.tape
  output : w.output = A.w0.output
  size : A.w0.heap.size ≤ w.heap.size
  kept : ∀ b, b < A.w0.heap.size → ¬ A.O0 b → w.heap[b]? = A.w0.heap[b]?

structure KR (A : Av) (ρ : Nat → Nat) (S : Root → List Nat) (hd : Root → Value) (fl : List Nat) (k : Wk) (vals : List (SV × Value)) (w : World) : Prop where
  cont : ∀ r t, k.get r = some t → TC (cxOf A k.H.length ρ S fl w) t [hd r] (S r)
  gone : ∀ r, k.get r = none → (∀ n es, r = .o n → k.H[n]? ≠ some (.map es)) → S r = []
  obj : ∀ n, hd (.o n) = .slice (some ⟨ρ n, 0, none⟩) 1 1
  map : ∀ n es, k.H[n]? = some (.map es) → S (.o n) = [ρ n] ∧ MapOK (cxOf A k.H.length ρ S fl w) (ρ n) es
  dis : Dis S fl
  blk : ∀ b, Own S fl b → b < w.heap.size ∧ (∀ t, ¬ A.F t b) ∧ (b < A.w0.heap.size → A.O0 b)
  vals : ∀ p ∈ vals, SO (cxOf A k.H.length ρ S fl w) k.get hd (trv k.tr p.1) p.2
  fr : Fr A w
  Fold : ∀ t b, A.F t b → b < A.w0.heap.size
  rho : A.n0 ≤ k.H.length ∧ ∀ o, o < A.n0 → ρ o = A.ρ0 o

/-- a step of the world: what nobody owned before stays; what is owned behind was owned before, or is new -/
structure WS (S : Root → List Nat) (fl : List Nat) (w : World) (S' : Root → List Nat) (fl' : List Nat) (w' : World) : Prop where
  os : w'.os = w.os
  tape : w'.tape = w.tape
  output : w'.output = w.output
  size : w.heap.size ≤ w'.heap.size
  same : ∀ b, b < w.heap.size → ¬ Own S fl b → w'.heap[b]? = w.heap[b]?
  own : ∀ b, Own S' fl' b → Own S fl b ∨ (w.heap.size ≤ b ∧ b < w'.heap.size)

section
variable {A : Av} {ρ ρ' : Nat → Nat} {S S' : Root → List Nat} {hd hd' : Root → Value} {fl fl' : List Nat} {k k' : Wk} {vals : List (SV × Value)} {w w' : World}

theorem WS.ext (s : WS S fl w S' fl' w') {nO nO' : Nat} (hn : nO ≤ nO') (hr : ∀ o, o < nO → ρ' o = ρ o) : Ext (cxOf A nO ρ S fl w) (cxOf A nO' ρ' S' fl' w') :=
  ⟨fun t g hp => ⟨⟨fun ho => by rcases s.own g ho with h | h; exact hp.1 h; exact absurd hp.2.2 (by omega), hp.2.1, Nat.lt_of_lt_of_le hp.2.2 s.size⟩, s.same g hp.2.2 hp.1⟩, hn, hr⟩
theorem WS.blk (s : WS S fl w S' fl' w') (h : KR A ρ S hd fl k vals w) : ∀ b, Own S' fl' b → b < w'.heap.size ∧ (∀ t, ¬ A.F t b) ∧ (b < A.w0.heap.size → A.O0 b) := fun b hb => by
  have hsz := h.fr.size
  rcases s.own b hb with h1 | ⟨h1, h2⟩
  · have := h.blk b h1; exact ⟨Nat.lt_of_lt_of_le this.1 s.size, this.2.1, this.2.2⟩
  · exact ⟨h2, fun t hF => by have := h.Fold t b hF; omega, fun h3 => by omega⟩
theorem WS.frm (s : WS S fl w S' fl' w') (h : KR A ρ S hd fl k vals w) : Fr A w' :=
  ⟨s.os.trans h.fr.os, s.tape.trans h.fr.tape, s.output.trans h.fr.output, Nat.le_trans h.fr.size s.size, fun b hb hO => by
    rw [s.same b (Nat.lt_of_lt_of_le hb h.fr.size) (fun ho => hO ((h.blk b ho).2.2 hb))]; exact h.fr.kept b hb hO⟩
theorem WS.stay (ho : ∀ b, Own S' fl' b → Own S fl b) : WS S fl w S' fl' w := ⟨rfl, rfl, rfl, Nat.le_refl _, fun _ _ _ => rfl, fun b hb => .inl (ho b hb)⟩
/-- a root that is not touched -/
theorem KR.hold (h : KR A ρ S hd fl k vals w) {r : Root} (c' : Cx) (hk : k'.get r = k.get r) (hh : hd' r = hd r) (hs : ∀ b ∈ S r, c'.w.heap[b]? = w.heap[b]?) (q : Path) :
    Hold (cxOf A k.H.length ρ S fl w) c' k.get k'.get hd hd' r q := fun t es h1 h2 =>
  ⟨t, es, by rw [hk]; exact h1, h2, SameShape.refl _, fun h' hn => by rw [hh]; exact NodeH.ext q t _ h' _ (h.cont r t h1) hs hn⟩

theorem look_get {ct : List ((Nat × Nat) × T)} {n j : Nat} {t : T} {H : List Ob} {r : Root} : cont (((n, j), t) :: ct) H r = if r = .l n j then some t else cont ct H r := by
  cases r with
  | l a b =>
    simp only [Go.Am.cont, lookR, Root.l.injEq, Prod.mk.injEq]
    by_cases h : n = a ∧ j = b
    · obtain ⟨rfl, rfl⟩ := h; simp
    · rw [if_neg h, if_neg (fun e => h ⟨e.1.symm, e.2.symm⟩)]
  | o a => simp [Go.Am.cont]
/-- 'set' sets one root's content -/
theorem Wk.set_spec {r : Root} {t : T} (hs : k.set r t = some k') (ht : (∃ c, k.get r = some c ∧ (∀ n, r = .o n → True))) :
    (∀ r', k'.get r' = if r' = r then some t else k.get r') ∧ k'.H.length = k.H.length ∧ k'.tr = k.tr ∧ (∀ (n : Nat) (es : List (D × T)), k'.H[n]? = some (Ob.map es) ↔ k.H[n]? = some (Ob.map es)) := by
  cases r with
  | l n j =>
    simp only [Wk.set, Option.some.injEq] at hs
    subst hs
    exact ⟨fun r' => look_get, rfl, rfl, fun _ _ => Iff.rfl⟩
  | o n =>
    obtain ⟨c, hc, _⟩ := ht
    simp only [Wk.set] at hs
    split at hs
    · rename_i c' 
      simp only [Option.some.injEq] at hs
      subst hs
      simp only [Wk.get, Go.Am.cont] at hc
      have hb : ∃ c0, k.H[n]? = some (.box c0) := by
        revert hc
        cases k.H[n]? with
        | none => simp
        | some x => cases x <;> simp
      obtain ⟨c0, hb⟩ := hb
      have hlt := (List.getElem?_eq_some_iff.1 hb).1
      refine ⟨fun r' => ?_, by simp, rfl, fun m es => ?_⟩
      · cases r' with
        | l a b => simp [Wk.get, Go.Am.cont]
        | o m =>
          simp only [Wk.get, Go.Am.cont, Root.o.injEq]
          by_cases hm : m = n
          · subst hm; simp [hlt]
          · rw [List.getElem?_set_ne (Ne.symm hm)]; simp [hm]
      · by_cases hm : n = m
        · subst hm; rw [List.getElem?_set_self hlt, hb]; simp
        · simp [List.getElem?_set_ne hm]
    · cases hs

/-- A NODE GIVES UP WHAT IT OWNS: in its place stands something that owns nothing; what it owned floats ('M'), or is let go ('M' empty) and is pure memory from now on. -/
theorem KR.giveUp (h : KR A ρ S hd fl k vals w) {r : Root} {t t' nd nd' : T} {p : Path} {h' : Value} {L Sn R M : List Nat} (x : Tr)
    (hr : k.get r = some t) (hS : S r = L ++ Sn ++ R) (hf : Focus (cxOf A k.H.length ρ S fl w) t (hd r) p nd h' L Sn R)
    (hp : t.put p nd' = some t') (hn1 : nd'.nc = 1) (hs : k.set r t' = some k') (hM : M = Sn ∨ M = [])
    (hnd : TC (cxOf A k.H.length ρ (upd S r (L ++ R)) (M ++ fl) w) nd' [h'] [])
    (hx : ∀ u v, (∀ r' q, (r' = r → q ≠ p ∧ q.length ≤ p.length) → Hold (cxOf A k.H.length ρ S fl w) (cxOf A k.H.length ρ (upd S r (L ++ R)) (M ++ fl) w) k.get k'.get hd hd r' q) →
        SO (cxOf A k.H.length ρ S fl w) k.get hd u v → SO (cxOf A k.H.length ρ (upd S r (L ++ R)) (M ++ fl) w) k'.get hd (x.sv u) v) :
    KR A ρ (upd S r (L ++ R)) hd (M ++ fl) (k'.tell x) vals w ∧ Ext (cxOf A k.H.length ρ S fl w) (cxOf A k.H.length ρ (upd S r (L ++ R)) (M ++ fl) w) := by
  obtain ⟨g1, g2, g3, g4⟩ := Wk.set_spec hs ⟨t, hr, fun _ _ => trivial⟩
  have hown : ∀ b, Own (upd S r (L ++ R)) (M ++ fl) b → Own S fl b := fun b hb => by
    rcases hM with rfl | rfl
    · exact (Own.detach hS).1 hb
    · exact Own.drop hS (by simpa using hb)
  have ws : WS S fl w (upd S r (L ++ R)) (M ++ fl) w := WS.stay hown
  have ext : Ext (cxOf A k.H.length ρ S fl w) (cxOf A k.H.length ρ (upd S r (L ++ R)) (M ++ fl) w) := ws.ext (Nat.le_refl _) (fun _ _ => rfl)
  have hget : ∀ r', r' ≠ r → k'.get r' = k.get r' := fun r' hne => by rw [g1 r', if_neg hne]
  have hgetr : k'.get r = some t' := by rw [g1 r, if_pos rfl]
  have hget' : ∀ r', (k'.tell x).get r' = k'.get r' := fun _ => rfl
  refine ⟨⟨fun r' t0 h0 => ?_, fun r' h0 hm => ?_, h.obj, fun n es hm => ?_, ?_, ws.blk h, fun pr hpr => ?_, h.fr, h.Fold, by rw [show (k'.tell x).H.length = k.H.length from g2]; exact h.rho⟩, ext⟩
  · have e : (k'.tell x).H.length = k.H.length := g2
    rw [e]
    rw [hget'] at h0
    by_cases hne : r' = r
    · subst hne
      rw [hgetr] at h0
      simp only [Option.some.injEq] at h0
      subst h0
      rw [upd_same]
      have := hf.put _ nd' t' [] ext (fun _ _ => rfl) hp hnd
      simpa using this
    · rw [hget r' hne] at h0
      rw [upd_other _ _ hne]
      exact TC.ext ext _ _ _ (fun _ _ => rfl) (h.cont r' t0 h0)
  · rw [hget'] at h0
    by_cases hne : r' = r
    · subst hne; rw [hgetr] at h0; cases h0
    · rw [upd_other _ _ hne]
      rw [hget r' hne] at h0
      exact h.gone r' h0 (fun n es e hm' => hm n es e ((g4 n es).2 hm'))
  · have e : (k'.tell x).H.length = k.H.length := g2
    rw [e]
    have hm' := (g4 n es).1 hm
    obtain ⟨m1, en, cl, m2, m3⟩ := h.map n es hm'
    have hne : (Root.o n) ≠ r := by
      rintro rfl
      simp [Wk.get, Go.Am.cont, hm'] at hr
    rw [upd_other _ _ hne]
    exact ⟨m1, en, cl, m2, m3.imp (fun a _ b ⟨q1, y, q2, q3⟩ => ⟨VV.ext ext q1, y, q2, VV.ext ext q3⟩)⟩
  · rcases hM with rfl | rfl
    · exact h.dis.detach hS
    · simpa using h.dis.drop hS
  · have e : (k'.tell x).H.length = k.H.length := g2
    rw [e]
    have e2 : (k'.tell x).tr = k.tr ++ [x] := by simp [Wk.tell, g3]
    rw [e2]
    have e3 : ∀ (a : List Tr) (u : SV), trv (a ++ [x]) u = x.sv (trv a u) := fun a => by
      induction a with
      | nil => intro u; rfl
      | cons y a ih => intro u; simp only [List.cons_append, trv]; exact ih _
    rw [e3]
    refine hx _ _ (fun r' q hq => ?_) (h.vals pr hpr)
    by_cases hne : r' = r
    · subst hne
      obtain ⟨q1, q2⟩ := hq rfl
      intro t0 es h1 h2
      rw [hr] at h1
      simp only [Option.some.injEq] at h1
      subst h1
      obtain ⟨es', o1, o2, o3⟩ := hf.oth (cxOf A k.H.length ρ (upd S r' (L ++ R)) (M ++ fl) w) nd' t' (fun _ => False) (fun _ _ => rfl) hp hn1 (fun _ _ hF => hF.elim) q es (fun q' hq' => by
        subst hq'
        simp only [List.length_append] at q2
        have : q' = [] := List.eq_nil_of_length_eq_zero (by omega)
        subst this
        exact q1 (by simp)) h2
      exact ⟨t', es', hgetr, o1, o2, o3⟩
    · exact h.hold _ (hget r' hne) rfl (fun _ _ => rfl) q

theorem WS.of (hos : w'.os = w.os) (ht : w'.tape = w.tape) (ho : w'.output = w.output) (hsz : w.heap.size ≤ w'.heap.size) {M M' : List Nat}
    (same : ∀ b, b < w.heap.size → b ∉ M → w'.heap[b]? = w.heap[b]?) (hM' : ∀ b ∈ M', b ∈ M ∨ (w.heap.size ≤ b ∧ b < w'.heap.size)) : WS S (M ++ fl) w S (M' ++ fl) w' :=
  ⟨hos, ht, ho, hsz, fun b hb hn => same b hb (fun hm => hn (.inr (by simp [hm]))), fun b hb => by
    rcases hb with hb | hb
    · exact .inl (.inl hb)
    · rcases List.mem_append.1 hb with hb | hb
      · rcases hM' b hb with q | q
        · exact .inl (.inr (by simp [q]))
        · exact .inr q
      · exact .inl (.inr (by simp [hb]))⟩
/-- the world changes in floating blocks alone; new blocks float -/
theorem KR.world (hos : w'.os = w.os) (ht : w'.tape = w.tape) (ho : w'.output = w.output) (hsz : w.heap.size ≤ w'.heap.size) {M M' : List Nat} (h : KR A ρ S hd (M ++ fl) k vals w)
    (same : ∀ b, b < w.heap.size → b ∉ M → w'.heap[b]? = w.heap[b]?) (hM' : ∀ b ∈ M', b ∈ M ∨ (w.heap.size ≤ b ∧ b < w'.heap.size)) (hn : M'.Nodup) :
    KR A ρ S hd (M' ++ fl) k vals w' ∧ Ext (cxOf A k.H.length ρ S (M ++ fl) w) (cxOf A k.H.length ρ S (M' ++ fl) w') := by
  have ws : WS S (M ++ fl) w S (M' ++ fl) w' := WS.of hos ht ho hsz same hM'
  have ext : Ext (cxOf A k.H.length ρ S (M ++ fl) w) (cxOf A k.H.length ρ S (M' ++ fl) w') := ws.ext (Nat.le_refl _) (fun _ _ => rfl)
  have kept : ∀ r, ∀ b ∈ S r, w'.heap[b]? = w.heap[b]? := fun r b hb => same b (h.blk b (.inl ⟨r, hb⟩)).1 (fun hm => h.dis.oneF r b hb (by simp [hm]))
  have hF := h.dis.ndF
  rw [List.nodup_append] at hF
  have hM'2 : ∀ b ∈ M', b ∉ fl := fun b hb hc => by
    rcases hM' b hb with q | q
    · exact hF.2.2 b q b hc rfl
    · have := (h.blk b (.inr (by simp [hc]))).1; omega
  refine ⟨⟨fun r t ht => TC.ext ext _ _ _ (kept r) (h.cont r t ht), h.gone, h.obj, fun n es he => ?_, ⟨h.dis.nd, ?_, h.dis.one, fun r b hb hc => ?_⟩, ws.blk h, fun p hp => ?_, ws.frm h, h.Fold, h.rho⟩, ext⟩
  · obtain ⟨m1, en, cl, m2, m3⟩ := h.map n es he
    exact ⟨m1, en, cl, by rw [← m2]; exact kept (.o n) (ρ n) (by rw [m1]; simp), m3.imp (fun a _ b ⟨q1, y, q2, q3⟩ => ⟨VV.ext ext q1, y, q2, VV.ext ext q3⟩)⟩
  · rw [List.nodup_append]
    exact ⟨hn, hF.2.1, fun a ha b hb hab => hM'2 a ha (hab ▸ hb)⟩
  · rcases List.mem_append.1 hc with hc | hc
    · rcases hM' b hc with q | q
      · exact h.dis.oneF r b hb (by simp [q])
      · have := (h.blk b (.inl ⟨r, hb⟩)).1; omega
    · exact h.dis.oneF r b hb (by simp [hc])
  · exact SO.keep ext (fun r q => h.hold _ rfl rfl (kept r) q) (h.vals p hp)

/-- what floats becomes a root -/
theorem KR.newRoot {n j : Nat} {t : T} {hv : Value} {M : List Nat} (h : KR A ρ S hd (M ++ fl) k vals w) (ht : TC (cxOf A k.H.length ρ S (M ++ fl) w) t [hv] M) :
    KR A ρ (upd S (.l n j) M) (upd hd (.l n j) hv) fl (k.new n j t) vals w ∧ Ext (cxOf A k.H.length ρ S (M ++ fl) w) (cxOf A k.H.length ρ (upd S (.l n j) M) fl w) := by
  have e1 : S (.l n j) = [] ++ S (.l n j) ++ [] := by simp
  have d1 := h.dis.drop e1
  simp only [List.append_nil] at d1
  have own1 : ∀ b, Own (upd (upd S (.l n j) []) (.l n j) ([] ++ M ++ [])) fl b → Own S (M ++ fl) b := fun b hb => by
    have := (Own.attach (S := upd S (.l n j) []) (r := .l n j) (L := []) (R := []) (M := M) (by simp)).1 hb
    exact Own.drop e1 (by simpa using this)
  have e2 : upd (upd S (.l n j) []) (.l n j) ([] ++ M ++ []) = upd S (.l n j) M := by
    funext r; simp only [upd, List.nil_append, List.append_nil]; split <;> rfl
  have d2 := Dis.attach (r := .l n j) (L := []) (R := []) (M := M) (fl := fl) d1 (by simp)
  rw [e2] at d2 own1
  have ws : WS S (M ++ fl) w (upd S (.l n j) M) fl w := WS.stay own1
  have ext : Ext (cxOf A k.H.length ρ S (M ++ fl) w) (cxOf A k.H.length ρ (upd S (.l n j) M) fl w) := ws.ext (Nat.le_refl _) (fun _ _ => rfl)
  have get : ∀ r, (k.new n j t).get r = if r = .l n j then some t else k.get r := fun r => look_get
  have hd1 : ∀ r, r ≠ .l n j → upd hd (.l n j) hv r = hd r := fun r hr => upd_other _ _ hr
  refine ⟨⟨fun r t0 h0 => ?_, fun r h0 hm => ?_, fun m => by rw [hd1 _ (by simp)]; exact h.obj m, fun m es he => ?_, d2, ws.blk h, fun p hp => ?_, h.fr, h.Fold, h.rho⟩, ext⟩
  · rw [get] at h0
    split at h0
    · rename_i e; subst e
      simp only [Option.some.injEq] at h0
      subst h0
      rw [upd_same, upd_same]
      exact TC.ext ext _ _ _ (fun _ _ => rfl) ht
    · rename_i e
      rw [hd1 r e, upd_other _ _ e]
      exact TC.ext ext _ _ _ (fun _ _ => rfl) (h.cont r t0 h0)
  · rw [get] at h0
    split at h0
    · cases h0
    · rename_i e
      rw [upd_other _ _ e]
      exact h.gone r h0 hm
  · rw [upd_other _ _ (by simp)]
    obtain ⟨m1, en, cl, m2, m3⟩ := h.map m es he
    exact ⟨m1, en, cl, m2, m3.imp (fun a _ b ⟨q1, y, q2, q3⟩ => ⟨VV.ext ext q1, y, q2, VV.ext ext q3⟩)⟩
  · have e3 : trv (k.new n j t).tr p.1 = (Tr.kill (.l n j) []).sv (trv k.tr p.1) := by
      have : ∀ (a : List Tr) (x : Tr) (u : SV), trv (a ++ [x]) u = x.sv (trv a u) := fun a x u => by
        induction a generalizing u with
        | nil => rfl
        | cons y a ih => simp only [List.cons_append, trv]; exact ih _
      exact this _ _ _
    rw [e3]
    refine SO.kill ext _ _ (fun r q hq => ?_) (h.vals p hp)
    by_cases hr : r = .l n j
    · obtain ⟨q1, q2⟩ := hq hr
      exact absurd (List.eq_nil_of_length_eq_zero (by simpa using q2)) q1
    · exact h.hold _ (by rw [get, if_neg hr]) (hd1 r hr) (fun _ _ => rfl) q
end
end Go.Am
