/- The abstract machine: what is not looked at any more is forgotten. -/
import Derived.Test.YtabkianhbgpfgaaAmOp
namespace Go.Am
open Go Go.RowKit
set_option linter.unusedSimpArgs false
set_option linter.unusedVariables false

theorem mem_rootss {l : List SV} {u : SV} (hu : u ∈ l) {p : Nat × Nat} (hp : p ∈ u.roots) : p ∈ SV.rootss l := by
  induction l with
  | nil => cases hu
  | cons a r ih =>
    simp only [SV.rootss, List.mem_append]
    rcases List.mem_cons.1 hu with rfl | hu
    · exact .inl hp
    · exact .inr (ih hu)
theorem mem_dedup {l : List (Nat × Nat)} {x : Nat × Nat} : x ∈ dedup l ↔ x ∈ l := by
  induction l with
  | nil => simp [dedup]
  | cons a r ih =>
    simp only [dedup]
    split
    · rename_i h
      simp only [List.contains_eq_mem, decide_eq_true_eq] at h
      rw [List.mem_cons, ← ih]
      constructor
      · exact .inr
      · rintro (rfl | h')
        · exact h
        · exact h'
    · rw [List.mem_cons, List.mem_cons, ih]
theorem lookR_pick {ct : List ((Nat × Nat) × T)} : ∀ (l : List (Nat × Nat)) (x : Nat × Nat), lookR (pick ct l) x = if x ∈ l then lookR ct x else none
  | [], x => by simp [pick, lookR]
  | a :: r, x => by
    simp only [pick]
    split
    · rename_i t ht
      simp only [lookR]
      by_cases h : a = x
      · subst h; simp [ht]
      · rw [if_neg h, lookR_pick r x]
        simp [Ne.symm h]
    · rename_i ht
      rw [lookR_pick r x]
      by_cases h : a = x
      · subst h; simp [ht]
      · simp [Ne.symm h]

section
variable {c c' : Cx} {K K' : Root → Option T} {hd hd' : Root → Value}
/-- nothing told: what is said of the nodes that a slot leans on still holds -/
theorem SO.on (hx : Ext c c') (G : Root → Prop) (hh : ∀ r q, G r → Hold c c' K K' hd hd' r q) (hO : ∀ n, G (.o n)) {u : SV} {v : Value} (hg : ∀ p ∈ u.roots, G (.l p.1 p.2)) (h : SO c K hd u v) : SO c' K' hd' u v := by
  have sb : ∀ (u : SV) (v : Value), (∀ p ∈ u.roots, G (.l p.1 p.2)) → SB c K hd u v → SB c' K' hd' u v := fun u v hg h => by
    cases u with
    | bor r p off len => exact SB.keep_bor (hh r p (by cases r with | l n j => exact hg (n, j) (by simp [SV.roots]) | o n => exact hO n)) h
    | loc r p i off => exact SB.keep_loc (hh r p (by cases r with | l n j => exact hg (n, j) (by simp [SV.roots]) | o n => exact hO n)) h
    | _ => exact SB.keep_rest hx (by simp) (by simp) h
  have co : ∀ (u : SV) (v : Value), (∀ p ∈ u.roots, G (.l p.1 p.2)) → CO c K hd u v → CO c' K' hd' u v := fun u v hg h => by
    by_cases hy : ∃ y, u = .d y
    · obtain ⟨y, rfl⟩ := hy
      exact VC.ext hx y _ h
    · have hy' : ∀ y, u ≠ .d y := fun y e => hy ⟨y, e⟩
      have h2 := sb u v hg (CO.to_SB hy' h)
      cases u <;> first | exact absurd rfl (hy' _) | exact h2
  have s1 : ∀ (u : SV) (v : Value), (∀ p ∈ u.roots, G (.l p.1 p.2)) → S1 c K hd u v → S1 c' K' hd' u v := fun u v hg h => by
    by_cases hu : ∃ l, u = .agg l
    · obtain ⟨l, rfl⟩ := hu
      obtain ⟨cs, h1, h2⟩ := h
      exact ⟨cs, h1, h2.imp (fun a ha b hab => co a b (fun p hp => hg p (mem_rootss ha hp)) hab)⟩
    · have hu' : ∀ l, u ≠ .agg l := fun l e => hu ⟨l, e⟩
      exact S1.of_SB hu' (sb u v hg (S1.to_SB hu' h))
  by_cases hu : ∃ l, u = .tup l
  · obtain ⟨l, rfl⟩ := hu
    obtain ⟨cs, h1, h2⟩ := h
    exact ⟨cs, h1, h2.imp (fun a ha b hab => s1 a b (fun p hp => hg p (mem_rootss ha hp)) hab)⟩
  · have hu' : ∀ l, u ≠ .tup l := fun l e => hu ⟨l, e⟩
    exact SO.of_S1 hu' (s1 u v hg (SO.to_S1 hu' h))
end

section
variable {P : Program} {A : Av} {ρ : Nat → Nat} {S : Root → List Nat} {hd : Root → Value} {fl : List Nat} {k k' : Wk} {vals vals' : List (SV × Value)} {w : World}

/-- local roots are forgotten -/
theorem KR.forget (h : KR A ρ S hd fl k vals w) (L : List (Nat × Nat)) {ct : List ((Nat × Nat) × T)} (hct : ∀ x, lookR ct x = if x ∈ L then lookR k.ct x else none) :
    ∃ S', KR A ρ S' hd fl { ct, H := k.H } [] w ∧ ∀ u v, (∀ p ∈ u.roots, p ∈ L) → SO (cxOf A k.H.length ρ S fl w) k.get hd u v → SO (cxOf A k.H.length ρ S' fl w) ({ ct, H := k.H } : Wk).get hd u v := by
  let G : Root → Bool := fun r => match r with | .l n j => decide ((n, j) ∈ L) | .o _ => true
  let S' : Root → List Nat := fun r => if G r then S r else []
  have hS' : ∀ r b, b ∈ S' r → b ∈ S r := fun r b hb => by
    simp only [S'] at hb
    split at hb
    · exact hb
    · simp at hb
  have own : ∀ b, Own S' fl b → Own S fl b := fun b hb => hb.imp (fun ⟨r, hr⟩ => ⟨r, hS' r b hr⟩) id
  have ws : WS S fl w S' fl w := WS.stay own
  have ext : Ext (cxOf A k.H.length ρ S fl w) (cxOf A k.H.length ρ S' fl w) := ws.ext (Nat.le_refl _) (fun _ _ => rfl)
  have get : ∀ r, G r = true → ({ ct, H := k.H } : Wk).get r = k.get r := fun r hr => by
    cases r with
    | l n j => simp only [G, decide_eq_true_eq] at hr; simp only [Wk.get, Go.Am.cont, hct, if_pos hr]
    | o n => rfl
  have getN : ∀ r, G r = false → ({ ct, H := k.H } : Wk).get r = none ∧ ∀ n, r ≠ .o n := fun r hr => by
    cases r with
    | l n j => simp only [G, decide_eq_false_iff_not] at hr; exact ⟨by simp only [Wk.get, Go.Am.cont, hct, if_neg hr], by simp⟩
    | o n => cases hr
  refine ⟨S', ⟨fun r t ht => ?_, fun r hr hm => ?_, h.obj, fun n es he => ?_, ⟨fun r => ?_, h.dis.ndF, fun r r' b hb hb' => h.dis.one r r' b (hS' r b hb) (hS' r' b hb'), fun r b hb => h.dis.oneF r b (hS' r b hb)⟩, ws.blk h, by simp, h.fr, h.Fold, h.rho⟩, fun u v hu hv => ?_⟩
  · cases hg : G r with
    | true =>
      rw [get r hg] at ht
      have : S' r = S r := by simp [S', hg]
      rw [this]
      exact TC.ext ext _ _ _ (fun _ _ => rfl) (h.cont r t ht)
    | false => rw [(getN r hg).1] at ht; cases ht
  · cases hg : G r with
    | true =>
      rw [get r hg] at hr
      have : S' r = S r := by simp [S', hg]
      rw [this]
      exact h.gone r hr hm
    | false => simp [S', hg]
  · have : S' (.o n) = S (.o n) := by simp [S', G]
    rw [this]
    obtain ⟨m1, en, cl, m2, m3⟩ := h.map n es he
    exact ⟨m1, en, cl, m2, m3.imp (fun a _ b ⟨q1, y, q2, q3⟩ => ⟨VV.ext ext q1, y, q2, VV.ext ext q3⟩)⟩
  · simp only [S']; split
    · exact h.dis.nd r
    · simp
  · refine SO.on ext (fun r => G r = true) (fun r q hg => h.hold _ (get r hg) rfl (fun _ _ => rfl) q) (fun n => rfl) (fun p hp => ?_) hv
    simp only [G, decide_eq_true_eq]
    exact hu p hp

theorem look_live (live : List Nat) (f : Nat → SV) (t : Nat) : look (live.map fun t => (t, f t)) t = if t ∈ live then some (f t) else none := by
  induction live with
  | nil => simp [look]
  | cons a r ih =>
    simp only [List.map_cons, look]
    by_cases h : a = t
    · subst h; simp
    · rw [if_neg h, ih]; simp [Ne.symm h]
theorem SR.prune {s : St} {a : Act} (hs : SR A s a w) (live : List Nat) : SR A (Go.Am.prune live s) a w := by
  obtain ⟨ρ, S, hd, h, hv⟩ := hs
  obtain ⟨S', g1, g2⟩ := h.forget (dedup (SV.rootss ((live.map fun t => (t, s.get t)).map (·.2)))) (ct := pick s.ct (dedup (SV.rootss ((live.map fun t => (t, s.get t)).map (·.2))))) (fun x => lookR_pick _ x)
  refine ⟨ρ, S', hd, g1, fun t => ?_⟩
  have hget : (Go.Am.prune live s).get t = if t ∈ live then s.get t else .dead := by
    show (look (live.map fun t => (t, s.get t)) t).getD .dead = _
    rw [look_live]
    split <;> rfl
  rw [hget]
  split
  · rename_i ht
    refine g2 _ _ (fun p hp => ?_) (hv t)
    rw [mem_dedup]
    refine mem_rootss (u := s.get t) ?_ hp
    simp only [List.map_map, List.mem_map]
    exact ⟨t, ht, rfl⟩
  · trivial
end
end Go.Am
