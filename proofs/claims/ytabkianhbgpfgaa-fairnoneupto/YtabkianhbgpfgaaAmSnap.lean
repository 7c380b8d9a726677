/- The abstract machine: arguments of calls. -/
import Derived.Test.YtabkianhbgpfgaaAmOps
namespace Go.Am
open Go Go.RowKit
set_option linter.unusedSimpArgs false
set_option linter.unusedVariables false

/-- what a call's arguments lean on: pure memory, and (if something is lent) what local roots and locked objects own -/
def cxS (sn : Bool) (lk : List Nat) (A : Av) (nO : Nat) (ρ : Nat → Nat) (S : Root → List Nat) (fl : List Nat) (w : World) : Cx :=
  { w, pm := fun t b => (¬ Own S fl b ∧ ¬ A.F t b ∧ b < w.heap.size) ∨ (sn = true ∧ t = true ∧ ¬ A.F true b ∧ b < w.heap.size ∧ ∀ n, b ∈ S (.o n) → n ∈ lk), nO, ρ }

section
variable {P : Program} {A : Av} {ρ : Nat → Nat} {S S' : Root → List Nat} {hd : Root → Value} {fl : List Nat} {k k' : Wk} {vals : List (SV × Value)} {w : World} {nv : Nat}

theorem cxS_of (sn : Bool) (lk : List Nat) (nO : Nat) : Ext (cxOf A nO ρ S fl w) (cxS sn lk A nO ρ S fl w) := ⟨fun _ _ hp => ⟨.inl hp, rfl⟩, Nat.le_refl _, fun _ _ => rfl⟩
/-- more lent, less owned -/
theorem cxS_tf (sn : Bool) (lk : List Nat) (nO : Nat) : ∀ b, (cxS sn lk A nO ρ S fl w).pm false b → (cxS sn lk A nO ρ S fl w).pm true b := fun b h => by
  rcases h with h | h
  · exact .inl (cxOf_mono A nO ρ S fl w b h)
  · exact absurd h.2.1 (by simp)
theorem cxS_mono {b b' : Lend} {nO : Nat} (h1 : b.sn = true → b'.sn = true) (h2 : ∀ n ∈ b.lk, n ∈ b'.lk) (h3 : ∀ r b, b ∈ S' r → b ∈ S r) : Ext (cxS b.sn b.lk A nO ρ S fl w) (cxS b'.sn b'.lk A nO ρ S' fl w) :=
  ⟨fun t g hp => ⟨by
    rcases hp with ⟨q1, q2, q3⟩ | ⟨q1, q2, q3, q4, q5⟩
    · exact .inl ⟨fun ho => q1 (by rcases ho with ⟨r, hr⟩ | hr; exact .inl ⟨r, h3 r g hr⟩; exact .inr hr), q2, q3⟩
    · exact .inr ⟨h1 q1, q2, q3, q4, fun n hn => h2 n (q5 n (h3 _ _ hn))⟩, rfl⟩, Nat.le_refl _, fun _ _ => rfl⟩

/-- what one argument leaves -/
structure Snapped (A : Av) (ρ : Nat → Nat) (S : Root → List Nat) (hd : Root → Value) (fl : List Nat) (k : Wk) (vals : List (SV × Value)) (w : World) (b : Lend) (S' : Root → List Nat) (k' : Wk) (b' : Lend) : Prop where
  kr : KR A ρ S' hd fl k' vals w
  sub : ∀ r b, b ∈ S' r → b ∈ S r
  H : k'.H = k.H
  sn : b.sn = true → b'.sn = true
  lk : ∀ n ∈ b.lk, n ∈ b'.lk
theorem Snapped.refl {b : Lend} (h : KR A ρ S hd fl k vals w) : Snapped A ρ S hd fl k vals w b S k b := ⟨h, fun _ _ h => h, rfl, id, fun _ h => h⟩

theorem snap1_ok (h : KR A ρ S hd fl k vals w) {v : SV} {val : Value} {x : D} {b b' : Lend} (hv : CO (cxOf A k.H.length ρ S fl w) k.get hd v val) (e : snap1 nv v k b = some (x, k', b')) :
    ∃ S', Snapped A ρ S hd fl k vals w b S' k' b' ∧ VC (cxS b'.sn b'.lk A k'.H.length ρ S' fl w) x [val] := by
  cases v with
  | d y =>
    simp only [snap1, Option.some.injEq, Prod.mk.injEq] at e
    obtain ⟨rfl, rfl, rfl⟩ := e
    exact ⟨S, .refl h, VC.ext (cxS_of _ _ _) _ _ (VC.norm hv)⟩
  | clip t l =>
    simp only [snap1, Option.some.injEq, Prod.mk.injEq] at e
    obtain ⟨rfl, rfl, rfl⟩ := e
    exact ⟨S, .refl h, VC.ext (cxS_of _ _ _) _ _ hv.1⟩
  | bor r p off len =>
    obtain ⟨t0, es, h', b1, b2, b3, b4, b5⟩ := hv
    obtain ⟨h0, L, Sn, R, hS, foc⟩ := TC.focus p t0 (hd r) (S r) (.own es) (h.cont r t0 b1) b2
    have hh : h0 = h' := NodeH.uniq p t0 (hd r) h0 h' foc.node b3
    subst hh
    simp only [snap1, b1, b2, Option.bind_some] at e
    -- lent
    have lent : ∀ (l : List D) (b' : Lend), T.frzs true es = some l → b'.sn = true → (∀ n ∈ b.lk, n ∈ b'.lk) → (∀ n, r = .o n → n ∈ b'.lk) → (D.sl true (win l off len), k, b') = (x, k', b') → 
        ∃ S', Snapped A ρ S hd fl k vals w b S' k' b' ∧ VC (cxS b'.sn b'.lk A k'.H.length ρ S' fl w) x [val] := by
      intro l b' hl h1 h2 h3 h4
      simp only [Prod.mk.injEq, and_true] at h4
      obtain ⟨rfl, rfl⟩ := h4
      refine ⟨S, ⟨h, fun _ _ h => h, rfl, fun _ => h1, h2⟩, frz_win (c := cxOf A k.H.length ρ S fl w) (Sn := Sn) (cxS_of _ _ _) hl (fun g hg => ?_) foc.tc b4 b5⟩
      have hgS : g ∈ S r := by rw [hS]; simp [hg]
      have hb := h.blk g (.inl ⟨r, hgS⟩)
      refine ⟨.inr ⟨h1, rfl, hb.2.1 _, hb.1, fun n hn => h3 n (h.dis.one _ _ g hgS hn)⟩, rfl⟩
    split at e
    · rename_i n j
      split at e
      · rename_i hc
        obtain ⟨_, rfl, rfl⟩ := hc
        simp only [Option.bind_eq_some_iff, Option.map_eq_some_iff, Prod.mk.injEq] at e
        obtain ⟨l, hl, k0, hs, rfl, rfl, rfl⟩ := e
        obtain ⟨g1, g2, g3⟩ := h.freeze b1 hS foc b2 hl (.inl rfl) rfl hs
        have hH : k0.H = k.H := by simp only [Wk.set, Option.some.injEq] at hs; rw [← hs]
        refine ⟨_, ⟨g1, fun r' g hg => ?_, hH, id, fun _ h => h⟩, ?_⟩
        · by_cases hr : r' = .l n j
          · subst hr; rw [upd_same] at hg; rw [hS]; simp at hg ⊢; rcases hg with q | q <;> simp [q]
          · rwa [upd_other _ _ hr] at hg
        · have := frz_win g2 hl g3 foc.tc b4 b5
          have hw : win l 0 es.length = l := by
            have := T.frzs_len false es l hl
            simp [win, ← this]
          rw [hw] at this
          have e2 : (k0.tell (.frz (.l n j) [] l)).H.length = k.H.length := by show k0.H.length = _; rw [hH]
          rw [e2]
          exact VC.ext (cxS_of _ _ _) _ _ this
      · simp only [Option.map_eq_some_iff, Prod.mk.injEq] at e
        obtain ⟨l, hl, rfl, rfl, rfl⟩ := e
        exact lent l _ hl rfl (fun _ h => h) (by simp) rfl
    · simp only [Option.map_eq_some_iff, Prod.mk.injEq] at e
      obtain ⟨l, hl, rfl, rfl, rfl⟩ := e
      exact lent l _ hl rfl (fun _ h => h) (by simp) rfl
    · rename_i n _
      simp only [Option.map_eq_some_iff, Prod.mk.injEq] at e
      obtain ⟨l, hl, rfl, rfl, rfl⟩ := e
      exact lent l _ hl rfl (fun _ h => by simp [h]) (fun m hm => by simp only [Root.o.injEq] at hm; subst hm; simp) rfl
  | agg l => exact False.elim hv
  | tup l => exact False.elim hv
  | _ => simp [snap1] at e

theorem Snapped.trans {S1 S2 : Root → List Nat} {k1 k2 : Wk} {b b1 b2 : Lend} (x : Snapped A ρ S hd fl k vals w b S1 k1 b1) (y : Snapped A ρ S1 hd fl k1 vals w b1 S2 k2 b2) : Snapped A ρ S hd fl k vals w b S2 k2 b2 :=
  ⟨y.kr, fun r b h => x.sub r b (y.sub r b h), y.H.trans x.H, fun h => y.sn (x.sn h), fun n h => y.lk n (x.lk n h)⟩
theorem Snapped.ext {b b' : Lend} {k0 : Wk} {S0 : Root → List Nat} (x : Snapped A ρ S0 hd fl k0 vals w b S' k' b') : Ext (cxS b.sn b.lk A k0.H.length ρ S0 fl w) (cxS b'.sn b'.lk A k'.H.length ρ S' fl w) := by
  rw [x.H]; exact cxS_mono x.sn x.lk x.sub

theorem snaps_ok : ∀ (l : List SV) (vs : List Value) (xs : List D) (k k' : Wk) (S : Root → List Nat) (b b' : Lend), KR A ρ S hd fl k vals w →
    (∀ k0 S0, KR A ρ S0 hd fl k0 vals w → All2 (fun u v => CO (cxOf A k0.H.length ρ S0 fl w) k0.get hd (trv k0.tr u) v) l vs) → snaps nv l k b = some (xs, k', b') →
    ∃ S', Snapped A ρ S hd fl k vals w b S' k' b' ∧ VCs (cxS b'.sn b'.lk A k'.H.length ρ S' fl w) xs vs
  | [], vs, xs, k, k', S, b, b', h, hall, e => by
    simp only [snaps, Option.some.injEq, Prod.mk.injEq] at e
    obtain ⟨rfl, rfl, rfl⟩ := e
    rw [show vs = [] from hall k S h]
    exact ⟨S, .refl h, rfl⟩
  | u :: l, vs, xs, k, k', S, b, b', h, hall, e => by
    simp only [snaps, Option.bind_eq_some_iff, Option.map_eq_some_iff] at e
    obtain ⟨⟨x, k1, b1⟩, e1, ⟨xs', k2, b2⟩, e2, e3⟩ := e
    simp only [Prod.mk.injEq] at e3
    obtain ⟨rfl, rfl, rfl⟩ := e3
    obtain ⟨v, r, rfl, hv, _⟩ := hall k S h
    obtain ⟨S1, g1, g2⟩ := snap1_ok h hv e1
    obtain ⟨S2, p1, p2⟩ := snaps_ok l r xs' k1 k2 S1 b1 b2 g1.kr (fun k0 S0 h0 => by
      obtain ⟨b, r', q1, _, q3⟩ := hall k0 S0 h0
      simp only [List.cons.injEq] at q1
      rw [q1.2]; exact q3) e2
    refine ⟨S2, g1.trans p1, ?_⟩
    simp only [VCs]
    exact ⟨v, r, rfl, VC.ext p1.ext _ _ g2, p2⟩
/-- one argument, a struct too -/
theorem snap_ok (h : KR A ρ S hd fl k vals w) {v : SV} {val : Value} {x : D} {b b' : Lend} (hm : (v, val) ∈ vals) (e : snap nv v k b = some (x, k', b')) :
    ∃ S', Snapped A ρ S hd fl k vals w b S' k' b' ∧ VV (cxS b'.sn b'.lk A k'.H.length ρ S' fl w) x val := by
  have hv := h.vals (v, val) hm
  by_cases hag : ∃ l, v = .agg l
  · obtain ⟨l, rfl⟩ := hag
    simp only [snap, Option.map_eq_some_iff] at e
    obtain ⟨⟨xs, k1, b1⟩, e1, e2⟩ := e
    simp only [Prod.mk.injEq] at e2
    obtain ⟨rfl, rfl, rfl⟩ := e2
    have all : ∀ k0 S0, KR A ρ S0 hd fl k0 vals w → ∃ cs, val = .agg cs ∧ All2 (fun u v => CO (cxOf A k0.H.length ρ S0 fl w) k0.get hd (trv k0.tr u) v) l cs.toList := fun k0 S0 h0 => by
      have := h0.vals _ hm
      simp only [trv_agg] at this
      obtain ⟨cs, h1, h2⟩ := this
      exact ⟨cs, h1, h2.of_map⟩
    obtain ⟨cs, rfl, _⟩ := all k S h
    obtain ⟨S', g1, g2⟩ := snaps_ok (nv := nv) l cs.toList xs k k1 S b b1 h (fun k0 S0 h0 => by
      obtain ⟨cs', h1, h2⟩ := all k0 S0 h0
      simp only [Value.agg.injEq] at h1
      rw [h1]; exact h2) e1
    exact ⟨S', g1, VV.agg g2⟩
  · have e' : snap1 nv (trv k.tr v) k b = some (x, k', b') := by
      revert e
      cases v <;> intro e <;> first | exact e | exact absurd ⟨_, rfl⟩ hag
    simp only at hv
    by_cases hd' : ∃ y, trv k.tr v = .d y
    · obtain ⟨y, hy⟩ := hd'
      rw [hy] at e' hv
      simp only [snap1, Option.some.injEq, Prod.mk.injEq] at e'
      obtain ⟨rfl, rfl, rfl⟩ := e'
      exact ⟨S, .refl h, VV.ext (cxS_of _ _ _) (VV.norm hv)⟩
    · have hnd : ∀ y, trv k.tr v ≠ .d y := fun y hy => hd' ⟨y, hy⟩
      by_cases htu : ∃ l, trv k.tr v = .tup l
      · obtain ⟨l, hl⟩ := htu
        rw [hl] at e'
        simp [snap1] at e'
      · by_cases hag' : ∃ l, trv k.tr v = .agg l
        · obtain ⟨l, hl⟩ := hag'
          rw [hl] at e'
          simp [snap1] at e'
        · have hsb := S1.to_SB (fun l hl => hag' ⟨l, hl⟩) (SO.to_S1 (fun l hl => htu ⟨l, hl⟩) hv)
          obtain ⟨S', g1, g2⟩ := snap1_ok h (CO.of_SB hsb (fun l => hnd _)) e'
          refine ⟨S', g1, VV.one g2 (fun l hl => ?_)⟩
          subst hl
          revert e'
          generalize trv k.tr v = u at hnd ⊢
          intro e'
          unfold snap1 at e'
          split at e'
          · exact hnd _ rfl
          · simp at e'
          · simp only [Option.bind_eq_some_iff] at e'
            obtain ⟨c0, _, nd, _, e'⟩ := e'
            split at e'
            · split at e'
              · split at e'
                · simp only [Option.bind_eq_some_iff, Option.map_eq_some_iff, Prod.mk.injEq] at e'
                  obtain ⟨_, _, _, _, e', _⟩ := e'
                  cases e'
                · simp only [Option.map_eq_some_iff, Prod.mk.injEq] at e'
                  obtain ⟨_, _, e', _⟩ := e'
                  cases e'
              · simp only [Option.map_eq_some_iff, Prod.mk.injEq] at e'
                obtain ⟨_, _, e', _⟩ := e'
                cases e'
              · simp only [Option.map_eq_some_iff, Prod.mk.injEq] at e'
                obtain ⟨_, _, e', _⟩ := e'
                cases e'
            · cases e'
          · cases e'
theorem snapA_ok : ∀ (l : List SV) (vs : List Value) (xs : List D) (k k' : Wk) (S : Root → List Nat) (b b' : Lend), KR A ρ S hd fl k vals w →
    All2 (fun u v => (u, v) ∈ vals) l vs → snapA nv l k b = some (xs, k', b') →
    ∃ S', Snapped A ρ S hd fl k vals w b S' k' b' ∧ VVs (cxS b'.sn b'.lk A k'.H.length ρ S' fl w) xs vs
  | [], vs, xs, k, k', S, b, b', h, hall, e => by
    simp only [snapA, Option.some.injEq, Prod.mk.injEq] at e
    obtain ⟨rfl, rfl, rfl⟩ := e
    rw [show vs = [] from hall]
    exact ⟨S, .refl h, rfl⟩
  | u :: l, vs, xs, k, k', S, b, b', h, hall, e => by
    simp only [snapA, Option.bind_eq_some_iff, Option.map_eq_some_iff] at e
    obtain ⟨⟨x, k1, b1⟩, e1, ⟨xs', k2, b2⟩, e2, e3⟩ := e
    simp only [Prod.mk.injEq] at e3
    obtain ⟨rfl, rfl, rfl⟩ := e3
    obtain ⟨v, r, rfl, hv, hr⟩ := hall
    obtain ⟨S1, g1, g2⟩ := snap_ok h hv e1
    obtain ⟨S2, p1, p2⟩ := snapA_ok l r xs' k1 k2 S1 b1 b2 g1.kr hr e2
    refine ⟨S2, g1.trans p1, ?_⟩
    simp only [VVs]
    have := VV.ext p1.ext g2
    exact ⟨v, r, rfl, this.1, this.2, p2⟩
end
end Go.Am
