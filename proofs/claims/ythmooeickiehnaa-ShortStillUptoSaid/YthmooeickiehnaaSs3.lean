/- A part of the proof: texts of mine, merged by a program (wip/dev/merge.py). -/
import Derived.Test.YthmooeickiehnaaSs2
import Derived.Tactics
import Derived.LoopN
import Derived.Scope
namespace Go.Am
open Go Go.RowKit
set_option linter.unusedSimpArgs false
set_option linter.unusedVariables false
theorem mem_rootss {l : List SV} {u : SV} (hu : u ∈ l) {p : Nat × Nat} (hp : p ∈ u.roots) : p ∈ SV.rootss l := by
  induction l with
  | nil => cases hu
  | cons a r ih =>
    simp only [SV.rootss, List.mem_append]
    rcases List.mem_cons.1 hu with rfl | hu
    · exact .inl hp
    · exact .inr (ih hu)
theorem mem_dedup {l : List (Nat × Nat)} {x : Nat × Nat} : x ∈ dedup l ↔ x ∈ l := by
  induction l with
  | nil => simp [dedup]
  | cons a r ih =>
    simp only [dedup]
    split
    · rename_i h
      simp only [List.contains_eq_mem, decide_eq_true_eq] at h
      rw [List.mem_cons, ← ih]
      constructor
      · exact .inr
      · rintro (rfl | h')
        · exact h
        · exact h'
    · rw [List.mem_cons, List.mem_cons, ih]
theorem lookR_pick {ct : List ((Nat × Nat) × T)} : ∀ (l : List (Nat × Nat)) (x : Nat × Nat), lookR (pick ct l) x = if x ∈ l then lookR ct x else none
  | [], x => by simp [pick, lookR]
  | a :: r, x => by
    simp only [pick]
    split
    · rename_i t ht
      simp only [lookR]
      by_cases h : a = x
      · subst h; simp [ht]
      · rw [if_neg h, lookR_pick r x]
        simp [Ne.symm h]
    · rename_i ht
      rw [lookR_pick r x]
      by_cases h : a = x
      · subst h; simp [ht]
      · simp [Ne.symm h]
section
variable {c c' : Cx} {K K' : Root → Option T} {hd hd' : Root → Value}
theorem SO.on (hx : Ext c c') (G : Root → Prop) (hh : ∀ r q, G r → Hold c c' K K' hd hd' r q) (hO : ∀ n, G (.o n)) {u : SV} {v : Value} (hg : ∀ p ∈ u.roots, G (.l p.1 p.2)) (h : SO c K hd u v) : SO c' K' hd' u v := by
  have sb : ∀ (u : SV) (v : Value), (∀ p ∈ u.roots, G (.l p.1 p.2)) → SB c K hd u v → SB c' K' hd' u v := fun u v hg h => by
    cases u with
    | bor r p off len => exact SB.keep_bor (hh r p (by cases r with | l n j => exact hg (n, j) (by simp [SV.roots]) | o n => exact hO n)) h
    | loc r p i off => exact SB.keep_loc (hh r p (by cases r with | l n j => exact hg (n, j) (by simp [SV.roots]) | o n => exact hO n)) h
    | _ => exact SB.keep_rest hx (by simp) (by simp) h
  have co : ∀ (u : SV) (v : Value), (∀ p ∈ u.roots, G (.l p.1 p.2)) → CO c K hd u v → CO c' K' hd' u v := fun u v hg h => by
    by_cases hy : ∃ y, u = .d y
    · obtain ⟨y, rfl⟩ := hy
      exact VC.ext hx y _ h
    · have hy' : ∀ y, u ≠ .d y := fun y e => hy ⟨y, e⟩
      have h2 := sb u v hg (CO.to_SB hy' h)
      cases u <;> first | exact absurd rfl (hy' _) | exact h2
  have s1 : ∀ (u : SV) (v : Value), (∀ p ∈ u.roots, G (.l p.1 p.2)) → S1 c K hd u v → S1 c' K' hd' u v := fun u v hg h => by
    by_cases hu : ∃ l, u = .agg l
    · obtain ⟨l, rfl⟩ := hu
      obtain ⟨cs, h1, h2⟩ := h
      exact ⟨cs, h1, h2.imp (fun a ha b hab => co a b (fun p hp => hg p (mem_rootss ha hp)) hab)⟩
    · have hu' : ∀ l, u ≠ .agg l := fun l e => hu ⟨l, e⟩
      exact S1.of_SB hu' (sb u v hg (S1.to_SB hu' h))
  by_cases hu : ∃ l, u = .tup l
  · obtain ⟨l, rfl⟩ := hu
    obtain ⟨cs, h1, h2⟩ := h
    exact ⟨cs, h1, h2.imp (fun a ha b hab => s1 a b (fun p hp => hg p (mem_rootss ha hp)) hab)⟩
  · have hu' : ∀ l, u ≠ .tup l := fun l e => hu ⟨l, e⟩
    exact SO.of_S1 hu' (s1 u v hg (SO.to_S1 hu' h))
end
section
variable {P : Program} {A : Av} {ρ : Nat → Nat} {S : Root → List Nat} {hd : Root → Value} {fl : List Nat} {k k' : Wk} {vals vals' : List (SV × Value)} {w : World}
theorem KR.forget (h : KR A ρ S hd fl k vals w) (L : List (Nat × Nat)) {ct : List ((Nat × Nat) × T)} (hct : ∀ x, lookR ct x = if x ∈ L then lookR k.ct x else none) :
    ∃ S', KR A ρ S' hd fl { ct, H := k.H } [] w ∧ ∀ u v, (∀ p ∈ u.roots, p ∈ L) → SO (cxOf A k.H.length ρ S fl w) k.get hd u v → SO (cxOf A k.H.length ρ S' fl w) ({ ct, H := k.H } : Wk).get hd u v := by
  let G : Root → Bool := fun r => match r with | .l n j => decide ((n, j) ∈ L) | .o _ => true
  let S' : Root → List Nat := fun r => if G r then S r else []
  have hS' : ∀ r b, b ∈ S' r → b ∈ S r := fun r b hb => by
    simp only [S'] at hb
    split at hb
    · exact hb
    · simp at hb
  have own : ∀ b, Own S' fl b → Own S fl b := fun b hb => hb.imp (fun ⟨r, hr⟩ => ⟨r, hS' r b hr⟩) id
  have ws : WS S fl w S' fl w := WS.stay own
  have ext : Ext (cxOf A k.H.length ρ S fl w) (cxOf A k.H.length ρ S' fl w) := ws.ext (Nat.le_refl _) (fun _ _ => rfl)
  have get : ∀ r, G r = true → ({ ct, H := k.H } : Wk).get r = k.get r := fun r hr => by
    cases r with
    | l n j => simp only [G, decide_eq_true_eq] at hr; simp only [Wk.get, Go.Am.cont, hct, if_pos hr]
    | o n => rfl
  have getN : ∀ r, G r = false → ({ ct, H := k.H } : Wk).get r = none ∧ ∀ n, r ≠ .o n := fun r hr => by
    cases r with
    | l n j => simp only [G, decide_eq_false_iff_not] at hr; exact ⟨by simp only [Wk.get, Go.Am.cont, hct, if_neg hr], by simp⟩
    | o n => cases hr
  refine ⟨S', ⟨fun r t ht => ?_, fun r hr hm => ?_, h.obj, fun n ob he hpl => ?_, ⟨fun r => ?_, h.dis.ndF, fun r r' b hb hb' => h.dis.one r r' b (hS' r b hb) (hS' r' b hb'), fun r b hb => h.dis.oneF r b (hS' r b hb)⟩, ws.blk h, by simp, h.fr, h.Fold, h.rho⟩, fun u v hu hv => ?_⟩
  · cases hg : G r with
    | true =>
      rw [get r hg] at ht
      have : S' r = S r := by simp [S', hg]
      rw [this]
      exact TC.ext ext _ _ _ (fun _ _ => rfl) (h.cont r t ht)
    | false => rw [(getN r hg).1] at ht; cases ht
  · cases hg : G r with
    | true =>
      rw [get r hg] at hr
      have : S' r = S r := by simp [S', hg]
      rw [this]
      exact h.gone r hr hm
    | false => simp [S', hg]
  · exact (h.map n ob he hpl).ext ext (fun _ _ => rfl) (by simp [S', G]) rfl
  · simp only [S']; split
    · exact h.dis.nd r
    · simp
  · refine SO.on ext (fun r => G r = true) (fun r q hg => h.hold _ (get r hg) rfl (fun _ _ => rfl) q) (fun n => rfl) (fun p hp => ?_) hv
    simp only [G, decide_eq_true_eq]
    exact hu p hp
theorem look_live (live : List Nat) (f : Nat → SV) (t : Nat) : look (live.map fun t => (t, f t)) t = if t ∈ live then some (f t) else none := by
  induction live with
  | nil => simp [look]
  | cons a r ih =>
    simp only [List.map_cons, look]
    by_cases h : a = t
    · subst h; simp
    · rw [if_neg h, ih]; simp [Ne.symm h]
theorem SR.prune {s : St} {a : Act} (hs : SR A s a w) (live : List Nat) : SR A (Go.Am.prune live s) a w := by
  obtain ⟨ρ, S, hd, h, hv⟩ := hs
  obtain ⟨S', g1, g2⟩ := h.forget (dedup (SV.rootss ((live.map fun t => (t, s.get t)).map (·.2)))) (ct := pick s.ct (dedup (SV.rootss ((live.map fun t => (t, s.get t)).map (·.2))))) (fun x => lookR_pick _ x)
  refine ⟨ρ, S', hd, g1, fun t => ?_⟩
  have hget : (Go.Am.prune live s).get t = if t ∈ live then s.get t else .dead := by
    show (look (live.map fun t => (t, s.get t)) t).getD .dead = _
    rw [look_live]
    split <;> rfl
  rw [hget]
  split
  · rename_i ht
    refine g2 _ _ (fun p hp => ?_) (hv t)
    rw [mem_dedup]
    refine mem_rootss (u := s.get t) ?_ hp
    simp only [List.map_map, List.mem_map]
    exact ⟨t, ht, rfl⟩
  · trivial
end
end Go.Am
namespace Go.Am
open Go Go.RowKit
set_option linter.unusedSimpArgs false
set_option linter.unusedVariables false
theorem TC.lo' {A : Av} {ρ : Nat → Nat} {S : Root → List Nat} {fl : List Nat} {w : World} {n n2 : Nat} {t : T} {cs : List Value} {M : List Nat} (hl : n2 = n ∨ t.low n2 = true) (h : TC (cxOf A n ρ S fl w) t cs M) : TC ((cxOf A n ρ S fl w).lo n2) t cs M := by
  rcases hl with rfl | hl
  · exact h
  · exact TC.lo _ _ _ hl h
theorem VV.lo' {A : Av} {ρ : Nat → Nat} {S : Root → List Nat} {fl : List Nat} {w : World} {n n2 : Nat} {x : D} {v : Value} (hl : n2 = n ∨ x.low n2 = true) (h : VV (cxOf A n ρ S fl w) x v) : VV ((cxOf A n ρ S fl w).lo n2) x v := by
  rcases hl with rfl | hl
  · exact h
  · exact ⟨VC.lo _ _ hl h.1, h.2⟩
section
variable {P : Program} {A : Av} {ρ : Nat → Nat} {S : Root → List Nat} {hd : Root → Value} {fl : List Nat} {k k' : Wk} {vals : List (SV × Value)} {w : World}
theorem KR.cut (h : KR A ρ S hd fl k vals w) {n2 : Nat} (hn : n2 ≤ k.H.length) (hA : A.n0 ≤ n2) (hl : n2 = k.H.length ∨ ∀ ob ∈ k.H.take n2, ob.low n2 = true) :
    ∃ S', KR A ρ S' hd fl { ct := [], H := k.H.take n2 } [] w ∧ Ext ((cxOf A k.H.length ρ S fl w).lo n2) (cxOf A n2 ρ S' fl w) := by
  let G : Root → Bool := fun r => match r with | .l _ _ => false | .o n => decide (n < n2)
  let S' : Root → List Nat := fun r => if G r then S r else []
  have hlen : (k.H.take n2).length = n2 := by simp; omega
  have hS' : ∀ r b, b ∈ S' r → b ∈ S r := fun r b hb => by
    simp only [S'] at hb
    split at hb
    · exact hb
    · simp at hb
  have own : ∀ b, Own S' fl b → Own S fl b := fun b hb => hb.imp (fun ⟨r, hr⟩ => ⟨r, hS' r b hr⟩) id
  have ext : Ext ((cxOf A k.H.length ρ S fl w).lo n2) (cxOf A n2 ρ S' fl w) := ⟨fun t g hp => ⟨⟨fun ho => hp.1 (own g ho), hp.2.1, hp.2.2⟩, rfl⟩, Nat.le_refl _, fun _ _ => rfl⟩
  have lowAt : ∀ n ob, n < n2 → k.H[n]? = some ob → n2 = k.H.length ∨ ob.low n2 = true := fun n ob hlt he => hl.imp id (fun hl => hl ob (List.mem_of_getElem? (i := n) (by rw [List.getElem?_take, if_pos hlt]; exact he)))
  have hat : ∀ n ob, (k.H.take n2)[n]? = some ob → n < n2 ∧ k.H[n]? = some ob := fun n ob he => by
    rw [List.getElem?_take] at he
    split at he
    · exact ⟨‹_›, he⟩
    · cases he
  have ws : WS S fl w S' fl w := WS.stay own
  refine ⟨S', ⟨fun r t ht => ?_, fun r hr hm => ?_, h.obj, fun n ob he hpl => ?_, ⟨fun r => ?_, h.dis.ndF, fun r r' b hb hb' => h.dis.one r r' b (hS' r b hb) (hS' r' b hb'), fun r b hb => h.dis.oneF r b (hS' r b hb)⟩, ws.blk h, by simp, h.fr, h.Fold, ⟨by rw [hlen]; exact hA, h.rho.2⟩⟩, ext⟩
  · rw [hlen]
    cases r with
    | l n j => cases ht
    | o n =>
      simp only [Wk.get, Go.Am.cont] at ht
      split at ht
      · rename_i c hc
        obtain ⟨h1, h2⟩ := hat n _ hc
        have hk : k.get (.o n) = some t := by simp only [Wk.get, Go.Am.cont, h2]; exact ht
        have : S' (.o n) = S (.o n) := by simp [S', G, h1]
        rw [this]
        refine TC.ext ext _ _ _ (fun _ _ => rfl) (TC.lo' ?_ (h.cont _ t hk))
        rcases lowAt n _ h1 h2 with q | q
        · exact .inl q
        · right
          simp only [Option.some.injEq] at ht
          subst ht
          simpa [T.low, T.lows, Ob.low] using q
      · cases ht
  · simp only [S']
    split
    · rename_i hg
      cases r with
      | l n j => cases hg
      | o n =>
        simp only [G, decide_eq_true_eq] at hg
        refine h.gone _ ?_ (fun n' ob e he => ?_)
        · simp only [Wk.get, Go.Am.cont, List.getElem?_take, if_pos hg] at hr ⊢; exact hr
        · cases e
          refine hm n ob rfl ?_
          simp only [List.getElem?_take, if_pos hg]; exact he
    · rfl
  · rw [hlen]
    obtain ⟨h1, h2⟩ := hat n _ he
    have hS : S' (.o n) = S (.o n) := by simp [S', G, h1]
    obtain ⟨N, m1, m2⟩ := h.map n ob h2 hpl
    refine ⟨N, hS.trans m1, ?_⟩
    cases ob with
    | map es =>
      obtain ⟨en, cl, q1, q2, q3⟩ := m2
      have hlo : ∀ a ∈ es, n2 = k.H.length ∨ (a.1.low n2 = true ∧ a.2.low n2 = true) := fun a ha => (lowAt n _ h1 h2).imp id (fun q => by
        simp only [Ob.low] at q
        have := List.all_eq_true.1 q a ha
        simpa using this)
      refine ⟨en, cl, q1, q2.imp (fun a ha b q => VV.ext ext (VV.lo' ((hlo a ha).imp id (·.1)) q)), RetAll.imp _ _ _ (fun t ht cs M' _ h3 => ?_) q3⟩
      obtain ⟨a, ha, rfl⟩ := List.mem_map.1 ht
      exact TC.ext ext _ _ _ (fun _ _ => rfl) (TC.lo' ((hlo a ha).imp id (·.2)) h3)
    | iter s p => exact m2
    | _ => trivial
  · simp only [S']; split
    · exact h.dis.nd r
    · simp
theorem mkAgg_fits (ts : List T) (cs : Array Value) : fitsT (T.mkAgg ts) (.agg cs) := by
  unfold T.mkAgg
  split
  · exact ⟨cs, rfl⟩
  · exact ⟨cs, rfl⟩
theorem absorb_fitsT {c : Cx} {K : Root → Option T} {nv : Nat} {v : SV} {val : Value} {t : T} (hv : SO c K hd (trv k.tr v) val) (e : absorb nv v k = some (t, k')) : fitsT t val := by
  by_cases hag : ∃ l, v = .agg l
  · obtain ⟨l, rfl⟩ := hag
    simp only [absorb, Option.map_eq_some_iff] at e
    obtain ⟨⟨ts, k1⟩, e1, e2⟩ := e
    simp only [Prod.mk.injEq] at e2
    obtain ⟨rfl, rfl⟩ := e2
    rw [trv_agg] at hv
    obtain ⟨cs, rfl, _⟩ := hv
    exact mkAgg_fits ts cs
  · have hne : ∀ l, v ≠ .agg l := fun l hl => hag ⟨l, hl⟩
    have e' : absorb1 nv (trv k.tr v) k = some (t, k') := by
      revert e hne
      cases v <;> intro e hne <;> first | exact e | exact absurd rfl (hne _)
    revert hv e'
    generalize trv k.tr v = u
    intro hv e'
    cases u with
    | d x =>
      simp only [absorb1, Option.some.injEq, Prod.mk.injEq] at e'
      obtain ⟨rfl, rfl⟩ := e'
      exact hv.2
    | clip b l =>
      simp only [absorb1, Option.some.injEq, Prod.mk.injEq] at e'
      obtain ⟨rfl, rfl⟩ := e'
      exact VC.one _ _ hv.1
    | ns b =>
      simp only [absorb1, Option.some.injEq, Prod.mk.injEq] at e'
      obtain ⟨rfl, rfl⟩ := e'
      exact VC.one (c := c) _ _ (nn_vc hv)
    | bor r p off len =>
      have h1 : val.oneCell' = true := by
        obtain ⟨_, _, h', _, _, _, _, hw⟩ := hv
        obtain ⟨_, _, _, _, _, _, rfl, _⟩ := hw
        rfl
      have nag : (∀ l, t ≠ .d (.agg l)) ∧ (∀ l, t ≠ .agg l) := by
        simp only [absorb1, Option.bind_eq_some_iff] at e'
        obtain ⟨c0, _, nd, _, e'⟩ := e'
        split at e'
        · split at e'
          · split at e'
            · simp only [Option.map_eq_some_iff, Prod.mk.injEq] at e'
              obtain ⟨_, _, rfl, _⟩ := e'
              simp
            · simp only [Option.bind_eq_some_iff, Option.map_eq_some_iff, Prod.mk.injEq] at e'
              obtain ⟨_, _, _, _, rfl, _⟩ := e'
              simp
          · simp only [Option.bind_eq_some_iff, Option.map_eq_some_iff, Prod.mk.injEq] at e'
            obtain ⟨_, _, _, _, _, _, rfl, _⟩ := e'
            simp
        · cases e'
      cases t with
      | d x => cases x <;> first | exact h1 | exact absurd rfl (nag.1 _)
      | agg l => exact absurd rfl (nag.2 l)
      | _ => exact h1
    | _ => simp [absorb1] at e'
theorem absorbA_ok : ∀ (l : List SV) (vs : List Value) (ts : List T) (k k' : Wk) (S : Root → List Nat) (fl : List Nat), KR A ρ S hd fl k vals w → All2 (fun u v => (u, v) ∈ vals) l vs → absorbA l k = some (ts, k') →
    ∃ S' M, KR A ρ S' hd (M ++ fl) k' vals w ∧ Ext (cxOf A k.H.length ρ S fl w) (cxOf A k'.H.length ρ S' (M ++ fl) w) ∧ RetAll (cxOf A k'.H.length ρ S' (M ++ fl) w) ts vs M ∧ k'.H.length = k.H.length
  | [], vs, ts, k, k', S, fl, h, hall, e => by
    simp only [absorbA, Option.some.injEq, Prod.mk.injEq] at e
    obtain ⟨rfl, rfl⟩ := e
    rw [show vs = [] from hall]
    exact ⟨S, [], by simpa using h, by simpa using (⟨fun _ _ hp => ⟨hp, rfl⟩, Nat.le_refl _, fun _ _ => rfl⟩ : Ext _ _), ⟨rfl, rfl⟩, rfl⟩
  | u :: l, vs, ts, k, k', S, fl, h, hall, e => by
    simp only [absorbA, Option.bind_eq_some_iff, Option.map_eq_some_iff] at e
    obtain ⟨⟨t, k1⟩, e1, ⟨ts', k2⟩, e2, e3⟩ := e
    simp only [Prod.mk.injEq] at e3
    obtain ⟨rfl, rfl⟩ := e3
    obtain ⟨v, r, rfl, hv, hr⟩ := hall
    obtain ⟨S1, M1, g1, g2, g3, g4⟩ := absorb_ok h hv e1
    have hf := absorb_fitsT (h.vals _ hv) e1
    obtain ⟨S2, M2, p1, p2, p3, p4⟩ := absorbA_ok l r ts' k1 k2 S1 (M1 ++ fl) g1 hr e2
    have hperm : (M2 ++ (M1 ++ fl)).Perm ((M1 ++ M2) ++ fl) := by
      rw [List.append_assoc]
      exact List.perm_append_comm_assoc M2 M1 fl
    obtain ⟨p1', e1'⟩ := p1.perm hperm
    rw [e1'] at p2 p3
    refine ⟨S2, M1 ++ M2, p1', ⟨fun b g hp => ?_, Nat.le_trans g2.nO p2.nO, fun o ho => rfl⟩, ⟨v, r, M1, M2, rfl, rfl, TC.ext p2 _ _ _ (fun _ _ => rfl) g3, hf, p3⟩, p4.trans g4⟩
    have q1 := g2.pm b g hp
    have q2 := p2.pm b g q1.1
    exact ⟨q2.1, q2.2.trans q1.2⟩
theorem run_sure {v : Value} {t : TypeId} {val : Value} (h : (Instr.loadAt t v).run P w = .ok val w) : ((do loadVar t (← asAddr v)) : Sem Value).run P w = .ok val w := by
  cases v with
  | pointer a =>
    cases a with
    | some a => exact h
    | none => simp [Instr.loadAt, Instr.sureAddr, stuck, Sem.run_bind] at h
  | _ => simp [Instr.loadAt, Instr.sureAddr, stuck, Sem.run_bind] at h
end
end Go.Am
namespace Go.Am
open Go
set_option linter.unusedSimpArgs false
set_option linter.unusedVariables false
theorem map_congr_op {l : List Operand} {σ τ : Operand → SV} (h : ∀ x ∈ l, σ x = τ x) : l.map σ = l.map τ := List.map_congr_left h
theorem pairs_congr {l : List (Nat × Operand)} {σ τ : Operand → SV} (h : ∀ x ∈ l.map (·.2), σ x = τ x) : l.map (fun p => (p.1, σ p.2)) = l.map (fun p => (p.1, τ p.2)) :=
  List.map_congr_left fun p hp => by rw [h p.2 (List.mem_map.2 ⟨p, hp, rfl⟩)]
section
variable {P : Program} {call : CallF} {h : Hint} {dst : Nat} {ty : TypeId}
theorem opE_congr (op : Op) {σ τ : Operand → SV} (k : Wk) (hx : ∀ x ∈ op.operands, σ x = τ x) : opE P h dst ty op σ k = opE P h dst ty op τ k := by
  unfold opE
  cases op <;> simp only [Op.operands] at hx <;> simp only
  case build t ps => rw [pairs_congr fun x hm => hx x (by simpa using hm)]
  case buildSlice t n ps => rw [pairs_congr fun x hm => hx x (by simpa using hm)]
  case makeFunc fn a c => rw [map_congr_op (l := a.toList) fun x hm => hx x (by simp at hm; simp [hm]), map_congr_op (l := c.toList) fun x hm => hx x (by simp at hm; simp [hm])]
  case makeMap t r => cases r <;> simp_all
  case slice t x lo hi mx => cases lo <;> cases hi <;> cases mx <;> simp_all
  case call c =>
    obtain ⟨callee, args, ats⟩ := c
    have ha : args.toList.map σ = args.toList.map τ := map_congr_op fun x hm => hx x (by simp at hm; simp [Call.operands, hm])
    cases callee with
    | builtin b =>
      cases b <;> simp only
      all_goals
        generalize args.toList = l at ha hx ⊢
        generalize ats.toList = tl
        match l with
        | [] => rfl
        | [x] => simp at ha; first | rfl | (simp only [ha]; done) | (match tl with | [] => rfl | [_] => simp only [ha] | _ :: _ :: _ => rfl)
        | [x, y] => simp at ha; first | rfl | (simp only [ha]; done) | (obtain ⟨h1, h2⟩ := ha; match tl with | [] => rfl | [_] => rfl | [_, _] => simp only [h1, h2] | _ :: _ :: _ :: _ => rfl)
        | _ :: _ :: _ :: _ => rfl
    | _ => rfl
  all_goals (first | rfl | (simp_all; done))
theorem asLoc_rts {u : SV} : (asLoc u).rts = u.rts := by
  unfold asLoc
  split
  · rfl
  · rfl
  · rfl
theorem loadE_at {t : TypeId} {u : SV} {k k2 : Wk} (hr : ∀ r ∈ u.rts, k2.get r = k.get r) : loadE P t u k2 = loadE P t u k := by
  rw [← asLoc_rts] at hr
  unfold loadE
  split
  · rename_i r p i off he
    rw [he] at hr
    rw [hr r (by simp [SV.rts])]
  · rfl
  · rfl
theorem locOk_at {k k2 : Wk} {r : Root} {p : Path} {i off : Nat} (hr : k2.get r = k.get r) : locOk k2 r p i off = locOk k r p i off := by
  unfold locOk; rw [hr]
theorem winOk_at {n : Nat} {k k2 : Wk} {r : Root} {p : Path} {o m : Nat} (hr : k2.get r = k.get r) : winOk n r p o m k2 = winOk n r p o m k := by
  unfold winOk; rw [hr]
theorem fieldAddrE_at {t : TypeId} {u : SV} {f : Nat} {k k2 : Wk} (hr : ∀ r ∈ u.rts, k2.get r = k.get r) : fieldAddrE P t u f k2 = fieldAddrE P t u f k := by
  rw [← asLoc_rts] at hr
  unfold fieldAddrE
  congr 1
  funext ⟨o, n, _⟩
  simp only
  split
  · split
    · rename_i r p i off he
      rw [he] at hr
      rw [locOk_at (hr r (by simp [SV.rts]))]
    · rfl
    · rfl
  · rfl
theorem indexAddrE_at {t : TypeId} {u i : SV} {k k2 : Wk} (hr : ∀ r ∈ u.rts, k2.get r = k.get r) : indexAddrE P t u i k2 = indexAddrE P t u i k := by
  unfold indexAddrE
  split
  · split
    · split
      · rfl
      · rfl
      · rename_i r p off len
        rw [hr r (by simp [SV.rts])]
      · rfl
    · rw [← asLoc_rts] at hr
      split
      · rename_i r p j off he
        rw [he] at hr
        rw [locOk_at (hr r (by simp [SV.rts]))]
      · rfl
      · rfl
    · rfl
  · rfl
theorem sliceE_at {t : TypeId} {u : SV} {lo hi mx : Option SV} {k k2 : Wk} (hr : ∀ r ∈ u.rts, k2.get r = k.get r) : sliceE P t u lo hi mx k2 = sliceE P t u lo hi mx k := by
  unfold sliceE
  split
  · rfl
  · rfl
  · rfl
  · rename_i r p off len
    have : ∀ n o m, winOk n r p o m k2 = winOk n r p o m k := fun n o m => winOk_at (hr r (by simp [SV.rts]))
    simp only [this]
  · rfl
theorem lookupE_at {t : TypeId} {m key : SV} {ok : Bool} {H H2 : List Ob} (hr : H2 = H ∨ m.rts.any Root.isO = false) : lookupE P t m key ok H2 = lookupE P t m key ok H := by
  rcases hr with rfl | hr
  · rfl
  · unfold lookupE
    congr 1
    funext ⟨kt, e⟩
    simp only
    split
    · split
      · split
        · rfl
        · simp [SV.rts, Root.isO] at hr
        · rfl
      · rfl
    · rfl
theorem lenE_at {t : TypeId} {u : SV} {H H2 : List Ob} (hr : H2 = H ∨ u.rts.any Root.isO = false) : lenE P t H2 u = lenE P t H u := by
  rcases hr with rfl | hr
  · rfl
  · unfold lenE
    split <;> first | rfl | simp [SV.rts, Root.isO] at hr
theorem absorb_d {nv : Nat} {x : D} {k : Wk} : absorb nv (.d x) k = some (.d x, k) := by
  simp only [absorb, trv_d, absorb1]
theorem absorbP_d {nv : Nat} : ∀ (l : List (Nat × SV)) (k : Wk), l.all (fun p => isD p.2) = true → ∃ ps, ∀ k, absorbP nv l k = some (ps, k)
  | [], k, _ => ⟨[], fun _ => rfl⟩
  | (i, v) :: l, k, h => by
    simp only [List.all_cons, Bool.and_eq_true] at h
    obtain ⟨ps, hp⟩ := absorbP_d (nv := nv) l k h.2
    cases v with
    | d x => exact ⟨(i, .d x) :: ps, fun k => by simp only [absorbP, absorb_d, Option.bind_some, hp, Option.map_some]⟩
    | _ => simp [isD] at h
theorem opE_read {op : Op} {σ : Operand → SV} {k k' : Wk} {v : SV} (hc : ∀ c, op = .call c → ∃ b, c.callee = .builtin b) (he : effOf h dst op = false) (e : opE P h dst ty op σ k = some (v, k')) :
    k' = k ∧ ∀ k2 : Wk, (reads op = true → ∀ x ∈ op.operands, ∀ r ∈ (σ x).rts, k2.get r = k.get r) → (reads op = true → k2.H = k.H ∨ ∀ x ∈ op.operands, (σ x).rts.any Root.isO = false) → opE P h dst ty op σ k2 = some (v, k2) := by
  unfold opE at e ⊢
  cases op <;> simp only [effOf, Bool.true_eq_false] at he <;> simp only [Op.operands] at e ⊢
  case move x => simp only [Option.some.injEq, Prod.mk.injEq] at e; obtain ⟨rfl, rfl⟩ := e; exact ⟨rfl, fun _ _ _ => rfl⟩
  case pick c a b => split at e <;> simp only [Option.some.injEq, Prod.mk.injEq, reduceCtorEq] at e; obtain ⟨rfl, rfl⟩ := e; exact ⟨rfl, fun _ _ _ => rfl⟩
  case build t ps => simp only [Option.map_eq_some_iff, Prod.mk.injEq] at e; obtain ⟨_, e1, rfl, rfl⟩ := e; exact ⟨rfl, fun _ _ _ => by rw [e1]; rfl⟩
  case buildSlice t n ps =>
    simp only [Bool.not_eq_false'] at he
    rw [he] at e ⊢
    simp only [buildSliceE, Option.bind_eq_some_iff] at e ⊢
    obtain ⟨ty, h1, z, h2, ⟨p1, k1⟩, h3, e⟩ := e
    split at e
    · rename_i hh
      simp only [Option.bind_eq_some_iff, if_true] at e
      obtain ⟨es, hes, e⟩ := e
      split at e
      · rename_i hall
        obtain ⟨p2, hp⟩ := absorbP_d (nv := h.nv) _ k hall
        rw [hp k] at h3
        simp only [Option.some.injEq, Prod.mk.injEq] at h3
        obtain ⟨rfl, rfl⟩ := h3
        simp only [Option.map_eq_some_iff, Prod.mk.injEq] at e
        obtain ⟨ds, hds, rfl, rfl⟩ := e
        refine ⟨rfl, fun k2 _ _ => ⟨ty, h1, z, h2, (p2, k2), hp k2, ?_⟩⟩
        simp only
        rw [if_pos hh, hes]
        simp only [Option.bind_some, if_true]
        rw [if_pos hall, hds]
        rfl
      · cases e
    · cases e
  case load t a =>
    simp only [Option.map_eq_some_iff, Prod.mk.injEq] at e; obtain ⟨_, e1, rfl, rfl⟩ := e
    exact ⟨rfl, fun k2 hr _ => by rw [loadE_at (hr rfl a (by simp)), e1]; rfl⟩
  case nilCheck x => split at e <;> simp only [Option.some.injEq, Prod.mk.injEq, reduceCtorEq] at e <;> (obtain ⟨rfl, rfl⟩ := e; first | exact ⟨rfl, fun _ _ _ => rfl⟩ | exact ⟨rfl, fun _ _ _ => trivial⟩)
  case binOp => simp only [Option.map_eq_some_iff, Prod.mk.injEq] at e; obtain ⟨_, e1, rfl, rfl⟩ := e; exact ⟨rfl, fun _ _ _ => by rw [e1]; rfl⟩
  case unOp => simp only [Option.map_eq_some_iff, Prod.mk.injEq] at e; obtain ⟨_, e1, rfl, rfl⟩ := e; exact ⟨rfl, fun _ _ _ => by rw [e1]; rfl⟩
  case convert => simp only [Option.map_eq_some_iff, Prod.mk.injEq] at e; obtain ⟨_, e1, rfl, rfl⟩ := e; exact ⟨rfl, fun _ _ _ => by rw [e1]; rfl⟩
  case makeFunc f a c =>
    simp only [Option.bind_eq_some_iff, Option.map_eq_some_iff, Prod.mk.injEq] at e ⊢
    obtain ⟨a1, h1, a2, h2, rfl, rfl⟩ := e
    exact ⟨rfl, fun k2 _ _ => ⟨a1, h1, a2, h2, by simp⟩⟩
  case slice t x lo hi mx =>
    simp only [Option.map_eq_some_iff, Prod.mk.injEq] at e; obtain ⟨_, e1, rfl, rfl⟩ := e
    exact ⟨rfl, fun k2 hr _ => by rw [sliceE_at (hr rfl x (by simp)), e1]; rfl⟩
  case fieldAddr t x f =>
    simp only [Option.map_eq_some_iff, Prod.mk.injEq] at e; obtain ⟨_, e1, rfl, rfl⟩ := e
    exact ⟨rfl, fun k2 hr _ => by rw [fieldAddrE_at (hr rfl x (by simp)), e1]; rfl⟩
  case field => simp only [Option.map_eq_some_iff, Prod.mk.injEq] at e; obtain ⟨_, e1, rfl, rfl⟩ := e; exact ⟨rfl, fun _ _ _ => by rw [e1]; rfl⟩
  case indexAddr t x i =>
    simp only [Option.map_eq_some_iff, Prod.mk.injEq] at e; obtain ⟨_, e1, rfl, rfl⟩ := e
    exact ⟨rfl, fun k2 hr _ => by rw [indexAddrE_at (hr rfl x (by simp)), e1]; rfl⟩
  case index => simp only [Option.map_eq_some_iff, Prod.mk.injEq] at e; obtain ⟨_, e1, rfl, rfl⟩ := e; exact ⟨rfl, fun _ _ _ => by rw [e1]; rfl⟩
  case lookup t m key ok =>
    simp only [Bool.or_eq_false_iff] at he
    simp only [he.1, he.2, Bool.false_eq_true, if_false] at e ⊢
    simp only [Option.map_eq_some_iff, Prod.mk.injEq] at e; obtain ⟨_, e1, rfl, rfl⟩ := e
    exact ⟨rfl, fun k2 _ hh => by rw [lookupE_at ((hh rfl).imp id fun q => q m (by simp)), e1]; rfl⟩
  case extract x n =>
    split at e
    · simp only [Option.map_eq_some_iff, Prod.mk.injEq] at e; obtain ⟨_, e1, rfl, rfl⟩ := e; exact ⟨rfl, fun _ _ _ => by rw [e1]; rfl⟩
    · cases e
  case call c =>
    obtain ⟨b, hb⟩ := hc c rfl
    obtain ⟨callee, args, ats⟩ := c
    simp only at hb
    subst hb
    cases b <;> simp only [effOf, Bool.true_eq_false] at he
    case len =>
      simp only at e ⊢
      split at e
      · rename_i x t hx ht
        simp only [Option.map_eq_some_iff, Prod.mk.injEq] at e
        obtain ⟨n, e1, rfl, rfl⟩ := e
        refine ⟨rfl, fun k2 _ hh => ?_⟩
        rw [lenE_at ((hh rfl).imp id fun q => q x ?_), e1]
        · rfl
        · have : x ∈ args := by rw [← Array.mem_toList_iff, hx]; simp
          simp [Call.operands, this]
      · cases e
    case min =>
      simp only at e ⊢
      split at e
      · simp only [Option.map_eq_some_iff, Prod.mk.injEq] at e
        obtain ⟨n, e1, rfl, rfl⟩ := e
        exact ⟨rfl, fun k2 _ _ => by rw [e1]; rfl⟩
      · cases e
    case max =>
      simp only at e ⊢
      split at e
      · simp only [Option.map_eq_some_iff, Prod.mk.injEq] at e
        obtain ⟨n, e1, rfl, rfl⟩ := e
        exact ⟨rfl, fun k2 _ _ => by rw [e1]; rfl⟩
      · cases e
end
end Go.Am
namespace Go.Am
open Go
set_option linter.unusedSimpArgs false
set_option linter.unusedVariables false
structure Grown (b : Prop) (k k' : Wk) : Prop where
  ct : ∃ pre, k'.ct = pre ++ k.ct
  H : b → k'.H = k.H
theorem Grown.refl (b : Prop) (k : Wk) : Grown b k k := ⟨⟨[], rfl⟩, fun _ => rfl⟩
theorem Grown.trans {b : Prop} {k k1 k2 : Wk} (x : Grown b k k1) (y : Grown b k1 k2) : Grown b k k2 := by
  obtain ⟨p, hp⟩ := x.ct
  obtain ⟨q, hq⟩ := y.ct
  exact ⟨⟨q ++ p, by rw [hq, hp, List.append_assoc]⟩, fun h => (y.H h).trans (x.H h)⟩
theorem Grown.tell {b : Prop} {k k' : Wk} (h : Grown b k k') (x : Tr) : Grown b k (k'.tell x) := ⟨h.ct, h.H⟩
theorem Grown.new {b : Prop} {k k' : Wk} (h : Grown b k k') (n j : Nat) (t : T) : Grown b k (k'.new n j t) := by
  obtain ⟨p, hp⟩ := h.ct
  exact ⟨⟨((n, j), t) :: p, by simp [Wk.new, hp]⟩, h.H⟩
theorem Grown.imp {b c : Prop} {k k' : Wk} (h : Grown b k k') (f : c → b) : Grown c k k' := ⟨h.ct, fun hc => h.H (f hc)⟩
theorem Grown.set {k k' : Wk} {r : Root} {t : T} (h : k.set r t = some k') : Grown (r.isO = false) k k' := by
  cases r with
  | l n j => simp only [Wk.set, Option.some.injEq] at h; subst h; exact ⟨⟨[((n, j), t)], rfl⟩, fun _ => rfl⟩
  | o n =>
    simp only [Wk.set] at h
    split at h
    · simp only [Option.some.injEq] at h; subst h; exact ⟨⟨[], rfl⟩, fun h => by cases h⟩
    · cases h
abbrev NoO (v : SV) : Prop := v.rts.any Root.isO = false
theorem NoO.bor {r : Root} {p : Path} {o l : Nat} : NoO (.bor r p o l) ↔ r.isO = false := by simp [NoO, SV.rts]
theorem NoO.loc {r : Root} {p : Path} {i o : Nat} : NoO (.loc r p i o) ↔ r.isO = false := by simp [NoO, SV.rts]
theorem rtss_any {f : Root → Bool} : ∀ (l : List SV), (SV.rtss l).any f = false ↔ ∀ v ∈ l, v.rts.any f = false
  | [] => by simp [SV.rtss]
  | v :: l => by simp only [SV.rtss, List.any_append, Bool.or_eq_false_iff, rtss_any l, List.forall_mem_cons]
mutual
theorem Tr.noO (x : Tr) : ∀ (v : SV), NoO v → NoO (x.sv v)
  | .d y, h => by cases x <;> exact h
  | .bor r p o l, h => by
    rw [NoO.bor] at h
    cases x <;> simp only [Tr.sv] <;> (repeat' split) <;> first | (simp [NoO, SV.rts, Root.isO]; done) | (rw [NoO.bor]; exact h)
  | .loc r p i o, h => by
    rw [NoO.loc] at h
    cases x <;> simp only [Tr.sv] <;> (repeat' split) <;> first | (simp [NoO, SV.rts, Root.isO]; done) | (rw [NoO.loc]; exact h) | simp_all
  | .rp _ _, h => by cases x <;> exact h
  | .clip _ _, h => by cases x <;> exact h
  | .ns _, h => by cases x <;> exact h
  | .dead, h => by cases x <;> exact h
  | .agg l, h => by
    have : x.sv (.agg l) = .agg (Tr.svs x l) := by cases x <;> rfl
    rw [this]; exact Tr.noOs x l h
  | .tup l, h => by
    have : x.sv (.tup l) = .tup (Tr.svs x l) := by cases x <;> rfl
    rw [this]; exact Tr.noOs x l h
theorem Tr.noOs (x : Tr) : ∀ (l : List SV), (SV.rtss l).any Root.isO = false → (SV.rtss (Tr.svs x l)).any Root.isO = false
  | [], h => h
  | v :: l, h => by
    simp only [SV.rtss, Tr.svs, List.any_append, Bool.or_eq_false_iff] at h ⊢
    exact ⟨Tr.noO x v h.1, Tr.noOs x l h.2⟩
end
theorem trv_noO : ∀ (a : List Tr) (v : SV), NoO v → NoO (trv a v)
  | [], _, h => h
  | x :: a, v, h => trv_noO a _ (Tr.noO x v h)
theorem absorb1_grown {nv : Nat} {v : SV} {k k' : Wk} {t : T} (e : absorb1 nv v k = some (t, k')) : Grown (NoO v) k k' := by
  cases v with
  | d x => simp only [absorb1, Option.some.injEq, Prod.mk.injEq] at e; rw [← e.2]; exact .refl _ _
  | clip b l => simp only [absorb1, Option.some.injEq, Prod.mk.injEq] at e; rw [← e.2]; exact .refl _ _
  | ns b => simp only [absorb1, Option.some.injEq, Prod.mk.injEq] at e; rw [← e.2]; exact .refl _ _
  | bor r p off len =>
    simp only [absorb1, Option.bind_eq_some_iff] at e
    obtain ⟨c, _, nd, _, e⟩ := e
    split at e
    · split at e
      · split at e
        · simp only [Option.map_eq_some_iff, Prod.mk.injEq] at e
          obtain ⟨k1, h1, _, rfl⟩ := e
          exact ((Grown.set h1).tell _).imp NoO.bor.1
        · simp only [Option.bind_eq_some_iff, Option.map_eq_some_iff, Prod.mk.injEq] at e
          obtain ⟨_, _, k1, h1, _, rfl⟩ := e
          exact ((Grown.set h1).tell _).imp NoO.bor.1
      · simp only [Option.bind_eq_some_iff, Option.map_eq_some_iff, Prod.mk.injEq] at e
        obtain ⟨_, _, _, _, k1, h1, _, rfl⟩ := e
        exact ((Grown.set h1).tell _).imp NoO.bor.1
    · cases e
  | _ => simp [absorb1] at e
theorem absorbs_grown {nv : Nat} : ∀ (l : List SV) {k k' : Wk} {ts : List T}, absorbs nv l k = some (ts, k') → Grown (∀ v ∈ l, NoO v) k k'
  | [], k, k', ts, e => by simp only [absorbs, Option.some.injEq, Prod.mk.injEq] at e; rw [← e.2]; exact .refl _ _
  | v :: l, k, k', ts, e => by
    simp only [absorbs, Option.bind_eq_some_iff, Option.map_eq_some_iff, Prod.mk.injEq] at e
    obtain ⟨⟨t, k1⟩, e1, ⟨ts', k2⟩, e2, _, rfl⟩ := e
    exact ((absorb1_grown e1).imp fun h => trv_noO _ _ (h v (by simp))).trans ((absorbs_grown l e2).imp fun h u hu => h u (by simp [hu]))
theorem absorb_grown {nv : Nat} {v : SV} {k k' : Wk} {t : T} (e : absorb nv v k = some (t, k')) : Grown (NoO v) k k' := by
  by_cases hv : ∃ l, v = .agg l
  · obtain ⟨l, rfl⟩ := hv
    simp only [absorb, Option.map_eq_some_iff, Prod.mk.injEq] at e
    obtain ⟨⟨ts, k1⟩, e1, _, rfl⟩ := e
    exact (absorbs_grown l e1).imp fun h => (rtss_any l).1 h
  · have e' : absorb1 nv (trv k.tr v) k = some (t, k') := by
      revert e hv
      cases v <;> intro e hv <;> first | exact e | exact absurd ⟨_, rfl⟩ hv
    exact (absorb1_grown e').imp (trv_noO _ _)
theorem absorbP_grown {nv : Nat} : ∀ (l : List (Nat × SV)) {k k' : Wk} {ts : List (Nat × T)}, absorbP nv l k = some (ts, k') → Grown (∀ v ∈ l, NoO v.2) k k'
  | [], k, k', ts, e => by simp only [absorbP, Option.some.injEq, Prod.mk.injEq] at e; rw [← e.2]; exact .refl _ _
  | (i, v) :: l, k, k', ts, e => by
    simp only [absorbP, Option.bind_eq_some_iff, Option.map_eq_some_iff, Prod.mk.injEq] at e
    obtain ⟨⟨t, k1⟩, e1, ⟨ts', k2⟩, e2, _, rfl⟩ := e
    exact ((absorb_grown e1).imp fun h => h (i, v) (by simp)).trans ((absorbP_grown l e2).imp fun h u hu => h u (by simp [hu]))
theorem absorbF_grown {nv : Nat} {v : SV} {k k' : Wk} {t : T} (e : absorbF nv v k = some (t, k')) : Grown (NoO v) k k' := by
  simp only [absorbF, Option.map_eq_some_iff, Prod.mk.injEq] at e
  obtain ⟨⟨t0, k0⟩, e, rfl, rfl⟩ := e
  exact absorb_grown e
theorem asLoc_noO {v : SV} (h : NoO v) : NoO (asLoc v) := by rw [NoO, asLoc_rts]; exact h
section
variable {P : Program} {h : Hint} {dst : Nat} {ty : TypeId}
theorem storeE_grown {nv : Nat} {t : TypeId} {a v : SV} {k k' : Wk} (e : storeE P nv t a v k = some k') : Grown (NoO a ∧ NoO v) k k' := by
  simp only [storeE, Option.bind_eq_some_iff] at e
  obtain ⟨⟨x, k1⟩, e1, e⟩ := e
  have g1 := (absorbF_grown e1).imp (c := NoO a ∧ NoO v) (·.2)
  simp only at e
  split at e
  · rename_i r p i off hl
    split at e
    · simp only [Option.bind_eq_some_iff] at e
      obtain ⟨c, _, nd, _, e⟩ := e
      split at e
      · simp only [Option.bind_eq_some_iff] at e
        obtain ⟨el, _, e⟩ := e
        split at e
        · simp only [Option.bind_eq_some_iff, Option.map_eq_some_iff] at e
          obtain ⟨c', _, k2, h2, rfl⟩ := e
          have hr : NoO a ∧ NoO v → r.isO = false := fun q => by
            have := asLoc_noO (trv_noO k1.tr a q.1)
            rw [hl] at this
            exact NoO.loc.1 this
          have g2 := g1.trans ((Grown.set h2).imp hr)
          split
          · exact g2.tell _
          · exact g2
        · cases e
      · cases e
    · cases e
  · cases e
theorem newsE_grown {nv : Nat} {v : SV} {k k' : Wk} {l : List T} (e : newsE nv v k = some (l, k')) : Grown True k k' := by
  cases v with
  | d x => cases x <;> simp only [newsE, Option.some.injEq, Prod.mk.injEq, reduceCtorEq] at e <;> (rw [← e.2]; exact .refl _ _)
  | clip b l => simp only [newsE, Option.some.injEq, Prod.mk.injEq] at e; rw [← e.2]; exact .refl _ _
  | ns b => simp only [newsE, Option.some.injEq, Prod.mk.injEq] at e; rw [← e.2]; exact .refl _ _
  | bor r p off len =>
    simp only [newsE, Option.bind_eq_some_iff] at e
    obtain ⟨c, _, nd, _, e⟩ := e
    split at e
    · split at e
      · split at e
        · simp only [Option.map_eq_some_iff, Prod.mk.injEq] at e
          obtain ⟨k1, h1, _, rfl⟩ := e
          exact ((Grown.set h1).imp fun _ => rfl).tell _
        · split at e
          · simp only [Option.some.injEq, Prod.mk.injEq] at e; rw [← e.2]; exact .refl _ _
          · cases e
      · split at e
        · simp only [Option.some.injEq, Prod.mk.injEq] at e; rw [← e.2]; exact .refl _ _
        · cases e
    · cases e
  | _ => simp [newsE] at e
theorem appendE_grown {nv : Nat} {t : TypeId} {s x v : SV} {k k' : Wk} (e : appendE P nv dst t s x k = some (v, k')) : Grown (NoO s) k k' := by
  simp only [appendE, oldsE, Option.bind_eq_some_iff] at e
  obtain ⟨ety, _, z, _, ⟨news, k1⟩, e1, e⟩ := e
  have g1 := (newsE_grown e1).imp (c := NoO s) fun _ => trivial
  split at e
  · simp only [Option.bind_eq_some_iff] at e
    obtain ⟨⟨olds, k2⟩, e2, e⟩ := e
    have g2 : Grown (NoO s) k1 k2 := by
      split at e2
      · simp only [Option.some.injEq, Prod.mk.injEq] at e2; rw [← e2.2]; exact .refl _ _
      · simp only [Option.some.injEq, Prod.mk.injEq] at e2; rw [← e2.2]; exact .refl _ _
      · rename_i r p off len hs
        split at e2
        · simp only [Option.bind_eq_some_iff] at e2
          obtain ⟨c, _, nd, _, e2⟩ := e2
          split at e2
          · split at e2
            · simp only [Option.bind_eq_some_iff, Option.map_eq_some_iff, Prod.mk.injEq] at e2
              obtain ⟨c', _, k3, h3, _, rfl⟩ := e2
              refine ((Grown.set h3).imp fun q => ?_).tell _
              have := trv_noO k1.tr s q
              rw [hs] at this
              exact NoO.bor.1 this
            · cases e2
          · cases e2
        · cases e2
      · cases e2
    simp only at e
    split at e
    · simp only [Option.some.injEq, Prod.mk.injEq] at e
      rw [← e.2]
      exact (g1.trans g2).new _ _ _
    · cases e
  · cases e
theorem takeE_ct {t : TypeId} {m x v : SV} {k k' : Wk} (e : takeE P dst t m x k = some (v, k')) : ∃ pre, k'.ct = pre ++ k.ct := by
  simp only [takeE, Option.bind_eq_some_iff] at e
  obtain ⟨_, _, e⟩ := e
  split at e
  · split at e
    · split at e
      · simp only [Option.bind_eq_some_iff] at e
        obtain ⟨r, _, e⟩ := e
        split at e
        · simp only [Option.bind_eq_some_iff, Option.some.injEq, Prod.mk.injEq] at e
          obtain ⟨_, _, _, rfl⟩ := e
          exact ⟨[_], rfl⟩
        · cases e
        · split at e
          · simp only [Option.some.injEq, Prod.mk.injEq] at e
            obtain ⟨_, rfl⟩ := e
            exact ⟨[_], rfl⟩
          · cases e
      · cases e
    · cases e
  · cases e
theorem frzLookE_ct {t : TypeId} {m x v : SV} {k k' : Wk} (e : frzLookE P t m x k = some (v, k')) : k'.ct = k.ct := by
  unfold frzLookE at e
  split at e
  · split at e
    · simp only [Option.bind_eq_some_iff, Option.map_eq_some_iff, Prod.mk.injEq] at e
      obtain ⟨_, _, _, _, _, _, _, rfl⟩ := e
      rfl
    · cases e
  · cases e
theorem opE_grown {op : Op} {σ : Operand → SV} {k k' : Wk} {v : SV} (e : opE P h dst ty op σ k = some (v, k')) : Grown (hOf h dst op = false ∧ ∀ x ∈ op.operands, NoO (σ x)) k k' := by
  unfold opE at e
  cases op <;> simp only at e
  case move x => simp only [Option.some.injEq, Prod.mk.injEq] at e; rw [← e.2]; exact .refl _ _
  case assign x =>
    unfold assignE at e
    split at e
    · split at e <;> simp only [Option.some.injEq, Prod.mk.injEq] at e <;> rw [← e.2]
      · exact (Grown.refl _ _).new _ _ _
      · exact .refl _ _
    · split at e
      · simp only [Option.some.injEq, Prod.mk.injEq] at e; rw [← e.2]; exact .refl _ _
      · simp only [Option.bind_eq_some_iff] at e
        obtain ⟨c, _, e⟩ := e
        split at e
        · split at e <;> simp only [Option.some.injEq, Prod.mk.injEq] at e <;> rw [← e.2]
          · refine (Grown.new ?_ _ _ _).tell _
            exact ⟨⟨[_], rfl⟩, fun _ => rfl⟩
          · exact .refl _ _
        · cases e
    · simp only [Option.some.injEq, Prod.mk.injEq] at e; rw [← e.2]; exact .refl _ _
  case pick c a b => split at e <;> simp only [Option.some.injEq, Prod.mk.injEq, reduceCtorEq] at e; rw [← e.2]; exact .refl _ _
  case alloc t =>
    simp only [Option.bind_eq_some_iff] at e
    obtain ⟨z, _, e⟩ := e
    unfold boxE at e
    split at e
    · cases e
    · split at e <;> simp only [Option.some.injEq, Prod.mk.injEq] at e <;> rw [← e.2]
      · rename_i hc; exact ⟨⟨[], rfl⟩, fun q => by simp [hOf, hc] at q; exact absurd hc (by simp [q.1])⟩
      · exact (Grown.refl _ _).new _ _ _
  case box t x =>
    simp only [Option.bind_eq_some_iff] at e
    obtain ⟨⟨y, k1⟩, e1, e⟩ := e
    have g1 := absorbF_grown e1
    simp only at e
    split at e
    · unfold boxE at e
      split at e
      · cases e
      · split at e <;> simp only [Option.some.injEq, Prod.mk.injEq] at e <;> rw [← e.2]
        · rename_i hc; exact ⟨g1.ct, fun q => by simp [hOf, hc] at q; exact absurd hc (by simp [q.1])⟩
        · exact (g1.imp fun q => q.2 x (by simp [Op.operands])).new _ _ _
    · cases e
  case build t ps => simp only [Option.map_eq_some_iff, Prod.mk.injEq] at e; obtain ⟨_, _, _, rfl⟩ := e; exact .refl _ _
  case buildSlice t n ps =>
    simp only [buildSliceE, Option.bind_eq_some_iff] at e
    obtain ⟨ety, _, z, _, ⟨p1, k1⟩, h3, e⟩ := e
    have g1 := (absorbP_grown _ h3).imp (c := hOf h dst (.buildSlice t n ps) = false ∧ ∀ x ∈ (Op.buildSlice t n ps).operands, NoO (σ x)) (fun q u hu => by
      simp only [List.mem_map] at hu
      obtain ⟨p, hp, rfl⟩ := hu
      exact q.2 p.2 (by simp only [Op.operands, List.mem_toArray, List.mem_map]; exact ⟨p, hp, rfl⟩))
    split at e
    · simp only [Option.bind_eq_some_iff] at e
      obtain ⟨es, _, e⟩ := e
      split at e
      · split at e
        · simp only [Option.map_eq_some_iff, Prod.mk.injEq] at e; obtain ⟨_, _, _, rfl⟩ := e; exact g1
        · cases e
      · simp only [Option.some.injEq, Prod.mk.injEq] at e; rw [← e.2]; exact g1.new _ _ _
    · cases e
  case load t a => simp only [Option.map_eq_some_iff, Prod.mk.injEq] at e; obtain ⟨_, _, _, rfl⟩ := e; exact .refl _ _
  case store t a x =>
    simp only [Option.map_eq_some_iff, Prod.mk.injEq] at e
    obtain ⟨k1, e1, _, rfl⟩ := e
    exact (storeE_grown e1).imp fun q => ⟨q.2 a (by simp [Op.operands]), q.2 x (by simp [Op.operands])⟩
  case nilCheck x => split at e <;> simp only [Option.some.injEq, Prod.mk.injEq, reduceCtorEq] at e <;> (rw [← e.2]; exact .refl _ _)
  case makeMap t r =>
    cases r with
    | none => simp only [Option.some.injEq, Prod.mk.injEq] at e; rw [← e.2]; exact ⟨⟨[], rfl⟩, fun q => by simp [hOf] at q⟩
    | some n =>
      simp only at e
      split at e
      · simp only [Option.some.injEq, Prod.mk.injEq] at e; rw [← e.2]; exact ⟨⟨[], rfl⟩, fun q => by simp [hOf] at q⟩
      · cases e
  case makeSlice t l c =>
    unfold makeE at e
    split at e
    · simp only [Option.bind_eq_some_iff] at e
      obtain ⟨_, _, _, _, e⟩ := e
      split at e
      · simp only [Option.some.injEq, Prod.mk.injEq] at e; rw [← e.2]; exact (Grown.refl _ _).new _ _ _
      · cases e
    · cases e
  case makeFunc f a c =>
    simp only [Option.bind_eq_some_iff, Option.map_eq_some_iff, Prod.mk.injEq] at e
    obtain ⟨_, _, _, _, _, rfl⟩ := e
    exact .refl _ _
  case extract x n =>
    split at e
    · simp only [Option.map_eq_some_iff, Prod.mk.injEq] at e; obtain ⟨_, _, _, rfl⟩ := e; exact .refl _ _
    · cases e
  case lookup t m key ok =>
    refine ⟨?_, fun q => by simp [hOf] at q⟩
    split at e
    · split at e
      · cases e
      · exact takeE_ct e
    split at e
    · split at e
      · cases e
      · exact ⟨[], by simpa using frzLookE_ct e⟩
    simp only [Option.map_eq_some_iff, Prod.mk.injEq] at e
    obtain ⟨_, _, _, rfl⟩ := e
    exact ⟨[], rfl⟩
  case mapUpdate t m key x =>
    simp only [Option.map_eq_some_iff, Prod.mk.injEq] at e
    obtain ⟨k1, e1, _, rfl⟩ := e
    simp only [mapPutE, Option.bind_eq_some_iff] at e1
    obtain ⟨⟨kt, _⟩, _, e1⟩ := e1
    refine ⟨?_, fun q => by simp [hOf] at q⟩
    simp only at e1
    split at e1
    · split at e1
      · simp only [Option.bind_eq_some_iff] at e1
        obtain ⟨⟨y, k2⟩, e2, e1⟩ := e1
        simp only at e1
        split at e1
        · simp only [Option.map_eq_some_iff] at e1
          obtain ⟨_, _, rfl⟩ := e1
          exact (absorb_grown e2).ct
        · simp only [Option.map_eq_some_iff] at e1
          obtain ⟨_, _, rfl⟩ := e1
          exact (absorb_grown e2).ct
        · cases e1
      · cases e1
    · cases e1
  case call c =>
    obtain ⟨callee, args, ats⟩ := c
    cases callee with
    | builtin b =>
      cases b <;> simp only [reduceCtorEq] at e
      case len =>
        split at e
        · simp only [Option.map_eq_some_iff, Prod.mk.injEq] at e; obtain ⟨_, _, _, rfl⟩ := e; exact .refl _ _
        · cases e
      case min =>
        split at e
        · simp only [Option.map_eq_some_iff, Prod.mk.injEq] at e; obtain ⟨_, _, _, rfl⟩ := e; exact .refl _ _
        · cases e
      case max =>
        split at e
        · simp only [Option.map_eq_some_iff, Prod.mk.injEq] at e; obtain ⟨_, _, _, rfl⟩ := e; exact .refl _ _
        · cases e
      case append =>
        split at e
        · rename_i x y t u hx ht
          split at e
          · refine (appendE_grown e).imp fun q => q.2 x ?_
            have : x ∈ args := by rw [← Array.mem_toList_iff, hx]; simp
            simp [Op.operands, Call.operands, this]
          · cases e
        · cases e
    | _ => simp at e
  all_goals first | (cases e; done) | (simp only [Option.map_eq_some_iff, Prod.mk.injEq] at e; obtain ⟨_, _, _, rfl⟩ := e; exact .refl _ _)
theorem snap1_grown {nv : Nat} {v : SV} {k k' : Wk} {b b' : Lend} {x : D} (e : snap1 nv v k b = some (x, k', b')) : Grown True k k' := by
  cases v with
  | d x => simp only [snap1, Option.some.injEq, Prod.mk.injEq] at e; rw [← e.2.1]; exact .refl _ _
  | clip t l => simp only [snap1, Option.some.injEq, Prod.mk.injEq] at e; rw [← e.2.1]; exact .refl _ _
  | ns b => simp only [snap1, Option.some.injEq, Prod.mk.injEq] at e; rw [← e.2.1]; exact .refl _ _
  | bor r p off len =>
    simp only [snap1, Option.bind_eq_some_iff] at e
    obtain ⟨c, _, nd, _, e⟩ := e
    split at e
    · split at e
      · split at e
        · simp only [Option.bind_eq_some_iff, Option.map_eq_some_iff, Prod.mk.injEq] at e
          obtain ⟨l, _, k1, h1, _, rfl, _⟩ := e
          exact ((Grown.set h1).imp fun _ => rfl).tell _
        · simp only [Option.map_eq_some_iff, Prod.mk.injEq] at e; obtain ⟨_, _, _, rfl, _⟩ := e; exact .refl _ _
      · simp only [Option.map_eq_some_iff, Prod.mk.injEq] at e; obtain ⟨_, _, _, rfl, _⟩ := e; exact .refl _ _
      · simp only [Option.map_eq_some_iff, Prod.mk.injEq] at e; obtain ⟨_, _, _, rfl, _⟩ := e; exact .refl _ _
    · cases e
  | _ => simp [snap1] at e
theorem snaps_grown {nv : Nat} : ∀ (l : List SV) {k k' : Wk} {b b' : Lend} {xs : List D}, snaps nv l k b = some (xs, k', b') → Grown True k k'
  | [], k, k', b, b', xs, e => by simp only [snaps, Option.some.injEq, Prod.mk.injEq] at e; rw [← e.2.1]; exact .refl _ _
  | v :: l, k, k', b, b', xs, e => by
    simp only [snaps, Option.bind_eq_some_iff, Option.map_eq_some_iff, Prod.mk.injEq] at e
    obtain ⟨⟨x, k1, b1⟩, e1, ⟨ys, k2, b2⟩, e2, _, rfl, _⟩ := e
    exact (snap1_grown e1).trans (snaps_grown l e2)
theorem snap_grown {nv : Nat} {v : SV} {k k' : Wk} {b b' : Lend} {x : D} (e : snap nv v k b = some (x, k', b')) : Grown True k k' := by
  by_cases hv : ∃ l, v = .agg l
  · obtain ⟨l, rfl⟩ := hv
    simp only [snap, Option.map_eq_some_iff, Prod.mk.injEq] at e
    obtain ⟨⟨xs, k1, b1⟩, e1, _, rfl, _⟩ := e
    exact snaps_grown l e1
  · have e' : snap1 nv (trv k.tr v) k b = some (x, k', b') := by
      revert e hv
      cases v <;> intro e hv <;> first | exact e | exact absurd ⟨_, rfl⟩ hv
    exact snap1_grown e'
theorem snapA_grown {nv : Nat} : ∀ (l : List SV) {k k' : Wk} {b b' : Lend} {xs : List D}, snapA nv l k b = some (xs, k', b') → Grown True k k'
  | [], k, k', b, b', xs, e => by simp only [snapA, Option.some.injEq, Prod.mk.injEq] at e; rw [← e.2.1]; exact .refl _ _
  | v :: l, k, k', b, b', xs, e => by
    simp only [snapA, Option.bind_eq_some_iff, Option.map_eq_some_iff, Prod.mk.injEq] at e
    obtain ⟨⟨x, k1, b1⟩, e1, ⟨ys, k2, b2⟩, e2, _, rfl, _⟩ := e
    exact (snap_grown e1).trans (snapA_grown l e2)
theorem resCell_grown {j j' : Nat} {t : T} {k k' : Wk} {v : SV} (e : resCell dst j t k = some (v, j', k')) : Grown True k k' := by
  cases t <;> simp only [resCell, Option.some.injEq, Prod.mk.injEq, reduceCtorEq] at e <;> rw [← e.2.2]
  · exact .refl _ _
  · exact (Grown.refl _ _).new _ _ _
theorem resCells_grown : ∀ (l : List T) {j j' : Nat} {k k' : Wk} {vs : List SV}, resCells dst j l k = some (vs, j', k') → Grown True k k'
  | [], j, j', k, k', vs, e => by simp only [resCells, Option.some.injEq, Prod.mk.injEq] at e; rw [← e.2.2]; exact .refl _ _
  | t :: l, j, j', k, k', vs, e => by
    simp only [resCells, Option.bind_eq_some_iff, Option.map_eq_some_iff, Prod.mk.injEq] at e
    obtain ⟨⟨v, j1, k1⟩, e1, ⟨ws, j2, k2⟩, e2, _, _, rfl⟩ := e
    exact (resCell_grown e1).trans (resCells_grown l e2)
theorem res1_grown {j j' : Nat} {t : T} {k k' : Wk} {v : SV} (e : res1 dst j t k = some (v, j', k')) : Grown True k k' := by
  cases t with
  | agg ts =>
    simp only [res1, Option.map_eq_some_iff, Prod.mk.injEq] at e
    obtain ⟨⟨vs, j1, k1⟩, e1, _, _, rfl⟩ := e
    exact resCells_grown ts e1
  | d x => exact resCell_grown (dst := dst) (t := .d x) e
  | own es => exact resCell_grown (dst := dst) (t := .own es) e
  | dead => simp [res1, resCell] at e
theorem resAll_grown : ∀ (l : List T) {j : Nat} {k k' : Wk} {vs : List SV}, resAll dst j l k = some (vs, k') → Grown True k k'
  | [], j, k, k', vs, e => by simp only [resAll, Option.some.injEq, Prod.mk.injEq] at e; rw [← e.2]; exact .refl _ _
  | t :: l, j, k, k', vs, e => by
    simp only [resAll, Option.bind_eq_some_iff, Option.map_eq_some_iff, Prod.mk.injEq] at e
    obtain ⟨⟨v, j1, k1⟩, e1, ⟨ws, k2⟩, e2, _, rfl⟩ := e
    exact (res1_grown e1).trans (resAll_grown l e2)
theorem resE_grown {rs : List T} {k k' : Wk} {v : SV} (e : resE dst rs k = some (v, k')) : Grown True k k' := by
  simp only [resE, Option.map_eq_some_iff, Prod.mk.injEq] at e
  obtain ⟨⟨vs, k1⟩, e1, _, rfl⟩ := e
  exact resAll_grown rs e1
theorem callE0_grown {call : CallF} {f : FuncId} {ds : List D} {b : Lend} {k k' : Wk} {v : SV} (e : callE0 call h dst f ds b k = some (v, k')) : Grown (h.keep.contains dst = true) k k' := by
  unfold callE0 at e
  split at e
  · simp only [Option.bind_eq_some_iff] at e
    obtain ⟨⟨rs, H2⟩, _, e⟩ := e
    simp only at e
    split at e
    · exact (resE_grown e).imp fun _ => trivial
    · cases e
  split at e
  · cases e
  · rename_i hk
    simp only [Option.bind_eq_some_iff] at e
    obtain ⟨⟨rs, H2⟩, _, e⟩ := e
    simp only at e
    split at e
    · exact ⟨(resE_grown e).ct, fun q => absurd q hk⟩
    · cases e
theorem callE_grown {call : CallF} {f : FuncId} {ds : List D} {b : Lend} {k k' : Wk} {v : SV} (e : callE call h dst f ds b k = some (v, k')) : Grown (h.keep.contains dst = true) k k' := by
  unfold callE at e
  split at e
  · simp only [Option.bind_eq_some_iff] at e
    obtain ⟨_, _, e⟩ := e
    exact callE0_grown e
  · exact callE0_grown e
theorem stepE_grown {call : CallF} {op : Op} {σ : Operand → SV} {k k' : Wk} {v : SV} (e : stepE P call h dst ty op σ k = some (v, k')) : Grown (hOf h dst op = false ∧ (leansO op = true → ∀ x ∈ op.operands, NoO (σ x))) k k' := by
  unfold stepE at e
  split at e
  · rename_i f args ats
    split at e
    · simp only [Option.bind_eq_some_iff] at e
      obtain ⟨⟨ds, k1, b⟩, e1, e2⟩ := e
      refine ((snapA_grown _ e1).imp fun _ => trivial).trans ((callE_grown e2).imp fun q => ?_)
      simpa [hOf] using q.1
    · cases e
  · rename_i hne
    refine (opE_grown e).imp fun q => ⟨q.1, q.2 ?_⟩
    unfold leansO
    split
    · exact absurd rfl (hne _ _ _)
    · rfl
end
end Go.Am
namespace Go.Am
open Go
set_option linter.unusedSimpArgs false
set_option linter.unusedVariables false
structure Sm (Z : Root → Prop) (b : Bool) (k k' : Wk) : Prop where
  get : ∀ r, ¬ Z r → k'.get r = k.get r
  H : b = true → k'.H = k.H
  tr : k'.tr = k.tr
  nr : k.tr.any Tr.isRen = false
  obj : b = false → ∀ n, Z (.o n)
structure Par (b : Bool) (k k' k1 k1' : Wk) : Prop where
  ct : ∃ pre, k1.ct = pre ++ k.ct ∧ k1'.ct = pre ++ k'.ct
  H : b = true → k1'.H = k1.H
  Hs : b = false → k1.H = k.H ∧ k1'.H = k'.H
  tr : k1'.tr = k1.tr
section
variable {Z : Root → Prop} {b : Bool} {k k' k1 k1' k2 k2' : Wk}
theorem Par.refl (s : Sm Z b k k') : Par b k k' k k' := ⟨⟨[], rfl, rfl⟩, s.H, fun _ => ⟨rfl, rfl⟩, s.tr⟩
theorem Par.trans (x : Par b k k' k1 k1') (y : Par b k1 k1' k2 k2') : Par b k k' k2 k2' := by
  obtain ⟨p, h1, h2⟩ := x.ct
  obtain ⟨q, h3, h4⟩ := y.ct
  exact ⟨⟨q ++ p, by rw [h3, h1, List.append_assoc], by rw [h4, h2, List.append_assoc]⟩, y.H, fun h => ⟨(y.Hs h).1.trans (x.Hs h).1, (y.Hs h).2.trans (x.Hs h).2⟩, y.tr⟩
theorem lookR_app (p l : List ((Nat × Nat) × T)) (x : Nat × Nat) : lookR (p ++ l) x = (lookR p x).or (lookR l x) := by
  induction p with
  | nil => simp [lookR]
  | cons a p ih => obtain ⟨y, t⟩ := a; simp only [List.cons_append, lookR]; split <;> simp [ih]
theorem Sm.next (s : Sm Z b k k') (p : Par b k k' k1 k1') (hn : k1.tr.any Tr.isRen = false) : Sm Z b k1 k1' := by
  obtain ⟨pre, h1, h2⟩ := p.ct
  refine ⟨fun r hr => ?_, p.H, p.tr, hn, s.obj⟩
  cases r with
  | l n j =>
    have := s.get _ hr
    simp only [Wk.get, Go.Am.cont] at this ⊢
    rw [h1, h2, lookR_app, lookR_app, this]
  | o n =>
    cases b with
    | true => simp only [Wk.get, Go.Am.cont, p.H rfl]
    | false => exact absurd (s.obj rfl n) hr
theorem Par.tell (p : Par b k k' k1 k1') (x : Tr) : Par b k k' (k1.tell x) (k1'.tell x) := ⟨p.ct, p.H, p.Hs, by simp [Wk.tell, p.tr]⟩
theorem Par.new (p : Par b k k' k1 k1') (n j : Nat) (t : T) : Par b k k' (k1.new n j t) (k1'.new n j t) := by
  obtain ⟨pre, h1, h2⟩ := p.ct
  exact ⟨⟨((n, j), t) :: pre, by simp [Wk.new, h1], by simp [Wk.new, h2]⟩, p.H, p.Hs, by simp [Wk.new, p.tr]⟩
theorem set_sim (s : Sm Z b k k') {r : Root} (hr : ¬ Z r) {t : T} (e : k.set r t = some k1) : ∃ k1', k'.set r t = some k1' ∧ Par b k k' k1 k1' ∧ k1.tr = k.tr := by
  cases r with
  | l n j =>
    simp only [Wk.set, Option.some.injEq] at e
    subst e
    exact ⟨_, rfl, ⟨⟨[((n, j), t)], rfl, rfl⟩, s.H, fun _ => ⟨rfl, rfl⟩, s.tr⟩, rfl⟩
  | o n =>
    cases b with
    | false => exact absurd (s.obj rfl n) hr
    | true =>
      simp only [Wk.set] at e ⊢
      split at e
      · simp only [Option.some.injEq] at e
        subst e
        exact ⟨_, rfl, ⟨⟨[], rfl, rfl⟩, fun _ => by simp [s.H rfl], by simp, s.tr⟩, rfl⟩
      · cases e
mutual
theorem Tr.rts_le (x : Tr) (hx : x.isRen = false) : ∀ (v : SV), ∀ r ∈ (x.sv v).rts, r ∈ v.rts
  | .d y, r, hr => by cases x <;> exact hr
  | .rp _ _, r, hr => by cases x <;> exact hr
  | .clip _ _, r, hr => by cases x <;> exact hr
  | .ns _, r, hr => by cases x <;> exact hr
  | .dead, r, hr => by cases x <;> exact hr
  | .bor q p o m, r, hr => by
    cases x with
    | ren a b => simp [Tr.isRen] at hx
    | _ => simp only [Tr.sv] at hr; (repeat' split at hr) <;> simp [SV.rts] at hr ⊢ <;> exact hr
  | .loc q p i o, r, hr => by
    cases x with
    | ren a b => simp [Tr.isRen] at hx
    | _ => simp only [Tr.sv] at hr; (repeat' split at hr) <;> simp [SV.rts] at hr ⊢ <;> exact hr
  | .agg l, r, hr => by
    have e : x.sv (.agg l) = .agg (Tr.svs x l) := by cases x <;> rfl
    rw [e] at hr
    exact Tr.rtss_le x hx l r hr
  | .tup l, r, hr => by
    have e : x.sv (.tup l) = .tup (Tr.svs x l) := by cases x <;> rfl
    rw [e] at hr
    exact Tr.rtss_le x hx l r hr
theorem Tr.rtss_le (x : Tr) (hx : x.isRen = false) : ∀ (l : List SV), ∀ r ∈ SV.rtss (Tr.svs x l), r ∈ SV.rtss l
  | [], r, hr => hr
  | v :: l, r, hr => by
    simp only [Tr.svs, SV.rtss, List.mem_append] at hr ⊢
    rcases hr with hr | hr
    · exact .inl (Tr.rts_le x hx v r hr)
    · exact .inr (Tr.rtss_le x hx l r hr)
end
theorem trv_rts_le : ∀ (a : List Tr), a.any Tr.isRen = false → ∀ (v : SV), ∀ r ∈ (trv a v).rts, r ∈ v.rts
  | [], _, _, _, hr => hr
  | x :: a, h, v, r, hr => by
    simp only [List.any_cons, Bool.or_eq_false_iff] at h
    exact Tr.rts_le x h.1 v r (trv_rts_le a h.2 _ r hr)
abbrev Off (Z : Root → Prop) (v : SV) : Prop := ∀ r ∈ v.rts, ¬ Z r
theorem Off.trv {v : SV} (h : Off Z v) {a : List Tr} (ha : a.any Tr.isRen = false) : Off Z (trv a v) := fun r hr => h r (trv_rts_le a ha v r hr)
theorem Off.bor {r : Root} {p : Path} {o l : Nat} (h : Off Z (.bor r p o l)) : ¬ Z r := h r (by simp [SV.rts])
theorem Off.loc {r : Root} {p : Path} {i o : Nat} (h : Off Z (.loc r p i o)) : ¬ Z r := h r (by simp [SV.rts])
theorem Off.asLoc {v : SV} (h : Off Z v) : Off Z (asLoc v) := by unfold Off; rw [asLoc_rts]; exact h
theorem Off.mem {l : List SV} (h : Off Z (.agg l)) {v : SV} (hv : v ∈ l) : Off Z v := fun r hr => h r (by
  show r ∈ SV.rtss l
  induction l with
  | nil => cases hv
  | cons a l ih =>
    simp only [SV.rtss, List.mem_append]
    rcases List.mem_cons.1 hv with rfl | hv
    · exact .inl hr
    · exact .inr (ih (fun r hr => h r (by show r ∈ SV.rtss (a :: l); simp only [SV.rtss, List.mem_append]; exact .inr hr)) hv))
def Step1 (Z : Root → Prop) (b : Bool) (k k' k1 k1' : Wk) : Prop := Par b k k' k1 k1' ∧ k1.tr.any Tr.isRen = false
theorem Step1.refl (s : Sm Z b k k') : Step1 Z b k k' k k' := ⟨Par.refl s, s.nr⟩
theorem Step1.trans (x : Step1 Z b k k' k1 k1') (y : Step1 Z b k1 k1' k2 k2') : Step1 Z b k k' k2 k2' := ⟨x.1.trans y.1, y.2⟩
theorem Sm.step (s : Sm Z b k k') (x : Step1 Z b k k' k1 k1') : Sm Z b k1 k1' := s.next x.1 x.2
theorem Step1.tell (x : Step1 Z b k k' k1 k1') {t : Tr} (ht : t.isRen = false) : Step1 Z b k k' (k1.tell t) (k1'.tell t) := ⟨x.1.tell t, by simp [Wk.tell, x.2, ht]⟩
theorem Step1.new (x : Step1 Z b k k' k1 k1') (n j : Nat) (t : T) : Step1 Z b k k' (k1.new n j t) (k1'.new n j t) := ⟨x.1.new n j t, by simp [Wk.new, x.2, Tr.isRen]⟩
theorem setS (s : Sm Z b k k') {r : Root} (hr : ¬ Z r) {t : T} (e : k.set r t = some k1) : ∃ k1', k'.set r t = some k1' ∧ Step1 Z b k k' k1 k1' := by
  obtain ⟨k1', h1, h2, h3⟩ := set_sim s hr e
  exact ⟨k1', h1, h2, by rw [h3]; exact s.nr⟩
theorem absorb1_sim (s : Sm Z b k k') {nv : Nat} {v : SV} {t : T} (ho : Off Z v) (e : absorb1 nv v k = some (t, k1)) : ∃ k1', absorb1 nv v k' = some (t, k1') ∧ Step1 Z b k k' k1 k1' := by
  cases v with
  | d x => simp only [absorb1, Option.some.injEq, Prod.mk.injEq] at e ⊢; obtain ⟨rfl, rfl⟩ := e; exact ⟨k', ⟨rfl, rfl⟩, .refl s⟩
  | clip c l => simp only [absorb1, Option.some.injEq, Prod.mk.injEq] at e ⊢; obtain ⟨rfl, rfl⟩ := e; exact ⟨k', ⟨rfl, rfl⟩, .refl s⟩
  | ns b => simp only [absorb1, Option.some.injEq, Prod.mk.injEq] at e ⊢; obtain ⟨rfl, rfl⟩ := e; exact ⟨k', ⟨rfl, rfl⟩, .refl s⟩
  | bor r p off len =>
    simp only [absorb1, s.get r ho.bor, Option.bind_eq_some_iff] at e ⊢
    obtain ⟨c, hc, nd, hnd, e⟩ := e
    split at e
    · rename_i es
      split at e
      · split at e
        · rename_i n j hcond
          simp only [Option.map_eq_some_iff, Prod.mk.injEq] at e
          obtain ⟨k2, h1, rfl, rfl⟩ := e
          obtain ⟨k2', h2, h3⟩ := setS s ho.bor h1
          exact ⟨_, ⟨c, hc, _, hnd, by simp only; rw [if_pos hcond, h2]; rfl⟩, h3.tell rfl⟩
        · rename_i n j hcond
          simp only [Option.bind_eq_some_iff, Option.map_eq_some_iff, Prod.mk.injEq] at e
          obtain ⟨l, hl, k2, h1, rfl, rfl⟩ := e
          obtain ⟨k2', h2, h3⟩ := setS s ho.bor h1
          exact ⟨_, ⟨c, hc, _, hnd, by simp only; rw [if_neg hcond, hl]; simp only [Option.bind_some, h2, Option.map_some]⟩, h3.tell rfl⟩
      · rename_i r0 p0 hne
        simp only [Option.bind_eq_some_iff, Option.map_eq_some_iff, Prod.mk.injEq] at e
        obtain ⟨l, hl, c', hc', k2, h1, rfl, rfl⟩ := e
        obtain ⟨k2', h2, h3⟩ := setS s ho.bor h1
        refine ⟨_, ⟨c, hc, _, hnd, ?_⟩, h3.tell rfl⟩
        simp only [hl, Option.bind_some, hc', h2, Option.map_some]
    · cases e
  | _ => simp [absorb1] at e
theorem absorbs_sim {nv : Nat} : ∀ (l : List SV) {k k' k1 : Wk} {ts : List T}, Sm Z b k k' → (∀ v ∈ l, Off Z v) → absorbs nv l k = some (ts, k1) → ∃ k1', absorbs nv l k' = some (ts, k1') ∧ Step1 Z b k k' k1 k1'
  | [], k, k', k1, ts, s, _, e => by simp only [absorbs, Option.some.injEq, Prod.mk.injEq] at e ⊢; obtain ⟨rfl, rfl⟩ := e; exact ⟨k', ⟨rfl, rfl⟩, .refl s⟩
  | v :: l, k, k', k1, ts, s, ho, e => by
    simp only [absorbs, Option.bind_eq_some_iff, Option.map_eq_some_iff, Prod.mk.injEq] at e
    obtain ⟨⟨t, k2⟩, e1, ⟨ts', k3⟩, e2, rfl, rfl⟩ := e
    obtain ⟨k2', h1, h2⟩ := absorb1_sim s ((ho v (by simp)).trv s.nr) e1
    obtain ⟨k3', h3, h4⟩ := absorbs_sim l (s.step h2) (fun u hu => ho u (by simp [hu])) e2
    exact ⟨k3', by simp only [absorbs, s.tr, h1, Option.bind_some, h3, Option.map_some], h2.trans h4⟩
theorem absorb_sim (s : Sm Z b k k') {nv : Nat} {v : SV} {t : T} (ho : Off Z v) (e : absorb nv v k = some (t, k1)) : ∃ k1', absorb nv v k' = some (t, k1') ∧ Step1 Z b k k' k1 k1' := by
  by_cases hv : ∃ l, v = .agg l
  · obtain ⟨l, rfl⟩ := hv
    simp only [absorb, Option.map_eq_some_iff, Prod.mk.injEq] at e
    obtain ⟨⟨ts, k2⟩, e1, rfl, rfl⟩ := e
    obtain ⟨k2', h1, h2⟩ := absorbs_sim l s (fun v hv => ho.mem hv) e1
    exact ⟨k2', by simp only [absorb, h1, Option.map_some], h2⟩
  · have eq : ∀ k : Wk, absorb nv v k = absorb1 nv (trv k.tr v) k := fun k => by
      cases v <;> first | rfl | exact absurd ⟨_, rfl⟩ hv
    rw [eq] at e
    rw [eq, s.tr]
    exact absorb1_sim s (ho.trv s.nr) e
theorem absorbP_sim {nv : Nat} : ∀ (l : List (Nat × SV)) {k k' k1 : Wk} {ts : List (Nat × T)}, Sm Z b k k' → (∀ v ∈ l, Off Z v.2) → absorbP nv l k = some (ts, k1) → ∃ k1', absorbP nv l k' = some (ts, k1') ∧ Step1 Z b k k' k1 k1'
  | [], k, k', k1, ts, s, _, e => by simp only [absorbP, Option.some.injEq, Prod.mk.injEq] at e ⊢; obtain ⟨rfl, rfl⟩ := e; exact ⟨k', ⟨rfl, rfl⟩, .refl s⟩
  | (i, v) :: l, k, k', k1, ts, s, ho, e => by
    simp only [absorbP, Option.bind_eq_some_iff, Option.map_eq_some_iff, Prod.mk.injEq] at e
    obtain ⟨⟨t, k2⟩, e1, ⟨ts', k3⟩, e2, rfl, rfl⟩ := e
    obtain ⟨k2', h1, h2⟩ := absorb_sim s (ho (i, v) (by simp)) e1
    obtain ⟨k3', h3, h4⟩ := absorbP_sim l (s.step h2) (fun u hu => ho u (by simp [hu])) e2
    exact ⟨k3', by simp only [absorbP, h1, Option.bind_some, h3, Option.map_some], h2.trans h4⟩
variable {P : Program} {h : Hint} {dst : Nat} {ty : TypeId}
theorem absorbF_sim (s : Sm Z b k k') {nv : Nat} {v : SV} {t : T} (ho : Off Z v) (e : absorbF nv v k = some (t, k1)) : ∃ k1', absorbF nv v k' = some (t, k1') ∧ Step1 Z b k k' k1 k1' := by
  simp only [absorbF, Option.map_eq_some_iff, Prod.mk.injEq] at e
  obtain ⟨⟨t0, k0⟩, e, rfl, rfl⟩ := e
  obtain ⟨k1', h1, h2⟩ := absorb_sim s ho e
  exact ⟨k1', by simp only [absorbF, h1, Option.map_some], h2⟩
theorem storeE_sim (s : Sm Z b k k') {nv : Nat} {t : TypeId} {a v : SV} (ha : Off Z a) (hv : Off Z v) (e : storeE P nv t a v k = some k1) : ∃ k1', storeE P nv t a v k' = some k1' ∧ Step1 Z b k k' k1 k1' := by
  simp only [storeE, Option.bind_eq_some_iff] at e
  obtain ⟨⟨x, k2⟩, e1, e⟩ := e
  obtain ⟨k2', h1, h2⟩ := absorbF_sim s hv e1
  have s2 := s.step h2
  simp only at e
  split at e
  · rename_i r p i off hl
    have hr : ¬ Z r := by
      have := (ha.trv s2.nr).asLoc
      rw [hl] at this
      exact this.loc
    split at e
    · rename_i hc
      simp only [Option.bind_eq_some_iff] at e
      obtain ⟨c, q1, nd, q2, e⟩ := e
      split at e
      · rename_i es
        simp only [Option.bind_eq_some_iff] at e
        obtain ⟨el, q3, e⟩ := e
        split at e
        · rename_i hlt
          simp only [Option.bind_eq_some_iff, Option.map_eq_some_iff] at e
          obtain ⟨c', q4, k3, q5, rfl⟩ := e
          obtain ⟨k3', h3, h4⟩ := setS s2 hr q5
          refine ⟨if isOwn el then k3'.tell (.killN r (p.length + 1)) else k3', ?_, ?_⟩
          · simp only [storeE, h1, Option.bind_some, s2.tr, hl]
            rw [if_pos hc, s2.get r hr, q1]
            simp only [Option.bind_some, q2, q3]
            rw [if_pos hlt, q4]
            simp only [Option.bind_some, h3, Option.map_some]
          · split
            · exact h2.trans (h4.tell rfl)
            · exact h2.trans h4
        · cases e
      · cases e
    · cases e
  · cases e
theorem newsE_sim (s : Sm Z b k k') {nv : Nat} {v : SV} {l : List T} (ho : Off Z v) (e : newsE nv v k = some (l, k1)) : ∃ k1', newsE nv v k' = some (l, k1') ∧ Step1 Z b k k' k1 k1' := by
  cases v with
  | d x => cases x <;> simp only [newsE, Option.some.injEq, Prod.mk.injEq, reduceCtorEq] at e ⊢ <;> (obtain ⟨rfl, rfl⟩ := e; exact ⟨k', ⟨rfl, rfl⟩, .refl s⟩)
  | clip c l => simp only [newsE, Option.some.injEq, Prod.mk.injEq] at e ⊢; obtain ⟨rfl, rfl⟩ := e; exact ⟨k', ⟨rfl, rfl⟩, .refl s⟩
  | ns b => simp only [newsE, Option.some.injEq, Prod.mk.injEq] at e ⊢; obtain ⟨rfl, rfl⟩ := e; exact ⟨k', ⟨rfl, rfl⟩, .refl s⟩
  | bor r p off len =>
    simp only [newsE, s.get r ho.bor, Option.bind_eq_some_iff] at e ⊢
    obtain ⟨c, hc, nd, hnd, e⟩ := e
    split at e
    · split at e
      · rename_i es n j
        split at e
        · rename_i hcond
          simp only [Option.map_eq_some_iff, Prod.mk.injEq] at e
          obtain ⟨k2, h1, rfl, rfl⟩ := e
          obtain ⟨k2', h2, h3⟩ := setS s ho.bor h1
          exact ⟨_, ⟨c, hc, _, hnd, by simp only; rw [if_pos hcond, h2]; rfl⟩, h3.tell rfl⟩
        · rename_i hcond
          split at e
          · rename_i hp
            simp only [Option.some.injEq, Prod.mk.injEq] at e
            obtain ⟨rfl, rfl⟩ := e
            exact ⟨k', ⟨c, hc, _, hnd, by simp only; rw [if_neg hcond, if_pos hp]⟩, .refl s⟩
          · cases e
      · split at e
        · rename_i hp
          simp only [Option.some.injEq, Prod.mk.injEq] at e
          obtain ⟨rfl, rfl⟩ := e
          exact ⟨k', ⟨c, hc, _, hnd, by simp only; rw [if_pos hp]⟩, .refl s⟩
        · cases e
    · cases e
  | _ => simp [newsE] at e
theorem oldsE_sim (s : Sm Z b k k') {n : Nat} {news olds : List T} {v : SV} (ho : Off Z v) (e : oldsE n news v k = some (olds, k1)) : ∃ k1', oldsE n news v k' = some (olds, k1') ∧ Step1 Z b k k' k1 k1' := by
  unfold oldsE at e
  split at e
  · simp only [Option.some.injEq, Prod.mk.injEq] at e; obtain ⟨rfl, rfl⟩ := e; exact ⟨k', rfl, .refl s⟩
  · simp only [Option.some.injEq, Prod.mk.injEq] at e; obtain ⟨rfl, rfl⟩ := e; exact ⟨k', rfl, .refl s⟩
  · rename_i r p off len
    split at e
    · rename_i h0
      simp only [Option.bind_eq_some_iff] at e
      obtain ⟨c, q1, nd, q2, e⟩ := e
      split at e
      · split at e
        · rename_i hc2
          simp only [Option.bind_eq_some_iff, Option.map_eq_some_iff, Prod.mk.injEq] at e
          obtain ⟨c', q3, k4, q4, rfl, rfl⟩ := e
          obtain ⟨k4', h3, h4⟩ := setS s ho.bor q4
          refine ⟨_, ?_, h4.tell rfl⟩
          unfold oldsE
          simp only
          rw [if_pos h0, s.get r ho.bor, q1]
          simp only [Option.bind_some, q2]
          rw [if_pos hc2, q3]
          simp only [Option.bind_some, h3, Option.map_some]
        · cases e
      · cases e
    · cases e
  · cases e
theorem appendE_sim (s : Sm Z b k k') {nv : Nat} {t : TypeId} {x y v : SV} (hx : Off Z x) (hy : Off Z y) (e : appendE P nv dst t x y k = some (v, k1)) : ∃ k1', appendE P nv dst t x y k' = some (v, k1') ∧ Step1 Z b k k' k1 k1' := by
  simp only [appendE, Option.bind_eq_some_iff] at e
  obtain ⟨ety, u1, z, u2, ⟨news, k2⟩, e1, e⟩ := e
  obtain ⟨k2', h1, h2⟩ := newsE_sim s hy e1
  have s2 := s.step h2
  split at e
  · rename_i hcond
    simp only [Option.bind_eq_some_iff] at e
    obtain ⟨⟨olds, k3⟩, e2, e⟩ := e
    obtain ⟨k3', h3, h4⟩ := oldsE_sim s2 (hx.trv s2.nr) e2
    simp only at e
    split at e
    · rename_i hr
      simp only [Option.some.injEq, Prod.mk.injEq] at e
      obtain ⟨rfl, rfl⟩ := e
      refine ⟨k3'.new dst 0 (.own (olds ++ news)), ?_, (h2.trans h4).new _ _ _⟩
      simp only [appendE, u1, u2, Option.bind_some, h1]
      rw [if_pos hcond, s2.tr, h3]
      simp only [Option.bind_some]
      rw [if_pos hr]
    · cases e
  · cases e
theorem assignE_sim (s : Sm Z b k k') {sl : Bool} {u v : SV} (ho : Off Z u) (e : assignE dst sl u k = some (v, k1)) : ∃ k1', assignE dst sl u k' = some (v, k1') ∧ Par b k k' k1 k1' := by
  have plain : (∀ k : Wk, assignE dst sl u k = some (u, k)) → ∃ k1', assignE dst sl u k' = some (v, k1') ∧ Par b k k' k1 k1' := fun hp => by
    rw [hp] at e ⊢
    simp only [Option.some.injEq, Prod.mk.injEq] at e
    obtain ⟨rfl, rfl⟩ := e
    exact ⟨k', rfl, Par.refl s⟩
  cases u with
  | d x =>
    cases x with
    | nils =>
      simp only [assignE] at e ⊢
      split at e <;> simp only [Option.some.injEq, Prod.mk.injEq] at e <;> obtain ⟨rfl, rfl⟩ := e
      · rename_i hs; exact ⟨_, by rw [if_pos hs], (Par.refl s).new _ _ _⟩
      · rename_i hs; exact ⟨_, by rw [if_neg hs], Par.refl s⟩
    | _ => exact plain fun _ => rfl
  | bor r p off len =>
    cases r with
    | o n => exact plain fun _ => rfl
    | l n j =>
      cases p with
      | cons _ _ => exact plain fun _ => rfl
      | nil =>
        cases off with
        | succ _ => exact plain fun _ => rfl
        | zero =>
          simp only [assignE] at e ⊢
          split at e
          · rename_i hc
            simp only [Option.some.injEq, Prod.mk.injEq] at e
            obtain ⟨rfl, rfl⟩ := e
            exact ⟨_, by rw [if_pos hc], Par.refl s⟩
          · rename_i hc
            simp only [Option.bind_eq_some_iff] at e
            obtain ⟨c, hg, e⟩ := e
            rw [if_neg hc, s.get _ ho.bor, hg]
            simp only [Option.bind_some]
            split at e
            · split at e <;> simp only [Option.some.injEq, Prod.mk.injEq] at e <;> obtain ⟨rfl, rfl⟩ := e
              · rename_i es hl
                exact ⟨_, if_pos hl, ⟨⟨[((dst, 0), .own es), ((n, j), .dead)], rfl, rfl⟩, s.H, fun _ => ⟨rfl, rfl⟩, by simp [Wk.tell, Wk.new, s.tr]⟩⟩
              · rename_i hl; exact ⟨_, if_neg hl, Par.refl s⟩
            · cases e
  | _ => exact plain fun _ => rfl
theorem opE_sim (s : Sm Z b k k') {op : Op} {σ : Operand → SV} {v : SV} (hh : b = false → hrOf h dst op = false) (ho : ∀ x ∈ op.operands, Off Z (σ x)) (e : opE P h dst ty op σ k = some (v, k1)) : ∃ k1', opE P h dst ty op σ k' = some (v, k1') ∧ Par b k k' k1 k1' := by
  have pt : b = true ∨ ∀ n, Z (.o n) := by cases b with | true => exact .inl rfl | false => exact .inr (s.obj rfl)
  -- what lies in a map, of an operand
  have mapAt : ∀ {x : Operand} {o : Nat}, x ∈ op.operands → σ x = .d (.map o) → b = true := fun {x o} hx hm => by
    rcases pt with q | q
    · exact q
    · exact absurd (q o) (ho x hx _ (by rw [hm]; simp [SV.rts]))
  by_cases hef : effOf h dst op = false ∧ ∀ c, op = .call c → ∃ b, c.callee = .builtin b
  · obtain ⟨rfl, hr⟩ := opE_read hef.2 hef.1 e
    refine ⟨k', hr k' (fun _ x hx r hrr => s.get r (ho x hx r hrr)) (fun _ => ?_), Par.refl s⟩
    rcases pt with q | q
    · exact .inl (s.H q)
    · right
      intro x hx
      refine List.any_eq_false.2 fun r hr => ?_
      cases r with
      | l n j => simp [Root.isO]
      | o n => exact absurd (q n) (ho x hx _ hr)
  unfold opE at e ⊢
  cases op <;> simp only at e ⊢ <;> simp only [Op.operands] at ho <;> try (exact absurd ⟨rfl, by simp⟩ hef)
  case assign x => exact assignE_sim s (ho x (by simp)) e
  case alloc t =>
    simp only [Option.bind_eq_some_iff] at e ⊢
    obtain ⟨z, hz, e⟩ := e
    unfold boxE at e ⊢
    split at e
    · cases e
    · rename_i hn
      split at e <;> simp only [Option.some.injEq, Prod.mk.injEq] at e <;> obtain ⟨rfl, rfl⟩ := e
      · rename_i hc
        have hb : b = true := by cases b with | true => rfl | false => have := hh rfl; simp only [hrOf] at this; rw [hc] at this; cases this
        have hH := s.H hb
        refine ⟨{ k' with H := k'.H ++ [.box (T.ofZero z)] }, ⟨z, hz, by rw [if_neg hn, if_pos hc, hH]⟩, ⟨⟨[], rfl, rfl⟩, fun _ => by simp [hH], (fun q => by rw [hb] at q; cases q), s.tr⟩⟩
      · rename_i hc; exact ⟨_, ⟨z, hz, by rw [if_neg hn, if_neg hc]⟩, (Par.refl s).new _ _ _⟩
  case box t x =>
    simp only [Option.bind_eq_some_iff] at e ⊢
    obtain ⟨⟨y, k2⟩, e1, e⟩ := e
    obtain ⟨k2', h1, h2⟩ := absorbF_sim s (ho x (by simp)) e1
    simp only at e
    split at e
    · rename_i hnc
      unfold boxE at e ⊢
      split at e
      · cases e
      · rename_i hn
        split at e <;> simp only [Option.some.injEq, Prod.mk.injEq] at e <;> obtain ⟨rfl, rfl⟩ := e
        · rename_i hc
          have hb : b = true := by cases b with | true => rfl | false => have := hh rfl; simp only [hrOf] at this; rw [hc] at this; cases this
          have hH := h2.1.H hb
          exact ⟨{ k2' with H := k2'.H ++ [.box y] }, ⟨_, h1, by simp only; rw [if_pos hnc, if_neg hn, if_pos hc, hH]⟩, ⟨h2.1.ct, fun _ => by simp [hH], (fun q => by rw [hb] at q; cases q), h2.1.tr⟩⟩
        · rename_i hc; exact ⟨_, ⟨_, h1, by simp only; rw [if_pos hnc, if_neg hn, if_neg hc]⟩, h2.1.new _ _ _⟩
    · cases e
  case buildSlice t n ps =>
    simp only [buildSliceE, Option.bind_eq_some_iff] at e
    obtain ⟨ety, u1, z, u2, ⟨p1, k2⟩, e1, e⟩ := e
    obtain ⟨k2', h1, h2⟩ := absorbP_sim _ s (fun u hu => by
      simp only [List.mem_map] at hu
      obtain ⟨p, hp, rfl⟩ := hu
      exact ho p.2 (by simp only [List.mem_toArray, List.mem_map]; exact ⟨p, hp, rfl⟩)) e1
    split at e
    · rename_i hcond
      simp only [Option.bind_eq_some_iff] at e
      obtain ⟨es, u3, e⟩ := e
      have goal : ∀ r : Option (SV × Wk), (∃ w1, (if (h.lits.contains dst) = true then (if (ps.toList.map fun p => (p.1, σ p.2)).all (fun p => isD p.2) = true then (T.frzs false es).map fun ds => (.d (.sl false ds), k2') else none) else some (.bor (.l dst 0) [] 0 n, k2'.new dst 0 (.own es))) = some (v, w1) ∧ Par b k k' k1 w1) →
          ∃ k1', buildSliceE P h.nv dst (h.lits.contains dst) t n (ps.toList.map fun p => (p.1, σ p.2)) k' = some (v, k1') ∧ Par b k k' k1 k1' := fun _ ⟨w1, q1, q2⟩ => by
        refine ⟨w1, ?_, q2⟩
        simp only [buildSliceE, u1, u2, Option.bind_some, h1]
        rw [if_pos hcond, u3]
        simpa using q1
      refine goal none ?_
      split at e
      · rename_i hl
        split at e
        · rename_i hall
          simp only [Option.map_eq_some_iff, Prod.mk.injEq] at e
          obtain ⟨ds, u4, rfl, rfl⟩ := e
          exact ⟨k2', by rw [if_pos hl, if_pos hall, u4]; rfl, h2.1⟩
        · cases e
      · rename_i hl
        simp only [Option.some.injEq, Prod.mk.injEq] at e
        obtain ⟨rfl, rfl⟩ := e
        exact ⟨_, by rw [if_neg hl], h2.1.new _ _ _⟩
    · cases e
  case store t a x =>
    simp only [Option.map_eq_some_iff, Prod.mk.injEq] at e ⊢
    obtain ⟨k2, e1, rfl, rfl⟩ := e
    obtain ⟨k2', h1, h2⟩ := storeE_sim s (ho a (by simp)) (ho x (by simp)) e1
    exact ⟨k2', ⟨k2', h1, rfl, rfl⟩, h2.1⟩
  case makeMap t r =>
    have hb : b = true := by cases b with | true => rfl | false => have := hh rfl; simp [hrOf] at this
    have hH := s.H hb
    cases r with
    | none =>
      simp only [Option.some.injEq, Prod.mk.injEq] at e ⊢
      obtain ⟨rfl, rfl⟩ := e
      exact ⟨_, ⟨by rw [hH], rfl⟩, ⟨⟨[], rfl, rfl⟩, fun _ => by simp [hH], (fun q => by rw [hb] at q; cases q), s.tr⟩⟩
    | some n =>
      simp only at e ⊢
      split at e
      · simp only [Option.some.injEq, Prod.mk.injEq] at e
        obtain ⟨rfl, rfl⟩ := e
        exact ⟨{ k' with H := k'.H ++ [.map []] }, by rw [hH], ⟨⟨[], rfl, rfl⟩, fun _ => by simp [hH], (fun q => by rw [hb] at q; cases q), s.tr⟩⟩
      · cases e
  case makeSlice t l c =>
    unfold makeE at e ⊢
    split at e
    · simp only [Option.bind_eq_some_iff] at e ⊢
      obtain ⟨ety, u1, z, u2, e⟩ := e
      split at e
      · rename_i hc
        simp only [Option.some.injEq, Prod.mk.injEq] at e
        obtain ⟨rfl, rfl⟩ := e
        exact ⟨_, ⟨ety, u1, z, u2, by rw [if_pos hc]⟩, (Par.refl s).new _ _ _⟩
      · cases e
    · cases e
  case lookup t m key ok =>
    split at e
    · rename_i hl
      rw [if_pos hl]
      split at e
      · cases e
      · rename_i hok
        rw [if_neg hok]
        unfold takeE at e ⊢
        simp only [Option.bind_eq_some_iff] at e
        obtain ⟨⟨kt, et⟩, u1, e⟩ := e
        simp only at e
        split at e
        · rename_i o kd hm hk
          have hb := mapAt (x := m) (by simp [Op.operands]) hm
          have hH := s.H hb
          split at e
          · rename_i hc
            split at e
            · rename_i es hes
              simp only [Option.bind_eq_some_iff] at e
              obtain ⟨r, hr, e⟩ := e
              split at e
              · simp only [Option.bind_eq_some_iff, Option.some.injEq, Prod.mk.injEq] at e
                obtain ⟨es', hp, rfl, rfl⟩ := e
                refine ⟨({ k' with H := k'.H.set o (.map es') } : Wk).new dst 0 _, ?_, ⟨⟨[_], rfl, rfl⟩, fun _ => by simp [Wk.new, hH], (fun q => by rw [hb] at q; cases q), by simp [Wk.new, s.tr]⟩⟩
                rw [u1]
                simp only [Option.bind_some]
                rw [if_pos hc, hH, hes]
                simp only [hr, Option.bind_some, hp]
              · cases e
              · split at e
                · rename_i hz
                  simp only [Option.some.injEq, Prod.mk.injEq] at e
                  obtain ⟨rfl, rfl⟩ := e
                  refine ⟨({ k' with H := k'.H.set o (.map es) } : Wk).new dst 0 _, ?_, ⟨⟨[_], rfl, rfl⟩, fun _ => by simp [Wk.new, hH], (fun q => by rw [hb] at q; cases q), by simp [Wk.new, s.tr]⟩⟩
                  rw [u1]
                  simp only [Option.bind_some]
                  rw [if_pos hc, hH, hes]
                  simp only [hr, Option.bind_some, hz]
                · cases e
            · cases e
          · cases e
        · cases e
    · rename_i hl
      rw [if_neg hl]
      split at e
      · rename_i ho'
        rw [if_pos ho']
        split at e
        · cases e
        · rename_i hok
          rw [if_neg hok]
          unfold frzLookE at e ⊢
          split at e
          · rename_i o hm
            have hb := mapAt (x := m) (by simp [Op.operands]) hm
            have hH := s.H hb
            split at e
            · rename_i es hes
              simp only [Option.bind_eq_some_iff, Option.map_eq_some_iff, Prod.mk.injEq] at e
              obtain ⟨es', e1, v0, e2, v1, e3, rfl, rfl⟩ := e
              refine ⟨{ k' with H := k'.H.set o (.map es') }, ?_, ⟨⟨[], rfl, rfl⟩, fun _ => by simp [hH], (fun q => by rw [hb] at q; cases q), s.tr⟩⟩
              simp only [hH, hes, e1, Option.bind_some, e2, e3, Option.map_some]
            · cases e
          · cases e
      · rename_i ho'
        exact absurd ⟨by unfold effOf; rw [Bool.eq_false_iff.2 hl, Bool.eq_false_iff.2 ho']; rfl, by simp⟩ hef
  case mapUpdate t m key x =>
    simp only [Option.map_eq_some_iff, Prod.mk.injEq] at e ⊢
    obtain ⟨k2, e1, rfl, rfl⟩ := e
    simp only [mapPutE, Option.bind_eq_some_iff] at e1
    obtain ⟨⟨kt, et⟩, u1, e1⟩ := e1
    simp only at e1
    split at e1
    · rename_i o kd hm hk
      have hb := mapAt (x := m) (by simp [Op.operands]) hm
      split at e1
      · rename_i hc
        simp only [Option.bind_eq_some_iff] at e1
        obtain ⟨⟨y, k3⟩, e2, e1⟩ := e1
        obtain ⟨k3', h1, h2⟩ := absorb_sim s (ho x (by simp)) e2
        have hH := h2.1.H hb
        simp only at e1
        split at e1
        · rename_i y' es hes
          simp only [Option.map_eq_some_iff] at e1
          obtain ⟨es', u2, rfl⟩ := e1
          refine ⟨_, ⟨{ k3' with H := k3'.H.set o (.map es') }, ?_, rfl, rfl⟩, ⟨h2.1.ct, fun _ => by simp [hH], (fun q => by rw [hb] at q; cases q), h2.1.tr⟩⟩
          simp only [mapPutE, u1, Option.bind_some]
          rw [hm, hk]
          simp only
          rw [if_pos hc, h1]
          simp only [Option.bind_some, hH, hes, u2, Option.map_some]
        · rename_i y' es hes
          simp only [Option.map_eq_some_iff] at e1
          obtain ⟨es', u2, rfl⟩ := e1
          refine ⟨_, ⟨{ k3' with H := k3'.H.set o (.map es') }, ?_, rfl, rfl⟩, ⟨h2.1.ct, fun _ => by simp [hH], (fun q => by rw [hb] at q; cases q), h2.1.tr⟩⟩
          simp only [mapPutE, u1, Option.bind_some]
          rw [hm, hk]
          simp only
          rw [if_pos hc, h1]
          simp only [Option.bind_some, hH, hes, u2, Option.map_some]
        · cases e1
      · cases e1
    · cases e1
  case call c =>
    obtain ⟨callee, args, ats⟩ := c
    cases callee with
    | builtin bi =>
      cases bi <;> simp only [reduceCtorEq] at e ⊢
      case len => exact absurd ⟨rfl, fun c hc => by cases hc; exact ⟨_, rfl⟩⟩ hef
      case min => exact absurd ⟨rfl, fun c hc => by cases hc; exact ⟨_, rfl⟩⟩ hef
      case max => exact absurd ⟨rfl, fun c hc => by cases hc; exact ⟨_, rfl⟩⟩ hef
      case append =>
        split at e
        · rename_i x y t u hx ht
          have hmx : x ∈ args := by rw [← Array.mem_toList_iff, hx]; simp
          have hmy : y ∈ args := by rw [← Array.mem_toList_iff, hx]; simp
          split at e
          · rename_i htu
            obtain ⟨k1', h1, h2⟩ := appendE_sim s (ho x (by simp [Call.operands, hmx])) (ho y (by simp [Call.operands, hmy])) e
            exact ⟨k1', by rw [if_pos htu]; exact h1, h2.1⟩
          · cases e
        · cases e
    | _ => simp at e
  all_goals (cases e)
theorem snap1_sim (s : Sm Z b k k') {nv : Nat} {v : SV} {l l' : Lend} {x : D} (ho : Off Z v) (e : snap1 nv v k l = some (x, k1, l')) : ∃ k1', snap1 nv v k' l = some (x, k1', l') ∧ Step1 Z b k k' k1 k1' := by
  cases v with
  | d y => simp only [snap1, Option.some.injEq, Prod.mk.injEq] at e ⊢; obtain ⟨rfl, rfl, rfl⟩ := e; exact ⟨k', ⟨rfl, rfl, rfl⟩, .refl s⟩
  | clip c y => simp only [snap1, Option.some.injEq, Prod.mk.injEq] at e ⊢; obtain ⟨rfl, rfl, rfl⟩ := e; exact ⟨k', ⟨rfl, rfl, rfl⟩, .refl s⟩
  | ns b => simp only [snap1, Option.some.injEq, Prod.mk.injEq] at e ⊢; obtain ⟨rfl, rfl, rfl⟩ := e; exact ⟨k', ⟨rfl, rfl, rfl⟩, .refl s⟩
  | bor r p off len =>
    simp only [snap1, s.get r ho.bor, Option.bind_eq_some_iff] at e ⊢
    obtain ⟨c, hc, nd, hnd, e⟩ := e
    split at e
    · split at e
      · rename_i es n j
        split at e
        · rename_i hcond
          simp only [Option.bind_eq_some_iff, Option.map_eq_some_iff, Prod.mk.injEq] at e
          obtain ⟨y, hy, k2, h1, rfl, rfl, rfl⟩ := e
          obtain ⟨k2', h2, h3⟩ := setS s ho.bor h1
          exact ⟨_, ⟨c, hc, _, hnd, by simp only; rw [if_pos hcond, hy]; simp only [Option.bind_some, h2, Option.map_some]⟩, h3.tell rfl⟩
        · rename_i hcond
          simp only [Option.map_eq_some_iff, Prod.mk.injEq] at e
          obtain ⟨y, hy, rfl, rfl, rfl⟩ := e
          exact ⟨k', ⟨c, hc, _, hnd, by simp only; rw [if_neg hcond, hy]; rfl⟩, .refl s⟩
      · rename_i es n j hne
        simp only [Option.map_eq_some_iff, Prod.mk.injEq] at e
        obtain ⟨y, hy, rfl, rfl, rfl⟩ := e
        refine ⟨k', ⟨c, hc, _, hnd, ?_⟩, .refl s⟩
        cases p with
        | nil => exact absurd rfl hne
        | cons a p => simp only [hy, Option.map_some]
      · rename_i es n
        simp only [Option.map_eq_some_iff, Prod.mk.injEq] at e
        obtain ⟨y, hy, rfl, rfl, rfl⟩ := e
        exact ⟨k', ⟨c, hc, _, hnd, by simp only [hy, Option.map_some]⟩, .refl s⟩
    · cases e
  | _ => simp [snap1] at e
theorem snaps_sim {nv : Nat} : ∀ (l : List SV) {k k' k1 : Wk} {d d' : Lend} {xs : List D}, Sm Z b k k' → (∀ v ∈ l, Off Z v) → snaps nv l k d = some (xs, k1, d') → ∃ k1', snaps nv l k' d = some (xs, k1', d') ∧ Step1 Z b k k' k1 k1'
  | [], k, k', k1, d, d', xs, s, _, e => by simp only [snaps, Option.some.injEq, Prod.mk.injEq] at e ⊢; obtain ⟨rfl, rfl, rfl⟩ := e; exact ⟨k', ⟨rfl, rfl, rfl⟩, .refl s⟩
  | v :: l, k, k', k1, d, d', xs, s, ho, e => by
    simp only [snaps, Option.bind_eq_some_iff, Option.map_eq_some_iff, Prod.mk.injEq] at e
    obtain ⟨⟨x, k2, d2⟩, e1, ⟨ys, k3, d3⟩, e2, rfl, rfl, rfl⟩ := e
    obtain ⟨k2', h1, h2⟩ := snap1_sim s ((ho v (by simp)).trv s.nr) e1
    obtain ⟨k3', h3, h4⟩ := snaps_sim l (s.step h2) (fun u hu => ho u (by simp [hu])) e2
    exact ⟨k3', by simp only [snaps, s.tr, h1, Option.bind_some, h3, Option.map_some], h2.trans h4⟩
theorem snap_sim (s : Sm Z b k k') {nv : Nat} {v : SV} {d d' : Lend} {x : D} (ho : Off Z v) (e : snap nv v k d = some (x, k1, d')) : ∃ k1', snap nv v k' d = some (x, k1', d') ∧ Step1 Z b k k' k1 k1' := by
  by_cases hv : ∃ l, v = .agg l
  · obtain ⟨l, rfl⟩ := hv
    simp only [snap, Option.map_eq_some_iff, Prod.mk.injEq] at e
    obtain ⟨⟨xs, k2, d2⟩, e1, rfl, rfl, rfl⟩ := e
    obtain ⟨k2', h1, h2⟩ := snaps_sim l s (fun v hv => ho.mem hv) e1
    exact ⟨k2', by simp only [snap, h1, Option.map_some], h2⟩
  · have eq : ∀ k : Wk, snap nv v k d = snap1 nv (trv k.tr v) k d := fun k => by
      cases v <;> first | rfl | exact absurd ⟨_, rfl⟩ hv
    rw [eq] at e
    rw [eq, s.tr]
    exact snap1_sim s (ho.trv s.nr) e
theorem snapA_sim {nv : Nat} : ∀ (l : List SV) {k k' k1 : Wk} {d d' : Lend} {xs : List D}, Sm Z b k k' → (∀ v ∈ l, Off Z v) → snapA nv l k d = some (xs, k1, d') → ∃ k1', snapA nv l k' d = some (xs, k1', d') ∧ Step1 Z b k k' k1 k1'
  | [], k, k', k1, d, d', xs, s, _, e => by simp only [snapA, Option.some.injEq, Prod.mk.injEq] at e ⊢; obtain ⟨rfl, rfl, rfl⟩ := e; exact ⟨k', ⟨rfl, rfl, rfl⟩, .refl s⟩
  | v :: l, k, k', k1, d, d', xs, s, ho, e => by
    simp only [snapA, Option.bind_eq_some_iff, Option.map_eq_some_iff, Prod.mk.injEq] at e
    obtain ⟨⟨x, k2, d2⟩, e1, ⟨ys, k3, d3⟩, e2, rfl, rfl, rfl⟩ := e
    obtain ⟨k2', h1, h2⟩ := snap_sim s (ho v (by simp)) e1
    obtain ⟨k3', h3, h4⟩ := snapA_sim l (s.step h2) (fun u hu => ho u (by simp [hu])) e2
    exact ⟨k3', by simp only [snapA, h1, Option.bind_some, h3, Option.map_some], h2.trans h4⟩
theorem resCell_sim (s : Sm Z b k k') {j j' : Nat} {t : T} {v : SV} (e : resCell dst j t k = some (v, j', k1)) : ∃ k1', resCell dst j t k' = some (v, j', k1') ∧ Step1 Z b k k' k1 k1' := by
  cases t <;> simp only [resCell, Option.some.injEq, Prod.mk.injEq, reduceCtorEq] at e ⊢ <;> obtain ⟨rfl, rfl, rfl⟩ := e
  · exact ⟨k', ⟨rfl, rfl, rfl⟩, .refl s⟩
  · exact ⟨_, ⟨rfl, rfl, rfl⟩, (Step1.refl s).new _ _ _⟩
theorem resCells_sim : ∀ (l : List T) {j j' : Nat} {k k' k1 : Wk} {vs : List SV}, Sm Z b k k' → resCells dst j l k = some (vs, j', k1) → ∃ k1', resCells dst j l k' = some (vs, j', k1') ∧ Step1 Z b k k' k1 k1'
  | [], j, j', k, k', k1, vs, s, e => by simp only [resCells, Option.some.injEq, Prod.mk.injEq] at e ⊢; obtain ⟨rfl, rfl, rfl⟩ := e; exact ⟨k', ⟨rfl, rfl, rfl⟩, .refl s⟩
  | t :: l, j, j', k, k', k1, vs, s, e => by
    simp only [resCells, Option.bind_eq_some_iff, Option.map_eq_some_iff, Prod.mk.injEq] at e
    obtain ⟨⟨v, j1, k2⟩, e1, ⟨ws, j2, k3⟩, e2, rfl, rfl, rfl⟩ := e
    obtain ⟨k2', h1, h2⟩ := resCell_sim s e1
    obtain ⟨k3', h3, h4⟩ := resCells_sim l (s.step h2) e2
    exact ⟨k3', by simp only [resCells, h1, Option.bind_some, h3, Option.map_some], h2.trans h4⟩
theorem res1_sim (s : Sm Z b k k') {j j' : Nat} {t : T} {v : SV} (e : res1 dst j t k = some (v, j', k1)) : ∃ k1', res1 dst j t k' = some (v, j', k1') ∧ Step1 Z b k k' k1 k1' := by
  cases t with
  | agg ts =>
    simp only [res1, Option.map_eq_some_iff, Prod.mk.injEq] at e
    obtain ⟨⟨vs, j1, k2⟩, e1, rfl, rfl, rfl⟩ := e
    obtain ⟨k2', h1, h2⟩ := resCells_sim ts s e1
    exact ⟨k2', by simp only [res1, h1, Option.map_some], h2⟩
  | d x => exact resCell_sim (dst := dst) (t := .d x) s e
  | own es => exact resCell_sim (dst := dst) (t := .own es) s e
  | dead => simp [res1, resCell] at e
theorem resAll_sim : ∀ (l : List T) {j : Nat} {k k' k1 : Wk} {vs : List SV}, Sm Z b k k' → resAll dst j l k = some (vs, k1) → ∃ k1', resAll dst j l k' = some (vs, k1') ∧ Step1 Z b k k' k1 k1'
  | [], j, k, k', k1, vs, s, e => by simp only [resAll, Option.some.injEq, Prod.mk.injEq] at e ⊢; obtain ⟨rfl, rfl⟩ := e; exact ⟨k', ⟨rfl, rfl⟩, .refl s⟩
  | t :: l, j, k, k', k1, vs, s, e => by
    simp only [resAll, Option.bind_eq_some_iff, Option.map_eq_some_iff, Prod.mk.injEq] at e
    obtain ⟨⟨v, j1, k2⟩, e1, ⟨ws, k3⟩, e2, rfl, rfl⟩ := e
    obtain ⟨k2', h1, h2⟩ := res1_sim s e1
    obtain ⟨k3', h3, h4⟩ := resAll_sim l (s.step h2) e2
    exact ⟨k3', by simp only [resAll, h1, Option.bind_some, h3, Option.map_some], h2.trans h4⟩
theorem resE_sim (s : Sm Z b k k') {rs : List T} {v : SV} (e : resE dst rs k = some (v, k1)) : ∃ k1', resE dst rs k' = some (v, k1') ∧ Step1 Z b k k' k1 k1' := by
  simp only [resE, Option.map_eq_some_iff, Prod.mk.injEq] at e
  obtain ⟨⟨vs, k2⟩, e1, rfl, rfl⟩ := e
  obtain ⟨k2', h1, h2⟩ := resAll_sim rs s e1
  exact ⟨k2', by simp only [resE, h1, Option.map_some], h2⟩
theorem callE0_sim (s : Sm Z b k k') (hb : b = false → h.keep.contains dst = true) {call : CallF} {f : FuncId} {ds : List D} {d : Lend} {v : SV} (e : callE0 call h dst f ds d k = some (v, k1)) : ∃ k1', callE0 call h dst f ds d k' = some (v, k1') ∧ Par b k k' k1 k1' := by
  unfold callE0 at e ⊢
  split at e
  · rename_i hk
    rw [if_pos hk]
    simp only [Option.bind_eq_some_iff] at e ⊢
    obtain ⟨⟨rs, H2⟩, e1, e⟩ := e
    simp only at e
    split at e
    · rename_i hc
      obtain ⟨k1', h1, h2⟩ := resE_sim s e
      exact ⟨k1', ⟨_, e1, by simp only; rw [if_pos hc]; exact h1⟩, h2.1⟩
    · cases e
  rename_i hk0
  rw [if_neg hk0]
  split at e
  · cases e
  · rename_i hk
    have hbt : b = true := by
      cases b with
      | true => rfl
      | false => exact absurd (hb rfl) hk
    subst hbt
    rw [if_neg hk, s.H rfl]
    simp only [Option.bind_eq_some_iff] at e ⊢
    obtain ⟨⟨rs, H2⟩, e1, e⟩ := e
    simp only at e
    split at e
    · rename_i hc
      have s2 : Sm (fun r => Z r ∨ r.isO = true) true { k with H := unlock k.H d.lk H2, tr := k.tr ++ [.killO] } { k' with H := unlock k.H d.lk H2, tr := k'.tr ++ [.killO] } := by
        refine ⟨fun r hr => ?_, fun _ => rfl, by simp [s.tr], by simp [s.nr, Tr.isRen], by simp⟩
        cases r with
        | l n j => exact s.get (.l n j) (fun hz => hr (.inl hz))
        | o n => exact absurd (.inr rfl) hr
      obtain ⟨k1', h1, h2⟩ := resE_sim s2 e
      obtain ⟨pre, p1, p2⟩ := h2.1.ct
      exact ⟨k1', ⟨_, e1, by simp only; rw [if_pos hc]; exact h1⟩, ⟨⟨pre, p1, p2⟩, h2.1.H, by simp, h2.1.tr⟩⟩
    · cases e
theorem callE_sim (s : Sm Z b k k') (hb : b = false → h.keep.contains dst = true ∧ h.ro.contains dst = false) {call : CallF} {f : FuncId} {ds : List D} {d : Lend} {v : SV} (e : callE call h dst f ds d k = some (v, k1)) : ∃ k1', callE call h dst f ds d k' = some (v, k1') ∧ Par b k k' k1 k1' := by
  unfold callE at e ⊢
  split at e
  · rename_i hro
    simp only [Option.bind_eq_some_iff] at e
    obtain ⟨ds', e1, e⟩ := e
    have hbt : b = true := by
      cases b with
      | true => rfl
      | false => rw [(hb rfl).2] at hro; cases hro
    subst hbt
    obtain ⟨k1', h1, h2⟩ := callE0_sim s (fun q => by cases q) e
    exact ⟨k1', by rw [if_pos hro, s.H rfl, e1]; exact h1, h2⟩
  · rename_i hro
    obtain ⟨k1', h1, h2⟩ := callE0_sim s (fun q => (hb q).1) e
    exact ⟨k1', by rw [if_neg hro]; exact h1, h2⟩
theorem stepE_sim (s : Sm Z b k k') {call : CallF} {op : Op} {σ : Operand → SV} {v : SV} (hh : b = false → hrOf h dst op = false) (ho : ∀ x ∈ op.operands, Off Z (σ x)) (e : stepE P call h dst ty op σ k = some (v, k1)) : ∃ k1', stepE P call h dst ty op σ k' = some (v, k1') ∧ Par b k k' k1 k1' := by
  have plain : opE P h dst ty op σ k = some (v, k1) → ∃ k1', opE P h dst ty op σ k' = some (v, k1') ∧ Par b k k' k1 k1' := fun e => opE_sim s hh ho e
  unfold stepE at e ⊢
  split at e
  · rename_i f args ats
    have hb : b = false → h.keep.contains dst = true ∧ h.ro.contains dst = false := fun q => by
      have := hh q
      simp only [hrOf, Bool.or_eq_false_iff, Bool.not_eq_false'] at this
      exact this
    simp only
    split at e
    · rename_i g first cap hf
      simp only [Option.bind_eq_some_iff] at e ⊢
      obtain ⟨⟨ds, k2, d⟩, e1, e2⟩ := e
      obtain ⟨k2', h1, h2⟩ := snapA_sim _ s (fun u hu => by
        simp only [List.mem_map] at hu
        obtain ⟨x, hx, rfl⟩ := hu
        exact ho x (by simp [Op.operands, Call.operands]; exact .inr (by simpa using hx))) e1
      obtain ⟨k1', h3, h4⟩ := callE_sim (s.step h2) hb e2
      exact ⟨k1', ⟨_, h1, h3⟩, h2.1.trans h4⟩
    · cases e
  · rename_i hne
    obtain ⟨k1', h1, h2⟩ := plain e
    exact ⟨k1', h1, h2⟩
end
end Go.Am
namespace Go.Am
open Go
set_option linter.unusedSimpArgs false
set_option linter.unusedVariables false
theorem look_map {α β : Type} (f : α → β) (l : List (Nat × α)) (t : Nat) : look (l.map fun p => (p.1, f p.2)) t = (look l t).map f := by
  induction l with
  | nil => rfl
  | cons p r ih => obtain ⟨q, v⟩ := p; simp only [List.map_cons, look]; split <;> simp_all
theorem get_fin (s : St) (d : Option Nat) (v : SV) (k : Wk) (t : Nat) : (s.fin d v k).get t = if d = some t then v else trv k.tr (s.get t) := by
  have h0 : (look (trs k.tr s.env) t).getD .dead = trv k.tr (s.get t) := by
    rw [look_trs]
    unfold St.get
    cases look s.env t with
    | none => simp [trv_dead]
    | some u => rfl
  cases d with
  | none => simpa [St.fin, St.get] using h0
  | some d =>
    simp only [St.fin, St.get, look, Option.some.injEq] at h0 ⊢
    split
    · rfl
    · exact h0
theorem histTr_nil : ∀ (a : List Tr), histTr a [] = []
  | [] => rfl
  | x :: a => by
    have : x.hist [] = [] := by cases x <;> simp [Tr.hist]
    simp only [histTr, this, histTr_nil a]
theorem hist_add (hi : Hist) (tr : List Tr) (d : Option Nat) (L : List Root) (t : Nat) : histOf (histAdd hi tr d L) t = if d = some t then L else histTr tr (histOf hi t) := by
  have h0 : (look (hi.map fun p => (p.1, histTr tr p.2)) t).getD [] = histTr tr (histOf hi t) := by
    rw [look_map]
    unfold histOf
    cases look hi t with
    | none => simp [histTr_nil]
    | some u => rfl
  cases d with
  | none => simpa [histAdd, histOf] using h0
  | some d =>
    simp only [histAdd, histOf, look, Option.some.injEq] at h0 ⊢
    split
    · rfl
    · exact h0
theorem Tr.hist_sub (x : Tr) (l : List Root) : ∀ r ∈ l, r ∈ x.hist l := fun r hr => by
  cases x <;> simp only [Tr.hist] <;> first | exact hr | (split <;> simp [hr])
theorem histTr_sub : ∀ (a : List Tr) (l : List Root), ∀ r ∈ l, r ∈ histTr a l
  | [], _, r, hr => hr
  | x :: a, l, r, hr => histTr_sub a _ r (Tr.hist_sub x l r hr)
theorem Tr.hist_id (x : Tr) (l : List Root) (h : ∀ r ∈ l, r ∉ x.rts) : x.hist l = l := by
  cases x <;> simp only [Tr.hist] <;> try rfl
  rename_i a b
  rw [if_neg]
  intro hc
  simp only [List.any_eq_true, decide_eq_true_eq] at hc
  obtain ⟨r, hr, rfl⟩ := hc
  exact h _ hr (by simp [Tr.rts])
theorem histTr_id : ∀ (a : List Tr) (l : List Root), (∀ r ∈ l, r ∉ a.flatMap Tr.rts) → histTr a l = l
  | [], _, _ => rfl
  | x :: a, l, h => by
    simp only [histTr]
    rw [Tr.hist_id x l (fun r hr hx => h r hr (by simp [hx])), histTr_id a l (fun r hr hx => h r hr (by simp only [List.flatMap_cons, List.mem_append]; exact .inr hx))]
mutual
theorem Tr.rts_sub (x : Tr) : ∀ (v : SV) (L : List Root), (∀ r ∈ v.srts, r ∈ L) → ∀ r ∈ (x.sv v).srts, r ∈ x.hist L
  | .d y, L, h, r, hr => by cases x <;> simp [Tr.sv, SV.srts] at hr
  | .rp _ _, L, h, r, hr => by cases x <;> simp [Tr.sv, SV.srts] at hr
  | .clip _ _, L, h, r, hr => by cases x <;> simp [Tr.sv, SV.srts] at hr
  | .ns _, L, h, r, hr => by cases x <;> simp [Tr.sv, SV.srts] at hr
  | .dead, L, h, r, hr => by cases x <;> simp [Tr.sv, SV.srts] at hr
  | .bor q p o n, L, h, r, hr => by
    have hq : q ∈ L := h q (by simp [SV.srts])
    cases x with
    | ren a b =>
      simp only [Tr.sv, Tr.hist] at hr ⊢
      split at hr
      · rename_i e
        simp only [SV.srts, List.mem_singleton] at hr
        subst hr
        rw [if_pos (by simp only [List.any_eq_true, decide_eq_true_eq]; exact ⟨q, hq, e⟩)]
        simp
      · simp only [SV.srts, List.mem_singleton] at hr
        subst hr
        split <;> simp [hq]
    | _ =>
      simp only [Tr.sv, Tr.hist] at hr ⊢
      (repeat' split at hr) <;> simp [SV.srts] at hr <;> (subst hr; exact hq)
  | .loc q p i o, L, h, r, hr => by
    have hq : q ∈ L := h q (by simp [SV.srts])
    cases x with
    | ren a b =>
      simp only [Tr.sv, Tr.hist] at hr ⊢
      split at hr
      · rename_i e
        simp only [SV.srts, List.mem_singleton] at hr
        subst hr
        rw [if_pos (by simp only [List.any_eq_true, decide_eq_true_eq]; exact ⟨q, hq, e⟩)]
        simp
      · simp only [SV.srts, List.mem_singleton] at hr
        subst hr
        split <;> simp [hq]
    | _ =>
      simp only [Tr.sv, Tr.hist] at hr ⊢
      (repeat' split at hr) <;> simp [SV.srts] at hr <;> (subst hr; exact hq)
  | .agg l, L, h, r, hr => by
    have : x.sv (.agg l) = .agg (Tr.svs x l) := by cases x <;> rfl
    rw [this] at hr
    exact Tr.rtss_sub x l L h r hr
  | .tup l, L, h, r, hr => by
    have : x.sv (.tup l) = .tup (Tr.svs x l) := by cases x <;> rfl
    rw [this] at hr
    exact Tr.rtss_sub x l L h r hr
theorem Tr.rtss_sub (x : Tr) : ∀ (l : List SV) (L : List Root), (∀ r ∈ SV.srtss l, r ∈ L) → ∀ r ∈ SV.srtss (Tr.svs x l), r ∈ x.hist L
  | [], L, h, r, hr => by simp [Tr.svs, SV.srtss] at hr
  | v :: l, L, h, r, hr => by
    simp only [Tr.svs, SV.srtss, List.mem_append] at h hr
    rcases hr with hr | hr
    · exact Tr.rts_sub x v L (fun q hq => h q (.inl hq)) r hr
    · exact Tr.rtss_sub x l L (fun q hq => h q (.inr hq)) r hr
end
theorem trv_rts_sub : ∀ (a : List Tr) (v : SV) (L : List Root), (∀ r ∈ v.srts, r ∈ L) → ∀ r ∈ (trv a v).srts, r ∈ histTr a L
  | [], _, _, h => h
  | x :: a, v, L, h => trv_rts_sub a _ _ (Tr.rts_sub x v L h)
mutual
theorem Tr.sv_id (x : Tr) : ∀ (v : SV), (∀ r ∈ v.srts, r ∉ x.rts) → (x.isKillO = true → v.srts.any Root.isO = false) → x.sv v = v
  | .d _, _, _ => by cases x <;> rfl
  | .rp _ _, _, _ => by cases x <;> rfl
  | .clip _ _, _, _ => by cases x <;> rfl
  | .ns _, _, _ => by cases x <;> rfl
  | .dead, _, _ => by cases x <;> rfl
  | .bor q p o n, h, hk => by
    have hq := h q (by simp [SV.srts])
    cases x with
    | killO =>
      have : q.isO = false := by simpa [SV.srts] using hk rfl
      cases q with
      | l n j => rfl
      | o n => cases this
    | ren a b => simp only [Tr.rts, List.mem_cons, not_or] at hq; simp only [Tr.sv]; rw [if_neg hq.1]
    | kill r p' => simp only [Tr.rts, List.mem_singleton] at hq; simp only [Tr.sv]; rw [if_neg hq]
    | killN r m => simp only [Tr.rts, List.mem_singleton] at hq; simp only [Tr.sv]; rw [if_neg (fun e => hq e.1)]
    | frz r p' l => simp only [Tr.rts, List.mem_singleton] at hq; simp only [Tr.sv]; rw [if_neg hq]
  | .loc q p i o, h, hk => by
    have hq := h q (by simp [SV.srts])
    cases x with
    | killO =>
      have : q.isO = false := by simpa [SV.srts] using hk rfl
      cases q with
      | l n j => cases p <;> rfl
      | o n => cases this
    | ren a b => simp only [Tr.rts, List.mem_cons, not_or] at hq; simp only [Tr.sv]; rw [if_neg hq.1]
    | kill r p' => simp only [Tr.rts, List.mem_singleton] at hq; simp only [Tr.sv]; rw [if_neg hq]
    | killN r m => simp only [Tr.rts, List.mem_singleton] at hq; simp only [Tr.sv]; rw [if_neg (fun e => hq e.1)]
    | frz r p' l => simp only [Tr.rts, List.mem_singleton] at hq; simp only [Tr.sv]; rw [if_neg hq]
  | .agg l, h, hk => by
    have : x.sv (.agg l) = .agg (Tr.svs x l) := by cases x <;> rfl
    rw [this, Tr.svs_id x l h hk]
  | .tup l, h, hk => by
    have : x.sv (.tup l) = .tup (Tr.svs x l) := by cases x <;> rfl
    rw [this, Tr.svs_id x l h hk]
theorem Tr.svs_id (x : Tr) : ∀ (l : List SV), (∀ r ∈ SV.srtss l, r ∉ x.rts) → (x.isKillO = true → (SV.srtss l).any Root.isO = false) → Tr.svs x l = l
  | [], _, _ => rfl
  | v :: l, h, hk => by
    simp only [SV.srtss, List.mem_append] at h
    simp only [SV.srtss, List.any_append, Bool.or_eq_false_iff] at hk
    simp only [Tr.svs]
    rw [Tr.sv_id x v (fun r hr => h r (.inl hr)) (fun q => (hk q).1), Tr.svs_id x l (fun r hr => h r (.inr hr)) (fun q => (hk q).2)]
end
theorem trv_id : ∀ (a : List Tr) (v : SV), (∀ r ∈ v.srts, r ∉ a.flatMap Tr.rts) → (a.any Tr.isKillO = true → v.srts.any Root.isO = false) → trv a v = v
  | [], _, _, _ => rfl
  | x :: a, v, h, hk => by
    simp only [List.any_cons, Bool.or_eq_true] at hk
    simp only [trv]
    rw [Tr.sv_id x v (fun r hr hx => h r hr (by simp [hx])) (fun q => hk (.inl q)), trv_id a v (fun r hr hx => h r hr (by simp only [List.flatMap_cons, List.mem_append]; exact .inr hx)) (fun q => hk (.inr q))]
theorem ofCell_noO {v : Value} {x : D} (h : D.ofCell v = some x) : SV.rts (.d x) = [] := by
  unfold D.ofCell at h
  split at h <;> simp only [Option.some.injEq, reduceCtorEq] at h <;> subst h <;> rfl
theorem evalC_rts (x : Operand) : (evalC x).rts = [] := by
  unfold evalC
  split
  · rename_i v
    cases hv : D.ofVal v with
    | none => rfl
    | some x =>
      simp only
      unfold D.ofVal at hv
      split at hv
      · simp only [Option.map_eq_some_iff] at hv
        obtain ⟨l, _, rfl⟩ := hv
        rfl
      · exact ofCell_noO hv
  · rfl
  · rfl
theorem tmp_mem {op : Op} {t : Nat} (h : .tmp t ∈ op.operands) : t ∈ tmpsOf op := by
  simp only [tmpsOf, List.mem_filterMap]
  exact ⟨.tmp t, by simpa using h, rfl⟩
section
variable {P : Program} {call : CallF} {h : Hint} {ops : List Oper}
theorem stepE_congr {dst : Nat} {ty : TypeId} (op : Op) {σ τ : Operand → SV} (k : Wk) (hx : ∀ x ∈ op.operands, σ x = τ x) : stepE P call h dst ty op σ k = stepE P call h dst ty op τ k := by
  have hp := opE_congr (P := P) (h := h) (dst := dst) (ty := ty) op k hx
  unfold stepE
  cases op with
  | call c =>
    obtain ⟨callee, args, ats⟩ := c
    cases callee with
    | value f =>
      simp only
      rw [hx f (by simp [Op.operands, Call.operands]), map_congr_op (l := args.toList) fun x hm => hx x (by simp at hm; simp [Op.operands, Call.operands, hm])]
    | _ => exact hp
  | _ => exact hp
theorem val_congr {s s2 : St} {op : Op} (hx : ∀ t ∈ tmpsOf op, s2.get t = s.get t) : ∀ x ∈ op.operands, s2.val x = s.val x := fun x hm => by
  cases x with
  | tmp t => exact hx t (tmp_mem hm)
  | _ => rfl
theorem looks_tmp {o : Oper} {t : Nat} (ht : t ∈ tmpsOf o.op) : t ∈ looks ops o := List.mem_append_left _ ht
theorem wantE_congr {s s2 : St} {o : Oper} (hx : ∀ t ∈ looks ops o, s2.get t = s.get t) : wantE ops s2 o = wantE ops s o := by
  unfold wantE
  split
  · rfl
  · rename_i j want hg
    cases hj : (ops[j]?).bind (·.dst) with
    | none => rfl
    | some t => simp only; rw [hx t (by simp [looks, hg, hj])]
theorem evalO_congr {s s2 : St} {o : Oper} (hx : ∀ t ∈ looks ops o, s2.get t = s.get t) (hc : s2.ct = s.ct) (hH : s2.H = s.H) : evalO P call h ops o s2 = evalO P call h ops o s := by
  unfold evalO
  have hw : s2.wk = s.wk := by simp only [St.wk, hc, hH]
  rw [wantE_congr hx, hw, stepE_congr o.op s.wk (val_congr fun t ht => hx t (looks_tmp ht))]
theorem reads_plain {h : Hint} {dst : Nat} {op : Op} (hr : reads op = false) : effOf h dst op = false ∧ ∀ c, op ≠ .call c := by
  cases op <;> simp [reads] at hr <;> simp [effOf]
theorem stepE_plain {dst : Nat} {ty : TypeId} {op : Op} (hc : ∀ c, op = .call c → ∃ b, c.callee = .builtin b) (σ : Operand → SV) (k : Wk) : stepE P call h dst ty op σ k = opE P h dst ty op σ k := by
  unfold stepE
  cases op with
  | call c =>
    obtain ⟨b, hb⟩ := hc c rfl
    obtain ⟨callee, args, ats⟩ := c
    simp only at hb
    subst hb
    rfl
  | _ => rfl
theorem evalO_sim {Z : Root → Prop} {b : Bool} {s s2 : St} {o : Oper} {w : Bool} {v : SV} {k : Wk} (sm : Sm Z b s.wk s2.wk) (hg : ∀ t ∈ looks ops o, s2.get t = s.get t) (hh : b = false → w = true → hrOf h (o.dst.getD 0) o.op = false) (ho : reads o.op = true → w = true → ∀ t ∈ looks ops o, Off Z (s.get t))
    (e : evalO P call h ops o s = some (w, v, k)) : ∃ k2, evalO P call h ops o s2 = some (w, v, k2) ∧ Par b s.wk s2.wk k k2 := by
  simp only [evalO, Option.bind_eq_some_iff] at e
  obtain ⟨w0, e0, e⟩ := e
  have hv := val_congr (s := s) (s2 := s2) (op := o.op) fun t ht => hg t (looks_tmp ht)
  split at e
  · rename_i hw0
    subst hw0
    simp only [Option.map_eq_some_iff, Prod.mk.injEq] at e
    obtain ⟨⟨v', k'⟩, e1, rfl, rfl, rfl⟩ := e
    have fin : ∀ k2, stepE P call h (o.dst.getD 0) o.type o.op s.val s2.wk = some (v', k2) → evalO P call h ops o s2 = some (true, v', k2) := fun k2 q => by
      simp only [evalO, wantE_congr hg, e0, Option.bind_some, if_true, stepE_congr o.op s2.wk hv, q, Option.map_some]
    cases hrd : reads o.op with
    | true =>
      obtain ⟨k2, h1, h2⟩ := stepE_sim sm (fun q => hh q rfl) (fun x hx => by
        cases x with
        | tmp t => exact ho hrd rfl t (looks_tmp (tmp_mem hx))
        | _ => intro r hr; simp only [St.val] at hr; rw [evalC_rts] at hr; cases hr) e1
      exact ⟨k2, fin k2 h1, h2⟩
    | false =>
      obtain ⟨q1, q2⟩ := reads_plain (h := h) (dst := o.dst.getD 0) hrd
      have hc : ∀ c, o.op = .call c → ∃ b, c.callee = .builtin b := fun c q => absurd q (q2 c)
      rw [stepE_plain hc] at e1
      obtain ⟨rfl, hr⟩ := opE_read hc q1 e1
      exact ⟨s2.wk, fin _ (by rw [stepE_plain hc]; exact hr s2.wk (fun q => by rw [hrd] at q; cases q) (fun q => by rw [hrd] at q; cases q)), Par.refl sm⟩
  · rename_i hw0
    simp only [Option.some.injEq, Prod.mk.injEq] at e
    obtain ⟨rfl, rfl, rfl⟩ := e
    have : w0 = false := by simpa using hw0
    exact ⟨s2.wk, by simp only [evalO, wantE_congr hg, e0, Option.bind_some, this, Bool.false_eq_true, if_false], Par.refl sm⟩
theorem evalO_grown {s : St} {o : Oper} {w : Bool} {v : SV} {k : Wk} (e : evalO P call h ops o s = some (w, v, k)) : Grown (hOf h (o.dst.getD 0) o.op = false ∧ (leansO o.op = true → ∀ t ∈ looks ops o, NoO (s.get t))) s.wk k ∧ ((w && effOf h (o.dst.getD 0) o.op) = false → k = s.wk) := by
  simp only [evalO, Option.bind_eq_some_iff] at e
  obtain ⟨w0, e0, e⟩ := e
  split at e
  · rename_i hw0
    subst hw0
    simp only [Option.map_eq_some_iff, Prod.mk.injEq] at e
    obtain ⟨⟨v', k'⟩, e1, rfl, _, rfl⟩ := e
    refine ⟨(stepE_grown e1).imp fun q => ⟨q.1, fun hlo x hx => ?_⟩, fun he => ?_⟩
    · cases x with
      | tmp t => exact q.2 hlo t (looks_tmp (tmp_mem hx))
      | _ => simp only [St.val]; rw [NoO, evalC_rts]; rfl
    · simp only [Bool.true_and] at he
      have hc : ∀ c, o.op = .call c → ∃ b, c.callee = .builtin b := fun c hcc => by
        obtain ⟨callee, args, ats⟩ := c
        rw [hcc] at he
        cases callee with
        | builtin b => exact ⟨b, rfl⟩
        | value f => simp [effOf] at he
        | invoke r m => simp [effOf] at he
      rw [stepE_plain hc] at e1
      exact (opE_read hc he e1).1
  · simp only [Option.some.injEq, Prod.mk.injEq] at e
    rw [← e.2.2]
    exact ⟨.refl _ _, fun _ => rfl⟩
end
mutual
theorem Tr.comm (x y : Tr) (hd : ∀ r ∈ x.rts, r ∉ y.rts) (hx : x.isKillO = true → y.rts.any Root.isO = false) (hy : y.isKillO = true → x.rts.any Root.isO = false) : ∀ v : SV, x.sv (y.sv v) = y.sv (x.sv v)
  | .d _ => by cases x <;> cases y <;> rfl
  | .rp _ _ => by cases x <;> cases y <;> rfl
  | .clip _ _ => by cases x <;> cases y <;> rfl
  | .ns _ => by cases x <;> cases y <;> rfl
  | .dead => by cases x <;> cases y <;> rfl
  | .agg l => by
    have ex : ∀ l, x.sv (.agg l) = .agg (Tr.svs x l) := fun l => by cases x <;> rfl
    have ey : ∀ l, y.sv (.agg l) = .agg (Tr.svs y l) := fun l => by cases y <;> rfl
    rw [ex, ey, ex, ey, Tr.comms x y hd hx hy l]
  | .tup l => by
    have ex : ∀ l, x.sv (.tup l) = .tup (Tr.svs x l) := fun l => by cases x <;> rfl
    have ey : ∀ l, y.sv (.tup l) = .tup (Tr.svs y l) := fun l => by cases y <;> rfl
    rw [ex, ey, ex, ey, Tr.comms x y hd hx hy l]
  | .bor r p o n => by
    by_cases h1 : r ∈ x.rts
    · have h2 : r ∉ y.rts := hd r h1
      have ok : y.isKillO = true → r.isO = false := fun q => List.any_eq_false.1 (hy q) r h1 |> fun z => by simpa using z
      have e1 : y.sv (.bor r p o n) = .bor r p o n := Tr.sv_id y _ (by simpa [SV.srts] using h2) (fun q => by simpa [SV.srts] using ok q)
      rw [e1]
      refine (Tr.sv_id y _ (fun q hq => ?_) (fun hk => ?_)).symm
      · have := Tr.rts_sub x (.bor r p o n) x.rts (fun q hq => by simp [SV.srts] at hq; subst hq; exact h1) q hq
        cases x <;> simp only [Tr.hist] at this <;> first | exact hd q this | (split at this <;> first | exact hd q this | (rcases List.mem_cons.1 this with rfl | this <;> first | exact hd q this | exact hd _ (by simp [Tr.rts])))
      · have hno := hy hk
        refine List.any_eq_false.2 fun q hq => ?_
        have := Tr.rts_sub x (.bor r p o n) x.rts (fun q hq => by simp [SV.srts] at hq; subst hq; exact h1) q hq
        have hin : q ∈ x.rts := by
          cases x <;> simp only [Tr.hist] at this <;> first | exact this | (split at this <;> first | exact this | (rcases List.mem_cons.1 this with rfl | this <;> first | exact this | simp [Tr.rts]))
        exact List.any_eq_false.1 hno q hin
    · by_cases hk : x.isKillO = true
      · cases x with
        | killO =>
          cases r with
          | l a b =>
            have e1 : Tr.killO.sv (.bor (.l a b) p o n) = .bor (.l a b) p o n := rfl
            rw [e1]
            refine Tr.sv_id .killO _ (by simp [Tr.rts]) (fun _ => List.any_eq_false.2 fun q hq => ?_)
            cases y with
            | ren c d => simp only [Tr.sv] at hq; split at hq <;> simp [SV.srts] at hq <;> subst hq <;> simp [Root.isO]
            | _ => simp only [Tr.sv] at hq; (repeat' split at hq) <;> simp [SV.srts] at hq <;> subst hq <;> simp [Root.isO]
          | o m =>
            have hym : Root.o m ∉ y.rts := fun hq => by have := List.any_eq_false.1 (hx rfl) _ hq; simp [Root.isO] at this
            by_cases hyk : y.isKillO = true
            · cases y <;> simp [Tr.isKillO] at hyk; rfl
            · have e1 : y.sv (.bor (.o m) p o n) = .bor (.o m) p o n := Tr.sv_id y _ (by simpa [SV.srts] using hym) (fun q => absurd q hyk)
              rw [e1]
              have e2 : Tr.killO.sv (.bor (.o m) p o n) = .dead := rfl
              rw [e2]
              cases y <;> rfl
        | _ => simp [Tr.isKillO] at hk
      · have e1 : x.sv (.bor r p o n) = .bor r p o n := Tr.sv_id x _ (by simpa [SV.srts] using h1) (fun q => absurd q hk)
        rw [e1]
        refine Tr.sv_id x _ (fun q hq hin => ?_) (fun q => absurd q hk)
        have := Tr.rts_sub y (.bor r p o n) [r] (fun q hq => by simpa [SV.srts] using hq) q hq
        cases y with
        | ren c d =>
          simp only [Tr.hist] at this
          split at this
          · rcases List.mem_cons.1 this with rfl | this
            · exact hd _ hin (by simp [Tr.rts])
            · simp at this; subst this; exact h1 hin
          · simp at this; subst this; exact h1 hin
        | _ => simp only [Tr.hist, List.mem_singleton] at this; subst this; exact h1 hin
  | .loc r p i o => by
    by_cases h1 : r ∈ x.rts
    · have h2 : r ∉ y.rts := hd r h1
      have ok : y.isKillO = true → r.isO = false := fun q => List.any_eq_false.1 (hy q) r h1 |> fun z => by simpa using z
      have e1 : y.sv (.loc r p i o) = .loc r p i o := Tr.sv_id y _ (by simpa [SV.srts] using h2) (fun q => by simpa [SV.srts] using ok q)
      rw [e1]
      refine (Tr.sv_id y _ (fun q hq => ?_) (fun hk => ?_)).symm
      · have := Tr.rts_sub x (.loc r p i o) x.rts (fun q hq => by simp [SV.srts] at hq; subst hq; exact h1) q hq
        cases x <;> simp only [Tr.hist] at this <;> first | exact hd q this | (split at this <;> first | exact hd q this | (rcases List.mem_cons.1 this with rfl | this <;> first | exact hd q this | exact hd _ (by simp [Tr.rts])))
      · have hno := hy hk
        refine List.any_eq_false.2 fun q hq => ?_
        have := Tr.rts_sub x (.loc r p i o) x.rts (fun q hq => by simp [SV.srts] at hq; subst hq; exact h1) q hq
        have hin : q ∈ x.rts := by
          cases x <;> simp only [Tr.hist] at this <;> first | exact this | (split at this <;> first | exact this | (rcases List.mem_cons.1 this with rfl | this <;> first | exact this | simp [Tr.rts]))
        exact List.any_eq_false.1 hno q hin
    · by_cases hk : x.isKillO = true
      · cases x with
        | killO =>
          cases r with
          | l a b =>
            have e1 : Tr.killO.sv (.loc (.l a b) p i o) = .loc (.l a b) p i o := by cases p <;> rfl
            rw [e1]
            refine Tr.sv_id .killO _ (by simp [Tr.rts]) (fun _ => List.any_eq_false.2 fun q hq => ?_)
            cases y with
            | ren c d => simp only [Tr.sv] at hq; split at hq <;> simp [SV.srts] at hq <;> subst hq <;> simp [Root.isO]
            | _ => simp only [Tr.sv] at hq; (repeat' split at hq) <;> simp [SV.srts] at hq <;> subst hq <;> simp [Root.isO]
          | o m =>
            have hym : Root.o m ∉ y.rts := fun hq => by have := List.any_eq_false.1 (hx rfl) _ hq; simp [Root.isO] at this
            by_cases hyk : y.isKillO = true
            · cases y <;> simp [Tr.isKillO] at hyk; rfl
            · have e1 : y.sv (.loc (.o m) p i o) = .loc (.o m) p i o := Tr.sv_id y _ (by simpa [SV.srts] using hym) (fun q => absurd q hyk)
              rw [e1]
              cases p with
              | nil => exact e1.symm
              | cons a p =>
                have e2 : Tr.killO.sv (.loc (.o m) (a :: p) i o) = .dead := rfl
                rw [e2]
                cases y <;> rfl
        | _ => simp [Tr.isKillO] at hk
      · have e1 : x.sv (.loc r p i o) = .loc r p i o := Tr.sv_id x _ (by simpa [SV.srts] using h1) (fun q => absurd q hk)
        rw [e1]
        refine Tr.sv_id x _ (fun q hq hin => ?_) (fun q => absurd q hk)
        have := Tr.rts_sub y (.loc r p i o) [r] (fun q hq => by simpa [SV.srts] using hq) q hq
        cases y with
        | ren c d =>
          simp only [Tr.hist] at this
          split at this
          · rcases List.mem_cons.1 this with rfl | this
            · exact hd _ hin (by simp [Tr.rts])
            · simp at this; subst this; exact h1 hin
          · simp at this; subst this; exact h1 hin
        | _ => simp only [Tr.hist, List.mem_singleton] at this; subst this; exact h1 hin
theorem Tr.comms (x y : Tr) (hd : ∀ r ∈ x.rts, r ∉ y.rts) (hx : x.isKillO = true → y.rts.any Root.isO = false) (hy : y.isKillO = true → x.rts.any Root.isO = false) : ∀ l : List SV, Tr.svs x (Tr.svs y l) = Tr.svs y (Tr.svs x l)
  | [] => rfl
  | v :: l => by simp only [Tr.svs, Tr.comm x y hd hx hy v, Tr.comms x y hd hx hy l]
end
theorem trv_sv (x : Tr) : ∀ (a : List Tr) (v : SV), (∀ y ∈ a, (∀ r ∈ x.rts, r ∉ y.rts) ∧ (x.isKillO = true → y.rts.any Root.isO = false) ∧ (y.isKillO = true → x.rts.any Root.isO = false)) → x.sv (trv a v) = trv a (x.sv v)
  | [], _, _ => rfl
  | y :: a, v, h => by
    obtain ⟨h1, h2, h3⟩ := h y (by simp)
    simp only [trv]
    rw [trv_sv x a _ (fun z hz => h z (by simp [hz])), Tr.comm x y h1 h2 h3]
theorem trv_comm : ∀ (a b : List Tr) (v : SV), (∀ x ∈ a, ∀ y ∈ b, (∀ r ∈ x.rts, r ∉ y.rts) ∧ (x.isKillO = true → y.rts.any Root.isO = false) ∧ (y.isKillO = true → x.rts.any Root.isO = false)) → trv a (trv b v) = trv b (trv a v)
  | [], _, _, _ => rfl
  | x :: a, b, v, h => by
    simp only [trv]
    rw [trv_sv x b v (h x (by simp)), trv_comm a b _ (fun z hz => h z (by simp [hz]))]
theorem histTr_plain : ∀ (a : List Tr) (l : List Root), a.any Tr.isRen = false → histTr a l = l
  | [], _, _ => rfl
  | x :: a, l, h => by
    simp only [List.any_cons, Bool.or_eq_false_iff] at h
    have : x.hist l = l := by cases x <;> first | rfl | simp [Tr.isRen] at h
    simp only [histTr, this, histTr_plain a l h.2]
theorem histTr_comm (a b : List Tr) (l : List Root) (h : a.any Tr.isRen = false ∨ b.any Tr.isRen = false) : histTr a (histTr b l) = histTr b (histTr a l) := by
  rcases h with h | h
  · rw [histTr_plain a _ h, histTr_plain a _ h]
  · rw [histTr_plain b _ h, histTr_plain b _ h]
end Go.Am
namespace Go.Am
open Go
set_option linter.unusedSimpArgs false
set_option linter.unusedVariables false
theorem T.cell_iff {e : T} {off : Nat} : (∃ x, e.cell off = some x) ↔ off < e.nc := by
  constructor
  · rintro ⟨x, h⟩; exact T.cell_lt h
  · intro h
    cases e with
    | agg cs => exact ⟨cs[off]'h, by simp [T.cell, T.nc] at h ⊢⟩
    | d x =>
      cases x with
      | agg l => exact ⟨.d (l[off]'h), by simp [T.cell, T.nc, D.nc] at h ⊢⟩
      | _ => simp only [T.nc, D.nc] at h; obtain rfl : off = 0 := by omega
             exact ⟨_, rfl⟩
    | own es => simp only [T.nc] at h; obtain rfl : off = 0 := by omega
                exact ⟨_, rfl⟩
    | dead => simp only [T.nc] at h; obtain rfl : off = 0 := by omega
              exact ⟨_, rfl⟩
def RelT (kd off : Nat) (e e' : T) : Prop := e'.nc = e.nc ∧ (kd = 0 → e'.cell off = e.cell off) ∧ (kd = 1 → e'.cell off = e.cell off ∨ ∃ l l', e.cell off = some (.own l) ∧ e'.cell off = some (.own l') ∧ l'.length = l.length)
def RelE (kd i off : Nat) (es es' : List T) : Prop := (es[i]? = none ∧ es'[i]? = none) ∨ ∃ e e', es[i]? = some e ∧ es'[i]? = some e' ∧ RelT kd off e e'
def RelN (kd i off : Nat) (a b : Option T) : Prop := a = b ∨ ∃ es es', a = some (.own es) ∧ b = some (.own es') ∧ RelE kd i off es es'
theorem RelT.symm {kd off : Nat} {e e' : T} (h : RelT kd off e e') : RelT kd off e' e :=
  ⟨h.1.symm, fun q => (h.2.1 q).symm, fun q => (h.2.2 q).imp Eq.symm fun ⟨l, l', h1, h2, h3⟩ => ⟨l', l, h2, h1, h3.symm⟩⟩
theorem RelN.symm {kd i off : Nat} {a b : Option T} (h : RelN kd i off a b) : RelN kd i off b a := by
  rcases h with h | ⟨es, es', h1, h2, h3⟩
  · exact .inl h.symm
  · refine .inr ⟨es', es, h2, h1, ?_⟩
    rcases h3 with ⟨q1, q2⟩ | ⟨e, e', q1, q2, q3⟩
    · exact .inl ⟨q2, q1⟩
    · exact .inr ⟨e', e, q2, q1, q3.symm⟩
theorem put_own {c c' x : T} {s : Nat × Nat} {q : Path} (h : c.put (s :: q) x = some c') : ∃ es e ch ch', c = .own es ∧ es[s.1]? = some e ∧ e.cell s.2 = some ch ∧ ch.put q x = some ch' ∧ c' = .own (es.set s.1 (e.putCell s.2 ch')) := by
  obtain ⟨i, o⟩ := s
  cases c with
  | own es =>
    simp only [T.put, Option.bind_eq_some_iff, Option.map_eq_some_iff] at h
    obtain ⟨e, h1, ch, h2, ch', h3, rfl⟩ := h
    exact ⟨es, e, ch, ch', rfl, h1, h2, h3, rfl⟩
  | _ => simp [T.put] at h
theorem put_one {c c' : T} {q : Path} (h : c.put q .dead = some c') : c'.nc = 1 ∧ (∀ l, c' ≠ .agg l) ∧ (∀ l, c' ≠ .d (.agg l)) := by
  cases q with
  | nil => simp only [T.put, Option.some.injEq] at h; subst h; simp [T.nc]
  | cons s q => obtain ⟨es, e, ch, ch', _, _, _, _, rfl⟩ := put_own h; simp [T.nc]
theorem put_rel {kd off i : Nat} : ∀ (p : Path) (c c' : T) (q : Path), c.put q .dead = some c' → sepL kd p i off q = true → RelN kd i off (c.at p) (c'.at p)
  | p, c, c', [], h, hs => by cases p <;> simp [sepL] at hs
  | [], c, c', s :: q, h, hs => by
    obtain ⟨es, e, ch, ch', rfl, h1, h2, h3, rfl⟩ := put_own h
    obtain ⟨i', o'⟩ := s
    obtain ⟨n1, n2, n3⟩ := put_one h3
    refine .inr ⟨es, _, rfl, rfl, ?_⟩
    have hlt : i' < es.length := (List.getElem?_eq_some_iff.1 h1).1
    by_cases hi : i' = i
    · subst hi
      refine .inr ⟨e, _, h1, List.getElem?_set_self hlt, T.putCell_nc h2 n1, fun hk => ?_, fun hk => ?_⟩
      · by_cases ho : o' = off
        · subst ho; subst hk; simp [sepL] at hs
        · rcases Nat.lt_or_ge off e.nc with hlt' | hge
          · obtain ⟨d, hd⟩ := T.cell_iff.2 hlt'
            rw [hd]; exact T.putCell_other h2 hd (fun e => ho e.symm)
          · have q1 : e.cell off = none := by
              cases hx : e.cell off with
              | none => rfl
              | some x => have := T.cell_lt hx; omega
            have q2 : (e.putCell o' ch').cell off = none := by
              cases hx : (e.putCell o' ch').cell off with
              | none => rfl
              | some x => have := T.cell_lt hx; rw [T.putCell_nc h2 n1] at this; omega
            rw [q1, q2]
      · by_cases ho : o' = off
        · subst ho; subst hk
          simp only [sepL, and_self, if_true] at hs
          cases q with
          | nil => simp at hs
          | cons s' q =>
            obtain ⟨es2, e2, ch2, ch2', rfl, _, _, _, rfl⟩ := put_own h3
            exact .inr ⟨_, _, h2, T.putCell_same h2 n1 n2 n3, by simp⟩
        · left
          rcases Nat.lt_or_ge off e.nc with hlt' | hge
          · obtain ⟨d, hd⟩ := T.cell_iff.2 hlt'
            rw [hd]; exact T.putCell_other h2 hd (fun e => ho e.symm)
          · have q1 : e.cell off = none := by
              cases hx : e.cell off with
              | none => rfl
              | some x => have := T.cell_lt hx; omega
            have q2 : (e.putCell o' ch').cell off = none := by
              cases hx : (e.putCell o' ch').cell off with
              | none => rfl
              | some x => have := T.cell_lt hx; rw [T.putCell_nc h2 n1] at this; omega
            rw [q1, q2]
    · have e2 : (es.set i' (e.putCell o' ch'))[i]? = es[i]? := List.getElem?_set_ne hi
      cases hx : es[i]? with
      | none => exact .inl ⟨hx, by rw [e2, hx]⟩
      | some x => exact .inr ⟨x, x, hx, by rw [e2, hx], rfl, fun _ => rfl, fun _ => .inl rfl⟩
  | s0 :: p, c, c', s :: q, h, hs => by
    obtain ⟨es, e, ch, ch', rfl, h1, h2, h3, rfl⟩ := put_own h
    obtain ⟨n1, n2, n3⟩ := put_one h3
    obtain ⟨i0, o0⟩ := s0
    obtain ⟨i', o'⟩ := s
    have hlt : i' < es.length := (List.getElem?_eq_some_iff.1 h1).1
    simp only [sepL] at hs
    by_cases hss : (i0, o0) = (i', o')
    · rw [if_pos hss] at hs
      simp only [Prod.mk.injEq] at hss
      obtain ⟨rfl, rfl⟩ := hss
      have ih := put_rel p ch ch' q h3 hs
      simp only [T.at, h1, Option.bind_some, h2, List.getElem?_set_self hlt, T.putCell_same h2 n1 n2 n3]
      exact ih
    · left
      simp only [T.at]
      by_cases hi : i' = i0
      · subst hi
        have ho : o0 ≠ o' := fun e => hss (by rw [e])
        rw [h1, List.getElem?_set_self hlt]
        simp only [Option.bind_some]
        congr 1
        rcases Nat.lt_or_ge o0 e.nc with hlt' | hge
        · obtain ⟨d, hd⟩ := T.cell_iff.2 hlt'
          rw [hd]; exact (T.putCell_other h2 hd ho).symm
        · have q1 : e.cell o0 = none := by
            cases hx : e.cell o0 with
            | none => rfl
            | some x => have := T.cell_lt hx; omega
          have q2 : (e.putCell o' ch').cell o0 = none := by
            cases hx : (e.putCell o' ch').cell o0 with
            | none => rfl
            | some x => have := T.cell_lt hx; rw [T.putCell_nc h2 n1] at this; omega
          rw [q1, q2]
      · rw [List.getElem?_set_ne hi]
def Same1 (kd : Nat) (r : Root) (p : Path) (i off : Nat) (k k' : Wk) : Prop := RelN kd i off ((k.get r).bind (·.at p)) ((k'.get r).bind (·.at p))
section
variable {P : Program} {call : CallF} {h : Hint} {dst : Nat} {ty : TypeId}
theorem readE {op : Op} {σ : Operand → SV} {k k' : Wk} {v : SV} {r : Root} {p : Path} {i off kd : Nat} (hx : rxOf op σ v = some (r, p, i, off, kd)) (hs : Same1 kd r p i off k k') (e : stepE P call h dst ty op σ k = some (v, k)) : stepE P call h dst ty op σ k' = some (v, k') := by
  unfold rxOf at hx
  split at hx
  · rename_i t a
    have e1 : loadE P t (σ a) k = some v := by
      have e' : (loadE P t (σ a) k).map (·, k) = some (v, k) := e
      simp only [Option.map_eq_some_iff, Prod.mk.injEq] at e'
      obtain ⟨u, h1, rfl, _⟩ := e'
      exact h1
    suffices loadE P t (σ a) k' = some v by
      show (loadE P t (σ a) k').map (·, k') = _
      rw [this]; rfl
    have key : ∀ r p i off kd, asLoc (σ a) = .loc r p i off → ((kd = 1 ∧ ∃ r' p' o n, v = .bor r' p' o n) ∨ (kd = 0 ∧ ∃ x, v = .d x ∧ ∀ l, x ≠ .agg l)) → Same1 kd r p i off k k' → loadE P t (σ a) k' = some v := by
      intro r p i off kd hl hv hs
      have bb : ∀ (k : Wk), loadE P t (σ a) k = (((k.get r).bind (·.at p)).bind fun nd => match nd with
          | .own es => (es[i]?).bind fun e => (aggO P t).bind fun ag =>
            if ag then
              match e with
              | .d (.agg l) => if off + P.cellsOf t ≤ l.length then some (.d (.agg (win l off (P.cellsOf t)))) else none
              | .agg cs => if off + P.cellsOf t ≤ cs.length then (cellsSV r p i off (win cs off (P.cellsOf t))).map SV.mkAgg else none
              | _ => none
            else (e.cell off).bind (cellSV r p i off)
          | _ => none) := fun k => by
        unfold loadE
        rw [hl]
        simp only [Option.bind_assoc]
        rfl
      rw [bb] at e1 ⊢
      rcases hs with hs | ⟨es, es', h1, h2, h3⟩
      · rw [← hs]; exact e1
      · rw [h1] at e1
        rw [h2]
        simp only [Option.bind_some] at e1 ⊢
        rcases h3 with ⟨q1, q2⟩ | ⟨el, el', q1, q2, q3⟩
        · rw [q1] at e1; cases e1
        · rw [q1] at e1
          rw [q2]
          simp only [Option.bind_some, Option.bind_eq_some_iff] at e1 ⊢
          obtain ⟨ag, a1, a2⟩ := e1
          refine ⟨ag, a1, ?_⟩
          cases ag with
          | true =>
            exfalso
            simp only [if_true] at a2
            split at a2
            · split at a2
              · simp only [Option.some.injEq] at a2
                rcases hv with ⟨_, r', p', o, n, hv⟩ | ⟨_, x, hv, hx⟩
                · rw [← a2] at hv; cases hv
                · rw [← a2] at hv; cases hv; exact hx _ rfl
              · cases a2
            · split at a2
              · simp only [Option.map_eq_some_iff] at a2
                obtain ⟨l, _, rfl⟩ := a2
                unfold SV.mkAgg at hv
                split at hv
                · rcases hv with ⟨_, r', p', o, n, hv⟩ | ⟨_, x, hv, hx⟩
                  · cases hv
                  · cases hv; exact hx _ rfl
                · rcases hv with ⟨_, r', p', o, n, hv⟩ | ⟨_, x, hv, hx⟩ <;> cases hv
              · cases a2
            · cases a2
          | false =>
            simp only [Bool.false_eq_true, if_false, Option.bind_eq_some_iff] at a2 ⊢
            obtain ⟨ce, c1, c2⟩ := a2
            rcases hv with ⟨rfl, r', p', o, n, hv⟩ | ⟨rfl, x, hv, hx⟩
            · rcases q3.2.2 rfl with q | ⟨l, l', w1, w2, w3⟩
              · exact ⟨ce, by rw [q]; exact c1, c2⟩
              · rw [w1] at c1
                simp only [Option.some.injEq] at c1
                subst c1
                refine ⟨_, w2, ?_⟩
                simp only [cellSV] at c2 ⊢
                rw [w3]; exact c2
            · exact ⟨ce, by rw [q3.2.1 rfl]; exact c1, c2⟩
    split at hx
    · rename_i r' p' i' off' _ _ _ _ hl
      simp only [Option.some.injEq, Prod.mk.injEq] at hx
      obtain ⟨rfl, rfl, rfl, rfl, rfl⟩ := hx
      exact key _ _ _ _ 1 hl (.inl ⟨rfl, _, _, _, _, rfl⟩) hs
    · cases hx
    · rename_i r' p' i' off' x hne hl
      simp only [Option.some.injEq, Prod.mk.injEq] at hx
      obtain ⟨rfl, rfl, rfl, rfl, rfl⟩ := hx
      exact key _ _ _ _ 0 hl (.inr ⟨rfl, _, rfl, fun l e => hne l (by rw [e])⟩) hs
    · cases hx
  · rename_i t a f
    split at hx
    · rename_i r' p' i' off'
      simp only [Option.some.injEq, Prod.mk.injEq] at hx
      obtain ⟨rfl, rfl, rfl, rfl, rfl⟩ := hx
      have e' : (fieldAddrE P t (σ a) f k).map (·, k) = some (.loc r' p' i' off', k) := e
      simp only [Option.map_eq_some_iff, Prod.mk.injEq] at e'
      obtain ⟨u, h1, rfl, _⟩ := e'
      show (fieldAddrE P t (σ a) f k').map (·, k') = _
      suffices fieldAddrE P t (σ a) f k' = some (.loc r' p' i' off') by rw [this]; rfl
      simp only [fieldAddrE, Option.bind_eq_some_iff] at h1 ⊢
      obtain ⟨⟨o, n, b⟩, g1, g2⟩ := h1
      refine ⟨_, g1, ?_⟩
      simp only at g2 ⊢
      split at g2
      · rename_i hn
        rw [if_pos hn]
        split at g2
        · rename_i r2 p2 i2 off2 hl
          split at g2
          · rename_i hok
            simp only [Option.some.injEq, SV.loc.injEq] at g2
            obtain ⟨rfl, rfl, rfl, rfl⟩ := g2
            have : locOk k' r2 p2 i2 (off2 + o) = true := by
              unfold locOk at hok ⊢
              rcases hs with hs | ⟨es, es', w1, w2, w3⟩
              · rw [← hs]; exact hok
              · rw [w1] at hok
                rw [w2]
                simp only at hok ⊢
                rcases w3 with ⟨q1, q2⟩ | ⟨el, el', q1, q2, q3⟩
                · rw [q1] at hok; cases hok
                · rw [q1] at hok
                  rw [q2]
                  simp only [decide_eq_true_eq] at hok ⊢
                  rw [q3.1]; exact hok
            rw [if_pos this]
          · cases g2
        · cases g2
        · cases g2
      · cases g2
    · cases hx
  · cases hx
theorem newsE_eff {nv : Nat} {v : SV} {k k' : Wk} {l : List T} (htr : k.tr = []) (e : newsE nv v k = some (l, k')) : k' = k ∨ ∃ n j, k'.tr = [.kill (.l n j) []] ∧ (∀ r, r ≠ .l n j → k'.get r = k.get r) ∧ k'.get (.l n j) = some .dead ∧ k'.H = k.H := by
  unfold newsE at e
  split at e
  · simp only [Option.some.injEq, Prod.mk.injEq] at e; exact .inl e.2.symm
  · simp only [Option.some.injEq, Prod.mk.injEq] at e; exact .inl e.2.symm
  · simp only [Option.some.injEq, Prod.mk.injEq] at e; exact .inl e.2.symm
  · simp only [Option.some.injEq, Prod.mk.injEq] at e; exact .inl e.2.symm
  · simp only [Option.bind_eq_some_iff] at e
    obtain ⟨c, h1, nd, h2, e⟩ := e
    split at e
    · split at e
      · rename_i n j
        split at e
        · simp only [Option.map_eq_some_iff, Prod.mk.injEq] at e
          obtain ⟨k2, h3, _, rfl⟩ := e
          simp only [Wk.set, Option.some.injEq] at h3
          subst h3
          refine .inr ⟨n, j, by simp [Wk.tell, htr], fun r hr => ?_, ?_, rfl⟩
          · show Go.Am.cont (((n, j), T.dead) :: k.ct) k.H r = _
            rw [look_get, if_neg hr]; rfl
          · show Go.Am.cont (((n, j), T.dead) :: k.ct) k.H (.l n j) = _
            rw [look_get, if_pos rfl]
        · split at e
          · simp only [Option.some.injEq, Prod.mk.injEq] at e; exact .inl e.2.symm
          · cases e
      · split at e
        · simp only [Option.some.injEq, Prod.mk.injEq] at e; exact .inl e.2.symm
        · cases e
    · cases e
  · cases e
theorem append_eff {nv : Nat} {t : TypeId} {r : Root} {q : Path} {o len : Nat} {x v : SV} {k k' : Wk} (htr : k.tr = []) (e : appendE P nv dst t (.bor r q o len) x k = some (v, k')) :
    ∃ (T1 : List Tr) (c c' : T), k.get r = some c ∧ c.put q .dead = some c' ∧ k'.tr = T1 ++ [.kill r q, .kill (.l dst 0) []] ∧ (∀ y ∈ T1, ∃ n j, y = .kill (.l n j) [] ∧ .l n j ≠ r) ∧
      ∀ r', r' ≠ .l dst 0 → r' ∉ T1.flatMap Tr.rts → k'.get r' = if r' = r then some c' else k.get r' := by
  simp only [appendE, Option.bind_eq_some_iff] at e
  obtain ⟨el, _, z, _, ⟨news, k1⟩, e1, e⟩ := e
  simp only at e
  split at e
  · simp only [Option.bind_eq_some_iff] at e
    obtain ⟨⟨olds, k2⟩, e2, e⟩ := e
    simp only at e
    split at e
    · simp only [Option.some.injEq, Prod.mk.injEq] at e
      obtain ⟨_, rfl⟩ := e
      have old : ∀ (k1 k2 : Wk), oldsE (P.cellsOf el) news (.bor r q o len) k1 = some (olds, k2) → ∃ c c', k1.get r = some c ∧ c.put q .dead = some c' ∧ k2.tr = k1.tr ++ [.kill r q] ∧ ∀ r', k2.get r' = if r' = r then some c' else k1.get r' := by
        intro k1 k2 e2
        simp only [oldsE] at e2
        split at e2
        · simp only [Option.bind_eq_some_iff] at e2
          obtain ⟨c, h1, nd, h2, e2⟩ := e2
          split at e2
          · split at e2
            · simp only [Option.bind_eq_some_iff, Option.map_eq_some_iff, Prod.mk.injEq] at e2
              obtain ⟨c', h3, k3, h4, _, rfl⟩ := e2
              obtain ⟨g1, _, g3, _⟩ := Wk.set_spec h4 ⟨c, h1, fun _ _ => trivial⟩
              exact ⟨c, c', h1, h3, by simp [Wk.tell, g3], fun r' => g1 r'⟩
            · cases e2
          · cases e2
        · cases e2
      rcases newsE_eff htr e1 with rfl | ⟨n, j, t1, g1, g2, _⟩
      · rw [htr] at e2
        obtain ⟨c, c', h1, h2, h3, h4⟩ := old _ _ e2
        refine ⟨[], c, c', h1, h2, by simp [Wk.new, h3, htr], by simp, fun r' hr _ => ?_⟩
        show Go.Am.cont (((dst, 0), _) :: k2.ct) k2.H r' = _
        rw [look_get, if_neg hr]
        exact h4 r'
      · by_cases hr0 : (Root.l n j) = r
        · exfalso
          subst hr0
          rw [t1] at e2
          have : trv [Tr.kill (.l n j) []] (.bor (.l n j) q o len) = .dead := by
            show Tr.sv (.kill (.l n j) []) (.bor (.l n j) q o len) = _
            cases q with
            | nil => simp [Tr.sv]
            | cons s q => simp [Tr.sv]
          rw [this] at e2
          simp [oldsE] at e2
        · rw [t1] at e2
          have : trv [Tr.kill (.l n j) []] (.bor r q o len) = .bor r q o len := by
            show Tr.sv (.kill (.l n j) []) (.bor r q o len) = _
            have hr1 : r ≠ .l n j := fun h => hr0 h.symm
            simp [Tr.sv, hr1]
          rw [this] at e2
          obtain ⟨c, c', h1, h2, h3, h4⟩ := old _ _ e2
          rw [g1 r (fun h => hr0 h.symm)] at h1
          refine ⟨[.kill (.l n j) []], c, c', h1, h2, by simp [Wk.new, h3, t1], fun y hy => ?_, fun r' hr hr1 => ?_⟩
          · simp only [List.mem_singleton] at hy; exact ⟨n, j, hy, hr0⟩
          · have hr2 : r' ≠ .l n j := fun h => hr1 (by simp [Tr.rts, h])
            show Go.Am.cont (((dst, 0), _) :: k2.ct) k2.H r' = _
            rw [look_get, if_neg hr]
            show k2.get r' = _
            rw [h4 r', g1 r' hr2]
    · cases e
  · cases e
end
mutual
theorem unhurt_sv {r : Root} {q : Path} : ∀ (u : SV), u.unhurt r q = true → (Tr.kill r q).sv u = u
  | .bor r' p o n, h => by
    simp only [SV.unhurt, Bool.or_eq_true, decide_eq_true_eq, Bool.and_eq_true, Bool.not_eq_true', decide_eq_false_iff_not] at h
    simp only [Tr.sv]
    by_cases e : r' = r
    · subst e
      rcases h with h | ⟨h1, h2⟩
      · exact absurd rfl h
      · simp [Ne.symm h1, h2]
    · simp [e]
  | .loc r' p i o, h => by
    simp only [SV.unhurt, Bool.or_eq_true, decide_eq_true_eq, Bool.and_eq_true, Bool.not_eq_true', decide_eq_false_iff_not] at h
    simp only [Tr.sv]
    by_cases e : r' = r
    · subst e
      rcases h with h | ⟨h1, h2⟩
      · exact absurd rfl h
      · simp [Ne.symm h1, h2]
    · simp [e]
  | .agg l, h => by simp only [SV.unhurt] at h; simp only [Tr.sv]; rw [unhurt_svs l h]
  | .tup l, h => by simp only [SV.unhurt] at h; simp only [Tr.sv]; rw [unhurt_svs l h]
  | .d _, _ => rfl
  | .rp _ _, _ => rfl
  | .clip _ _, _ => rfl
  | .ns _, _ => rfl
  | .dead, _ => rfl
theorem unhurt_svs {r : Root} {q : Path} : ∀ (l : List SV), SV.unhurts r q l = true → Tr.svs (Tr.kill r q) l = l
  | [], _ => rfl
  | v :: l, h => by
    simp only [SV.unhurts, Bool.and_eq_true] at h
    simp only [Tr.svs, unhurt_sv v h.1, unhurt_svs l h.2]
end
end Go.Am
namespace Go.Am
open Go
set_option linter.unusedSimpArgs false
set_option linter.unusedVariables false
structure Eqv (c d : Cf) : Prop where
  get : ∀ t, d.1.get t = c.1.get t
  ct : ∀ x, lookR d.1.ct x = lookR c.1.ct x
  H : d.1.H = c.1.H
  hi : ∀ t, histOf d.2 t = histOf c.2 t
theorem Eqv.refl (c : Cf) : Eqv c c := ⟨fun _ => rfl, fun _ => rfl, rfl, fun _ => rfl⟩
theorem Eqv.trans {a b c : Cf} (x : Eqv a b) (y : Eqv b c) : Eqv a c := ⟨fun t => (y.get t).trans (x.get t), fun t => (y.ct t).trans (x.ct t), y.H.trans x.H, fun t => (y.hi t).trans (x.hi t)⟩
def Inv (c : Cf) : Prop := ∀ t, ∀ r ∈ (c.1.get t).srts, r ∈ histOf c.2 t
theorem mem_meet {a b : List Root} (h : meet a b = false) : ∀ r ∈ b, r ∉ a := fun r hb ha => by
  simp only [meet, List.any_eq_false] at h
  have := h r ha
  simp only [List.any_eq_true, decide_eq_true_eq, not_exists, not_and] at this
  exact this r hb rfl
theorem newKeys_pre {k k' : Wk} {pre : List ((Nat × Nat) × T)} (hp : k'.ct = pre ++ k.ct) : newKeys k k' = pre.map fun p => Root.l p.1.1 p.1.2 := by
  unfold newKeys
  rw [hp]; simp
theorem lookR_none {pre : List ((Nat × Nat) × T)} {n j : Nat} (h : Root.l n j ∉ pre.map fun p => Root.l p.1.1 p.1.2) : lookR pre (n, j) = none := by
  induction pre with
  | nil => rfl
  | cons p pre ih =>
    obtain ⟨⟨a, b⟩, t⟩ := p
    simp only [List.map_cons, List.mem_cons, not_or] at h
    show (if (a, b) = (n, j) then some t else lookR pre (n, j)) = _
    rw [if_neg (fun e => h.1 (by cases e; rfl))]
    exact ih h.2
theorem newKeys_get {k k' : Wk} (hg : ∃ pre, k'.ct = pre ++ k.ct) (n j : Nat) (h : Root.l n j ∉ newKeys k k') : lookR k'.ct (n, j) = lookR k.ct (n, j) := by
  obtain ⟨pre, hp⟩ := hg
  rw [newKeys_pre hp] at h
  rw [hp, lookR_app, lookR_none h]; rfl
section
variable {P : Program} {call : CallF} {h : Hint} {ops : List Oper}
theorem runOpF_some {o : Oper} {c d : Cf} {f : Fp} (e : runOpF P call h ops o c = some (d, f)) :
    ∃ w v k, evalO P call h ops o c.1 = some (w, v, k) ∧ d = (c.1.fin o.dst v k, histAdd c.2 k.tr o.dst (histV o.op c.2 v)) ∧ f = fpOf h ops o c.2 c.1 w v k := by
  simp only [runOpF, Option.map_eq_some_iff, Prod.mk.injEq] at e
  obtain ⟨⟨w, v, k⟩, e1, e2, e3⟩ := e
  exact ⟨w, v, k, e1, e2.symm, e3.symm⟩
theorem runOpF_mk {o : Oper} {c : Cf} {w : Bool} {v : SV} {k : Wk} (e : evalO P call h ops o c.1 = some (w, v, k)) :
    runOpF P call h ops o c = some ((c.1.fin o.dst v k, histAdd c.2 k.tr o.dst (histV o.op c.2 v)), fpOf h ops o c.2 c.1 w v k) := by
  simp only [runOpF, e, Option.map_some]
theorem rxOf_congr {op : Op} {σ τ : Operand → SV} (v : SV) (hx : ∀ x ∈ op.operands, σ x = τ x) : rxOf op σ v = rxOf op τ v := by
  unfold rxOf
  split
  · rename_i t a
    rw [hx a (by simp [Op.operands])]
  · rfl
  · rfl
theorem wxOf_congr {op : Op} {σ τ : Operand → SV} (hx : ∀ x ∈ op.operands, σ x = τ x) : wxOf op σ = wxOf op τ := by
  unfold wxOf
  split
  · rename_i args ats
    split
    · rename_i x y hl
      have : x ∈ args.toList := by rw [hl]; simp
      rw [hx x (by simp at this; simp [Op.operands, Call.operands, this])]
    · rfl
  · rfl
theorem fpOf_congr {o : Oper} {c d : Cf} {w : Bool} {v : SV} {k k' : Wk} (hg : ∀ t ∈ looks ops o, d.1.get t = c.1.get t) (hh : ∀ t ∈ looks ops o, histOf d.2 t = histOf c.2 t) (h1 : newKeys d.1.wk k' = newKeys c.1.wk k) (h2 : k'.tr = k.tr) : fpOf h ops o d.2 d.1 w v k' = fpOf h ops o c.2 c.1 w v k := by
  unfold fpOf
  have : (looks ops o).flatMap (histOf d.2) = (looks ops o).flatMap (histOf c.2) := by
    simp only [List.flatMap_def]
    rw [List.map_congr_left hh]
  have hcur : ((looks ops o).flatMap fun t => (d.1.get t).rts) = (looks ops o).flatMap fun t => (c.1.get t).rts := by
    simp only [List.flatMap_def]
    rw [List.map_congr_left fun t ht => by rw [hg t ht]]
  have hv := val_congr (s := c.1) (s2 := d.1) (op := o.op) fun t ht => hg t (looks_tmp ht)
  have hm : ((looks ops o).map fun t => d.1.get t) = (looks ops o).map fun t => c.1.get t := List.map_congr_left hg
  rw [this, hcur, h1, h2, rxOf_congr v hv, wxOf_congr hv, hm]
theorem Eqv.sm {c d : Cf} (q : Eqv c d) : Sm (fun _ => False) true c.1.wk d.1.wk := by
  refine ⟨fun r _ => ?_, fun _ => q.H, rfl, rfl, by simp⟩
  cases r with
  | l n j => simp only [Wk.get, Go.Am.cont, St.wk, q.ct]
  | o n => simp only [Wk.get, Go.Am.cont, St.wk, q.H]
theorem Par.keys {b : Bool} {k k' k1 k1' : Wk} (p : Par b k k' k1 k1') : newKeys k' k1' = newKeys k k1 := by
  obtain ⟨pre, h1, h2⟩ := p.ct
  rw [newKeys_pre h1, newKeys_pre h2]
theorem histV_congr {op : Op} {a b : Hist} {v : SV} (h : ∀ t, histOf a t = histOf b t) : histV op a v = histV op b v := by
  unfold histV
  split
  · exact h _
  · rfl
theorem runOpF_congr {o : Oper} {c d c1 : Cf} {f : Fp} (q : Eqv c d) (e : runOpF P call h ops o c = some (c1, f)) : ∃ d1, runOpF P call h ops o d = some (d1, f) ∧ Eqv c1 d1 := by
  obtain ⟨w, v, k, e1, rfl, rfl⟩ := runOpF_some e
  obtain ⟨k2, e2, p⟩ := evalO_sim q.sm (fun t _ => q.get t) (fun h => by cases h) (fun _ _ t _ r _ h => h) e1
  refine ⟨(d.1.fin o.dst v k2, histAdd d.2 k2.tr o.dst (histV o.op d.2 v)), by rw [runOpF_mk e2, fpOf_congr (c := c) (fun t _ => q.get t) (fun t _ => q.hi t) p.keys p.tr], fun t => ?_, fun x => ?_, p.H rfl, fun t => ?_⟩
  · simp only [get_fin, q.get, p.tr]
  · obtain ⟨pre, h1, h2⟩ := p.ct
    show lookR k2.ct x = lookR k.ct x
    rw [h1, h2, lookR_app, lookR_app]
    show _ = (lookR pre x).or (lookR c.1.ct x)
    rw [← q.ct]; rfl
  · simp only [hist_add, q.hi, p.tr]
    rw [histV_congr q.hi]
theorem runOpsF_congr : ∀ (l : List Oper) {c d c1 : Cf} {fs : List Fp}, Eqv c d → runOpsF P call h ops l c = some (c1, fs) → ∃ d1, runOpsF P call h ops l d = some (d1, fs) ∧ Eqv c1 d1
  | [], c, d, c1, fs, q, e => by
    simp only [runOpsF, Option.some.injEq, Prod.mk.injEq] at e
    obtain ⟨rfl, rfl⟩ := e
    exact ⟨d, rfl, q⟩
  | o :: l, c, d, c1, fs, q, e => by
    simp only [runOpsF, Option.bind_eq_some_iff, Option.map_eq_some_iff, Prod.mk.injEq] at e
    obtain ⟨⟨c2, f⟩, e1, ⟨c3, fs'⟩, e2, rfl, rfl⟩ := e
    obtain ⟨d2, g1, q2⟩ := runOpF_congr q e1
    obtain ⟨d3, g2, q3⟩ := runOpsF_congr l q2 e2
    exact ⟨d3, by simp only [runOpsF, g1, Option.bind_some, g2, Option.map_some], q3⟩
theorem evalO_move {s : St} {o : Oper} {t : Nat} {w : Bool} {v : SV} {k : Wk} (ho : o.op = .move (.tmp t)) : evalO P call h ops o s = some (w, v, k) ↔ wantE ops s o = some w ∧ v = (if w = true then s.get t else .tup []) ∧ k = s.wk := by
  have e : stepE P call h (o.dst.getD 0) o.type (.move (.tmp t)) s.val s.wk = some (s.get t, s.wk) := rfl
  simp only [evalO, ho, e]
  cases wantE ops s o with
  | none => simp
  | some x =>
    cases x
    · simp only [Option.bind_some, Bool.false_eq_true, if_false, Option.some.injEq, Prod.mk.injEq]
      constructor
      · rintro ⟨rfl, rfl, rfl⟩; simp
      · rintro ⟨rfl, h2, rfl⟩; exact ⟨rfl, by simpa using h2.symm, rfl⟩
    · simp only [Option.bind_some, if_true, Option.map_some, Option.some.injEq, Prod.mk.injEq]
      constructor
      · rintro ⟨rfl, rfl, rfl⟩; simp
      · rintro ⟨rfl, h2, rfl⟩; exact ⟨rfl, by simpa using h2.symm, rfl⟩
theorem isMove_iff {op : Op} (h : isMove op = true) : ∃ t, op = .move (.tmp t) := by
  unfold isMove at h
  split at h
  · exact ⟨_, rfl⟩
  · cases h
theorem histV_plain {op : Op} {hi : Hist} {v : SV} (h : isMove op = false) : histV op hi v = v.srts := by
  unfold histV
  split
  · cases h
  · rfl
theorem histV_sub {o : Oper} {c : Cf} {w : Bool} {v : SV} {k : Wk} (hi : Inv c) (e : evalO P call h ops o c.1 = some (w, v, k)) : ∀ r ∈ v.srts, r ∈ histV o.op c.2 v := fun r hr => by
  cases hm : isMove o.op with
  | false => rw [histV_plain hm]; exact hr
  | true =>
    obtain ⟨t, ht⟩ := isMove_iff hm
    obtain ⟨_, h2, _⟩ := (evalO_move ht).1 e
    rw [ht]
    show r ∈ histOf c.2 t
    cases w with
    | true => rw [if_pos rfl] at h2; exact hi t r (h2 ▸ hr)
    | false => rw [if_neg (by simp)] at h2; subst h2; simp [SV.srts, SV.srtss] at hr
theorem Inv.step {o : Oper} {c d : Cf} {f : Fp} (hi : Inv c) (e : runOpF P call h ops o c = some (d, f)) : Inv d := by
  obtain ⟨w, v, k, e1, rfl, rfl⟩ := runOpF_some e
  intro t r hr
  simp only [get_fin, hist_add] at hr ⊢
  split at hr
  · rw [if_pos ‹_›]; exact histV_sub hi e1 r hr
  · rw [if_neg ‹_›]; exact trv_rts_sub _ _ _ (hi t) r hr
theorem stays {w : Bool} {v : SV} {k : Wk} {o : Oper} {c : Cf} (e : evalO P call h ops o c.1 = some (w, v, k)) {L : List Root}
    (hm : ∀ r ∈ L, r ∉ (fpOf h ops o c.2 c.1 w v k).wr) (hh : (fpOf h ops o c.2 c.1 w v k).hw = true → L.any Root.isO = false) :
    (∀ u : SV, (∀ r ∈ u.srts, r ∈ L) → trv k.tr u = u) ∧ (∀ M : List Root, (∀ r ∈ M, r ∈ L) → histTr k.tr M = M) ∧ ((fpOf h ops o c.2 c.1 w v k).hw = false → k.H = c.1.H ∧ k.tr.any Tr.isKillO = false) := by
  have hwr : (fpOf h ops o c.2 c.1 w v k).wr = newKeys c.1.wk k ++ k.tr.flatMap Tr.rts := rfl
  have hhv : (fpOf h ops o c.2 c.1 w v k).hw = ((w && effOf h (o.dst.getD 0) o.op) && (hOf h (o.dst.getD 0) o.op || (leansO o.op && ((looks ops o).flatMap fun t => (c.1.get t).rts).any Root.isO) || k.tr.any Tr.isKillO)) := rfl
  rw [hwr] at hm
  have hm2 : ∀ r ∈ L, r ∉ k.tr.flatMap Tr.rts := fun r hr hx => hm r hr (List.mem_append_right _ hx)
  obtain ⟨g, g2⟩ := evalO_grown e
  have hw0 : (fpOf h ops o c.2 c.1 w v k).hw = false → k.H = c.1.H ∧ k.tr.any Tr.isKillO = false := fun hf => by
    cases he : (w && effOf h (o.dst.getD 0) o.op) with
    | false => rw [g2 he]; exact ⟨rfl, rfl⟩
    | true =>
      rw [hhv, he] at hf
      simp only [Bool.true_and, Bool.or_eq_false_iff] at hf
      refine ⟨g.H ⟨hf.1.1, fun hlo t ht => ?_⟩, hf.2⟩
      have h2 := hf.1.2
      rw [hlo, Bool.true_and] at h2
      have h3 := List.any_eq_false.1 h2
      exact List.any_eq_false.2 fun r hr => h3 r (List.mem_flatMap.2 ⟨t, ht, hr⟩)
  refine ⟨fun u hu => trv_id _ _ (fun r hr => hm2 r (hu r hr)) (fun hk => ?_), fun M hM => histTr_id _ _ (fun r hr => hm2 r (hM r hr)), hw0⟩
  have : (fpOf h ops o c.2 c.1 w v k).hw = true := by
    cases hf : (fpOf h ops o c.2 c.1 w v k).hw with
    | true => rfl
    | false => rw [(hw0 hf).2] at hk; cases hk
  exact List.any_eq_false.2 fun r hr => List.any_eq_false.1 (hh this) r (hu r hr)
theorem apart_spec {x y : Fp} (hp : apartB x y = true) : (∀ d, x.dst = some d → d ∉ y.sl) ∧ (∀ d, x.dst = some d → y.dst ≠ some d) ∧ (∀ d, y.dst = some d → d ∉ x.sl) ∧ (∀ r ∈ y.rd, r ∉ x.wr) ∧ (∀ r ∈ y.wr, r ∉ x.wr) ∧ (∀ r ∈ x.rd, r ∉ y.wr) ∧ (x.hw = true → y.hr = false ∧ y.hw = false) ∧ (y.hw = true → x.hr = false) ∧ (x.ren = false ∨ y.ren = false) := by
  simp only [apartB, Bool.and_eq_true, Bool.not_eq_true', Bool.and_eq_false_iff] at hp
  obtain ⟨⟨⟨⟨⟨⟨⟨h1, h2⟩, h3⟩, h4⟩, h5⟩, h6⟩, h7⟩, h8⟩ := hp
  refine ⟨fun d hd => ?_, fun d hd => ?_, fun d hd => ?_, mem_meet h3, mem_meet h4, mem_meet h5, fun q => ?_, fun q => ?_, h8⟩
  · rw [hd] at h1; simp at h1; exact h1.1
  · rw [hd] at h1; simp at h1; exact fun e => h1.2 e
  · rw [hd] at h2; simp at h2; exact h2
  · rcases h6 with x | x
    · rw [q] at x; cases x
    · simpa using x
  · rcases h7 with x | x
    · rw [q] at x; cases x
    · exact x
theorem swap0 {a i : Oper} {c c1 c2 : Cf} {fa fi : Fp} (hmA : isMove a.op = false) (hmI : isMove i.op = false) (hi : Inv c) (ea : runOpF P call h ops a c = some (c1, fa)) (ei : runOpF P call h ops i c1 = some (c2, fi)) (hp : apartB fa fi = true) :
    ∃ d1 d2, runOpF P call h ops i c = some (d1, fi) ∧ runOpF P call h ops a d1 = some (d2, fa) ∧ Eqv c2 d2 := by
  obtain ⟨wa, va, ka, ea1, rfl, hfa⟩ := runOpF_some ea
  obtain ⟨wi, vi, ki, ei1, rfl, hfi⟩ := runOpF_some ei
  rw [histV_plain hmA] at hfi ⊢
  rw [histV_plain hmI]
  obtain ⟨s1, s2, s3, m1, m2, m3, w1, w2, rn⟩ := apart_spec hp
  have da : fa.dst = a.dst := by rw [hfa]; rfl
  have di : fi.dst = i.dst := by rw [hfi]; rfl
  have la : fa.sl = looks ops a := by rw [hfa]; rfl
  have li : fi.sl = looks ops i := by rw [hfi]; rfl
  have ne1 : ∀ t ∈ looks ops i, a.dst ≠ some t := fun t ht e => s1 t (da.trans e) (by rw [li]; exact ht)
  have ne2 : ∀ t ∈ looks ops a, i.dst ≠ some t := fun t ht e => s3 t (di.trans e) (by rw [la]; exact ht)
  have ne3 : ∀ t, a.dst = some t → i.dst ≠ some t := fun t e q => s2 t (da.trans e) (di.trans q)
  simp only at ei1
  -- what i leans on
  have rdI : fi.rd = (looks ops i).flatMap (histOf (histAdd c.2 ka.tr a.dst va.srts)) ++ vi.srts ++ (if reads i.op then (looks ops i).flatMap fun t => ((c.1.fin a.dst va ka).get t).rts else []) := by rw [hfi]; simp only [fpOf, hmI, Bool.false_eq_true, if_false]
  have rdA : fa.rd = (looks ops a).flatMap (histOf c.2) ++ va.srts ++ (if reads a.op then (looks ops a).flatMap fun t => (c.1.get t).rts else []) := by rw [hfa]; simp only [fpOf, hmA, Bool.false_eq_true, if_false]
  have inI : ∀ t ∈ looks ops i, ∀ r ∈ histOf c.2 t, r ∈ fi.rd := fun t ht r hr => by
    rw [rdI]
    exact List.mem_append_left _ (List.mem_append_left _ (List.mem_flatMap.2 ⟨t, ht, by rw [hist_add, if_neg (ne1 t ht)]; exact histTr_sub _ _ r hr⟩))
  have inIv : ∀ r ∈ vi.srts, r ∈ fi.rd := fun r hr => by rw [rdI]; exact List.mem_append_left _ (List.mem_append_right _ hr)
  have inIc : reads i.op = true → ∀ t ∈ looks ops i, ∀ r ∈ ((c.1.fin a.dst va ka).get t).rts, r ∈ fi.rd := fun hrd t ht r hr => by rw [rdI, if_pos hrd]; exact List.mem_append_right _ (List.mem_flatMap.2 ⟨t, ht, hr⟩)
  have inA : ∀ t ∈ looks ops a, ∀ r ∈ histOf c.2 t, r ∈ fa.rd := fun t ht r hr => by rw [rdA]; exact List.mem_append_left _ (List.mem_append_left _ (List.mem_flatMap.2 ⟨t, ht, hr⟩))
  have inAv : ∀ r ∈ va.srts, r ∈ fa.rd := fun r hr => by rw [rdA]; exact List.mem_append_left _ (List.mem_append_right _ hr)
  have inAc : reads a.op = true → ∀ t ∈ looks ops a, ∀ r ∈ (c.1.get t).rts, r ∈ fa.rd := fun hrd t ht r hr => by rw [rdA, if_pos hrd]; exact List.mem_append_right _ (List.mem_flatMap.2 ⟨t, ht, hr⟩)
  -- of shared objects
  have noA : fi.hw = true → (wa = true → hrOf h (a.dst.getD 0) a.op = false) ∧ fa.rd.any Root.isO = false ∧ fa.wr.any Root.isO = false ∧ ka.tr.any Tr.isKillO = false := fun q => by
    have e : fa.hr = ((wa && hrOf h (a.dst.getD 0) a.op) || fa.rd.any Root.isO || fa.wr.any Root.isO || ka.tr.any Tr.isKillO) := by rw [hfa]; rfl
    have := w2 q
    rw [e] at this
    simp only [Bool.or_eq_false_iff] at this
    exact ⟨fun hw => by simpa [hw] using this.1.1.1, this.1.1.2, this.1.2, this.2⟩
  have noI : fa.hw = true → (wi = true → hrOf h (i.dst.getD 0) i.op = false) ∧ fi.rd.any Root.isO = false ∧ fi.wr.any Root.isO = false ∧ ki.tr.any Tr.isKillO = false := fun q => by
    have e : fi.hr = ((wi && hrOf h (i.dst.getD 0) i.op) || fi.rd.any Root.isO || fi.wr.any Root.isO || ki.tr.any Tr.isKillO) := by rw [hfi]; rfl
    have := (w1 q).1
    rw [e] at this
    simp only [Bool.or_eq_false_iff] at this
    exact ⟨fun hw => by simpa [hw] using this.1.1.1, this.1.1.2, this.1.2, this.2⟩
  have wrA : fa.wr = newKeys c.1.wk ka ++ ka.tr.flatMap Tr.rts := by rw [hfa]; rfl
  have wrI : fi.wr = newKeys (c.1.fin a.dst va ka).wk ki ++ ki.tr.flatMap Tr.rts := by rw [hfi]; rfl
  -- i ahead of a
  have st1 := stays (L := fi.rd) ea1 (fun r hr => by rw [← hfa]; exact m1 r hr) (fun q => by rw [← hfa] at q; exact (noI q).2.1)
  rw [← hfa] at st1
  obtain ⟨t1, t2, t3⟩ := st1
  have getI : ∀ t ∈ looks ops i, (c.1.fin a.dst va ka).get t = c.1.get t := fun t ht => by
    rw [get_fin, if_neg (ne1 t ht)]
    exact t1 _ (fun r hr => inI t ht r (hi t r hr))
  have gA := (evalO_grown ea1).1.ct
  have sm1 : Sm (fun r => r ∈ fa.wr ∨ (fa.hw = true ∧ r.isO = true)) (!fa.hw) (c.1.fin a.dst va ka).wk c.1.wk := by
    refine ⟨fun r hr => ?_, fun q => ?_, rfl, rfl, fun q n => .inr ⟨by simpa using q, rfl⟩⟩
    · cases r with
      | l n j =>
        have : Root.l n j ∉ newKeys c.1.wk ka := fun hx => hr (.inl (by rw [wrA]; exact List.mem_append_left _ hx))
        simp only [Wk.get, Go.Am.cont]
        exact (newKeys_get gA n j this).symm
      | o n =>
        have : fa.hw = false := by cases hw : fa.hw with | false => rfl | true => exact absurd (.inr ⟨hw, rfl⟩) hr
        simp only [Wk.get, Go.Am.cont, St.wk, St.fin, (t3 this).1]
    · exact (t3 (by simpa using q)).1.symm
  obtain ⟨ki', ei2, p1⟩ := evalO_sim sm1 (fun t ht => (getI t ht).symm) (fun q => (noI (by simpa using q)).1) (fun hrd _ t ht r hr hz => by
    have hrI := inIc hrd t ht r hr
    rcases hz with hz | ⟨q, hz⟩
    · exact m1 r hrI hz
    · have := List.any_eq_false.1 (noI q).2.1 r hrI; rw [hz] at this; simp at this) ei1
  have fpi : fpOf h ops i c.2 c.1 wi vi ki' = fi := by
    rw [hfi]
    exact fpOf_congr (c := (c.1.fin a.dst va ka, histAdd c.2 ka.tr a.dst va.srts)) (d := c) (fun t ht => (getI t ht).symm) (fun t ht => by simp only; rw [hist_add, if_neg (ne1 t ht), t2 _ (inI t ht)]) p1.keys p1.tr
  -- a behind it
  have st2 := stays (L := fa.rd) ei2 (fun r hr => by rw [fpi]; exact m3 r hr) (fun q => by rw [fpi] at q; exact (noA q).2.1)
  rw [fpi] at st2
  obtain ⟨u1, u2, u3⟩ := st2
  have getA : ∀ t ∈ looks ops a, (c.1.fin i.dst vi ki').get t = c.1.get t := fun t ht => by
    rw [get_fin, if_neg (ne2 t ht)]
    exact u1 _ (fun r hr => inA t ht r (hi t r hr))
  have gI := (evalO_grown ei2).1.ct
  have wrI' : fi.wr = newKeys c.1.wk ki' ++ ki'.tr.flatMap Tr.rts := by rw [← fpi]; rfl
  have sm2 : Sm (fun r => r ∈ fi.wr ∨ (fi.hw = true ∧ r.isO = true)) (!fi.hw) c.1.wk (c.1.fin i.dst vi ki').wk := by
    refine ⟨fun r hr => ?_, fun q => ?_, rfl, rfl, fun q n => .inr ⟨by simpa using q, rfl⟩⟩
    · cases r with
      | l n j =>
        have : Root.l n j ∉ newKeys c.1.wk ki' := fun hx => hr (.inl (by rw [wrI']; exact List.mem_append_left _ hx))
        simp only [Wk.get, Go.Am.cont]
        exact newKeys_get gI n j this
      | o n =>
        have : fi.hw = false := by cases hw : fi.hw with | false => rfl | true => exact absurd (.inr ⟨hw, rfl⟩) hr
        simp only [Wk.get, Go.Am.cont, St.wk, St.fin, (u3 this).1]
    · exact (u3 (by simpa using q)).1
  obtain ⟨ka', ea2, p2⟩ := evalO_sim sm2 getA (fun q => (noA (by simpa using q)).1) (fun hrd _ t ht r hr hz => by
    have hrA := inAc hrd t ht r hr
    rcases hz with hz | ⟨q, hz⟩
    · exact m3 r hrA hz
    · have := List.any_eq_false.1 (noA q).2.1 r hrA; rw [hz] at this; simp at this) ea1
  have fpa : fpOf h ops a (histAdd c.2 ki'.tr i.dst vi.srts) (c.1.fin i.dst vi ki') wa va ka' = fa := by
    rw [hfa]
    exact fpOf_congr (c := c) (d := (c.1.fin i.dst vi ki', histAdd c.2 ki'.tr i.dst vi.srts)) getA (fun t ht => by simp only; rw [hist_add, if_neg (ne2 t ht), u2 _ (inA t ht)]) p2.keys p2.tr
  -- what is told
  have vi1 : trv ka.tr vi = vi := t1 _ inIv
  have va1 : trv ki'.tr va = va := u1 _ inAv
  have told : ∀ x ∈ ki.tr, ∀ y ∈ ka.tr, (∀ r ∈ x.rts, r ∉ y.rts) ∧ (x.isKillO = true → y.rts.any Root.isO = false) ∧ (y.isKillO = true → x.rts.any Root.isO = false) := fun x hx y hy => by
    have hxw : ∀ r ∈ x.rts, r ∈ fi.wr := fun r hr => by rw [wrI]; exact List.mem_append_right _ (List.mem_flatMap.2 ⟨x, hx, hr⟩)
    have hyw : ∀ r ∈ y.rts, r ∈ fa.wr := fun r hr => by rw [wrA]; exact List.mem_append_right _ (List.mem_flatMap.2 ⟨y, hy, hr⟩)
    refine ⟨fun r h1 h2 => m2 r (hxw r h1) (hyw r h2), fun q => ?_, fun q => ?_⟩
    · have hw : fi.hw = true := by
        cases hw : fi.hw with
        | true => rfl
        | false =>
          have := (u3 hw).2
          rw [p1.tr] at this
          have := List.any_eq_false.1 this x hx
          rw [q] at this; simp at this
      exact List.any_eq_false.2 fun r hr => List.any_eq_false.1 (noA hw).2.2.1 r (hyw r hr)
    · have hw : fa.hw = true := by
        cases hw : fa.hw with
        | true => rfl
        | false =>
          have := List.any_eq_false.1 (t3 hw).2 y hy
          rw [q] at this; simp at this
      exact List.any_eq_false.2 fun r hr => List.any_eq_false.1 (noI hw).2.2.1 r (hxw r hr)
  have rens : ka.tr.any Tr.isRen = false ∨ ki.tr.any Tr.isRen = false := by
    have e1 : fa.ren = ka.tr.any Tr.isRen := by rw [hfa]; rfl
    have e2 : fi.ren = ki.tr.any Tr.isRen := by rw [hfi]; rfl
    rw [← e1, ← e2]; exact rn
  refine ⟨_, _, (runOpF_mk ei2).trans (congrArg some (Prod.ext (by rw [histV_plain hmI]) fpi)), (runOpF_mk (c := (c.1.fin i.dst vi ki', histAdd c.2 ki'.tr i.dst vi.srts)) ea2).trans (congrArg some (Prod.ext (by rw [histV_plain hmA]) fpa)), fun t => ?_, fun x => ?_, ?_, fun t => ?_⟩
  · simp only [get_fin, p1.tr, p2.tr]
    by_cases h1 : a.dst = some t
    · rw [if_pos h1, if_neg (ne3 t h1), if_pos h1, ← p1.tr, va1]
    · rw [if_neg h1, if_neg h1]
      by_cases h2 : i.dst = some t
      · rw [if_pos h2, if_pos h2, vi1]
      · rw [if_neg h2, if_neg h2]
        exact (trv_comm _ _ _ told).symm
  · obtain ⟨pi, q1, q2⟩ := p1.ct
    obtain ⟨pa, q3, q4⟩ := p2.ct
    show lookR ka'.ct x = lookR ki.ct x
    rw [q1, q4]
    show lookR (pa ++ ki'.ct) x = lookR (pi ++ ka.ct) x
    rw [q2, q3, lookR_app, lookR_app, lookR_app, lookR_app]
    obtain ⟨n, j⟩ := x
    by_cases hk : Root.l n j ∈ pa.map fun p => Root.l p.1.1 p.1.2
    · have h1 : Root.l n j ∈ fa.wr := by rw [wrA, newKeys_pre q3]; exact List.mem_append_left _ hk
      have h2 : Root.l n j ∉ pi.map fun p => Root.l p.1.1 p.1.2 := fun hx => m2 _ (by rw [wrI, newKeys_pre q1]; exact List.mem_append_left _ hx) h1
      rw [lookR_none h2]; simp
    · rw [lookR_none hk]; simp
  · show ka'.H = ki.H
    cases hwa : fa.hw with
    | true =>
      have hb : (!fa.hw) = false := by rw [hwa]; rfl
      have hb2 : (!fi.hw) = true := by rw [(w1 hwa).2]; rfl
      rw [p2.H hb2]
      exact (p1.Hs hb).1.symm
    | false =>
      have hb : (!fa.hw) = true := by rw [hwa]; rfl
      have h1 := p1.H hb
      cases hwi : fi.hw with
      | true =>
        have hb2 : (!fi.hw) = false := by rw [hwi]; rfl
        rw [(p2.Hs hb2).2]; exact h1
      | false =>
        have hb2 : (!fi.hw) = true := by rw [hwi]; rfl
        rw [p2.H hb2, ← h1, (t3 hwa).1, (u3 hwi).1]
  · simp only [hist_add, p1.tr, p2.tr]
    by_cases h1 : a.dst = some t
    · rw [if_pos h1, if_neg (ne3 t h1), if_pos h1, ← p1.tr, u2 _ inAv]
    · rw [if_neg h1, if_neg h1]
      by_cases h2 : i.dst = some t
      · rw [if_pos h2, if_pos h2, t2 _ inIv]
      · rw [if_neg h2, if_neg h2]
        exact histTr_comm _ _ _ rens
theorem sv_d' (x : Tr) {y : D} : x.sv (.d y) = .d y := by cases x <;> rfl
theorem sv_tup0 (x : Tr) : x.sv (.tup []) = .tup [] := by cases x <;> rfl
theorem sv_bool_back (x : Tr) {u : SV} {b : Bool} (h : x.sv u = .d (.bool b)) : u = .d (.bool b) := by
  cases u with
  | d y => rw [sv_d'] at h; exact h
  | bor r p o l =>
    cases x <;> simp only [Tr.sv] at h <;> (repeat' split at h) <;> cases h
  | loc r p i o =>
    cases x <;> simp only [Tr.sv] at h <;> (repeat' split at h) <;> cases h
  | _ => cases x <;> simp only [Tr.sv] at h <;> cases h
theorem sv_tup_back (x : Tr) {u : SV} (h : x.sv u = .tup []) : u = .tup [] := by
  cases u with
  | d y => rw [sv_d'] at h; exact h
  | bor r p o l =>
    cases x <;> simp only [Tr.sv] at h <;> (repeat' split at h) <;> cases h
  | loc r p i o =>
    cases x <;> simp only [Tr.sv] at h <;> (repeat' split at h) <;> cases h
  | tup l =>
    have : x.sv (.tup l) = .tup (Tr.svs x l) := by cases x <;> rfl
    rw [this] at h
    cases l with
    | nil => rfl
    | cons a r => simp [Tr.svs] at h
  | _ => cases x <;> simp only [Tr.sv] at h <;> cases h
theorem trv_bool_back : ∀ (l : List Tr) {u : SV} {b : Bool}, trv l u = .d (.bool b) → u = .d (.bool b)
  | [], _, _, h => h
  | x :: l, _, _, h => sv_bool_back x (trv_bool_back l h)
theorem trv_tup_back : ∀ (l : List Tr) {u : SV}, trv l u = .tup [] → u = .tup []
  | [], _, h => h
  | x :: l, _, h => sv_tup_back x (trv_tup_back l h)
theorem wantE_back {s : St} {o : Oper} {w : Bool} {d : Option Nat} {v : SV} {k : Wk} (e : wantE ops (s.fin d v k) o = some w) (hd : ∀ t ∈ looks ops o, d ≠ some t) : wantE ops s o = some w := by
  unfold wantE looks at *
  cases hg : o.guard with
  | none => try rw [hg] at e
            try rw [hg]
            exact e
  | some p =>
    obtain ⟨j, want⟩ := p
    try rw [hg] at e
    try rw [hg] at hd
    try rw [hg]
    simp only at e hd ⊢
    cases hj : (ops[j]?).bind (·.dst) with
    | none => (try rw [hj] at e); cases e
    | some t =>
      try rw [hj] at e
      try rw [hj] at hd
      simp only at e ⊢
      have ht : (s.fin d v k).get t = trv k.tr (s.get t) := by rw [get_fin, if_neg (hd t (by simp))]
      rw [ht] at e
      split at e
      · rename_i b hb; rw [trv_bool_back _ hb]; exact e
      · rename_i hb; rw [trv_tup_back _ hb]; exact e
      · cases e
theorem wantE_fin {s : St} {o : Oper} {w : Bool} {d : Option Nat} {v : SV} {k : Wk} (e : wantE ops s o = some w) (hd : ∀ t ∈ looks ops o, d ≠ some t) : wantE ops (s.fin d v k) o = some w := by
  unfold wantE looks at *
  cases hg : o.guard with
  | none => try rw [hg] at e
            try rw [hg]
            exact e
  | some p =>
    obtain ⟨j, want⟩ := p
    try rw [hg] at e
    try rw [hg] at hd
    try rw [hg]
    simp only at e hd ⊢
    cases hj : (ops[j]?).bind (·.dst) with
    | none => (try rw [hj] at e); cases e
    | some t =>
      try rw [hj] at e
      try rw [hj] at hd
      simp only at e ⊢
      have ht : (s.fin d v k).get t = trv k.tr (s.get t) := by rw [get_fin, if_neg (hd t (by simp))]
      have hb : ∀ (l : List Tr) (b : Bool), trv l (.d (.bool b)) = .d (.bool b) := fun l b => by induction l with | nil => rfl | cons x l ih => simp only [trv, sv_d' x]; exact ih
      have hu : ∀ (l : List Tr), trv l (.tup []) = .tup [] := fun l => by induction l with | nil => rfl | cons x l ih => simp only [trv]; rw [sv_tup0 x]; exact ih
      rw [ht]
      split at e
      · rename_i b hb'; rw [hb', hb]; exact e
      · rename_i hb'; rw [hb', hu]; exact e
      · cases e
theorem move_fp {o : Oper} {hi : Hist} {s : St} {w : Bool} {v : SV} (hm : isMove o.op = true) : fpOf h ops o hi s w v s.wk = ⟨looks ops o, o.dst, [], [], false, false, false, none, [], none, []⟩ := by
  obtain ⟨t, ht⟩ := isMove_iff hm
  have hm' := hm
  rw [ht] at hm'
  simp [fpOf, ht, isMove, newKeys, St.wk, hrOf, effOf, rxOf, wxOf, sxOf, oxOf]
theorem swapA {a i : Oper} {c c1 c2 : Cf} {fa fi : Fp} (hmA : isMove a.op = true) (ea : runOpF P call h ops a c = some (c1, fa)) (ei : runOpF P call h ops i c1 = some (c2, fi)) (hp : apartB fa fi = true) :
    ∃ d1 d2, runOpF P call h ops i c = some (d1, fi) ∧ runOpF P call h ops a d1 = some (d2, fa) ∧ Eqv c2 d2 := by
  obtain ⟨wa, va, ka, ea1, rfl, hfa⟩ := runOpF_some ea
  obtain ⟨wi, vi, ki, ei1, rfl, hfi⟩ := runOpF_some ei
  obtain ⟨s1, s2, s3, _⟩ := apart_spec hp
  have da : fa.dst = a.dst := by rw [hfa]; rfl
  have di : fi.dst = i.dst := by rw [hfi]; rfl
  have la : fa.sl = looks ops a := by rw [hfa]; rfl
  have li : fi.sl = looks ops i := by rw [hfi]; rfl
  have ne1 : ∀ t ∈ looks ops i, a.dst ≠ some t := fun t ht e => s1 t (da.trans e) (by rw [li]; exact ht)
  have ne2 : ∀ t ∈ looks ops a, i.dst ≠ some t := fun t ht e => s3 t (di.trans e) (by rw [la]; exact ht)
  have ne3 : ∀ t, a.dst = some t → i.dst ≠ some t := fun t e q => s2 t (da.trans e) (di.trans q)
  obtain ⟨t0, ht0⟩ := isMove_iff hmA
  obtain ⟨hw, hv, rfl⟩ := (evalO_move ht0).1 ea1
  have hlook : t0 ∈ looks ops a := looks_tmp (by rw [ht0]; simp [tmpsOf, Op.operands, opndTmp])
  have h0 : ∀ t, trv ([] : List Tr) t = t := fun _ => rfl
  simp only at ei1 hfi
  have gI : ∀ t ∈ looks ops i, c.1.get t = (c.1.fin a.dst va c.1.wk).get t := fun t ht => by rw [get_fin, if_neg (ne1 t ht)]; rfl
  have ei2 : evalO P call h ops i c.1 = some (wi, vi, ki) := by
    rw [← ei1]
    exact evalO_congr gI rfl rfl
  have fpi : fpOf h ops i c.2 c.1 wi vi ki = fi := by
    rw [hfi]
    exact fpOf_congr (c := (c.1.fin a.dst va c.1.wk, histAdd c.2 c.1.wk.tr a.dst (histV a.op c.2 va))) (d := c) gI (fun t ht => by simp only; rw [hist_add, if_neg (ne1 t ht)]; rfl) rfl rfl
  have hvi : histV i.op (histAdd c.2 c.1.wk.tr a.dst (histV a.op c.2 va)) vi = histV i.op c.2 vi := by
    cases hm : isMove i.op with
    | false => rw [histV_plain hm, histV_plain hm]
    | true =>
      obtain ⟨u, hu⟩ := isMove_iff hm
      rw [hu]
      show histOf _ u = histOf _ u
      rw [hist_add, if_neg (ne1 u (looks_tmp (by rw [hu]; simp [tmpsOf, Op.operands, opndTmp])))]; rfl
  have hsv : (if wa = true then (c.1.fin i.dst vi ki).get t0 else .tup []) = trv ki.tr va := by
    rw [hv]
    cases wa with
    | true => rw [if_pos rfl, if_pos rfl, get_fin, if_neg (ne2 t0 hlook)]
    | false =>
      have hu : ∀ (l : List Tr), trv l (.tup []) = .tup [] := fun l => by induction l with | nil => rfl | cons x l ih => simp only [trv]; rw [sv_tup0 x]; exact ih
      rw [if_neg (by simp), if_neg (by simp), hu]
  have ea2 : evalO P call h ops a (c.1.fin i.dst vi ki) = some (wa, trv ki.tr va, (c.1.fin i.dst vi ki).wk) := (evalO_move ht0).2 ⟨wantE_fin hw ne2, hsv.symm, rfl⟩
  refine ⟨_, _, (runOpF_mk ei2).trans (congrArg some (Prod.ext rfl fpi)), (runOpF_mk (c := (c.1.fin i.dst vi ki, histAdd c.2 ki.tr i.dst (histV i.op c.2 vi))) ea2).trans (congrArg some (Prod.ext rfl ?_)), fun t => ?_, fun x => rfl, rfl, fun t => ?_⟩
  · rw [hfa]; simp only; rw [move_fp hmA, move_fp hmA]
  · simp only [get_fin]
    by_cases h1 : a.dst = some t
    · rw [if_pos h1, if_neg (ne3 t h1), if_pos h1]
    · rw [if_neg h1, if_neg h1]; rfl
  · simp only [hist_add, hvi]
    by_cases h1 : a.dst = some t
    · rw [if_pos h1, if_neg (ne3 t h1), if_pos h1, ht0]
      show histOf _ t0 = histTr ki.tr (histOf c.2 t0)
      rw [hist_add, if_neg (ne2 t0 hlook)]
    · rw [if_neg h1, if_neg h1]; rfl
theorem swapI {a i : Oper} {c c1 c2 : Cf} {fa fi : Fp} (hmI : isMove i.op = true) (ea : runOpF P call h ops a c = some (c1, fa)) (ei : runOpF P call h ops i c1 = some (c2, fi)) (hp : apartB fa fi = true) :
    ∃ d1 d2, runOpF P call h ops i c = some (d1, fi) ∧ runOpF P call h ops a d1 = some (d2, fa) ∧ Eqv c2 d2 := by
  obtain ⟨wa, va, ka, ea1, rfl, hfa⟩ := runOpF_some ea
  obtain ⟨wi, vi, ki, ei1, rfl, hfi⟩ := runOpF_some ei
  obtain ⟨s1, s2, s3, _⟩ := apart_spec hp
  have da : fa.dst = a.dst := by rw [hfa]; rfl
  have di : fi.dst = i.dst := by rw [hfi]; rfl
  have la : fa.sl = looks ops a := by rw [hfa]; rfl
  have li : fi.sl = looks ops i := by rw [hfi]; rfl
  have ne1 : ∀ t ∈ looks ops i, a.dst ≠ some t := fun t ht e => s1 t (da.trans e) (by rw [li]; exact ht)
  have ne2 : ∀ t ∈ looks ops a, i.dst ≠ some t := fun t ht e => s3 t (di.trans e) (by rw [la]; exact ht)
  have ne3 : ∀ t, a.dst = some t → i.dst ≠ some t := fun t e q => s2 t (da.trans e) (di.trans q)
  obtain ⟨t0, ht0⟩ := isMove_iff hmI
  simp only at ei1 hfi
  obtain ⟨hw, hv, rfl⟩ := (evalO_move ht0).1 ei1
  have hlook : t0 ∈ looks ops i := looks_tmp (by rw [ht0]; simp [tmpsOf, Op.operands, opndTmp])
  have hb : ∀ (l : List Tr) (b : Bool), trv l (.d (.bool b)) = .d (.bool b) := fun l b => by induction l with | nil => rfl | cons x l ih => simp only [trv, sv_d' x]; exact ih
  have hu : ∀ (l : List Tr), trv l (.tup []) = .tup [] := fun l => by induction l with | nil => rfl | cons x l ih => simp only [trv]; rw [sv_tup0 x]; exact ih
  have hw0 : wantE ops c.1 i = some wi := wantE_back hw ne1
  have ei2 : evalO P call h ops i c.1 = some (wi, (if wi = true then c.1.get t0 else .tup []), c.1.wk) := (evalO_move ht0).2 ⟨hw0, rfl, rfl⟩
  have hvi : vi = trv ka.tr (if wi = true then c.1.get t0 else .tup []) := by
    rw [hv]
    cases wi with
    | true => rw [if_pos rfl, if_pos rfl, get_fin, if_neg (ne1 t0 hlook)]
    | false => rw [if_neg (by simp), if_neg (by simp), hu]
  generalize (if wi = true then c.1.get t0 else .tup []) = v0 at ei2 hvi
  subst hvi
  have gA : ∀ t ∈ looks ops a, (c.1.fin i.dst v0 c.1.wk).get t = c.1.get t := fun t ht => by rw [get_fin, if_neg (ne2 t ht)]; rfl
  have ea2 : evalO P call h ops a (c.1.fin i.dst v0 c.1.wk) = some (wa, va, ka) := by
    rw [← ea1]
    exact evalO_congr gA rfl rfl
  have hva : histV a.op (histAdd c.2 c.1.wk.tr i.dst (histV i.op c.2 v0)) va = histV a.op c.2 va := by
    cases hm : isMove a.op with
    | false => rw [histV_plain hm, histV_plain hm]
    | true =>
      obtain ⟨u, hu⟩ := isMove_iff hm
      rw [hu]
      show histOf _ u = histOf _ u
      rw [hist_add, if_neg (ne2 u (looks_tmp (by rw [hu]; simp [tmpsOf, Op.operands, opndTmp])))]; rfl
  refine ⟨_, _, (runOpF_mk ei2).trans (congrArg some (Prod.ext rfl ?_)), (runOpF_mk (c := (c.1.fin i.dst v0 c.1.wk, histAdd c.2 c.1.wk.tr i.dst (histV i.op c.2 v0))) ea2).trans (congrArg some (Prod.ext rfl ?_)), fun t => ?_, fun x => rfl, rfl, fun t => ?_⟩
  · rw [hfi]; simp only; rw [move_fp hmI, move_fp hmI]
  · rw [hfa]
    exact fpOf_congr (c := c) (d := (c.1.fin i.dst v0 c.1.wk, histAdd c.2 c.1.wk.tr i.dst (histV i.op c.2 v0))) gA (fun t ht => by simp only; rw [hist_add, if_neg (ne2 t ht)]; rfl) rfl rfl
  · simp only [get_fin]
    by_cases h1 : a.dst = some t
    · rw [if_pos h1, if_neg (ne3 t h1), if_pos h1]; rfl
    · rw [if_neg h1, if_neg h1]
      by_cases h2 : i.dst = some t
      · rw [if_pos h2, if_pos h2]
      · rw [if_neg h2, if_neg h2]; rfl
  · simp only [hist_add, hva]
    by_cases h1 : a.dst = some t
    · rw [if_pos h1, if_neg (ne3 t h1), if_pos h1]; rfl
    · rw [if_neg h1, if_neg h1]
      by_cases h2 : i.dst = some t
      · rw [if_pos h2, if_pos h2, ht0]
        show histTr ka.tr (histOf c.2 t0) = histOf _ t0
        rw [hist_add, if_neg (ne1 t0 hlook)]
      · rw [if_neg h2, if_neg h2]; rfl
theorem trv_kills {r : Root} {q : Path} : ∀ (tr : List Tr) (u : SV), u.unhurt r q = true → (∀ x ∈ tr, x = .kill r q ∨ (∀ r' ∈ x.rts, r' ∉ u.srts) ∧ x.isKillO = false) → trv tr u = u
  | [], _, _, _ => rfl
  | x :: tr, u, hu, hx => by
    have e : x.sv u = u := by
      rcases hx x (by simp) with rfl | ⟨h1, h2⟩
      · exact unhurt_sv u hu
      · exact Tr.sv_id x u (fun r hr hx => h1 r hx hr) (fun q => by rw [h2] at q; cases q)
    simp only [trv, e]
    exact trv_kills tr u hu fun y hy => hx y (List.mem_cons_of_mem _ hy)
theorem kill_loc_back {r : Root} {p : Path} {v : SV} {r0 : Root} {p0 : Path} {i0 o0 : Nat} (h : asLoc ((Tr.kill r p).sv v) = .loc r0 p0 i0 o0) : v = (Tr.kill r p).sv v := by
  cases v with
  | bor r' p' o n =>
    simp only [Tr.sv] at h ⊢
    repeat' split at h
    all_goals first | (simp [asLoc] at h; done) | skip
  | loc r' p' i o =>
    simp only [Tr.sv] at h ⊢
    repeat' split at h
    all_goals first | (simp [asLoc] at h; done) | skip
    all_goals (repeat' split) <;> first | rfl | contradiction
  | agg l => simp [Tr.sv, asLoc] at h
  | tup l => simp [Tr.sv, asLoc] at h
  | _ => rfl
theorem kills_loc_back : ∀ (tr : List Tr) {v : SV} {r0 : Root} {p0 : Path} {i0 o0 : Nat}, (∀ x ∈ tr, ∃ r p, x = .kill r p) → asLoc (trv tr v) = .loc r0 p0 i0 o0 → v = trv tr v
  | [], _, _, _, _, _, _, _ => rfl
  | x :: tr, v, r0, p0, i0, o0, hk, h => by
    obtain ⟨r, p, rfl⟩ := hk x (by simp)
    have e1 := kills_loc_back tr (v := (Tr.kill r p).sv v) (fun y hy => hk y (List.mem_cons_of_mem _ hy)) h
    have h' : asLoc ((Tr.kill r p).sv v) = .loc r0 p0 i0 o0 := by rw [e1]; exact h
    have e2 := kill_loc_back h'
    show v = trv tr ((Tr.kill r p).sv v)
    rw [← e1]; exact e2
theorem tmpsOf_mem {op : Op} {t : Nat} (ht : t ∈ tmpsOf op) : .tmp t ∈ op.operands := by
  simp only [tmpsOf, List.mem_filterMap] at ht
  obtain ⟨x, h1, h2⟩ := ht
  cases x <;> simp only [opndTmp, Option.some.injEq, reduceCtorEq] at h2
  subst h2; simpa using h1
theorem rx_op {op : Op} {σ : Operand → SV} {v : SV} {R : Root × Path × Nat × Nat × Nat} (hx : rxOf op σ v = some R) {dst : Nat} {ty : TypeId} {k k' : Wk} (e : stepE P call h dst ty op σ k = some (v, k')) : k' = k ∧ isMove op = false ∧ ∃ a, (∀ x ∈ op.operands, x = a) ∧ ∃ r p i o, asLoc (σ a) = .loc r p i o := by
  unfold rxOf at hx
  split at hx
  · rename_i t a
    have e' : (loadE P t (σ a) k).map (·, k) = some (v, k') := e
    simp only [Option.map_eq_some_iff, Prod.mk.injEq] at e'
    obtain ⟨u, h1, _, rfl⟩ := e'
    refine ⟨rfl, rfl, a, by simp [Op.operands], ?_⟩
    split at hx <;> first | (cases hx; done) | exact ⟨_, _, _, _, ‹_›⟩
  · rename_i t a f
    have e' : (fieldAddrE P t (σ a) f k).map (·, k) = some (v, k') := e
    simp only [Option.map_eq_some_iff, Prod.mk.injEq] at e'
    obtain ⟨u, h1, hu, rfl⟩ := e'
    refine ⟨rfl, rfl, a, by simp [Op.operands], ?_⟩
    split at hx
    · subst hu
      simp only [fieldAddrE, Option.bind_eq_some_iff] at h1
      obtain ⟨⟨o, n, b⟩, g1, g2⟩ := h1
      simp only at g2
      split at g2
      · split at g2
        · exact ⟨_, _, _, _, ‹_›⟩
        · cases g2
        · cases g2
      · cases g2
    · cases hx
  · cases hx
theorem wx_op {op : Op} {σ : Operand → SV} {r : Root} {q : Path} (hx : wxOf op σ = some (r, q)) {v : SV} {dst : Nat} {ty : TypeId} {k k' : Wk} (e : stepE P call h dst ty op σ k = some (v, k')) : isMove op = false ∧ ∃ t o n x, appendE P h.nv dst t (.bor r q o n) x k = some (v, k') := by
  unfold wxOf at hx
  split at hx
  · rename_i args ats
    split at hx
    · rename_i x y hl
      split at hx
      · rename_i r' p' o n hs
        simp only [Option.some.injEq, Prod.mk.injEq] at hx
        obtain ⟨rfl, rfl⟩ := hx
        refine ⟨rfl, ?_⟩
        unfold stepE at e
        simp only [opE, hl] at e
        split at e
        · rename_i x' y' t u hxy htu
          simp only [List.cons.injEq, and_true] at hxy
          obtain ⟨rfl, rfl⟩ := hxy
          split at e
          · exact ⟨_, o, n, _, by rw [← hs]; exact e⟩
          · cases e
        · cases e
      · cases hx
    · cases hx
  · cases hx
theorem wx_spec {k k' : Wk} {r : Root} {q : Path} {t : TypeId} {nv dst o n : Nat} {x v : SV} (htr : k.tr = []) (e : appendE P nv dst t (.bor r q o n) x k = some (v, k')) {r0 : Root} {p : Path} {i off kd : Nat} (hs : r0 = r → sepL kd p i off q = true) (ho : r0 ∉ oxOf (some (r, q)) k'.tr) :
    Same1 kd r0 p i off k k' ∧ (∀ x ∈ k'.tr, ∃ r p, x = .kill r p) ∧ ∀ u : SV, u.unhurt r q = true → (∀ r' ∈ u.srts, r' ∉ oxOf (some (r, q)) k'.tr) → trv k'.tr u = u := by
  obtain ⟨T1, c, c', h1, h2, h3, h4, h5⟩ := append_eff htr e
  have hk : ∀ x ∈ k'.tr, ∃ r p, x = .kill r p := fun y hy => by
    rw [h3] at hy
    simp only [List.mem_append, List.mem_cons, List.not_mem_nil, or_false] at hy
    rcases hy with hy | rfl | rfl
    · obtain ⟨n, j, rfl, _⟩ := h4 y hy; exact ⟨_, _, rfl⟩
    · exact ⟨_, _, rfl⟩
    · exact ⟨_, _, rfl⟩
  have hin : ∀ x ∈ k'.tr, x = .kill r q ∨ ∀ r' ∈ x.rts, r' ∈ oxOf (some (r, q)) k'.tr := fun y hy => by
    obtain ⟨r1, p1, rfl⟩ := hk y hy
    by_cases e1 : r1 = r ∧ p1 = q
    · obtain ⟨rfl, rfl⟩ := e1; exact .inl rfl
    · refine .inr fun r' hr' => ?_
      refine List.mem_flatMap.2 ⟨_, List.mem_filter.2 ⟨hy, ?_⟩, hr'⟩
      simp only [Tr.killAt, Bool.not_eq_true', Bool.and_eq_false_iff, decide_eq_false_iff_not]
      by_cases e2 : r1 = r
      · exact .inr fun e3 => e1 ⟨e2, e3⟩
      · exact .inl e2
  refine ⟨?_, hk, fun u hu hm => trv_kills _ u hu fun y hy => ?_⟩
  · have n1 : r0 ≠ .l dst 0 := by
      rintro rfl
      rcases hin (.kill (.l dst 0) []) (by rw [h3]; simp) with e1 | e1
      · simp only [Tr.kill.injEq] at e1
        obtain ⟨rfl, rfl⟩ := e1
        have := hs rfl
        cases p <;> simp [sepL] at this
      · exact ho (e1 _ (by simp [Tr.rts]))
    have n2 : r0 ∉ T1.flatMap Tr.rts := fun hx => by
      obtain ⟨y, hy, hr⟩ := List.mem_flatMap.1 hx
      rcases hin y (by rw [h3]; simp [hy]) with e1 | e1
      · obtain ⟨n, j, e2, e3⟩ := h4 y hy
        rw [e1] at e2
        simp only [Tr.kill.injEq] at e2
        exact e3 e2.1.symm
      · exact ho (e1 _ hr)
    unfold Same1
    rw [h5 r0 n1 n2]
    by_cases e1 : r0 = r
    · subst e1
      rw [if_pos rfl, h1]
      exact put_rel p c c' q h2 (hs rfl)
    · rw [if_neg e1]; exact .inl rfl
  · rcases hin y hy with e1 | e1
    · exact .inl e1
    · refine .inr ⟨fun r' hr' hm' => hm r' hm' (e1 r' hr'), ?_⟩
      obtain ⟨r1, p1, rfl⟩ := hk y hy
      rfl
theorem apartX_spec {x y : Fp} (hp : apartX x y = true) : (∀ d, x.dst = some d → d ∉ y.sl) ∧ (∀ d, x.dst = some d → y.dst ≠ some d) ∧ (∀ d, y.dst = some d → d ∉ x.sl) ∧ y.ren = false ∧
    ∃ r0 p i off kd r q, x.rx = some (r0, p, i, off, kd) ∧ y.wx = some (r, q) ∧ (r0 = r → sepL kd p i off q = true) ∧ r0 ∉ y.ox ∧ ∀ u ∈ x.sx, u.unhurt r q = true ∧ ∀ r' ∈ u.srts, r' ∉ y.ox := by
  simp only [apartX, Bool.and_eq_true, Bool.not_eq_true'] at hp
  obtain ⟨⟨⟨h1, h2⟩, h3⟩, h4⟩ := hp
  refine ⟨fun d hd => ?_, fun d hd => ?_, fun d hd => ?_, h3, ?_⟩
  · rw [hd] at h1; simp at h1; exact h1.1
  · rw [hd] at h1; simp at h1; exact fun e => h1.2 e
  · rw [hd] at h2; simp at h2; exact h2
  · split at h4
    · rename_i r0 p i off kd r q hx hy
      simp only [Bool.and_eq_true, Bool.or_eq_true, decide_eq_true_eq, Bool.not_eq_true', List.all_eq_true] at h4
      obtain ⟨⟨g1, g2⟩, g3⟩ := h4
      refine ⟨r0, p, i, off, kd, r, q, hx, hy, fun e => g1.resolve_left fun n => n e, by simpa using g2, fun u hu => ⟨(g3 u hu).1, mem_meet (g3 u hu).2⟩⟩
    · cases h4
theorem trv_wantE {s s2 : St} {o : Oper} {w : Bool} {tr : List Tr} (e : wantE ops s o = some w) (hg : ∀ t ∈ looks ops o, s2.get t = trv tr (s.get t)) (ht : ∀ t ∈ tmpsOf o.op, trv tr (s.get t) = s.get t) : ∀ t ∈ looks ops o, s2.get t = s.get t := fun t hm => by
  have hb : ∀ (l : List Tr) (b : Bool), trv l (.d (.bool b)) = .d (.bool b) := fun l b => by induction l with | nil => rfl | cons x l ih => simp only [trv, sv_d' x]; exact ih
  have hu : ∀ (l : List Tr), trv l (.tup []) = .tup [] := fun l => by induction l with | nil => rfl | cons x l ih => simp only [trv]; rw [sv_tup0 x]; exact ih
  rw [hg t hm]
  rcases List.mem_append.1 hm with h1 | h1
  · exact ht t h1
  · unfold wantE at e
    cases hg : o.guard with
    | none => rw [hg] at h1; cases h1
    | some p =>
      obtain ⟨j, want⟩ := p
      rw [hg] at h1
      try rw [hg] at e
      simp only at h1 e
      cases hj : (ops[j]?).bind (·.dst) with
      | none => rw [hj] at h1; cases h1
      | some t1 =>
        rw [hj] at h1
        try rw [hj] at e
        simp only [Option.toList, List.mem_singleton] at h1 e
        subst h1
        split at e
        · rename_i b hb'; rw [hb', hb]
        · rename_i hb'; rw [hb', hu]
        · cases e
theorem swapX {a i : Oper} {c c1 c2 : Cf} {fa fi : Fp} (ea : runOpF P call h ops a c = some (c1, fa)) (ei : runOpF P call h ops i c1 = some (c2, fi)) (hp : apartX fa fi = true) :
    ∃ d1 d2, runOpF P call h ops i c = some (d1, fi) ∧ runOpF P call h ops a d1 = some (d2, fa) ∧ Eqv c2 d2 := by
  obtain ⟨wa, va, ka, ea1, rfl, hfa⟩ := runOpF_some ea
  obtain ⟨wi, vi, ki, ei1, rfl, hfi⟩ := runOpF_some ei
  obtain ⟨s1, s2, s3, rn, r0, p, ix, off, kd, r, q, hx, hy, hsep, hox, hsx⟩ := apartX_spec hp
  have da : fa.dst = a.dst := by rw [hfa]; rfl
  have di : fi.dst = i.dst := by rw [hfi]; rfl
  have la : fa.sl = looks ops a := by rw [hfa]; rfl
  have li : fi.sl = looks ops i := by rw [hfi]; rfl
  have ne1 : ∀ t ∈ looks ops i, a.dst ≠ some t := fun t ht e => s1 t (da.trans e) (by rw [li]; exact ht)
  have ne2 : ∀ t ∈ looks ops a, i.dst ≠ some t := fun t ht e => s3 t (di.trans e) (by rw [la]; exact ht)
  have ne3 : ∀ t, a.dst = some t → i.dst ≠ some t := fun t e q => s2 t (da.trans e) (di.trans q)
  have hxa : fa.rx = if wa = true then rxOf a.op c.1.val va else none := by rw [hfa]; rfl
  have hyi : fi.wx = if wi = true then wxOf i.op (c.1.fin a.dst va ka).val else none := by rw [hfi]; rfl
  rw [hx] at hxa
  rw [hy] at hyi
  have hwa : wa = true := by cases wa with | true => rfl | false => simp at hxa
  have hwi : wi = true := by cases wi with | true => rfl | false => simp at hyi
  subst hwa; subst hwi
  rw [if_pos rfl] at hxa hyi
  have step : ∀ {s : St} {o : Oper} {v : SV} {k : Wk}, evalO P call h ops o s = some (true, v, k) → wantE ops s o = some true ∧ stepE P call h (o.dst.getD 0) o.type o.op s.val s.wk = some (v, k) := fun {s o v k} e => by
    simp only [evalO, Option.bind_eq_some_iff] at e
    obtain ⟨w0, e0, e⟩ := e
    cases w0 with
    | true =>
      simp only [if_true, Option.map_eq_some_iff, Prod.mk.injEq] at e
      obtain ⟨⟨v', k'⟩, e1, _, rfl, rfl⟩ := e
      exact ⟨e0, e1⟩
    | false => simp at e
  obtain ⟨wantA, stepA⟩ := step ea1
  obtain ⟨rfl, hmA, x0, hx0, _⟩ := rx_op hxa.symm stepA
  simp only at ei1 hfi
  have gI : ∀ t ∈ looks ops i, c.1.get t = (c.1.fin a.dst va c.1.wk).get t := fun t ht => by rw [get_fin, if_neg (ne1 t ht)]; rfl
  have ei2 : evalO P call h ops i c.1 = some (true, vi, ki) := by
    rw [← ei1]
    exact evalO_congr gI rfl rfl
  have fpi : fpOf h ops i c.2 c.1 true vi ki = fi := by
    rw [hfi]
    exact fpOf_congr (c := (c.1.fin a.dst va c.1.wk, histAdd c.2 c.1.wk.tr a.dst (histV a.op c.2 va))) (d := c) gI (fun t ht => by simp only; rw [hist_add, if_neg (ne1 t ht)]; rfl) rfl rfl
  obtain ⟨wantI, stepI⟩ := step ei2
  rw [← wxOf_congr (val_congr (s := (c.1.fin a.dst va c.1.wk)) (s2 := c.1) fun t ht => gI t (looks_tmp ht))] at hyi
  obtain ⟨hmI, tt, oo, nn, xx, eapp⟩ := wx_op hyi.symm stepI
  have hoxE : fi.ox = oxOf (some (r, q)) ki.tr := by
    rw [← fpi]
    show oxOf (if true = true then wxOf i.op c.1.val else none) _ = _
    rw [if_pos rfl, ← hyi]
  have hsxE : fa.sx = va :: (looks ops a).map fun t => c.1.get t := by
    rw [hfa]
    show sxOf (if true = true then rxOf a.op c.1.val va else none) _ = _
    rw [if_pos rfl, ← hxa]; rfl
  obtain ⟨sm, hks, hun⟩ := wx_spec (k := c.1.wk) rfl eapp hsep (by rw [← hoxE]; exact hox)
  have rn' : ki.tr.any Tr.isRen = false := by
    have e1 : fi.ren = ki.tr.any Tr.isRen := by rw [hfi]; rfl
    rw [← e1]; exact rn
  have keep : ∀ u ∈ fa.sx, trv ki.tr u = u := fun u hu => hun u (hsx u hu).1 (by rw [← hoxE]; exact (hsx u hu).2)
  have vaK : trv ki.tr va = va := keep va (by rw [hsxE]; simp)
  have getA : ∀ t ∈ looks ops a, (c.1.fin i.dst vi ki).get t = c.1.get t := trv_wantE wantA (fun t ht => by rw [get_fin, if_neg (ne2 t ht)]) (fun t ht => keep _ (by rw [hsxE]; exact List.mem_cons_of_mem _ (List.mem_map.2 ⟨t, looks_tmp ht, rfl⟩)))
  have hval := val_congr (s := c.1) (s2 := c.1.fin i.dst vi ki) (op := a.op) fun t ht => getA t (looks_tmp ht)
  have ea2 : evalO P call h ops a (c.1.fin i.dst vi ki) = some (true, va, (c.1.fin i.dst vi ki).wk) := by
    have e1 : stepE P call h (a.dst.getD 0) a.type a.op (c.1.fin i.dst vi ki).val (c.1.fin i.dst vi ki).wk = some (va, (c.1.fin i.dst vi ki).wk) := by
      rw [stepE_congr a.op _ hval]
      exact readE hxa.symm sm stepA
    simp only [evalO, wantE_congr getA, wantA, Option.bind_some, if_true, e1, Option.map_some]
  refine ⟨_, _, (runOpF_mk ei2).trans (congrArg some (Prod.ext rfl fpi)), (runOpF_mk (c := (c.1.fin i.dst vi ki, histAdd c.2 ki.tr i.dst (histV i.op c.2 vi))) ea2).trans (congrArg some (Prod.ext rfl ?_)), fun t => ?_, fun x => rfl, rfl, fun t => ?_⟩
  · rw [hfa]
    exact fpOf_congr (c := c) (d := (c.1.fin i.dst vi ki, histAdd c.2 ki.tr i.dst (histV i.op c.2 vi))) getA (fun t ht => by simp only; rw [hist_add, if_neg (ne2 t ht), histTr_plain _ _ rn']) (by simp [newKeys]) rfl
  · simp only [get_fin]
    by_cases h1 : a.dst = some t
    · rw [if_pos h1, if_neg (ne3 t h1), if_pos h1, vaK]
    · rw [if_neg h1, if_neg h1]; rfl
  · simp only [hist_add, histV_plain hmA, histV_plain hmI]
    by_cases h1 : a.dst = some t
    · rw [if_pos h1, if_neg (ne3 t h1), if_pos h1, histTr_plain _ _ rn']
    · rw [if_neg h1, if_neg h1]; rfl
theorem swapY {a i : Oper} {c c1 c2 : Cf} {fa fi : Fp} (ea : runOpF P call h ops a c = some (c1, fa)) (ei : runOpF P call h ops i c1 = some (c2, fi)) (hp : apartX fi fa = true) :
    ∃ d1 d2, runOpF P call h ops i c = some (d1, fi) ∧ runOpF P call h ops a d1 = some (d2, fa) ∧ Eqv c2 d2 := by
  obtain ⟨wa, va, ka, ea1, rfl, hfa⟩ := runOpF_some ea
  obtain ⟨wi, vi, ki, ei1, rfl, hfi⟩ := runOpF_some ei
  obtain ⟨s1, s2, s3, rn, r0, p, ix, off, kd, r, q, hx, hy, hsep, hox, hsx⟩ := apartX_spec hp
  have da : fa.dst = a.dst := by rw [hfa]; rfl
  have di : fi.dst = i.dst := by rw [hfi]; rfl
  have la : fa.sl = looks ops a := by rw [hfa]; rfl
  have li : fi.sl = looks ops i := by rw [hfi]; rfl
  have ne1 : ∀ t ∈ looks ops i, a.dst ≠ some t := fun t ht e => s3 t (da.trans e) (by rw [li]; exact ht)
  have ne2 : ∀ t ∈ looks ops a, i.dst ≠ some t := fun t ht e => s1 t (di.trans e) (by rw [la]; exact ht)
  have ne3 : ∀ t, a.dst = some t → i.dst ≠ some t := fun t e q => s2 t (di.trans q) (da.trans e)
  simp only at ei1 hfi
  have hxi : fi.rx = if wi = true then rxOf i.op (c.1.fin a.dst va ka).val vi else none := by rw [hfi]; rfl
  have hya : fa.wx = if wa = true then wxOf a.op c.1.val else none := by rw [hfa]; rfl
  rw [hx] at hxi
  rw [hy] at hya
  have hwa : wa = true := by cases wa with | true => rfl | false => simp at hya
  have hwi : wi = true := by cases wi with | true => rfl | false => simp at hxi
  subst hwa; subst hwi
  rw [if_pos rfl] at hxi hya
  have step : ∀ {s : St} {o : Oper} {v : SV} {k : Wk}, evalO P call h ops o s = some (true, v, k) → wantE ops s o = some true ∧ stepE P call h (o.dst.getD 0) o.type o.op s.val s.wk = some (v, k) := fun {s o v k} e => by
    simp only [evalO, Option.bind_eq_some_iff] at e
    obtain ⟨w0, e0, e⟩ := e
    cases w0 with
    | true =>
      simp only [if_true, Option.map_eq_some_iff, Prod.mk.injEq] at e
      obtain ⟨⟨v', k'⟩, e1, _, rfl, rfl⟩ := e
      exact ⟨e0, e1⟩
    | false => simp at e
  obtain ⟨wantA, stepA⟩ := step ea1
  obtain ⟨hmA, tt, oo, nn, xx, eapp⟩ := wx_op hya.symm stepA
  obtain ⟨wantI, stepI⟩ := step ei1
  obtain ⟨rfl, hmI, x0, hx0, r9, p9, i9, o9, hloc⟩ := rx_op hxi.symm stepI
  have hoxE : fa.ox = oxOf (some (r, q)) ka.tr := by
    rw [hfa]
    show oxOf (if true = true then wxOf a.op c.1.val else none) _ = _
    rw [if_pos rfl, ← hya]
  have hsxE : fi.sx = vi :: (looks ops i).map fun t => (c.1.fin a.dst va ka).get t := by
    rw [hfi]
    show sxOf (if true = true then rxOf i.op (c.1.fin a.dst va ka).val vi else none) _ = _
    rw [if_pos rfl, ← hxi]; rfl
  obtain ⟨sm, hks, hun⟩ := wx_spec (k := c.1.wk) rfl eapp hsep (by rw [← hoxE]; exact hox)
  have rn' : ka.tr.any Tr.isRen = false := by
    have e1 : fa.ren = ka.tr.any Tr.isRen := by rw [hfa]; rfl
    rw [← e1]; exact rn
  have viK : trv ka.tr vi = vi := hun vi (hsx vi (by rw [hsxE]; simp)).1 (by rw [← hoxE]; exact (hsx vi (by rw [hsxE]; simp)).2)
  have wantI0 : wantE ops c.1 i = some true := wantE_back wantI ne1
  have getI : ∀ t ∈ looks ops i, (c.1.fin a.dst va ka).get t = c.1.get t := trv_wantE wantI0 (fun t ht => by rw [get_fin, if_neg (ne1 t ht)]) (fun t ht => by
    have hm := tmpsOf_mem ht
    have := hx0 _ hm
    rw [← this] at hloc
    have hl : asLoc (trv ka.tr (c.1.get t)) = .loc r9 p9 i9 o9 := by
      have e1 : (c.1.fin a.dst va ka).val (.tmp t) = trv ka.tr (c.1.get t) := by
        show (c.1.fin a.dst va ka).get t = _
        rw [get_fin, if_neg (ne1 t (looks_tmp ht))]
      rw [← e1]; exact hloc
    exact (kills_loc_back _ hks hl).symm)
  have hval := val_congr (s := c.1) (s2 := c.1.fin a.dst va ka) (op := i.op) fun t ht => getI t (looks_tmp ht)
  have ei2 : evalO P call h ops i c.1 = some (true, vi, c.1.wk) := by
    have e1 : stepE P call h (i.dst.getD 0) i.type i.op c.1.val c.1.wk = some (vi, c.1.wk) := by
      rw [← stepE_congr i.op _ hval]
      exact readE (k := (c.1.fin a.dst va ka).wk) hxi.symm (RelN.symm sm) stepI
    simp only [evalO, wantI0, Option.bind_some, if_true, e1, Option.map_some]
  have fpi : fpOf h ops i c.2 c.1 true vi c.1.wk = fi := by
    rw [hfi]
    exact fpOf_congr (c := (c.1.fin a.dst va ka, histAdd c.2 ka.tr a.dst (histV a.op c.2 va))) (d := c) (fun t ht => (getI t ht).symm) (fun t ht => by simp only; rw [hist_add, if_neg (ne1 t ht), histTr_plain _ _ rn']) (by simp [newKeys]) rfl
  have gA : ∀ t ∈ looks ops a, (c.1.fin i.dst vi c.1.wk).get t = c.1.get t := fun t ht => by rw [get_fin, if_neg (ne2 t ht)]; rfl
  have ea2 : evalO P call h ops a (c.1.fin i.dst vi c.1.wk) = some (true, va, ka) := by
    rw [← ea1]
    exact evalO_congr gA rfl rfl
  refine ⟨_, _, (runOpF_mk ei2).trans (congrArg some (Prod.ext rfl fpi)), (runOpF_mk (c := (c.1.fin i.dst vi c.1.wk, histAdd c.2 c.1.wk.tr i.dst (histV i.op c.2 vi))) ea2).trans (congrArg some (Prod.ext rfl ?_)), fun t => ?_, fun x => rfl, rfl, fun t => ?_⟩
  · rw [hfa]
    exact fpOf_congr (c := c) (d := (c.1.fin i.dst vi c.1.wk, histAdd c.2 c.1.wk.tr i.dst (histV i.op c.2 vi))) gA (fun t ht => by simp only; rw [hist_add, if_neg (ne2 t ht)]; rfl) rfl rfl
  · simp only [get_fin]
    by_cases h1 : a.dst = some t
    · rw [if_pos h1, if_neg (ne3 t h1), if_pos h1]; rfl
    · rw [if_neg h1, if_neg h1]
      by_cases h2 : i.dst = some t
      · rw [if_pos h2, if_pos h2, viK]
      · rw [if_neg h2, if_neg h2]; rfl
  · simp only [hist_add, histV_plain hmA, histV_plain hmI]
    by_cases h1 : a.dst = some t
    · rw [if_pos h1, if_neg (ne3 t h1), if_pos h1]; rfl
    · rw [if_neg h1, if_neg h1]
      by_cases h2 : i.dst = some t
      · rw [if_pos h2, if_pos h2, histTr_plain _ _ rn']
      · rw [if_neg h2, if_neg h2]; rfl
theorem swap {a i : Oper} {c c1 c2 : Cf} {fa fi : Fp} (hi : Inv c) (ea : runOpF P call h ops a c = some (c1, fa)) (ei : runOpF P call h ops i c1 = some (c2, fi)) (hp : apartFp fa fi = true) :
    ∃ d1 d2, runOpF P call h ops i c = some (d1, fi) ∧ runOpF P call h ops a d1 = some (d2, fa) ∧ Eqv c2 d2 := by
  simp only [apartFp, Bool.or_eq_true] at hp
  rcases hp with (hp | hp) | hp
  · cases hA : isMove a.op with
    | true => exact swapA hA ea ei hp
    | false =>
      cases hI : isMove i.op with
      | true => exact swapI hI ea ei hp
      | false => exact swap0 hA hI hi ea ei hp
  · exact swapX ea ei hp
  · exact swapY ea ei hp
theorem front : ∀ (A : List Oper) (i : Oper) (B : List Oper) {c c' : Cf} {fs : List Fp}, Inv c → runOpsF P call h ops (A ++ i :: B) c = some (c', fs) → (∀ fi, fs[A.length]? = some fi → ∀ f ∈ fs.take A.length, apartFp f fi = true) →
    ∃ c1 d fi, fs[A.length]? = some fi ∧ runOpF P call h ops i c = some (c1, fi) ∧ runOpsF P call h ops (A ++ B) c1 = some (d, fs.take A.length ++ fs.drop (A.length + 1)) ∧ Eqv c' d
  | [], i, B, c, c', fs, hi, e, hp => by
    simp only [List.nil_append, runOpsF, Option.bind_eq_some_iff, Option.map_eq_some_iff, Prod.mk.injEq] at e
    obtain ⟨⟨c1, f⟩, e1, ⟨c2, fs'⟩, e2, rfl, rfl⟩ := e
    exact ⟨c1, c2, f, rfl, e1, by simpa using e2, .refl _⟩
  | a :: A, i, B, c, c', fs, hi, e, hp => by
    simp only [List.cons_append, runOpsF, Option.bind_eq_some_iff, Option.map_eq_some_iff, Prod.mk.injEq] at e
    obtain ⟨⟨ca, fa⟩, e1, ⟨c2, fs'⟩, e2, rfl, rfl⟩ := e
    simp only at e2
    obtain ⟨c1, d, fi, g1, g2, g3, g4⟩ := front A i B (hi.step e1) e2 (fun fi q f hf => hp fi (by simpa using q) f (by simp [hf]))
    have hap := hp fi (by simpa using g1) fa (by simp)
    obtain ⟨d1, d2, p1, p2, p3⟩ := swap hi e1 g2 hap
    obtain ⟨d3, r1, r2⟩ := runOpsF_congr _ p3 g3
    refine ⟨d1, d3, fi, by simpa using g1, p1, ?_, g4.trans r2⟩
    simp only [List.cons_append, runOpsF, p2, Option.bind_some, r1, Option.map_some, List.length_cons, List.take_succ_cons, List.drop_succ_cons]
end
end Go.Am
namespace Go.Am
open Go Go.RowKit
set_option linter.unusedSimpArgs false
set_option linter.unusedVariables false
theorem befOf_fold (acc : List Nat) (x : Nat) : ∀ (l : List Edge) (m : Nat), (l.foldl (fun m e => if Region.binds .any e then m ||| 2 ^ e.on ||| (acc[e.on]?).getD 0 else m) m).testBit x = true →
    m.testBit x = true ∨ ∃ e ∈ l, Region.binds .any e = true ∧ (x = e.on ∨ ((acc[e.on]?).getD 0).testBit x = true)
  | [], m, h => .inl h
  | e :: l, m, h => by
    simp only [List.foldl_cons] at h
    rcases befOf_fold acc x l _ h with q | ⟨e', h1, h2⟩
    · split at q
      · rename_i hb
        simp only [Nat.testBit_or, Bool.or_eq_true, Nat.testBit_two_pow, decide_eq_true_eq] at q
        rcases q with (q | q) | q
        · exact .inl q
        · exact .inr ⟨e, by simp, hb, .inl q.symm⟩
        · exact .inr ⟨e, by simp, hb, .inr q⟩
      · exact .inl q
    · exact .inr ⟨e', by simp [h1], h2⟩
theorem befs_spec : ∀ (l : List Oper) (acc bs : List Nat), befs l acc = some bs → (∃ r, bs = acc ++ r) ∧ bs.length = acc.length + l.length ∧
    ∀ i o, l[i]? = some o → (∀ e ∈ o.after.toList, Region.binds .any e = true → e.on < acc.length + i) ∧ ∃ b, bs[acc.length + i]? = some b ∧ b = befOf (bs.take (acc.length + i)) o
  | [], acc, bs, h => by simp only [befs, Option.some.injEq] at h; subst h; exact ⟨⟨[], by simp⟩, by simp, by simp⟩
  | o :: l, acc, bs, h => by
    simp only [befs] at h
    split at h
    · rename_i hall
      obtain ⟨⟨r, hr⟩, h2, h3⟩ := befs_spec l _ bs h
      simp only [List.length_append, List.length_cons, List.length_nil] at h2 h3
      refine ⟨⟨befOf acc o :: r, by rw [hr]; simp⟩, by simp only [List.length_cons]; omega, fun i o' ho => ?_⟩
      cases i with
      | zero =>
        simp only [List.getElem?_cons_zero, Option.some.injEq] at ho
        subst ho
        refine ⟨fun e he hb => ?_, befOf acc o, by rw [hr]; simp, ?_⟩
        · have := List.all_eq_true.1 hall e he
          simpa [hb] using this
        · rw [hr]; simp
      | succ i =>
        simp only [List.getElem?_cons_succ] at ho
        obtain ⟨q1, q2⟩ := h3 i o' ho
        have e1 : acc.length + (0 + 1) + i = acc.length + (i + 1) := by omega
        rw [e1] at q1 q2
        exact ⟨q1, q2⟩
    · cases h
theorem checkRow_spec (b : Nat) (f : Fp) : ∀ (l : List Fp) (j : Nat), checkRow b f j l = true → ∀ i g, l[i]? = some g → b.testBit (j + i) = false → apartFp g f = true
  | [], j, _, i, g, hg, _ => by simp at hg
  | a :: l, j, h, i, g, hg, hb => by
    simp only [checkRow, Bool.and_eq_true, Bool.or_eq_true] at h
    cases i with
    | zero =>
      simp only [List.getElem?_cons_zero, Option.some.injEq] at hg
      subst hg
      rcases h.1 with q | q
      · rw [Nat.add_zero] at hb; rw [hb] at q; cases q
      · exact q
    | succ i =>
      simp only [List.getElem?_cons_succ] at hg
      exact checkRow_spec b f l (j + 1) h.2 i g hg (by rw [show j + 1 + i = j + (i + 1) by omega]; exact hb)
theorem checkF_spec (all : List Fp) : ∀ (bs : List Nat) (fs : List Fp) (i : Nat), checkF all i bs fs = true → ∀ j b f, bs[j]? = some b → fs[j]? = some f → checkRow b f 0 (all.take (i + j)) = true
  | [], fs, i, _, j, b, f, hb, _ => by simp at hb
  | b0 :: bs, [], i, _, j, b, f, _, hf => by simp at hf
  | b0 :: bs, f0 :: fs, i, h, j, b, f, hb, hf => by
    simp only [checkF, Bool.and_eq_true] at h
    cases j with
    | zero =>
      simp only [List.getElem?_cons_zero, Option.some.injEq] at hb hf
      subst hb; subst hf
      exact h.1
    | succ j =>
      simp only [List.getElem?_cons_succ] at hb hf
      have := checkF_spec all bs fs (i + 1) h.2 j b f hb hf
      rwa [show i + 1 + j = i + (j + 1) by omega] at this
section
variable {P : Program} {A : Av} {call : CallF} {hint : Hint}
theorem SR.drawn {s : St} {a : Act} {w : World} {n : Nat} (hs : SR A s a w) : SR A s a { w with drawn := n } := by
  obtain ⟨ρ, S, hd, h, hv⟩ := hs
  have ext : Ext (cxOf A s.H.length ρ S [] w) (cxOf A s.H.length ρ S [] { w with drawn := n }) := ⟨fun t b hp => ⟨hp, rfl⟩, Nat.le_refl _, fun _ _ => rfl⟩
  refine ⟨ρ, S, hd, ⟨fun r t ht => TC.ext ext _ _ _ (fun _ _ => rfl) (h.cont r t ht), h.gone, h.obj, fun n ob he hpl => ?_, h.dis, h.blk, by simp, ⟨h.fr.os, h.fr.tape, h.fr.output, h.fr.size, h.fr.kept⟩, h.Fold, h.rho⟩, fun t => ?_⟩
  · exact (h.map n ob he hpl).ext ext (fun _ _ => rfl) rfl rfl
  · exact SO.keep ext (fun r q => h.hold (k' := s.wk) (hd' := hd) _ rfl rfl (fun _ _ => rfl) q) (hv t)
theorem runOp_evalO {ops : List Oper} {o : Oper} {s : St} : runOp P call hint ops o s = (evalO P call hint ops o s).map fun (w, v, k) => s.fin o.dst v k := by
  unfold runOp evalO
  cases wantE ops s o with
  | none => rfl
  | some w =>
    cases w with
    | true => simp only [Option.bind_some, if_true, Option.map_map]; rfl
    | false => rfl
theorem runOpF_op {ops : List Oper} {o : Oper} {c d : Cf} {f : Fp} (e : runOpF P call hint ops o c = some (d, f)) : runOp P call hint ops o c.1 = some d.1 := by
  obtain ⟨w, v, k, e1, rfl, rfl⟩ := runOpF_some e
  rw [runOp_evalO, e1]; rfl
theorem runOpsF_len {ops : List Oper} : ∀ (l : List Oper) {c d : Cf} {fs : List Fp}, runOpsF P call hint ops l c = some (d, fs) → fs.length = l.length
  | [], c, d, fs, e => by simp only [runOpsF, Option.some.injEq, Prod.mk.injEq] at e; rw [← e.2]; rfl
  | o :: l, c, d, fs, e => by
    simp only [runOpsF, Option.bind_eq_some_iff, Option.map_eq_some_iff, Prod.mk.injEq] at e
    obtain ⟨⟨c1, f⟩, _, ⟨c2, fs'⟩, e2, _, rfl⟩ := e
    simp [runOpsF_len l e2]
theorem runOps_ok (hc : CallOK P call) {ops : Array Oper} {Q : Exit → Act → World → Prop} {D : List Deferred} {N : Nat} : ∀ (l : List Oper) {s s' : St} {a : Act} {w : World}, SR A s a w → a.defers = D → a.tmps.size = N → (∀ o ∈ l, ∀ d, o.dst = some d → d < N) → runOps P call hint ops.toList l s = some s' →
    (∀ a' w', SR A s' a' w' → a'.defers = D → a'.tmps.size = N → Q .normal a' w') → wpList P ops Q l a w
  | [], s, s', a, w, hs, h1, h2, hd, e, hQ => by
    simp only [runOps, Option.some.injEq] at e
    subst e
    exact hQ a w hs h1 h2
  | o :: l, s, s', a, w, hs, h1, h2, hd, e, hQ => by
    simp only [runOps, Option.bind_eq_some_iff] at e
    obtain ⟨s1, e1, e2⟩ := e
    refine wpList_step fun K hK => runOp_ok hc hs (fun d q => by rw [h2]; exact hd o (by simp) d q) e1 fun a' w' g1 g2 g3 => hK _ _ ?_
    exact runOps_ok hc l g1 (g2.trans h1) (g3.trans h2) (fun o' ho => hd o' (by simp [ho])) e2 hQ
theorem filterMap_len {α : Type} (l : List α) : ∀ (L : List Nat), (∀ i ∈ L, i < l.length) → (L.filterMap fun i => l[i]?).length = L.length
  | [], _ => rfl
  | i :: L, h => by
    have hi := h i (by simp)
    rw [List.filterMap_cons, List.getElem?_eq_getElem hi]
    simp [filterMap_len l L (fun j hj => h j (by simp [hj]))]
theorem setTrue (listed : Array Bool) (i j : Nat) (hi : i < listed.size) : (listed.setIfInBounds i true).getD j true = if j = i then true else listed.getD j true := by
  by_cases h : j = i
  · subst h; simp [hi]
  · rw [if_neg h]; simp [Array.getD_eq_getD_getElem?, Array.getElem?_setIfInBounds_ne (Ne.symm h)]
theorem getD_tf {listed : Array Bool} {i : Nat} (hi : i < listed.size) : listed.getD i false = listed.getD i true := by simp [Array.getD_eq_getD_getElem?, hi]
theorem wpAny_ok (hc : CallOK P call) {ops : Array Oper} {bs : List Nat} (hb : befs ops.toList [] = some bs) {Q : Exit → Act → World → Prop} {D : List Deferred} {N : Nat} (hd : ∀ o ∈ ops.toList, ∀ d, o.dst = some d → d < N) :
    ∀ (m : Nat) (listed : Array Bool) (fs : List Fp) (c c' : Cf) (a : Act) (w : World), listed.size = ops.size → ((List.range ops.size).filter fun i => !listed.getD i true).length = m →
      (∀ i b, listed.getD i false = true → bs[i]? = some b → ∀ x, b.testBit x = true → listed.getD x false = true) →
      Inv c → SR A c.1 a w → a.defers = D → a.tmps.size = N →
      runOpsF P call hint ops.toList (((List.range ops.size).filter fun i => !listed.getD i true).filterMap fun i => ops.toList[i]?) c = some (c', fs) →
      (((List.range ops.size).filter fun i => !listed.getD i true).zip fs).Pairwise (fun x y => ∀ b, bs[y.1]? = some b → b.testBit x.1 = false → apartFp x.2 y.2 = true) →
      (∀ c2 a' w', Eqv c' c2 → SR A c2.1 a' w' → a'.defers = D → a'.tmps.size = N → Q .normal a' w') → wpAny P .any ops Q m listed a w := by
  obtain ⟨_, hbl, hbs⟩ := befs_spec _ _ _ hb
  simp only [List.length_nil, Nat.zero_add, Array.length_toList] at hbl hbs
  have hbs' : ∀ i o, ops[i]? = some o → (∀ e ∈ o.after.toList, Region.binds .any e = true → e.on < i) ∧ ∃ b, bs[i]? = some b ∧ b = befOf (bs.take i) o := fun i o ho => hbs i o (by rw [Array.getElem?_toList]; exact ho)
  intro m
  induction m with
  | zero =>
    intro listed fs c c' a w hsz hm hcl hinv hs h1 h2 e hpw hQ
    have hnil := List.eq_nil_of_length_eq_zero hm
    rw [hnil] at e
    simp only [List.filterMap_nil, runOpsF, Option.some.injEq, Prod.mk.injEq] at e
    obtain ⟨rfl, _⟩ := e
    refine ⟨?_, hQ c a w (.refl _) hs h1 h2⟩
    refine List.eq_nil_iff_forall_not_mem.2 fun i hi => ?_
    simp only [Region.ready, List.mem_filter, Bool.and_eq_true] at hi
    have : i ∈ (List.range ops.size).filter fun i => !listed.getD i true := List.mem_filter.2 ⟨hi.1, hi.2.1⟩
    rw [hnil] at this
    cases this
  | succ m ih =>
    intro listed fs c c' a w hsz hm hcl hinv hs h1 h2 e hpw hQ
    refine ⟨fun hr => ?_, fun i hi => ?_⟩
    · -- the first that is left is ready
      exfalso
      generalize hL : ((List.range ops.size).filter fun i => !listed.getD i true) = L at hm
      cases L with
      | nil => cases hm
      | cons l0 L =>
        have hl0 : l0 ∈ (List.range ops.size).filter fun i => !listed.getD i true := by rw [hL]; simp
        obtain ⟨q1, q2⟩ := List.mem_filter.1 hl0
        have hlt : l0 < ops.size := by simpa using q1
        obtain ⟨o, ho⟩ : ∃ o, ops[l0]? = some o := ⟨_, Array.getElem?_eq_getElem hlt⟩
        have : l0 ∈ Region.ready .any ops listed := by
          simp only [Region.ready, List.mem_filter, Bool.and_eq_true]
          refine ⟨q1, q2, ?_⟩
          rw [ho]
          simp only [Option.map_some, Option.getD_some]
          rw [Array.all_eq_true']
          intro e he
          cases hbe : Region.binds .any e with
          | false => rfl
          | true =>
            have hon := (hbs' l0 o ho).1 e (by simpa using he) hbe
            simp only [Bool.not_true, Bool.false_or]
            rw [getD_tf (by omega)]
            cases hx : listed.getD e.on true with
            | true => rfl
            | false =>
              have hmem : e.on ∈ (List.range ops.size).filter fun i => !listed.getD i true := List.mem_filter.2 ⟨by simp; omega, by simp [hx]⟩
              have hsorted : ((List.range ops.size).filter fun i => !listed.getD i true).Pairwise (· < ·) := List.Pairwise.filter _ List.pairwise_lt_range
              rw [hL] at hmem hsorted
              rw [List.pairwise_cons] at hsorted
              rcases List.mem_cons.1 hmem with h | h
              · omega
              · have := hsorted.1 _ h; omega
        rw [hr] at this
        cases this
    · simp only [Region.ready, List.mem_filter, Bool.and_eq_true] at hi
      obtain ⟨q1, q2, q3⟩ := hi
      have hlt : i < ops.size := by simpa using q1
      obtain ⟨o, ho⟩ : ∃ o, ops[i]? = some o := ⟨_, Array.getElem?_eq_getElem hlt⟩
      rw [ho] at q3
      simp only [Option.map_some, Option.getD_some] at q3
      rw [Array.all_eq_true'] at q3
      have hun : listed.getD i true = false := by simpa using q2
      have hmem : i ∈ (List.range ops.size).filter fun i => !listed.getD i true := List.mem_filter.2 ⟨q1, q2⟩
      obtain ⟨LA, LB, hL⟩ := List.append_of_mem hmem
      have hall : ∀ x ∈ LA ++ i :: LB, x < ops.size ∧ listed.getD x true = false := fun x hx => by
        rw [← hL] at hx
        obtain ⟨a1, a2⟩ := List.mem_filter.1 hx
        exact ⟨by simpa using a1, by simpa using a2⟩
      have hsorted : (LA ++ i :: LB).Pairwise (· < ·) := by rw [← hL]; exact List.Pairwise.filter _ List.pairwise_lt_range
      have hnd : (LA ++ i :: LB).Nodup := hsorted.imp (fun h => Nat.ne_of_lt h)
      rw [hL] at e hpw hm
      have hoi : ops.toList[i]? = some o := by rw [Array.getElem?_toList]; exact ho
      have hlenA := filterMap_len ops.toList LA (fun x hx => by rw [Array.length_toList]; exact (hall x (by simp [hx])).1)
      have hlenB := filterMap_len ops.toList LB (fun x hx => by rw [Array.length_toList]; exact (hall x (by simp [hx])).1)
      rw [List.filterMap_append, List.filterMap_cons, hoi] at e
      simp only at e
      have hlen := runOpsF_len _ e
      simp only [List.length_append, List.length_cons, hlenA, hlenB] at hlen
      -- those ahead of it that are left need not go before it
      obtain ⟨hedge, b, hbi, hbo⟩ := hbs' i o ho
      have hfree : ∀ x ∈ LA, b.testBit x = false := fun x hx => by
        cases hbx : b.testBit x with
        | false => rfl
        | true =>
          exfalso
          have hux := (hall x (by simp [hx])).2
          rw [hbo] at hbx
          rcases befOf_fold _ x _ 0 hbx with q | ⟨ed, he, hbe, q⟩
          · simp at q
          · have hon := hedge ed he hbe
            have hlis : listed.getD ed.on false = true := by
              have := q3 ed (by simpa using he)
              simpa [hbe] using this
            rcases q with rfl | q
            · rw [getD_tf (by omega), hux] at hlis; cases hlis
            · rw [List.getElem?_take, if_pos hon] at q
              cases hbe2 : bs[ed.on]? with
              | none => rw [hbe2] at q; simp at q
              | some b2 =>
                rw [hbe2] at q
                have := hcl ed.on b2 hlis hbe2 x q
                rw [getD_tf (by have := (hall x (by simp [hx])).1; omega), hux] at this
                cases this
      -- the footprints, parted
      obtain ⟨fA, fi0, fB, hfs, hfA⟩ : ∃ fA fi fB, fs = fA ++ fi :: fB ∧ fA.length = LA.length := by
        have hlt' : LA.length < fs.length := by omega
        refine ⟨fs.take LA.length, fs[LA.length], fs.drop (LA.length + 1), ?_, by simp; omega⟩
        rw [List.getElem_cons_drop]
        exact (List.take_append_drop _ _).symm
      subst hfs
      rw [List.zip_append (by omega), List.zip_cons_cons] at hpw
      obtain ⟨c1, d, fi, g1, g2, g3, g4⟩ := front _ o _ hinv e (fun fi hfi f hf => by
        rw [hlenA, ← hfA] at hfi hf
        simp only [List.getElem?_append_right (Nat.le_refl _), Nat.sub_self, List.getElem?_cons_zero, Option.some.injEq] at hfi
        subst hfi
        rw [List.take_left'] at hf
        · obtain ⟨p, hp, rfl⟩ := List.getElem_of_mem hf
          have hz : (LA[p]'(by omega), fA[p]) ∈ LA.zip fA := List.mem_iff_getElem.2 ⟨p, by simp; omega, by simp⟩
          exact (List.pairwise_append.1 hpw).2.2 _ hz (i, fi0) (by simp) b hbi (hfree _ (by simp))
        · rfl)
      rw [hlenA, ← hfA] at g1 g3
      simp only [List.getElem?_append_right (Nat.le_refl _), Nat.sub_self, List.getElem?_cons_zero, Option.some.injEq] at g1
      subst g1
      have e3 : (fA ++ fi0 :: fB).take fA.length ++ (fA ++ fi0 :: fB).drop (fA.length + 1) = fA ++ fB := by simp
      rw [e3] at g3
      -- what is left behind it
      have hset : ∀ x, (listed.setIfInBounds i true).getD x true = if x = i then true else listed.getD x true := fun x => setTrue listed i x (by omega)
      have hL2 : ((List.range ops.size).filter fun x => !(listed.setIfInBounds i true).getD x true) = LA ++ LB := by
        have e1 : ((List.range ops.size).filter fun x => !(listed.setIfInBounds i true).getD x true) = ((List.range ops.size).filter fun x => !listed.getD x true).filter fun x => decide (x ≠ i) := by
          rw [List.filter_filter]
          refine List.filter_congr fun x _ => ?_
          rw [hset]
          by_cases hx : x = i
          · simp [hx]
          · simp [hx]
        rw [e1, hL, List.filter_append, List.filter_cons]
        have n1 := List.nodup_append.1 hnd
        rw [List.filter_eq_self.2 (fun x hx => by
          simp only [decide_eq_true_eq]
          exact fun h => n1.2.2 x hx i (by simp) h), List.filter_eq_self.2 (fun x hx => by
          simp only [decide_eq_true_eq]
          intro h
          subst h
          exact (List.nodup_cons.1 n1.2.1).1 hx)]
        simp
      unfold wpOp
      rw [ho]
      simp only
      have main := runOp_ok (Q := Q) hc hs (fun d q => by rw [h2]; exact hd o (List.mem_of_getElem? hoi) d q) (runOpF_op g2) (K := wpAny P .any ops Q m (listed.setIfInBounds i true)) (fun a' w' k1 k2 k3 => by
        refine ih (listed.setIfInBounds i true) (fA ++ fB) c1 d a' w' (by simpa using hsz) ?_ (fun j bj hj hbj x hx => ?_) (hinv.step g2) k1 (k2.trans h1) (k3.trans h2) ?_ ?_ (fun c2 a2 w2 p1 => hQ c2 a2 w2 (g4.trans p1))
        · rw [hL2]; simp only [List.length_append, List.length_cons] at hm ⊢; omega
        · have hjs : j < (listed.setIfInBounds i true).size := by
            rcases Nat.lt_or_ge j (listed.setIfInBounds i true).size with q | q
            · exact q
            · simp [Array.getD_eq_getD_getElem?, Array.getElem?_eq_none q] at hj
          have old : ∀ y, listed.getD y false = true → (listed.setIfInBounds i true).getD y false = true := fun y hy => by
            have hys : y < listed.size := by
              rcases Nat.lt_or_ge y listed.size with q | q
              · exact q
              · simp [Array.getD_eq_getD_getElem?, Array.getElem?_eq_none q] at hy
            rw [getD_tf (by simpa using hys), hset]
            by_cases hyi : y = i
            · rw [if_pos hyi]
            · rw [if_neg hyi]; exact (getD_tf hys).symm.trans hy
          by_cases hji : j = i
          · subst hji
            rw [hbi] at hbj
            simp only [Option.some.injEq] at hbj
            subst hbj
            rw [hbo] at hx
            rcases befOf_fold _ x _ 0 hx with q | ⟨ed, he, hbe, q⟩
            · simp at q
            · have hlis : listed.getD ed.on false = true := by
                have := q3 ed (by simpa using he)
                simpa [hbe] using this
              rcases q with rfl | q
              · exact old _ hlis
              · rw [List.getElem?_take, if_pos (hedge ed he hbe)] at q
                cases hbe2 : bs[ed.on]? with
                | none => rw [hbe2] at q; simp at q
                | some b2 =>
                  rw [hbe2] at q
                  exact old _ (hcl ed.on b2 hlis hbe2 x q)
          · rw [getD_tf hjs, hset, if_neg hji] at hj
            have hjs' : j < listed.size := by simpa using hjs
            rw [← getD_tf hjs'] at hj
            exact old _ (hcl j bj hj hbj x hx)
        · rw [hL2, List.filterMap_append]; exact g3
        · rw [hL2, List.zip_append (by omega)]
          refine hpw.sublist ?_
          exact List.Sublist.append (List.Sublist.refl _) (List.sublist_cons_self _ _))
      split
      · rename_i hw
        rw [if_pos hw] at main
        exact .inl main
      · rename_i hw
        rw [if_neg hw] at main
        exact main
theorem Inv.start (s : St) : Inv (s, hist0 s) := fun t r hr => by
  have : histOf (hist0 s) t = (s.get t).srts := by
    simp only [histOf, hist0, St.get, look_map]
    cases look s.env t with
    | none => rfl
    | some u => rfl
  rw [this]; exact hr
theorem region_any (hc : CallOK P call) (hm : P.follows .mixedOrders = true) {id : Nat} {ops : Array Oper} {Q : Exit → Act → World → Prop} {s : St} {c' : Cf} {fs : List Fp} {a : Act} {w : World} (hs : SR A s a w) (hd : ∀ o ∈ ops.toList, ∀ d, o.dst = some d → d < a.tmps.size)
    (e : runOpsF P call hint ops.toList ops.toList (s, hist0 s) = some (c', fs)) (hk : checkR ops.toList fs = true)
    (hQ : ∀ c2 a' w', Eqv c' c2 → SR A c2.1 a' w' → a'.defers = a.defers → a'.tmps.size = a.tmps.size → Q .normal a' w') : (Code.region id ops true).wp P Q a w := by
  unfold checkR at hk
  split at hk
  · rename_i bs hb
    have hbl := (befs_spec _ _ _ hb).2.1
    simp only [List.length_nil, Nat.zero_add, Array.length_toList] at hbl
    have hlen := runOpsF_len _ e
    rw [Array.length_toList] at hlen
    have hall : ((List.range ops.size).filter fun i => !(Array.replicate ops.size false).getD i true) = List.range ops.size := by
      refine List.filter_eq_self.2 fun x hx => ?_
      have : x < ops.size := by simpa using hx
      simp [Array.getD_eq_getD_getElem?, this]
    have hfm : (List.range ops.size).filterMap (fun i => ops.toList[i]?) = ops.toList := by
      have : ∀ (l pre : List Oper), (List.range' pre.length l.length).filterMap (fun i => (pre ++ l)[i]?) = l := fun l => by
        induction l with
        | nil => intro pre; rfl
        | cons x l ih =>
          intro pre
          rw [List.length_cons, List.range'_succ, List.filterMap_cons]
          have e1 : (pre ++ x :: l)[pre.length]? = some x := by simp
          rw [e1]
          have := ih (pre ++ [x])
          simp only [List.length_append, List.length_singleton, List.append_assoc, List.singleton_append] at this
          simp only [this]
      have := this ops.toList []
      rw [List.length_nil, ← List.range_eq_range', Array.length_toList] at this
      exact this
    refine wp_region_any hm (wpAny_ok (hint := hint) (D := a.defers) (N := a.tmps.size) hc hb hd ops.size _ fs (s, hist0 s) c' a _ (by simp) (by rw [hall]; simp) (fun i b hi => ?_) (Inv.start s) hs.drawn rfl rfl ?_ ?_ hQ)
    · exfalso
      by_cases hlt : i < ops.size
      · simp [Array.getD_eq_getD_getElem?, hlt] at hi
      · simp [Array.getD_eq_getD_getElem?, hlt] at hi
    · rw [hall, hfm]; exact e
    · rw [hall, List.pairwise_iff_getElem]
      intro i j hi hj hij b hbj hbf
      simp only [List.getElem_zip, List.getElem_range] at hbj hbf ⊢
      simp only [List.length_zip, List.length_range, hlen, Nat.min_self] at hi hj
      have := checkF_spec fs bs fs 0 hk j b (fs[j]'(by omega)) hbj (List.getElem?_eq_getElem _)
      exact checkRow_spec b _ _ 0 this i _ (by rw [Nat.zero_add, List.getElem?_take, if_pos hij]; exact List.getElem?_eq_getElem _) (by simpa using hbf)
  · cases hk
end
end Go.Am
namespace Go.Am
open Go Go.RowKit
set_option linter.unusedSimpArgs false
set_option linter.unusedVariables false
def Ex.exit' : Ex → Exit
  | .normal => .normal
  | .exit id => .exit id
  | .ret => .ret
section
variable {P : Program} {A : Av} {call : CallF} {hint : Hint}
theorem prune_eqv {c c' : Cf} (q : Eqv c c') (live : List Nat) : prune live c'.1 = prune live c.1 := by
  have : (live.map fun t => (t, c'.1.get t)) = live.map fun t => (t, c.1.get t) := List.map_congr_left fun t _ => by rw [q.get]
  have hp : ∀ l, pick c'.1.ct l = pick c.1.ct l := fun l => by
    induction l with
    | nil => rfl
    | cons x l ih => simp only [pick, q.ct, ih]
  simp only [Go.Am.prune, this, hp, q.H]
theorem opsOk_spec {n : Nat} {ops : Array Oper} (h : opsOk n ops = true) : ∀ o ∈ ops.toList, ∀ d, o.dst = some d → d < n := fun o ho d hd => by
  have := List.all_eq_true.1 h o ho
  rw [hd] at this
  simpa using this
theorem region_text (hc : CallOK P call) {id : Nat} {ops : Array Oper} {Q : Exit → Act → World → Prop} {s s' : St} {a : Act} {w : World} (hs : SR A s a w) (hd : ∀ o ∈ ops.toList, ∀ d, o.dst = some d → d < a.tmps.size)
    (e : runOps P call hint ops.toList ops.toList s = some s') (hQ : ∀ a' w', SR A s' a' w' → a'.defers = a.defers → a'.tmps.size = a.tmps.size → Q .normal a' w') : (Code.region id ops false).wp P Q a w :=
  wp_region (by rw [List.range_eq_range', ← Array.length_toList, wpOps_eq_wpList ops.toList 0 (by simp)]; exact runOps_ok (hint := hint) hc ops.toList hs rfl rfl hd e hQ)
theorem codeN_ok (hc : CallOK P call) (hm : P.follows .mixedOrders = true) (fuel : Nat) : ∀ (c : Code) {s s' : St} {ex : Ex} {a : Act} {w : World} {Q : Exit → Act → World → Prop}, codeN P call hint fuel c s = some (ex, s') → SR A s a w → codeOk a.tmps.size c = true →
    (∀ a' w', SR A s' a' w' → a'.defers = a.defers → a'.tmps.size = a.tmps.size → Q ex.exit' a' w') → c.wp P Q a w
  | .skip, s, s', ex, a, w, Q, e, hs, hk, hQ => by
    simp only [codeN, Option.some.injEq, Prod.mk.injEq] at e
    obtain ⟨rfl, rfl⟩ := e
    exact wp_skip (hQ a w hs rfl rfl)
  | .label l, s, s', ex, a, w, Q, e, hs, hk, hQ => by
    simp only [codeN, Option.some.injEq, Prod.mk.injEq] at e
    obtain ⟨rfl, rfl⟩ := e
    exact wp_label (hQ a w hs rfl rfl)
  | .ret, s, s', ex, a, w, Q, e, hs, hk, hQ => by
    simp only [codeN, Option.some.injEq, Prod.mk.injEq] at e
    obtain ⟨rfl, rfl⟩ := e
    exact wp_ret (hQ a w hs rfl rfl)
  | .exit id, s, s', ex, a, w, Q, e, hs, hk, hQ => by
    simp only [codeN, Option.some.injEq, Prod.mk.injEq] at e
    obtain ⟨rfl, rfl⟩ := e
    exact wp_exit (hQ a w hs rfl rfl)
  | .region id ops dr, s, s', ex, a, w, Q, e, hs, hk, hQ => by
    simp only [codeOk] at hk
    simp only [codeN] at e
    cases dr with
    | true =>
      simp only [if_true, Option.bind_eq_some_iff] at e
      obtain ⟨⟨c', fs⟩, e1, e⟩ := e
      simp only at e
      split at e
      · rename_i hck
        simp only [Option.some.injEq, Prod.mk.injEq] at e
        obtain ⟨rfl, rfl⟩ := e
        refine region_any hc hm hs (opsOk_spec hk) e1 hck fun c2 a' w' q1 q2 q3 q4 => hQ a' w' ?_ q3 q4
        rw [← prune_eqv q1]
        exact q2.prune _
      · cases e
    | false =>
      simp only [Bool.false_eq_true, if_false, Option.map_eq_some_iff, Prod.mk.injEq] at e
      obtain ⟨s1, e1, rfl, rfl⟩ := e
      exact region_text hc hs (opsOk_spec hk) e1 fun a' w' q2 q3 q4 => hQ a' w' (q2.prune _) q3 q4
  | .seq x y, s, s', ex, a, w, Q, e, hs, hk, hQ => by
    simp only [codeOk, Bool.and_eq_true] at hk
    simp only [codeN, Option.bind_eq_some_iff] at e
    obtain ⟨⟨ex1, s1⟩, e1, e2⟩ := e
    refine wp_seq (codeN_ok hc hm fuel x e1 hs hk.1 fun a' w' g1 g2 g3 => ?_)
    simp only at e2
    split at e2
    · refine codeN_ok hc hm fuel y e2 g1 (by rw [g3]; exact hk.2) fun a2 w2 p1 p2 p3 => hQ a2 w2 p1 (p2.trans g2) (p3.trans g3)
    · rename_i ex0 hne
      simp only [Option.some.injEq, Prod.mk.injEq] at e2
      obtain ⟨rfl, rfl⟩ := e2
      cases ex1 with
      | normal => exact absurd rfl hne
      | exit id => exact hQ a' w' g1 g2 g3
      | ret => exact hQ a' w' g1 g2 g3
  | .cond c x y, s, s', ex, a, w, Q, e, hs, hk, hQ => by
    simp only [codeOk, Bool.and_eq_true] at hk
    simp only [codeN] at e
    have hs0 := hs
    obtain ⟨ρ, S, hd, h, hv⟩ := hs0
    have hcv := SR.val hv c
    split at e
    · rename_i t ht
      rw [ht] at hcv
      refine wp_cond (VV.of_bool hcv) ?_
      cases t with
      | true => exact codeN_ok hc hm fuel x e hs hk.1 hQ
      | false => exact codeN_ok hc hm fuel y e hs hk.2 hQ
    · cases e
  | .block id c, s, s', ex, a, w, Q, e, hs, hk, hQ => by
    simp only [codeOk] at hk
    simp only [codeN, Option.map_eq_some_iff, Prod.mk.injEq] at e
    obtain ⟨⟨ex1, s1⟩, e1, e2, rfl⟩ := e
    refine wp_block (codeN_ok hc hm fuel c e1 hs hk fun a' w' g1 g2 g3 => ?_)
    have := hQ a' w' g1 g2 g3
    simp only at e2
    cases ex1 with
    | normal => simp at e2; subst e2; exact this
    | ret => simp at e2; subst e2; exact this
    | exit id' =>
      simp only [Ex.exit', Exit.inBlock]
      by_cases hid : id' = id
      · subst hid; rw [if_pos rfl] at e2 ⊢; subst e2; exact this
      · rw [if_neg hid]; rw [if_neg (by simp [hid])] at e2; subst e2; exact this
  | .loop c, s, s', ex, a, w, Q, e, hs, hk, hQ => by
    simp only [codeOk] at hk
    simp only [codeN] at e
    refine wp_loop_rounds fuel ?_
    have key : ∀ (n : Nat) (s : St) (a1 : Act) (w1 : World), loopN (codeN P call hint fuel c) n s = some (ex, s') → SR A s a1 w1 → a1.defers = a.defers → a1.tmps.size = a.tmps.size → Code.rounds P c Q n a1 w1 := by
      intro n
      induction n with
      | zero => intro s a1 w1 e; cases e
      | succ n ih =>
        intro s a1 w1 e hs h1 h2
        simp only [loopN, Option.bind_eq_some_iff] at e
        obtain ⟨⟨ex1, s1⟩, e1, e2⟩ := e
        rw [rounds_succ]
        refine codeN_ok hc hm fuel c e1 hs (by rw [h2]; exact hk) fun a' w' g1 g2 g3 => ?_
        simp only at e2
        split at e2
        · exact ih s1 a' w' e2 g1 (g2.trans h1) (g3.trans h2)
        · rename_i ex0 hne
          simp only [Option.some.injEq, Prod.mk.injEq] at e2
          obtain ⟨rfl, rfl⟩ := e2
          cases ex1 with
          | normal => exact absurd rfl hne
          | exit id => exact hQ a' w' g1 (g2.trans h1) (g3.trans h2)
          | ret => exact hQ a' w' g1 (g2.trans h1) (g3.trans h2)
    exact key fuel s a w e hs rfl rfl
  | .scope c, s, s', ex, a, w, Q, e, hs, hk, hQ => by
    simp only [codeOk] at hk
    simp only [codeN] at e
    refine wp_scope_straight (codeN_ok hc hm fuel c e hs hk fun a' w' g1 g2 g3 => ?_)
    have := hQ a' w' g1 g2 g3
    cases ex <;> exact this
  | .rangeFunc _ _ _ _, s, s', ex, a, w, Q, e, hs, hk, hQ => by simp [codeN] at e
  | .goto _, s, s', ex, a, w, Q, e, hs, hk, hQ => by simp [codeN] at e
  | .refuse _, s, s', ex, a, w, Q, e, hs, hk, hQ => by simp [codeN] at e
def retF (tmps : Array Value) : ResultVar → Sem Value
  | .tmp t => pure (tmps.getD t undef)
  | .cell p t => do loadVar t (← asAddr (tmps.getD p undef))
theorem retVals_ok {ρ : Nat → Nat} {S : Root → List Nat} {hd : Root → Value} {s : St} {a : Act} {w : World} (h : KR A ρ S hd [] s.wk [] w) (hv : ∀ t, SO (cxOf A s.H.length ρ S [] w) s.wk.get hd (s.get t) (a.tmps.getD t undef)) :
    ∀ (l : List ResultVar) (svs : List SV), retVals P s l = some svs → ∃ vs : List Value, (l.mapM (retF a.tmps)).run P w = .ok vs w ∧ All2 (fun u v => SO (cxOf A s.H.length ρ S [] w) s.wk.get hd u v) svs vs
  | [], svs, e => by
    simp only [retVals, Option.some.injEq] at e
    subst e
    exact ⟨[], by simp, rfl⟩
  | r :: l, svs, e => by
    simp only [retVals, Option.bind_eq_some_iff, Option.map_eq_some_iff] at e
    obtain ⟨u, e1, us, e2, rfl⟩ := e
    obtain ⟨vs, h1, h2⟩ := retVals_ok h hv l us e2
    have one : ∃ v, (retF a.tmps r).run P w = .ok v w ∧ SO (cxOf A s.H.length ρ S [] w) s.wk.get hd u v := by
      cases r with
      | tmp t =>
        simp only [retVal, Option.some.injEq] at e1
        subst e1
        exact ⟨_, rfl, hv t⟩
      | cell p t =>
        obtain ⟨val, q1, q2⟩ := loadE_ok h (hv p) e1
        exact ⟨val, run_sure q1, q2⟩
    obtain ⟨v, g1, g2⟩ := one
    refine ⟨v :: vs, ?_, v, vs, rfl, g2, h2⟩
    rw [List.mapM_cons]
    simp only [Sem.run_bind, g1, Result.andThen_ok, h1, Sem.run_pure]
theorem results_ok {fn : Func} {a : Act} {w : World} {vs : List Value} (h : (fn.results.toList.mapM (retF a.tmps)).run P w = .ok vs w) : (results fn a.tmps).run P w = .ok (tupV vs) w := by
  have e : results fn a.tmps = (do let vs ← fn.results.mapM (retF a.tmps); pure (if h : vs.size = 1 then vs[0] else .tuple vs)) := rfl
  rw [e, Array.mapM_eq_mapM_toList, map_eq_pure_bind]
  simp only [Sem.run_bind, h, Result.andThen_ok, Sem.run_pure]
  match vs with
  | [] => rfl
  | [x] => rfl
  | x :: y :: r => simp [tupV]
theorem frz_fits {b : Bool} {t : T} {x : D} {v : Value} (h : T.frz b t = some x) (hf : fitsT t v) : fits x v := by
  cases t with
  | d y => simp only [T.frz, Option.some.injEq] at h; subst h; exact fits_norm hf
  | own es => simp only [T.frz, Option.map_eq_some_iff] at h; obtain ⟨l, _, rfl⟩ := h; exact hf
  | agg cs => simp only [T.frz, Option.map_eq_some_iff] at h; obtain ⟨l, _, rfl⟩ := h; exact hf
  | dead => simp [T.frz] at h
theorem RetAll.frz {c c' : Cx} (hx : Ext c c') : ∀ (ts : List T) (vs : List Value) (M : List Nat) (xs : List D), T.frzs false ts = some xs → Pure c c' false M → RetAll c ts vs M → RetAll c' (xs.map T.d) vs []
  | [], vs, M, xs, e, _, h => by
    simp only [T.frzs, Option.some.injEq] at e
    subst e
    obtain ⟨rfl, rfl⟩ := h
    exact ⟨rfl, rfl⟩
  | t :: ts, vs, M, xs, e, hp, h => by
    simp only [T.frzs, Option.bind_eq_some_iff, Option.map_eq_some_iff] at e
    obtain ⟨x, e1, ys, e2, rfl⟩ := e
    obtain ⟨v, r, M1, M2, rfl, rfl, h3, h4, h5⟩ := h
    exact ⟨v, _, [], [], rfl, rfl, by simp only [TC]; exact ⟨trivial, T.frz_ok hx false t x _ M1 e1 hp.left h3⟩, frz_fits e1 h4, RetAll.frz hx ts r M2 ys e2 hp.right h5⟩
theorem RetAll.lend {c : Cx} (hm : ∀ b, c.pm false b → c.pm true b) : ∀ (xs : List D) (vs : List Value), RetAll c (xs.map T.d) vs [] → RetAll c ((D.lends xs).map T.d) vs []
  | [], vs, h => h
  | x :: xs, vs, h => by
    obtain ⟨v, r, M1, M2, rfl, hM, h3, h4, h5⟩ := h
    obtain ⟨rfl, rfl⟩ : M1 = [] ∧ M2 = [] := by simpa using hM.symm
    simp only [TC] at h3
    exact ⟨v, r, [], [], rfl, rfl, by simp only [TC]; exact ⟨trivial, VC.lend hm _ _ h3.2⟩, fits_lend h4, RetAll.lend hm xs r h5⟩
theorem RetAll.canon {c : Cx} (hm : ∀ b, c.pm false b → c.pm true b) {sn : Bool} {xs : List D} {vs : List Value} (h : RetAll c (xs.map T.d) vs []) : RetAll c ((canon sn xs).map T.d) vs [] := by
  unfold Go.Am.canon
  split
  · exact h
  · exact RetAll.lend hm xs vs h
theorem leave_ok {fn : Func} {s : St} {a : Act} {w : World} {ex : Ex} {own : Bool} {rs : List T} {H2 : List Ob} (hs : SR A s a w) (e : leave P own fn A.n0 (ex, s) = some (rs, H2)) :
    (∀ id, ex ≠ .exit id) ∧ ∃ v, (results fn a.tmps).run P w = .ok v w ∧ Over A H2 rs v w := by
  have hne : ∀ id, ex ≠ .exit id := fun id h => by subst h; simp [leave] at e
  refine ⟨hne, ?_⟩
  have e' : ((retVals P s fn.results.toList).bind fun vs => (absorbA vs s.wk).bind fun (ts, k) => (settle own ts).map fun ts => (ts, trunc A.n0 ts k.H)) = some (rs, H2) := by
    revert e hne
    cases ex with
    | exit id => intro e hne; exact absurd rfl (hne id)
    | _ => intro e _; exact e
  simp only [Option.bind_eq_some_iff, Option.map_eq_some_iff, Prod.mk.injEq] at e'
  obtain ⟨svs, e1, ⟨ts1, k⟩, e2, ts, e3, rfl, rfl⟩ := e'
  obtain ⟨ρ, S, hd, h, hv⟩ := hs
  obtain ⟨vs, h1, h2⟩ := retVals_ok h hv _ _ e1
  refine ⟨_, results_ok h1, ?_⟩
  have hk : KR A ρ S hd [] s.wk (svs.zip vs) w := h.withVals (fun p hp => by
    have : ∀ (svs : List SV) (vs : List Value), All2 (fun u v => SO (cxOf A s.H.length ρ S [] w) s.wk.get hd u v) svs vs → ∀ p ∈ svs.zip vs, SO (cxOf A s.H.length ρ S [] w) s.wk.get hd p.1 p.2 := by
      intro svs
      induction svs with
      | nil => intro vs _ p hp; simp at hp
      | cons u us ih =>
        intro vs ha p hp
        obtain ⟨v, r, rfl, q1, q2⟩ := ha
        rcases List.mem_cons.1 hp with rfl | hp
        · exact q1
        · exact ih r q2 p hp
    exact this svs vs h2 p hp)
  have hall : All2 (fun u v => (u, v) ∈ svs.zip vs) svs vs := by
    have : ∀ (svs : List SV) (vs : List Value) (L : List (SV × Value)), All2 (fun u v => SO (cxOf A s.H.length ρ S [] w) s.wk.get hd u v) svs vs → (∀ p ∈ svs.zip vs, p ∈ L) → All2 (fun u v => (u, v) ∈ L) svs vs := by
      intro svs
      induction svs with
      | nil => intro vs L ha _; exact ha
      | cons u us ih =>
        intro vs L ha hL
        obtain ⟨v, r, rfl, q1, q2⟩ := ha
        exact ⟨v, r, rfl, hL _ (by simp), ih r L q2 (fun p hp => hL p (by simp [hp]))⟩
    exact this svs vs _ h2 (fun p hp => hp)
  obtain ⟨S1, M1, g1, g2, g3, g4⟩ := absorbA_ok svs vs ts1 s.wk k S [] hk hall e2
  rw [List.append_nil] at g1 g2 g3
  have settled : ∃ M, KR A ρ S1 hd M k (svs.zip vs) w ∧ RetAll (cxOf A k.H.length ρ S1 M w) ts vs M := by
    unfold settle at e3
    split at e3
    · simp only [Option.some.injEq] at e3
      subst e3
      exact ⟨M1, g1, RetAll.fresh _ _ _ g3⟩
    · simp only [Option.map_eq_some_iff] at e3
      obtain ⟨xs, e3, rfl⟩ := e3
      obtain ⟨q1, q2⟩ := g1.letGo (fl' := []) (by simp) (by simp)
      refine ⟨[], q1, RetAll.canon (cxOf_mono _ _ _ _ _ _) (RetAll.frz q2 ts1 vs M1 xs e3 (fun g hg => ?_) g3)⟩
      have hb := g1.blk g (.inr hg)
      refine ⟨⟨fun ho => ?_, hb.2.1 _, hb.1⟩, rfl⟩
      rcases ho with ⟨r, ho⟩ | ho
      · exact g1.dis.oneF r g ho hg
      · simp at ho
  clear g1 g2 g3
  obtain ⟨M, g1, g3⟩ := settled
  have hn := g1.rho.1
  have full : ∃ S', KR A ρ S' hd M { ct := [], H := k.H } [] w ∧ RetAll (cxOf A k.H.length ρ S' M w) ts vs M := by
    obtain ⟨S', q1, q2⟩ := g1.cut (n2 := k.H.length) (Nat.le_refl _) hn (.inl rfl)
    rw [List.take_length] at q1
    exact ⟨S', q1, RetAll.ext q2 _ _ _ (fun _ _ => rfl) g3⟩
  unfold trunc
  split
  · obtain ⟨S', q1, q2⟩ := full
    exact ⟨ρ, S', hd, M, vs, q1, q2, rfl⟩
  · split
    · rename_i hl
      obtain ⟨hl1, hl2⟩ := hl
      obtain ⟨S', q1, q2⟩ := g1.cut (n2 := A.n0) hn (Nat.le_refl _) (.inr (fun ob hob => List.all_eq_true.1 hl2 ob hob))
      have hlen : (k.H.take A.n0).length = A.n0 := by simp; omega
      exact ⟨ρ, S', hd, M, vs, q1, by rw [hlen]; exact RetAll.ext q2 _ _ _ (fun _ _ => rfl) (RetAll.lo _ _ _ hl1 g3), rfl⟩
    · obtain ⟨S', q1, q2⟩ := full
      exact ⟨ρ, S', hd, M, vs, q1, q2, rfl⟩
theorem look_enter (ds : List D) (vs : List Value) (t : Nat) {c : Cx} {K : Root → Option T} {hd : Root → Value} (h : VVs c ds vs) : ∀ j, SO c K hd ((look ((ds.zipIdx j).map fun p => (p.2, SV.d p.1)) t).getD .dead) ((if j ≤ t then vs[t - j]? else none).getD undef) := by
  induction ds generalizing vs with
  | nil => intro j; trivial
  | cons d ds ih =>
    intro j
    simp only [VVs] at h
    obtain ⟨v, r, rfl, h1, h2, h3⟩ := h
    simp only [List.zipIdx_cons, List.map_cons, look]
    by_cases hj : j = t
    · subst hj
      rw [if_pos rfl, if_pos (Nat.le_refl _), Nat.sub_self]
      exact (⟨h1, h2⟩ : VV c d v)
    · rw [if_neg hj]
      have := ih r h3 (j + 1)
      by_cases hlt : j ≤ t
      · rw [if_pos (by omega)] at this
        rw [if_pos hlt, show t - j = (t - (j + 1)) + 1 by omega, List.getElem?_cons_succ]
        exact this
      · rw [if_neg (by omega)] at this
        rw [if_neg hlt]
        exact this
theorem enter_ok {ds : List D} {H : List Ob} {args : Array Value} {S : Root → List Nat} {hd : Root → Value} {n : Nat} (h : KR A A.ρ0 S hd [] { ct := [], H } [] A.w0) (ha : VVs (cxOf A H.length A.ρ0 S [] A.w0) ds args.toList) :
    SR A (enter ds H) { tmps := args ++ Array.replicate (n - args.size) undef, defers := [] } A.w0 := by
  refine ⟨A.ρ0, S, hd, h, fun t => ?_⟩
  have := look_enter (K := (enter ds H).wk.get) (hd := hd) ds args.toList t ha 0
  simp only [Nat.zero_le, if_true, Nat.sub_zero] at this
  have e2 : ((args ++ Array.replicate (n - args.size) undef).getD t undef) = (args.toList[t]?).getD undef := by
    rw [Array.getElem?_toList]
    by_cases hlt : t < args.size
    · rw [Array.getD_eq_getD_getElem?, Array.getElem?_append_left hlt]
    · rw [Array.getD_eq_getD_getElem?, Array.getElem?_append_right (by omega), Array.getElem?_eq_none (xs := args) (by omega)]
      by_cases h2 : t - args.size < n - args.size
      · rw [Array.getElem?_replicate, if_pos h2]; rfl
      · rw [Array.getElem?_replicate, if_neg h2]
  show SO _ _ _ ((look (ds.zipIdx.map fun p => (p.2, SV.d p.1)) t).getD .dead) _
  rw [e2]
  exact this
theorem enterE_ok {b : Bool} {H : List Ob} {args : Array Value} {S : Root → List Nat} {hd : Root → Value} {n : Nat} {v : Value} (h : KR A A.ρ0 S hd [] { ct := [], H } [] A.w0) (ha : args.toList = [v]) (hv : ∃ a cap, v = .slice a 0 cap ∧ b = a.isNone) :
    SR A (enterE b H) { tmps := args ++ Array.replicate (n - args.size) undef, defers := [] } A.w0 := by
  refine ⟨A.ρ0, S, hd, h, fun t => ?_⟩
  have hs : args.size = 1 := by rw [← Array.length_toList, ha]; rfl
  show SO _ _ _ ((look [(0, SV.ns b)] t).getD .dead) _
  by_cases ht : t = 0
  · subst ht
    have : ((args ++ Array.replicate (n - args.size) undef).getD 0 undef) = v := by
      rw [Array.getD_eq_getD_getElem?, Array.getElem?_append_left (by omega), ← Array.getElem?_toList, ha]; rfl
    rw [this]
    exact hv
  · have : (look [(0, SV.ns b)] t).getD .dead = .dead := by
      simp only [look]
      rw [if_neg fun e => ht e.symm]; rfl
    rw [this]
    trivial
theorem over_flag {A : Av} {H2 : List Ob} {c : Bool} {v : Value} {w' : World} (h : Over A H2 [.d (.sl false [])] v w') : Over A H2 [.d (.sl c [])] v w' := by
  obtain ⟨ρ', S', hd', M, vs, h1, h2, h3⟩ := h
  refine ⟨ρ', S', hd', M, vs, h1, ?_, h3⟩
  simp only [RetAll] at h2 ⊢
  obtain ⟨u, r, M1, M2, e1, e2, h4, h5, h6⟩ := h2
  refine ⟨u, r, M1, M2, e1, e2, ?_, h5, h6⟩
  simp only [TC, VC] at h4 ⊢
  obtain ⟨q, a, len, cap, q1, q2, q3, _⟩ := h4
  exact ⟨q, a, len, cap, q1, q2, q3, fun h => absurd rfl h⟩
theorem allLock_eq : ∀ {H : List Ob}, allLock H = true → H = List.replicate H.length .lock
  | [], _ => rfl
  | o :: H, h => by
    simp only [allLock, List.all_cons, Bool.and_eq_true] at h
    have h1 := allLock_eq (H := H) h.2
    cases o with
    | lock => simp only [List.length_cons, List.replicate_succ]; rw [← h1]
    | _ => cases h.1
theorem VVs.len {c : Cx} : ∀ (l : List D) (vs : List Value), VVs c l vs → vs.length = l.length
  | [], vs, h => by simp only [VVs] at h; simp [h]
  | d :: ds, vs, h => by
    simp only [VVs] at h
    obtain ⟨v, r, rfl, _, _, h3⟩ := h
    simp [VVs.len ds r h3]
theorem opsOk_mono {n m : Nat} (h : n ≤ m) {ops : Array Oper} (hk : opsOk n ops = true) : opsOk m ops = true := by
  refine List.all_eq_true.2 fun o ho => ?_
  have := List.all_eq_true.1 hk o ho
  cases hd : o.dst with
  | none => rfl
  | some d =>
    simp only [hd, decide_eq_true_eq] at this ⊢
    exact Nat.lt_of_lt_of_le this h
theorem codeOk_mono {n m : Nat} (h : n ≤ m) : ∀ (c : Code), codeOk n c = true → codeOk m c = true
  | .region _ ops _, hk => opsOk_mono h hk
  | .seq a b, hk => by simp only [codeOk, Bool.and_eq_true] at hk ⊢; exact ⟨codeOk_mono h a hk.1, codeOk_mono h b hk.2⟩
  | .cond _ a b, hk => by simp only [codeOk, Bool.and_eq_true] at hk ⊢; exact ⟨codeOk_mono h a hk.1, codeOk_mono h b hk.2⟩
  | .block _ c, hk => codeOk_mono h c hk
  | .loop c, hk => codeOk_mono h c hk
  | .scope c, hk => codeOk_mono h c hk
  | .skip, _ => rfl
  | .rangeFunc _ _ _ _, _ => rfl
  | .exit _, _ => rfl
  | .label _, _ => rfl
  | .goto _, _ => rfl
  | .ret, _ => rfl
  | .refuse _, _ => rfl
theorem callN_ok (hm : P.follows .mixedOrders = true) (hints : FuncId → Hint) : ∀ n, CallOK P (callN P hints n)
  | 0 => fun f ds H rs H2 e => by simp [callN] at e
  | n + 1 => fun f ds H rs H2 e => by
    have ih := callN_ok hm hints n
    simp only [callN, Option.bind_eq_some_iff] at e
    obtain ⟨fn, hf, c, hb, e⟩ := e
    split at e
    · rename_i hh
      obtain ⟨hl, hk, hnm⟩ := hh
      by_cases hnil : (decide ((hints f).nilt ≠ 0) && emptyArg ds) = true
      · rw [if_pos hnil] at e
        obtain ⟨t1, t2, H1, H2', ht, q1, q2, l1, l2, m1, m2, hr⟩ := bothE_some e
        obtain ⟨b0, rfl⟩ : ∃ b0, ds = [.sl b0 []] := by
          simp only [Bool.and_eq_true] at hnil
          have h2 := hnil.2
          unfold emptyArg at h2
          split at h2
          · exact ⟨_, rfl⟩
          · cases h2
        refine ⟨⟨fn, hf, by rw [hb]; rfl, hnm⟩, fun A S hd args hA hkr hargs => ?_⟩
        obtain ⟨v, hv1, a, cap, rfl⟩ : ∃ v, args.toList = [v] ∧ ∃ a cap, v = .slice a 0 cap := by
          simp only [VVs] at hargs
          obtain ⟨v, r, h1, h2, h3, rfl⟩ := hargs
          have h4 := VV.inv (c := _) ⟨h2, h3⟩ (by simp)
          simp only [VC, List.cons.injEq, and_true] at h4
          obtain ⟨a, len, cap, rfl, rfl, _⟩ := h4
          exact ⟨_, h1, a, cap, rfl⟩
        have go : ∀ (b : Bool) (Hb : List Ob), b = a.isNone → allLock Hb = true → Hb.length = H.length → (codeN P (callN P hints n) (hints f) n c (enterE b H)).bind (leave P (hints f).own fn H.length) = some ([t1], Hb) →
            Calls P f args A.w0 fun e w' => ∃ v, e = .returned v ∧ Over A H2 rs v w' := by
          intro b Hb hba hlk hlen hrun
          obtain rfl : Hb = H2 := by rw [allLock_eq hlk, hlen]; exact (congrArg Prod.snd hr).symm
          obtain rfl : rs = [t2] := congrArg Prod.fst hr
          have told : ∀ {v w'}, Over A Hb [t1] v w' → Over A Hb [t2] v w' := fun q => by
            rcases ht with ⟨rfl, rfl⟩ | ⟨rfl, rfl⟩
            · exact over_flag q
            · exact q
          simp only [Option.bind_eq_some_iff] at hrun
          obtain ⟨⟨ex, s'⟩, e1, e2⟩ := hrun
          refine calls_of_wp hf hb (codeN_ok ih hm n c e1 (enterE_ok hkr hv1 ⟨a, cap, rfl, hba⟩) (codeOk_mono (by simp; omega) c hk) fun a' w' g1 g2 g3 => ?_)
          rw [← hA] at e2
          obtain ⟨q1, v, q2, q3⟩ := leave_ok g1 e2
          cases ex with
          | exit id => exact absurd rfl (q1 id)
          | normal => exact ⟨g2, v, q2, v, rfl, told q3⟩
          | ret => exact ⟨g2, v, q2, v, rfl, told q3⟩
        cases hn : a.isNone with
        | true => exact go true H1 hn.symm l1 m1 q1
        | false => exact go false H2' hn.symm l2 m2 q2
      rw [if_neg hnil] at e
      simp only [Option.bind_eq_some_iff] at e
      obtain ⟨⟨ex, s'⟩, e1, e2⟩ := e
      refine ⟨⟨fn, hf, by rw [hb]; rfl, hnm⟩, fun A S hd args hA hkr hargs => ?_⟩
      refine calls_of_wp hf hb (codeN_ok ih hm n c e1 (enter_ok hkr hargs) (codeOk_mono (by simp; omega) c hk) fun a' w' g1 g2 g3 => ?_)
      rw [← hA] at e2
      obtain ⟨q1, v, q2, q3⟩ := leave_ok g1 e2
      cases ex with
      | exit id => exact absurd rfl (q1 id)
      | normal => exact ⟨g2, v, q2, v, rfl, q3⟩
      | ret => exact ⟨g2, v, q2, v, rfl, q3⟩
    · cases e
end
end Go.Am
namespace Go.Am
open Go
set_option linter.unusedSimpArgs false
set_option linter.unusedVariables false
def CallLe (c c' : CallF) : Prop := ∀ f ds H r, c f ds H = some r → c' f ds H = some r
section
variable {P : Program} {c c' : CallF} {h : Hint}
theorem callE0_mono (hc : CallLe c c') {dst : Nat} {f : FuncId} {ds : List D} {b : Lend} {k : Wk} {r : SV × Wk} (e : callE0 c h dst f ds b k = some r) : callE0 c' h dst f ds b k = some r := by
  unfold callE0 at e ⊢
  split at e
  · rename_i hk
    rw [if_pos hk]
    simp only [Option.bind_eq_some_iff] at e ⊢
    obtain ⟨x, e1, e2⟩ := e
    exact ⟨x, hc _ _ _ _ e1, e2⟩
  rename_i hk0
  rw [if_neg hk0]
  split at e
  · cases e
  · rename_i hk
    rw [if_neg hk]
    simp only [Option.bind_eq_some_iff] at e ⊢
    obtain ⟨x, e1, e2⟩ := e
    exact ⟨x, hc _ _ _ _ e1, e2⟩
theorem callE_mono (hc : CallLe c c') {dst : Nat} {f : FuncId} {ds : List D} {b : Lend} {k : Wk} {r : SV × Wk} (e : callE c h dst f ds b k = some r) : callE c' h dst f ds b k = some r := by
  unfold callE at e ⊢
  split at e
  · rename_i hro
    simp only [Option.bind_eq_some_iff] at e
    obtain ⟨ds', e1, e⟩ := e
    rw [if_pos hro, e1]
    exact callE0_mono hc e
  · rename_i hro
    rw [if_neg hro]
    exact callE0_mono hc e
theorem stepE_mono (hc : CallLe c c') {dst : Nat} {ty : TypeId} {op : Op} {σ : Operand → SV} {k : Wk} {r : SV × Wk} (e : stepE P c h dst ty op σ k = some r) : stepE P c' h dst ty op σ k = some r := by
  unfold stepE at e ⊢
  split at e
  · simp only
    split at e
    · simp only [Option.bind_eq_some_iff] at e ⊢
      obtain ⟨x, e1, e2⟩ := e
      exact ⟨x, e1, callE_mono hc e2⟩
    · cases e
  · exact e
theorem evalO_mono (hc : CallLe c c') {ops : List Oper} {o : Oper} {s : St} {r : Bool × SV × Wk} (e : evalO P c h ops o s = some r) : evalO P c' h ops o s = some r := by
  simp only [evalO, Option.bind_eq_some_iff] at e ⊢
  obtain ⟨w, e1, e2⟩ := e
  refine ⟨w, e1, ?_⟩
  split at e2
  · rename_i hw
    rw [if_pos hw]
    simp only [Option.map_eq_some_iff] at e2 ⊢
    obtain ⟨x, e3, e4⟩ := e2
    exact ⟨x, stepE_mono hc e3, e4⟩
  · rename_i hw
    rw [if_neg hw]; exact e2
theorem runOp_mono (hc : CallLe c c') {ops : List Oper} {o : Oper} {s s' : St} (e : runOp P c h ops o s = some s') : runOp P c' h ops o s = some s' := by
  rw [runOp_evalO] at e ⊢
  simp only [Option.map_eq_some_iff] at e ⊢
  obtain ⟨x, e1, e2⟩ := e
  exact ⟨x, evalO_mono hc e1, e2⟩
theorem runOps_mono (hc : CallLe c c') {ops : List Oper} : ∀ (l : List Oper) {s s' : St}, runOps P c h ops l s = some s' → runOps P c' h ops l s = some s'
  | [], s, s', e => e
  | o :: l, s, s', e => by
    simp only [runOps, Option.bind_eq_some_iff] at e ⊢
    obtain ⟨x, e1, e2⟩ := e
    exact ⟨x, runOp_mono hc e1, runOps_mono hc l e2⟩
theorem runOpF_mono (hc : CallLe c c') {ops : List Oper} {o : Oper} {s : Cf} {r : Cf × Fp} (e : runOpF P c h ops o s = some r) : runOpF P c' h ops o s = some r := by
  simp only [runOpF, Option.map_eq_some_iff] at e ⊢
  obtain ⟨x, e1, e2⟩ := e
  exact ⟨x, evalO_mono hc e1, e2⟩
theorem runOpsF_mono (hc : CallLe c c') {ops : List Oper} : ∀ (l : List Oper) {s : Cf} {r : Cf × List Fp}, runOpsF P c h ops l s = some r → runOpsF P c' h ops l s = some r
  | [], s, r, e => e
  | o :: l, s, r, e => by
    simp only [runOpsF, Option.bind_eq_some_iff, Option.map_eq_some_iff] at e ⊢
    obtain ⟨x, e1, y, e2, e3⟩ := e
    exact ⟨x, runOpF_mono hc e1, y, runOpsF_mono hc l e2, e3⟩
theorem loopN_mono {f f' : St → Option (Ex × St)} (hf : ∀ s r, f s = some r → f' s = some r) : ∀ (n m : Nat), n ≤ m → ∀ s r, loopN f n s = some r → loopN f' m s = some r
  | 0, _, _, _, _, e => by cases e
  | n + 1, 0, h, _, _, _ => by omega
  | n + 1, m + 1, h, s, r, e => by
    simp only [loopN, Option.bind_eq_some_iff] at e ⊢
    obtain ⟨⟨ex, s1⟩, e1, e2⟩ := e
    refine ⟨⟨ex, s1⟩, hf _ _ e1, ?_⟩
    simp only at e2 ⊢
    split at e2
    · exact loopN_mono hf n m (by omega) _ _ e2
    · exact e2
theorem codeN_mono (hc : CallLe c c') {n m : Nat} (hn : n ≤ m) : ∀ (cd : Code) (s : St) (r : Ex × St), codeN P c h n cd s = some r → codeN P c' h m cd s = some r
  | .skip, s, r, e => e
  | .label _, s, r, e => e
  | .ret, s, r, e => e
  | .exit _, s, r, e => e
  | .goto _, s, r, e => by cases e
  | .refuse _, s, r, e => by cases e
  | .rangeFunc _ _ _ _, s, r, e => by cases e
  | .region id ops dr, s, r, e => by
    simp only [codeN] at e ⊢
    cases dr with
    | true =>
      simp only [if_true, Option.bind_eq_some_iff] at e ⊢
      obtain ⟨x, e1, e2⟩ := e
      exact ⟨x, runOpsF_mono hc _ e1, e2⟩
    | false =>
      simp only [Bool.false_eq_true, if_false, Option.map_eq_some_iff] at e ⊢
      obtain ⟨x, e1, e2⟩ := e
      exact ⟨x, runOps_mono hc _ e1, e2⟩
  | .seq a b, s, r, e => by
    simp only [codeN, Option.bind_eq_some_iff] at e ⊢
    obtain ⟨⟨ex, s1⟩, e1, e2⟩ := e
    refine ⟨⟨ex, s1⟩, codeN_mono hc hn a _ _ e1, ?_⟩
    simp only at e2 ⊢
    split at e2
    · exact codeN_mono hc hn b _ _ e2
    · exact e2
  | .cond o a b, s, r, e => by
    simp only [codeN] at e ⊢
    split at e
    · split at e
      · rename_i ht; rw [if_pos ht]; exact codeN_mono hc hn a _ _ e
      · rename_i ht; rw [if_neg ht]; exact codeN_mono hc hn b _ _ e
    · cases e
  | .block id a, s, r, e => by
    simp only [codeN, Option.map_eq_some_iff] at e ⊢
    obtain ⟨x, e1, e2⟩ := e
    exact ⟨x, codeN_mono hc hn a _ _ e1, e2⟩
  | .loop a, s, r, e => by
    simp only [codeN] at e ⊢
    exact loopN_mono (fun s r => codeN_mono hc hn a s r) n m hn s r e
  | .scope a, s, r, e => by
    simp only [codeN] at e ⊢
    exact codeN_mono hc hn a _ _ e
theorem callN_le {hints : FuncId → Hint} : ∀ n, CallLe (callN P hints n) (callN P hints (n + 1))
  | 0 => fun f ds H r e => by cases e
  | n + 1 => fun f ds H r e => by
    have ih := callN_le (hints := hints) n
    simp only [callN, Option.bind_eq_some_iff] at e ⊢
    obtain ⟨fn, h1, cd, h2, e⟩ := e
    refine ⟨fn, h1, cd, h2, ?_⟩
    split at e
    · rename_i hh
      rw [if_pos hh]
      by_cases hnil : (decide ((hints f).nilt ≠ 0) && emptyArg ds) = true
      · rw [if_pos hnil] at e ⊢
        obtain ⟨t1, t2, H1, H2, ht, q1, q2, l1, l2, m1, m2, rfl⟩ := bothE_some e
        simp only [Option.bind_eq_some_iff] at q1 q2
        obtain ⟨x, e1, e2⟩ := q1
        obtain ⟨y, e3, e4⟩ := q2
        show bothE H.length (flagE (hints f) ds) ((codeN P (callN P hints (n + 1)) (hints f) (n + 1) cd (enterE true H)).bind (leave P (hints f).own fn H.length)) ((codeN P (callN P hints (n + 1)) (hints f) (n + 1) cd (enterE false H)).bind (leave P (hints f).own fn H.length)) = _
        rw [codeN_mono ih (Nat.le_succ n) cd _ _ e1, codeN_mono ih (Nat.le_succ n) cd _ _ e3, Option.bind_some, Option.bind_some, e2, e4]
        exact bothE_of ht l1 l2 m1 m2
      rw [if_neg hnil] at e ⊢
      simp only [Option.bind_eq_some_iff] at e ⊢
      obtain ⟨x, e1, e2⟩ := e
      exact ⟨x, codeN_mono ih (Nat.le_succ n) cd _ _ e1, e2⟩
    · cases e
theorem callN_mono {hints : FuncId → Hint} {n m : Nat} (h : n ≤ m) : CallLe (callN P hints n) (callN P hints m) := by
  induction h with
  | refl => exact fun _ _ _ _ e => e
  | step _ ih => exact fun f ds H r e => callN_le _ f ds H r (ih f ds H r e)
end
open Classical in
noncomputable def lim {α : Type} (g : Nat → Option α) : Option α := if h : ∃ r, ∃ n, g n = some r then some (Classical.choose h) else none
theorem lim_iff {α : Type} {g : Nat → Option α} (hg : ∀ n m r, n ≤ m → g n = some r → g m = some r) {r : α} : lim g = some r ↔ ∃ n, g n = some r := by
  unfold lim
  constructor
  · intro h
    split at h
    · rename_i hx
      simp only [Option.some.injEq] at h
      rw [← h]
      exact Classical.choose_spec hx
    · cases h
  · rintro ⟨n, hn⟩
    have hx : ∃ r, ∃ n, g n = some r := ⟨r, n, hn⟩
    rw [dif_pos hx]
    obtain ⟨m, hm⟩ := Classical.choose_spec hx
    have h1 := hg n (max n m) r (Nat.le_max_left _ _) hn
    have h2 := hg m (max n m) _ (Nat.le_max_right _ _) hm
    rw [h1] at h2
    simp only [Option.some.injEq] at h2
    rw [← h2]
section
variable (P : Program) (hints : FuncId → Hint)
noncomputable def callX : CallF := fun f ds H => lim fun n => callN P hints n f ds H
noncomputable def codeX (h : Hint) (c : Code) (s : St) : Option (Ex × St) := lim fun n => codeN P (callN P hints n) h n c s
variable {P hints}
theorem callX_iff {f : FuncId} {ds : List D} {H : List Ob} {r : List T × List Ob} : callX P hints f ds H = some r ↔ ∃ n, callN P hints n f ds H = some r :=
  lim_iff fun n m r h e => callN_mono h f ds H r e
theorem codeX_iff {h : Hint} {c : Code} {s : St} {r : Ex × St} : codeX P hints h c s = some r ↔ ∃ n, codeN P (callN P hints n) h n c s = some r :=
  lim_iff fun n m r hn e => codeN_mono (callN_mono hn) hn c s r e
theorem callN_X (n : Nat) : CallLe (callN P hints n) (callX P hints) := fun f ds H r e => callX_iff.2 ⟨n, e⟩
section
variable {h : Hint}
theorem callE0_cont {dst : Nat} {f : FuncId} {ds : List D} {b : Lend} {k : Wk} {r : SV × Wk} (e : callE0 (callX P hints) h dst f ds b k = some r) : ∃ n, callE0 (callN P hints n) h dst f ds b k = some r := by
  unfold callE0 at e
  split at e
  · rename_i hk
    simp only [Option.bind_eq_some_iff] at e
    obtain ⟨x, e1, e2⟩ := e
    obtain ⟨n, hn⟩ := callX_iff.1 e1
    exact ⟨n, by unfold callE0; rw [if_pos hk, hn]; exact e2⟩
  rename_i hk0
  split at e
  · cases e
  · rename_i hk
    simp only [Option.bind_eq_some_iff] at e
    obtain ⟨x, e1, e2⟩ := e
    obtain ⟨n, hn⟩ := callX_iff.1 e1
    exact ⟨n, by unfold callE0; rw [if_neg hk0, if_neg hk, hn]; exact e2⟩
theorem callE_cont {dst : Nat} {f : FuncId} {ds : List D} {b : Lend} {k : Wk} {r : SV × Wk} (e : callE (callX P hints) h dst f ds b k = some r) : ∃ n, callE (callN P hints n) h dst f ds b k = some r := by
  unfold callE at e
  split at e
  · rename_i hro
    simp only [Option.bind_eq_some_iff] at e
    obtain ⟨ds', e1, e⟩ := e
    obtain ⟨n, hn⟩ := callE0_cont e
    exact ⟨n, by unfold callE; rw [if_pos hro, e1]; exact hn⟩
  · rename_i hro
    obtain ⟨n, hn⟩ := callE0_cont e
    exact ⟨n, by unfold callE; rw [if_neg hro]; exact hn⟩
theorem stepE_cont {dst : Nat} {ty : TypeId} {op : Op} {σ : Operand → SV} {k : Wk} {r : SV × Wk} (e : stepE P (callX P hints) h dst ty op σ k = some r) : ∃ n, stepE P (callN P hints n) h dst ty op σ k = some r := by
  by_cases hc : ∃ f args ats, op = .call { callee := .value f, args := args, argTypes := ats }
  · obtain ⟨f, args, ats, rfl⟩ := hc
    unfold stepE at e ⊢
    simp only at e ⊢
    split at e
    · simp only [Option.bind_eq_some_iff] at e
      obtain ⟨x, e1, e2⟩ := e
      obtain ⟨n, hn⟩ := callE_cont e2
      exact ⟨n, by rw [e1]; exact hn⟩
    · cases e
  · have : ∀ call : CallF, stepE P call h dst ty op σ k = opE P h dst ty op σ k := fun call => by
      unfold stepE
      split
      · exact absurd ⟨_, _, _, rfl⟩ hc
      · rfl
    rw [this] at e
    exact ⟨0, by rw [this]; exact e⟩
theorem evalO_cont {ops : List Oper} {o : Oper} {s : St} {r : Bool × SV × Wk} (e : evalO P (callX P hints) h ops o s = some r) : ∃ n, evalO P (callN P hints n) h ops o s = some r := by
  simp only [evalO, Option.bind_eq_some_iff] at e
  obtain ⟨w, e1, e2⟩ := e
  split at e2
  · rename_i hw
    simp only [Option.map_eq_some_iff] at e2
    obtain ⟨x, e3, e4⟩ := e2
    obtain ⟨n, hn⟩ := stepE_cont e3
    exact ⟨n, by simp only [evalO, e1, Option.bind_some, hw, if_true, hn, Option.map_some]; rw [← e4]⟩
  · rename_i hw
    exact ⟨0, by simp only [evalO, e1, Option.bind_some]; rw [if_neg hw]; exact e2⟩
theorem runOps_cont {ops : List Oper} : ∀ (l : List Oper) {s s' : St}, runOps P (callX P hints) h ops l s = some s' → ∃ n, runOps P (callN P hints n) h ops l s = some s'
  | [], s, s', e => ⟨0, e⟩
  | o :: l, s, s', e => by
    simp only [runOps, Option.bind_eq_some_iff] at e
    obtain ⟨x, e1, e2⟩ := e
    rw [runOp_evalO] at e1
    simp only [Option.map_eq_some_iff] at e1
    obtain ⟨y, e3, e4⟩ := e1
    obtain ⟨n, hn⟩ := evalO_cont e3
    obtain ⟨m, hm⟩ := runOps_cont l e2
    refine ⟨max n m, ?_⟩
    simp only [runOps, Option.bind_eq_some_iff]
    refine ⟨x, ?_, runOps_mono (callN_mono (Nat.le_max_right n m)) l hm⟩
    rw [runOp_evalO, evalO_mono (callN_mono (Nat.le_max_left n m)) hn]
    simp only [Option.map_some, e4]
theorem runOpsF_cont {ops : List Oper} : ∀ (l : List Oper) {s : Cf} {r : Cf × List Fp}, runOpsF P (callX P hints) h ops l s = some r → ∃ n, runOpsF P (callN P hints n) h ops l s = some r
  | [], s, r, e => ⟨0, e⟩
  | o :: l, s, r, e => by
    simp only [runOpsF, Option.bind_eq_some_iff, Option.map_eq_some_iff] at e
    obtain ⟨x, e1, y, e2, e3⟩ := e
    simp only [runOpF, Option.map_eq_some_iff] at e1
    obtain ⟨z, e4, e5⟩ := e1
    obtain ⟨n, hn⟩ := evalO_cont e4
    obtain ⟨m, hm⟩ := runOpsF_cont l e2
    refine ⟨max n m, ?_⟩
    simp only [runOpsF, Option.bind_eq_some_iff, Option.map_eq_some_iff]
    refine ⟨x, ?_, y, runOpsF_mono (callN_mono (Nat.le_max_right n m)) l hm, e3⟩
    simp only [runOpF, evalO_mono (callN_mono (Nat.le_max_left n m)) hn, Option.map_some, e5]
theorem ext_some {α : Type} {x y : Option α} (h : ∀ r, x = some r ↔ y = some r) : x = y := Option.ext h
theorem codeX_plain {c : Code} {s : St} {x : Option (Ex × St)} (hx : ∀ n, codeN P (callN P hints n) h n c s = x) : codeX P hints h c s = x :=
  ext_some fun r => by rw [codeX_iff]; simp [hx]
theorem codeX_skip {s : St} : codeX P hints h .skip s = some (.normal, s) := codeX_plain fun _ => rfl
theorem codeX_label {l : Nat} {s : St} : codeX P hints h (.label l) s = some (.normal, s) := codeX_plain fun _ => rfl
theorem codeX_ret {s : St} : codeX P hints h .ret s = some (.ret, s) := codeX_plain fun _ => rfl
theorem codeX_exit {id : Nat} {s : St} : codeX P hints h (.exit id) s = some (.exit id, s) := codeX_plain fun _ => rfl
theorem codeX_region {id : Nat} {ops : Array Oper} {s : St} : codeX P hints h (.region id ops false) s = (runOps P (callX P hints) h ops.toList ops.toList s).map fun s' => (.normal, prune (h.live id) s') :=
  ext_some fun r => by
    rw [codeX_iff]
    simp only [codeN, Bool.false_eq_true, if_false, Option.map_eq_some_iff]
    constructor
    · rintro ⟨n, x, e1, e2⟩; exact ⟨x, runOps_mono (callN_X n) _ e1, e2⟩
    · rintro ⟨x, e1, e2⟩; obtain ⟨n, hn⟩ := runOps_cont _ e1; exact ⟨n, x, hn, e2⟩
theorem codeX_draw {id : Nat} {ops : Array Oper} {s : St} : codeX P hints h (.region id ops true) s = (runOpsF P (callX P hints) h ops.toList ops.toList (s, hist0 s)).bind fun (c, fs) => if checkR ops.toList fs then some (.normal, prune (h.live id) c.1) else none :=
  ext_some fun r => by
    rw [codeX_iff]
    simp only [codeN, if_true, Option.bind_eq_some_iff]
    constructor
    · rintro ⟨n, x, e1, e2⟩; exact ⟨x, runOpsF_mono (callN_X n) _ e1, e2⟩
    · rintro ⟨x, e1, e2⟩; obtain ⟨n, hn⟩ := runOpsF_cont _ e1; exact ⟨n, x, hn, e2⟩
noncomputable def thenX (P : Program) (hints : FuncId → Hint) (h : Hint) (b : Code) (r : Ex × St) : Option (Ex × St) := match r.1 with | .normal => codeX P hints h b r.2 | e => some (e, r.2)
theorem codeX_seq {a b : Code} {s : St} : codeX P hints h (.seq a b) s = (codeX P hints h a s).bind (thenX P hints h b) :=
  ext_some fun r => by
    rw [codeX_iff]
    simp only [codeN, Option.bind_eq_some_iff, thenX]
    constructor
    · rintro ⟨n, ⟨ex, s1⟩, e1, e2⟩
      refine ⟨⟨ex, s1⟩, codeX_iff.2 ⟨n, e1⟩, ?_⟩
      simp only at e2 ⊢
      cases ex with
      | normal => exact codeX_iff.2 ⟨n, e2⟩
      | _ => exact e2
    · rintro ⟨⟨ex, s1⟩, e1, e2⟩
      obtain ⟨n, hn⟩ := codeX_iff.1 e1
      simp only at e2
      split at e2
      · obtain ⟨m, hm⟩ := codeX_iff.1 e2
        exact ⟨max n m, ⟨.normal, s1⟩, codeN_mono (callN_mono (Nat.le_max_left n m)) (Nat.le_max_left n m) a _ _ hn, codeN_mono (callN_mono (Nat.le_max_right n m)) (Nat.le_max_right n m) b _ _ hm⟩
      · rename_i hne
        refine ⟨n, ⟨ex, s1⟩, hn, ?_⟩
        cases ex with
        | normal => exact absurd rfl hne
        | _ => exact e2
theorem codeX_cond {o : Operand} {a b : Code} {s : St} : codeX P hints h (.cond o a b) s = match s.val o with | .d (.bool t) => if t then codeX P hints h a s else codeX P hints h b s | _ => none :=
  ext_some fun r => by
    rw [codeX_iff]
    simp only [codeN]
    generalize s.val o = v
    cases v with
    | d x =>
      cases x with
      | bool t => cases t <;> simp [codeX_iff]
      | _ => simp
    | _ => simp
theorem codeX_block {id : Nat} {a : Code} {s : St} : codeX P hints h (.block id a) s = (codeX P hints h a s).map fun r => (if r.1 = .exit id then .normal else r.1, r.2) :=
  ext_some fun r => by
    rw [codeX_iff]
    simp only [codeN, Option.map_eq_some_iff]
    constructor
    · rintro ⟨n, x, e1, e2⟩; exact ⟨x, codeX_iff.2 ⟨n, e1⟩, e2⟩
    · rintro ⟨x, e1, e2⟩; obtain ⟨n, hn⟩ := codeX_iff.1 e1; exact ⟨n, x, hn, e2⟩
theorem codeX_scope {a : Code} {s : St} : codeX P hints h (.scope a) s = codeX P hints h a s :=
  ext_some fun r => by rw [codeX_iff, codeX_iff]; simp only [codeN]
theorem codeX_loop {a : Code} {s : St} : codeX P hints h (.loop a) s = (codeX P hints h a s).bind (thenX P hints h (.loop a)) :=
  ext_some fun r => by
    rw [codeX_iff]
    simp only [Option.bind_eq_some_iff, thenX]
    constructor
    · rintro ⟨n, e⟩
      simp only [codeN] at e
      cases n with
      | zero => cases e
      | succ n =>
        have e0 := e
        simp only [loopN, Option.bind_eq_some_iff] at e
        obtain ⟨⟨ex, s1⟩, e1, e2⟩ := e
        refine ⟨⟨ex, s1⟩, codeX_iff.2 ⟨n + 1, e1⟩, ?_⟩
        simp only at e2 ⊢
        cases ex with
        | normal =>
          refine codeX_iff.2 ⟨n + 1, ?_⟩
          simp only [codeN]
          exact loopN_mono (fun _ _ e => e) n (n + 1) (Nat.le_succ n) _ _ e2
        | _ => exact e2
    · rintro ⟨⟨ex, s1⟩, e1, e2⟩
      obtain ⟨n, hn⟩ := codeX_iff.1 e1
      simp only at e2
      split at e2
      · obtain ⟨m, hm⟩ := codeX_iff.1 e2
        simp only [codeN] at hm
        refine ⟨max n m + 1, ?_⟩
        simp only [codeN, loopN, Option.bind_eq_some_iff]
        exact ⟨⟨.normal, s1⟩, codeN_mono (callN_mono (by omega)) (by omega) a _ _ hn, loopN_mono (fun s r e => codeN_mono (callN_mono (by omega)) (by omega) a s r e) m (max n m) (Nat.le_max_right n m) _ _ hm⟩
      · rename_i hne
        refine ⟨n + 1, ?_⟩
        simp only [codeN, loopN, Option.bind_eq_some_iff]
        refine ⟨⟨ex, s1⟩, codeN_mono (callN_mono (Nat.le_succ n)) (Nat.le_succ n) a _ _ hn, ?_⟩
        cases ex with
        | normal => exact absurd rfl hne
        | _ => exact e2
end
theorem callX_eq {f : FuncId} {ds : List D} {H : List Ob} {fn : Func} {c : Code} (hf : P.funcs[f]? = some fn) (hb : fn.body = some c) (hl : ds.length = fn.params.size + fn.nfree) (hk : codeOk fn.ntmps c = true) (hn : (fn.name == "runtime.NumGoroutine") = false) (hx : (decide ((hints f).nilt ≠ 0) && emptyArg ds) = false) :
    callX P hints f ds H = (codeX P hints (hints f) c (enter ds H)).bind (leave P (hints f).own fn H.length) :=
  ext_some fun r => by
    rw [callX_iff]
    simp only [Option.bind_eq_some_iff]
    constructor
    · rintro ⟨n, e⟩
      cases n with
      | zero => cases e
      | succ n =>
        simp only [callN, hf, hb, Option.bind_some] at e
        rw [if_pos ⟨hl, hk, hn⟩, if_neg (by rw [hx]; simp)] at e
        simp only [Option.bind_eq_some_iff] at e
        obtain ⟨x, e1, e2⟩ := e
        exact ⟨x, codeX_iff.2 ⟨n, e1⟩, e2⟩
    · rintro ⟨x, e1, e2⟩
      obtain ⟨n, hn'⟩ := codeX_iff.1 e1
      refine ⟨n + 1, ?_⟩
      simp only [callN, hf, hb, Option.bind_some]
      rw [if_pos ⟨hl, hk, hn⟩, if_neg (by rw [hx]; simp)]
      simp only [Option.bind_eq_some_iff]
      exact ⟨x, hn', e2⟩
end
end Go.Am
