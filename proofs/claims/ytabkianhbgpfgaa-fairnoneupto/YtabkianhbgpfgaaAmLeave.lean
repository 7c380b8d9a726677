/- The abstract machine: a frame's results, taken out; what is left to the caller. -/
import Derived.Test.YtabkianhbgpfgaaAmPrune
namespace Go.Am
open Go Go.RowKit
set_option linter.unusedSimpArgs false
set_option linter.unusedVariables false

theorem TC.lo' {A : Av} {ρ : Nat → Nat} {S : Root → List Nat} {fl : List Nat} {w : World} {n n2 : Nat} {t : T} {cs : List Value} {M : List Nat} (hl : n2 = n ∨ t.low n2 = true) (h : TC (cxOf A n ρ S fl w) t cs M) : TC ((cxOf A n ρ S fl w).lo n2) t cs M := by
  rcases hl with rfl | hl
  · exact h
  · exact TC.lo _ _ _ hl h
theorem VV.lo' {A : Av} {ρ : Nat → Nat} {S : Root → List Nat} {fl : List Nat} {w : World} {n n2 : Nat} {x : D} {v : Value} (hl : n2 = n ∨ x.low n2 = true) (h : VV (cxOf A n ρ S fl w) x v) : VV ((cxOf A n ρ S fl w).lo n2) x v := by
  rcases hl with rfl | hl
  · exact h
  · exact ⟨VC.lo _ _ hl h.1, h.2⟩

section
variable {P : Program} {A : Av} {ρ : Nat → Nat} {S : Root → List Nat} {hd : Root → Value} {fl : List Nat} {k k' : Wk} {vals : List (SV × Value)} {w : World}

/-- the frame is forgotten, and the objects from number n2 on -/
theorem KR.cut (h : KR A ρ S hd fl k vals w) {n2 : Nat} (hn : n2 ≤ k.H.length) (hA : A.n0 ≤ n2) (hl : n2 = k.H.length ∨ ∀ ob ∈ k.H.take n2, ob.low n2 = true) :
    ∃ S', KR A ρ S' hd fl { ct := [], H := k.H.take n2 } [] w ∧ Ext ((cxOf A k.H.length ρ S fl w).lo n2) (cxOf A n2 ρ S' fl w) := by
  let G : Root → Bool := fun r => match r with | .l _ _ => false | .o n => decide (n < n2)
  let S' : Root → List Nat := fun r => if G r then S r else []
  have hlen : (k.H.take n2).length = n2 := by simp; omega
  have hS' : ∀ r b, b ∈ S' r → b ∈ S r := fun r b hb => by
    simp only [S'] at hb
    split at hb
    · exact hb
    · simp at hb
  have own : ∀ b, Own S' fl b → Own S fl b := fun b hb => hb.imp (fun ⟨r, hr⟩ => ⟨r, hS' r b hr⟩) id
  have ext : Ext ((cxOf A k.H.length ρ S fl w).lo n2) (cxOf A n2 ρ S' fl w) := ⟨fun t g hp => ⟨⟨fun ho => hp.1 (own g ho), hp.2.1, hp.2.2⟩, rfl⟩, Nat.le_refl _, fun _ _ => rfl⟩
  have lowAt : ∀ n ob, n < n2 → k.H[n]? = some ob → n2 = k.H.length ∨ ob.low n2 = true := fun n ob hlt he => hl.imp id (fun hl => hl ob (List.mem_of_getElem? (i := n) (by rw [List.getElem?_take, if_pos hlt]; exact he)))
  have hat : ∀ n ob, (k.H.take n2)[n]? = some ob → n < n2 ∧ k.H[n]? = some ob := fun n ob he => by
    rw [List.getElem?_take] at he
    split at he
    · exact ⟨‹_›, he⟩
    · cases he
  have ws : WS S fl w S' fl w := WS.stay own
  refine ⟨S', ⟨fun r t ht => ?_, fun r hr hm => ?_, h.obj, fun n es he => ?_, ⟨fun r => ?_, h.dis.ndF, fun r r' b hb hb' => h.dis.one r r' b (hS' r b hb) (hS' r' b hb'), fun r b hb => h.dis.oneF r b (hS' r b hb)⟩, ws.blk h, by simp, h.fr, h.Fold, ⟨by rw [hlen]; exact hA, h.rho.2⟩⟩, ext⟩
  · rw [hlen]
    cases r with
    | l n j => cases ht
    | o n =>
      simp only [Wk.get, Go.Am.cont] at ht
      split at ht
      · rename_i c hc
        obtain ⟨h1, h2⟩ := hat n _ hc
        have hk : k.get (.o n) = some t := by simp only [Wk.get, Go.Am.cont, h2]; exact ht
        have : S' (.o n) = S (.o n) := by simp [S', G, h1]
        rw [this]
        refine TC.ext ext _ _ _ (fun _ _ => rfl) (TC.lo' ?_ (h.cont _ t hk))
        rcases lowAt n _ h1 h2 with q | q
        · exact .inl q
        · right
          simp only [Option.some.injEq] at ht
          subst ht
          simpa [T.low, T.lows, Ob.low] using q
      · cases ht
  · simp only [S']
    split
    · rename_i hg
      cases r with
      | l n j => cases hg
      | o n =>
        simp only [G, decide_eq_true_eq] at hg
        refine h.gone _ ?_ (fun n' es e he => ?_)
        · simp only [Wk.get, Go.Am.cont, List.getElem?_take, if_pos hg] at hr ⊢; exact hr
        · cases e
          refine hm n es rfl ?_
          simp only [List.getElem?_take, if_pos hg]; exact he
    · rfl
  · rw [hlen]
    obtain ⟨h1, h2⟩ := hat n _ he
    have : S' (.o n) = S (.o n) := by simp [S', G, h1]
    rw [this]
    obtain ⟨m1, en, cl, m2, m3⟩ := h.map n es h2
    refine ⟨m1, en, cl, m2, m3.imp (fun a ha b ⟨q1, y, q2, q3⟩ => ?_)⟩
    have hlo : n2 = k.H.length ∨ (a.1.low n2 = true ∧ a.2.low n2 = true) := (lowAt n _ h1 h2).imp id (fun q => by
      simp only [Ob.low] at q
      have := List.all_eq_true.1 q a ha
      simpa using this)
    refine ⟨VV.ext ext (VV.lo' (hlo.imp id (·.1)) q1), y, q2, VV.ext ext (VV.lo' (hlo.imp id (fun q => ?_)) q3)⟩
    have := q.2
    rw [q2] at this
    simpa [T.low] using this
  · simp only [S']; split
    · exact h.dis.nd r
    · simp

theorem mkAgg_fits (ts : List T) (cs : Array Value) : fitsT (T.mkAgg ts) (.agg cs) := by
  unfold T.mkAgg
  split
  · exact ⟨cs, rfl⟩
  · exact ⟨cs, rfl⟩
theorem absorb_fitsT {c : Cx} {K : Root → Option T} {nv : Nat} {v : SV} {val : Value} {t : T} (hv : SO c K hd (trv k.tr v) val) (e : absorb nv v k = some (t, k')) : fitsT t val := by
  by_cases hag : ∃ l, v = .agg l
  · obtain ⟨l, rfl⟩ := hag
    simp only [absorb, Option.map_eq_some_iff] at e
    obtain ⟨⟨ts, k1⟩, e1, e2⟩ := e
    simp only [Prod.mk.injEq] at e2
    obtain ⟨rfl, rfl⟩ := e2
    rw [trv_agg] at hv
    obtain ⟨cs, rfl, _⟩ := hv
    exact mkAgg_fits ts cs
  · have hne : ∀ l, v ≠ .agg l := fun l hl => hag ⟨l, hl⟩
    have e' : absorb1 nv (trv k.tr v) k = some (t, k') := by
      revert e hne
      cases v <;> intro e hne <;> first | exact e | exact absurd rfl (hne _)
    revert hv e'
    generalize trv k.tr v = u
    intro hv e'
    cases u with
    | d x =>
      simp only [absorb1, Option.some.injEq, Prod.mk.injEq] at e'
      obtain ⟨rfl, rfl⟩ := e'
      exact hv.2
    | clip b l =>
      simp only [absorb1, Option.some.injEq, Prod.mk.injEq] at e'
      obtain ⟨rfl, rfl⟩ := e'
      exact VC.one _ _ hv.1
    | bor r p off len =>
      have h1 : val.oneCell' = true := by
        obtain ⟨_, _, h', _, _, _, _, hw⟩ := hv
        obtain ⟨_, _, _, _, _, _, rfl, _⟩ := hw
        rfl
      have nag : (∀ l, t ≠ .d (.agg l)) ∧ (∀ l, t ≠ .agg l) := by
        simp only [absorb1, Option.bind_eq_some_iff] at e'
        obtain ⟨c0, _, nd, _, e'⟩ := e'
        split at e'
        · split at e'
          · split at e'
            · simp only [Option.map_eq_some_iff, Prod.mk.injEq] at e'
              obtain ⟨_, _, rfl, _⟩ := e'
              simp
            · simp only [Option.bind_eq_some_iff, Option.map_eq_some_iff, Prod.mk.injEq] at e'
              obtain ⟨_, _, _, _, rfl, _⟩ := e'
              simp
          · simp only [Option.bind_eq_some_iff, Option.map_eq_some_iff, Prod.mk.injEq] at e'
            obtain ⟨_, _, _, _, _, _, rfl, _⟩ := e'
            simp
        · cases e'
      cases t with
      | d x => cases x <;> first | exact h1 | exact absurd rfl (nag.1 _)
      | agg l => exact absurd rfl (nag.2 l)
      | _ => exact h1
    | _ => simp [absorb1] at e'

theorem absorbA_ok : ∀ (l : List SV) (vs : List Value) (ts : List T) (k k' : Wk) (S : Root → List Nat) (fl : List Nat), KR A ρ S hd fl k vals w → All2 (fun u v => (u, v) ∈ vals) l vs → absorbA l k = some (ts, k') →
    ∃ S' M, KR A ρ S' hd (M ++ fl) k' vals w ∧ Ext (cxOf A k.H.length ρ S fl w) (cxOf A k'.H.length ρ S' (M ++ fl) w) ∧ RetAll (cxOf A k'.H.length ρ S' (M ++ fl) w) ts vs M ∧ k'.H.length = k.H.length
  | [], vs, ts, k, k', S, fl, h, hall, e => by
    simp only [absorbA, Option.some.injEq, Prod.mk.injEq] at e
    obtain ⟨rfl, rfl⟩ := e
    rw [show vs = [] from hall]
    exact ⟨S, [], by simpa using h, by simpa using (⟨fun _ _ hp => ⟨hp, rfl⟩, Nat.le_refl _, fun _ _ => rfl⟩ : Ext _ _), ⟨rfl, rfl⟩, rfl⟩
  | u :: l, vs, ts, k, k', S, fl, h, hall, e => by
    simp only [absorbA, Option.bind_eq_some_iff, Option.map_eq_some_iff] at e
    obtain ⟨⟨t, k1⟩, e1, ⟨ts', k2⟩, e2, e3⟩ := e
    simp only [Prod.mk.injEq] at e3
    obtain ⟨rfl, rfl⟩ := e3
    obtain ⟨v, r, rfl, hv, hr⟩ := hall
    obtain ⟨S1, M1, g1, g2, g3, g4⟩ := absorb_ok h hv e1
    have hf := absorb_fitsT (h.vals _ hv) e1
    obtain ⟨S2, M2, p1, p2, p3, p4⟩ := absorbA_ok l r ts' k1 k2 S1 (M1 ++ fl) g1 hr e2
    have hperm : (M2 ++ (M1 ++ fl)).Perm ((M1 ++ M2) ++ fl) := by
      rw [List.append_assoc]
      exact List.perm_append_comm_assoc M2 M1 fl
    obtain ⟨p1', e1'⟩ := p1.perm hperm
    rw [e1'] at p2 p3
    refine ⟨S2, M1 ++ M2, p1', ⟨fun b g hp => ?_, Nat.le_trans g2.nO p2.nO, fun o ho => rfl⟩, ⟨v, r, M1, M2, rfl, rfl, TC.ext p2 _ _ _ (fun _ _ => rfl) g3, hf, p3⟩, p4.trans g4⟩
    have q1 := g2.pm b g hp
    have q2 := p2.pm b g q1.1
    exact ⟨q2.1, q2.2.trans q1.2⟩

theorem run_sure {v : Value} {t : TypeId} {val : Value} (h : (Instr.loadAt t v).run P w = .ok val w) : ((do loadVar t (← asAddr v)) : Sem Value).run P w = .ok val w := by
  cases v with
  | pointer a =>
    cases a with
    | some a => exact h
    | none => simp [Instr.loadAt, Instr.sureAddr, stuck, Sem.run_bind] at h
  | _ => simp [Instr.loadAt, Instr.sureAddr, stuck, Sem.run_bind] at h
end
end Go.Am
