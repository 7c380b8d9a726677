/- The abstract machine: another name for a row; maps. -/
import Derived.Test.YtabkianhbgpfgaaAmSlice
namespace Go.Am
open Go Go.RowKit
set_option linter.unusedSimpArgs false
set_option linter.unusedVariables false

section
variable {P : Program} {A : Av} {ρ : Nat → Nat} {S : Root → List Nat} {hd : Root → Value} {fl : List Nat} {k k' : Wk} {vals : List (SV × Value)} {w : World}

theorem Ext.refl' (c : Cx) : Ext c c := ⟨fun _ _ hp => ⟨hp, rfl⟩, Nat.le_refl _, fun _ _ => rfl⟩

/-- a root gets another name -/
theorem KR.rename (h : KR A ρ S hd fl k vals w) {n j m i : Nat} {t : T} (hne : (n, j) ≠ (m, i)) (ht : k.get (.l n j) = some t) :
    KR A ρ (upd (upd S (.l n j) []) (.l m i) (S (.l n j))) (upd hd (.l m i) (hd (.l n j))) fl (({ k with ct := ((n, j), .dead) :: k.ct }.new m i t).tell (.ren (n, j) (m, i))) vals w ∧
      Ext (cxOf A k.H.length ρ S fl w) (cxOf A k.H.length ρ (upd (upd S (.l n j) []) (.l m i) (S (.l n j))) fl w) := by
  have hr : (Root.l n j) ≠ .l m i := fun e => hne (by simp only [Root.l.injEq] at e; rw [e.1, e.2])
  have e1 : S (.l m i) = [] ++ S (.l m i) ++ [] := by simp
  have d1 := h.dis.drop e1
  have e2 : upd S (.l m i) ([] ++ []) (.l n j) = [] ++ S (.l n j) ++ [] := by rw [upd_other _ _ hr]; simp
  have d2 := d1.detach e2
  have e3 : upd (upd S (.l m i) ([] ++ [])) (.l n j) ([] ++ []) (.l m i) = [] ++ [] := by rw [upd_other _ _ hr.symm, upd_same]
  have d3 := Dis.attach (r := .l m i) (L := []) (R := []) (M := S (.l n j)) (fl := fl) d2 e3
  have eS : upd (upd (upd S (.l m i) ([] ++ [])) (.l n j) ([] ++ [])) (.l m i) ([] ++ S (.l n j) ++ []) = upd (upd S (.l n j) []) (.l m i) (S (.l n j)) := by
    funext r; simp only [upd, List.nil_append, List.append_nil]; split
    · rfl
    · rfl
  rw [eS] at d3
  have own : ∀ b, Own (upd (upd S (.l n j) []) (.l m i) (S (.l n j))) fl b → Own S fl b := fun b hb => by
    rw [← eS] at hb
    have := (Own.attach (S := upd (upd S (.l m i) ([] ++ [])) (.l n j) ([] ++ [])) (r := .l m i) (L := []) (R := []) (M := S (.l n j)) e3).1 hb
    have := (Own.detach (S := upd S (.l m i) ([] ++ [])) e2).1 this
    exact Own.drop e1 this
  have ws : WS S fl w (upd (upd S (.l n j) []) (.l m i) (S (.l n j))) fl w := WS.stay own
  have ext : Ext (cxOf A k.H.length ρ S fl w) (cxOf A k.H.length ρ (upd (upd S (.l n j) []) (.l m i) (S (.l n j))) fl w) := ws.ext (Nat.le_refl _) (fun _ _ => rfl)
  have get : ∀ r, (({ k with ct := ((n, j), .dead) :: k.ct }.new m i t).tell (.ren (n, j) (m, i))).get r = if r = .l m i then some t else if r = .l n j then some .dead else k.get r := fun r => by
    show Go.Am.cont (((m, i), t) :: ((n, j), .dead) :: k.ct) k.H r = _
    rw [look_get, look_get]
    rfl
  have hlen : (({ k with ct := ((n, j), .dead) :: k.ct }.new m i t).tell (.ren (n, j) (m, i))).H.length = k.H.length := rfl
  refine ⟨⟨fun r t0 h0 => ?_, fun r h0 hm => ?_, fun q => by rw [upd_other _ _ (by simp)]; exact h.obj q, fun q es he => ?_, d3, ws.blk h, fun p hp => ?_, h.fr, h.Fold, h.rho⟩, ext⟩
  · rw [hlen]
    rw [get] at h0
    split at h0
    · rename_i e; subst e
      simp only [Option.some.injEq] at h0
      subst h0
      rw [upd_same, upd_same]
      exact TC.ext ext _ _ _ (fun _ _ => rfl) (h.cont _ _ ht)
    · rename_i e
      rw [upd_other _ _ e, upd_other _ _ e]
      split at h0
      · rename_i e'; subst e'
        simp only [Option.some.injEq] at h0
        subst h0
        rw [upd_same]
        simp only [TC]
        exact ⟨trivial, _, rfl, TC.ones _ _ _ (h.cont _ _ ht) _ (by simp)⟩
      · rename_i e'
        rw [upd_other _ _ e']
        exact TC.ext ext _ _ _ (fun _ _ => rfl) (h.cont r t0 h0)
  · rw [get] at h0
    split at h0
    · cases h0
    · rename_i e
      split at h0
      · cases h0
      · rename_i e'
        rw [upd_other _ _ e, upd_other _ _ e']
        exact h.gone r h0 hm
  · rw [upd_other _ _ (by simp), upd_other _ _ (by simp)]
    obtain ⟨m1, en, cl, m2, m3⟩ := h.map q es he
    exact ⟨m1, en, cl, m2, m3.imp (fun a _ b ⟨q1, y, q2, q3⟩ => ⟨VV.ext ext q1, y, q2, VV.ext ext q3⟩)⟩
  · have e3 : trv (({ k with ct := ((n, j), .dead) :: k.ct }.new m i t).tell (.ren (n, j) (m, i))).tr p.1 = (Tr.ren (n, j) (m, i)).sv ((Tr.kill (.l m i) []).sv (trv k.tr p.1)) := by
      show trv ((k.tr ++ [Tr.kill (.l m i) []]) ++ [Tr.ren (n, j) (m, i)]) p.1 = _
      rw [trv_append, trv_append]
    rw [e3]
    refine SO.ren (K := fun r => if r = .l m i then none else k.get r) (hd := hd) ext (n, j) (m, i) (fun r q hrn => ?_) (fun q t1 es h1 h2 => ?_) (SO.kill (Ext.refl' _) (.l m i) [] (fun r q hq => ?_) (h.vals p hp))
    · intro t1 es h1 h2
      simp only at h1
      split at h1
      · cases h1
      · rename_i e
        refine ⟨t1, es, by rw [get, if_neg e, if_neg hrn]; exact h1, h2, SameShape.refl _, fun h' hn => ?_⟩
        rw [upd_other _ _ e]
        exact NodeH.ext q t1 _ h' _ (h.cont r t1 h1) (fun _ _ => rfl) hn
    · simp only [if_neg hr] at h1
      rw [ht] at h1
      simp only [Option.some.injEq] at h1
      subst h1
      refine ⟨t, es, by rw [get, if_pos rfl], h2, SameShape.refl _, fun h' hn => ?_⟩
      rw [upd_same]
      exact NodeH.ext q t _ h' _ (h.cont _ _ ht) (fun _ _ => rfl) hn
    · intro t1 es h1 h2
      by_cases e : r = .l m i
      · obtain ⟨q1, q2⟩ := hq e
        exact absurd (List.eq_nil_of_length_eq_zero (by simpa using q2)) q1
      · exact ⟨t1, es, by simp only [if_neg e]; exact h1, h2, SameShape.refl _, fun h' hn => hn⟩

theorem assignE_ok (h : KR A ρ S hd fl k vals w) {dst : Nat} {b : Bool} {x sv : SV} {v : Value} (hx : SO (cxOf A k.H.length ρ S fl w) k.get hd x v) (e : assignE dst b x k = some (sv, k')) :
    ∃ S' hd', KR A ρ S' hd' fl k' vals w ∧ SO (cxOf A k'.H.length ρ S' fl w) k'.get hd' sv v := by
  unfold assignE at e
  split at e
  · have hv' : v = .slice none 0 0 := by have := VV.inv hx (by simp); simpa [VC] using this
    subst hv'
    split at e
    · simp only [Option.some.injEq, Prod.mk.injEq] at e
      obtain ⟨rfl, rfl⟩ := e
      obtain ⟨g1, g2⟩ := KR.newRoot (n := dst) (j := 0) (t := .own []) (hv := .slice none 0 0) (M := []) (by simpa using h) (.inl ⟨none, rfl, rfl, rfl⟩)
      refine ⟨_, _, g1, ?_⟩
      exact new_bor (es := []) (M := []) (.inl ⟨none, rfl, rfl, rfl⟩) (by simp)
    · simp only [Option.some.injEq, Prod.mk.injEq] at e
      obtain ⟨rfl, rfl⟩ := e
      exact ⟨S, hd, h, hx⟩
  · rename_i n j len
    split at e
    · simp only [Option.some.injEq, Prod.mk.injEq] at e
      obtain ⟨rfl, rfl⟩ := e
      exact ⟨S, hd, h, hx⟩
    · rename_i hne
      obtain ⟨t0, es, hh, b1, b2, b3, b4, b5⟩ := id hx
      simp only [b1, Option.bind_some] at e
      simp only [T.at, Option.some.injEq] at b2
      subst b2
      simp only at e
      split at e
      · rename_i hlen
        simp only [Option.some.injEq, Prod.mk.injEq] at e
        obtain ⟨rfl, rfl⟩ := e
        obtain ⟨g1, g2⟩ := h.rename (m := dst) (i := 0) hne b1
        refine ⟨_, _, g1, .own es, es, hh, ?_, rfl, ?_, b4, b5⟩
        · show cont (((dst, 0), T.own es) :: ((n, j), .dead) :: k.ct) k.H (.l dst 0) = _
          rw [look_get, if_pos rfl]
        · rw [upd_same]; simpa [NodeH] using b3
      · simp only [Option.some.injEq, Prod.mk.injEq] at e
        obtain ⟨rfl, rfl⟩ := e
        exact ⟨S, hd, h, hx⟩
  · simp only [Option.some.injEq, Prod.mk.injEq] at e
    obtain ⟨rfl, rfl⟩ := e
    exact ⟨S, hd, h, hx⟩

/-! ### maps -/
theorem lock_get {o : Nat} {es : List (D × T)} {ob : Ob} (hm : (k.H[o]? = some (.map es)) ∨ k.H[o]? = some .lock) (hob : ∀ c, ob ≠ .box c) (r : Root) : ({ k with H := k.H.set o ob } : Wk).get r = k.get r := by
  cases r with
  | l a b => rfl
  | o n =>
    simp only [Wk.get, Go.Am.cont]
    by_cases hn : n = o
    · subst hn
      have hlt : n < k.H.length := by rcases hm with h | h <;> exact (List.getElem?_eq_some_iff.1 h).1
      rw [List.getElem?_set_self hlt]
      cases ob with
      | box c => exact absurd rfl (hob c)
      | _ => rcases hm with h | h <;> simp [h]
    · rw [List.getElem?_set_ne (Ne.symm hn)]
/-- a map is set aside: its block floats -/
theorem KR.lockMap (h : KR A ρ S hd fl k vals w) {o : Nat} {es : List (D × T)} (hm : k.H[o]? = some (.map es)) :
    KR A ρ (upd S (.o o) []) hd ([ρ o] ++ fl) { k with H := k.H.set o .lock } vals w ∧ Ext (cxOf A k.H.length ρ S fl w) (cxOf A k.H.length ρ (upd S (.o o) []) ([ρ o] ++ fl) w) := by
  have get := lock_get (ob := .lock) (.inl hm) (by simp)
  have hS := (h.map o es hm).1
  have e2 : S (.o o) = [] ++ [ρ o] ++ [] := by simp [hS]
  have d2 := h.dis.detach e2
  have own : ∀ b, Own (upd S (.o o) []) ([ρ o] ++ fl) b → Own S fl b := fun b hb => (Own.detach e2).1 (by simpa using hb)
  have ws : WS S fl w (upd S (.o o) []) ([ρ o] ++ fl) w := WS.stay own
  have ext : Ext (cxOf A k.H.length ρ S fl w) (cxOf A k.H.length ρ (upd S (.o o) []) ([ρ o] ++ fl) w) := ws.ext (Nat.le_refl _) (fun _ _ => rfl)
  have hlen : ({ k with H := k.H.set o .lock } : Wk).H.length = k.H.length := by simp
  have hnone : k.get (.o o) = none := by simp [Wk.get, Go.Am.cont, hm]
  refine ⟨⟨fun r t ht => ?_, fun r hr hmm => ?_, h.obj, fun n es' he => ?_, by simpa using d2, ws.blk h, fun p hp => ?_, h.fr, h.Fold, by rw [hlen]; exact h.rho⟩, ext⟩
  · rw [hlen]
    rw [get] at ht
    have hr : r ≠ .o o := fun e => by subst e; rw [hnone] at ht; cases ht
    rw [upd_other _ _ hr]
    exact TC.ext ext _ _ _ (fun _ _ => rfl) (h.cont r t ht)
  · by_cases hr' : r = .o o
    · subst hr'; rw [upd_same]
    · rw [upd_other _ _ hr']
      rw [get] at hr
      refine h.gone r hr (fun n es' e he => hmm n es' e ?_)
      rw [List.getElem?_set_ne (fun e' => hr' (by rw [e, e']))]
      exact he
  · have hn : n ≠ o := fun e => by
      subst e
      simp only at he
      rw [List.getElem?_set_self (List.getElem?_eq_some_iff.1 hm).1] at he
      simp at he
    simp only at he
    rw [List.getElem?_set_ne (Ne.symm hn)] at he
    rw [upd_other _ _ (by simpa using hn), hlen]
    obtain ⟨m1, en, cl, m2, m3⟩ := h.map n es' he
    exact ⟨m1, en, cl, m2, m3.imp (fun a _ b ⟨q1, y, q2, q3⟩ => ⟨VV.ext ext q1, y, q2, VV.ext ext q3⟩)⟩
  · rw [hlen]
    exact SO.keep ext (fun r q => h.hold _ (get r) rfl (fun _ _ => rfl) q) (h.vals p hp)
/-- and back -/
theorem KR.unlockMap {o : Nat} (h : KR A ρ S hd ([ρ o] ++ fl) k vals w) {es : List (D × T)} (hl : k.H[o]? = some .lock) (hm : MapOK (cxOf A k.H.length ρ S ([ρ o] ++ fl) w) (ρ o) es) :
    KR A ρ (upd S (.o o) [ρ o]) hd fl { k with H := k.H.set o (.map es) } vals w ∧ Ext (cxOf A k.H.length ρ S ([ρ o] ++ fl) w) (cxOf A k.H.length ρ (upd S (.o o) [ρ o]) fl w) := by
  have get := lock_get (es := []) (ob := .map es) (.inr hl) (by simp)
  have hnone : k.get (.o o) = none := by simp [Wk.get, Go.Am.cont, hl]
  have hS : S (.o o) = [] ++ [] := by
    simpa using h.gone _ hnone (fun n es' e he => by simp only [Root.o.injEq] at e; subst e; rw [hl] at he; cases he)
  have d2 := Dis.attach h.dis hS
  have own : ∀ b, Own (upd S (.o o) [ρ o]) fl b → Own S ([ρ o] ++ fl) b := fun b hb => (Own.attach hS).1 (by simpa using hb)
  have ws : WS S ([ρ o] ++ fl) w (upd S (.o o) [ρ o]) fl w := WS.stay own
  have ext : Ext (cxOf A k.H.length ρ S ([ρ o] ++ fl) w) (cxOf A k.H.length ρ (upd S (.o o) [ρ o]) fl w) := ws.ext (Nat.le_refl _) (fun _ _ => rfl)
  have hlen : ({ k with H := k.H.set o (.map es) } : Wk).H.length = k.H.length := by simp
  refine ⟨⟨fun r t ht => ?_, fun r hr hmm => ?_, h.obj, fun n es' he => ?_, by simpa using d2, ws.blk h, fun p hp => ?_, h.fr, h.Fold, by rw [hlen]; exact h.rho⟩, ext⟩
  · rw [hlen]
    rw [get] at ht
    have hr : r ≠ .o o := fun e => by subst e; rw [hnone] at ht; cases ht
    rw [upd_other _ _ hr]
    exact TC.ext ext _ _ _ (fun _ _ => rfl) (h.cont r t ht)
  · by_cases hr' : r = .o o
    · subst hr'
      exfalso
      exact hmm o es rfl (List.getElem?_set_self (List.getElem?_eq_some_iff.1 hl).1)
    · rw [upd_other _ _ hr']
      rw [get] at hr
      refine h.gone r hr (fun n es' e he => hmm n es' e ?_)
      simp only
      rw [List.getElem?_set_ne (fun e' => hr' (by rw [e, e']))]
      exact he
  · rw [hlen]
    by_cases hn : n = o
    · subst hn
      simp only at he
      rw [List.getElem?_set_self (List.getElem?_eq_some_iff.1 hl).1] at he
      simp only [Option.some.injEq, Ob.map.injEq] at he
      subst he
      obtain ⟨en, cl, m2, m3⟩ := hm
      rw [upd_same]
      exact ⟨rfl, en, cl, m2, m3.imp (fun a _ b ⟨q1, y, q2, q3⟩ => ⟨VV.ext ext q1, y, q2, VV.ext ext q3⟩)⟩
    · simp only at he
      rw [List.getElem?_set_ne (Ne.symm hn)] at he
      rw [upd_other _ _ (by simpa using hn)]
      obtain ⟨m1, en, cl, m2, m3⟩ := h.map n es' he
      exact ⟨m1, en, cl, m2, m3.imp (fun a _ b ⟨q1, y, q2, q3⟩ => ⟨VV.ext ext q1, y, q2, VV.ext ext q3⟩)⟩
  · rw [hlen]
    exact SO.keep ext (fun r q => h.hold _ (get r) rfl (fun _ _ => rfl) q) (h.vals p hp)

theorem makeMap_ok (h : KR A ρ S hd fl k vals w) {t : TypeId} : (Instr.makeMap t none).run P w = .ok (.map (some w.heap.size)) (w.alloc (.map #[] 0)) ∧
    ∃ ρ' S' hd', KR A ρ' S' hd' fl { k with H := k.H ++ [.map []] } vals (w.alloc (.map #[] 0)) ∧ SO (cxOf A (k.H.length + 1) ρ' S' fl (w.alloc (.map #[] 0))) ({ k with H := k.H ++ [.map []] } : Wk).get hd' (.d (.map k.H.length)) (.map (some w.heap.size)) := by
  refine ⟨by simp [Instr.makeMap], ?_⟩
  obtain ⟨g1, g2⟩ := KR.alloc (M := []) (by simpa using h) (.map #[] 0)
  obtain ⟨n1, n2⟩ := g1.newOb (.map []) w.heap.size (fun x hx => by cases hx) (fun es he => by
    simp only [Ob.map.injEq] at he
    subst he
    exact ⟨rfl, #[], 0, by simpa [cxOf] using heap_alloc_new w _, rfl⟩) (by simp)
  refine ⟨_, _, _, n1, ?_⟩
  refine VV.one ?_ (by simp)
  simp only [VC]
  exact ⟨by simp [cxOf], by simp [cxOf]⟩
end
end Go.Am
