/- The abstract machine: entries put; every operation but calls. -/
import Derived.Test.YtabkianhbgpfgaaAmKeys
namespace Go.Am
open Go Go.RowKit
set_option linter.unusedSimpArgs false
set_option linter.unusedVariables false

theorem All2.set {α β : Type} {R : α → β → Prop} : ∀ {as : List α} {l : List β} (i : Nat) {a : α} {b : β}, All2 R as l → R a b → All2 R (as.set i a) (l.set i b)
  | [], _, i, _, _, h, _ => by rw [show _ = [] from h]; simp [All2]
  | x :: as, _, i, a, b, h, hab => by
    obtain ⟨y, r, rfl, h2, h3⟩ := h
    cases i with
    | zero => exact ⟨b, r, rfl, hab, h3⟩
    | succ i => exact ⟨y, _, rfl, h2, All2.set i h3 hab⟩

section
variable {P : Program} {A : Av} {ρ : Nat → Nat} {S : Root → List Nat} {hd : Root → Value} {fl : List Nat} {k k' : Wk} {vals : List (SV × Value)} {w : World}

/-- what is taken in as pure data has the value's form -/
theorem absorb_fits {c : Cx} {K : Root → Option T} {nv : Nat} {v : SV} {val : Value} {y : D} (e : absorb nv v k = some (.d y, k')) (hv : SO c K hd (trv k.tr v) val) : fits y val := by
  have one : ∀ u : SV, SO c K hd u val → absorb1 nv u k = some (.d y, k') → fits y val := fun u hu e => by
    cases u with
    | d x =>
      simp only [absorb1, Option.some.injEq, Prod.mk.injEq, T.d.injEq] at e
      rw [← e.1]; exact hu.2
    | clip b l =>
      simp only [absorb1, Option.some.injEq, Prod.mk.injEq, T.d.injEq] at e
      obtain ⟨_, a, rfl⟩ := hu
      rw [← e.1]; rfl
    | bor r p off len =>
      obtain ⟨t0, es, hh, b1, b2, b3, b4, b5⟩ := hu
      obtain ⟨a, mm, cap, a', cap', m1, rfl, m3, m4, m5⟩ := b5
      have hsl : ∃ b l, y = .sl b l := by
        simp only [absorb1, Option.bind_eq_some_iff] at e
        obtain ⟨c0, _, nd, _, e⟩ := e
        split at e
        · split at e
          · split at e
            · simp only [Option.map_eq_some_iff, Prod.mk.injEq] at e
              obtain ⟨_, _, e, _⟩ := e
              cases e
            · simp only [Option.bind_eq_some_iff, Option.map_eq_some_iff, Prod.mk.injEq, T.d.injEq] at e
              obtain ⟨l, _, k0, _, e, _⟩ := e
              exact ⟨_, _, e.symm⟩
          · simp only [Option.bind_eq_some_iff, Option.map_eq_some_iff, Prod.mk.injEq, T.d.injEq] at e
            obtain ⟨l, _, c', _, k0, _, e, _⟩ := e
            exact ⟨_, _, e.symm⟩
        · cases e
      obtain ⟨b, l, rfl⟩ := hsl
      rfl
    | _ => simp [absorb1] at e
  by_cases hag : ∃ l, v = .agg l
  · obtain ⟨l, rfl⟩ := hag
    rw [trv_agg] at hv
    obtain ⟨cs, rfl, _⟩ := hv
    simp only [absorb, Option.map_eq_some_iff, Prod.mk.injEq] at e
    obtain ⟨⟨ts, k1⟩, _, e, _⟩ := e
    unfold T.mkAgg at e
    split at e
    · simp only [T.d.injEq] at e; rw [← e]; exact ⟨cs, rfl⟩
    · cases e
  · refine one _ hv ?_
    revert e
    cases v <;> intro e <;> first | exact e | exact absurd ⟨_, rfl⟩ hag

theorem run_setObj_map' {r : Nat} {es : Array MapEntry} {clock : Nat} {o : Obj} (h : w.heap[r]? = some (.map es clock)) : (setObj r o).run P w = .ok () { w with heap := w.heap.setIfInBounds r o } := by
  simp [setObj, Sem.run, h]

/-- a map's entries become others -/
theorem KR.setMap {M : List Nat} (h : KR A ρ S hd (M ++ fl) k vals w) {o : Nat} {es es' : List (D × T)} {en en' : Array MapEntry} {cl cl' : Nat} (hm : k.H[o]? = some (.map es)) (hb : w.heap[ρ o]? = some (.map en cl))
    (hes : ∀ c, Ext (cxOf A k.H.length ρ S (M ++ fl) w) c → All2 (EntR c) es' en'.toList) :
    ∃ S', KR A ρ S' hd (M ++ fl) { k with H := k.H.set o (.map es') } vals { w with heap := w.heap.setIfInBounds (ρ o) (.map en' cl') } := by
  obtain ⟨l1, l2⟩ := h.lockMap hm
  have hlt : ρ o < w.heap.size := (Array.getElem?_eq_some_iff.1 hb).1
  obtain ⟨w1, w2⟩ := KR.world (w := w) (w' := { w with heap := w.heap.setIfInBounds (ρ o) (.map en' cl') }) (M := [ρ o]) (M' := [ρ o]) rfl rfl rfl (by simp) l1 (fun b hb' hbm => by
    have : b ≠ ρ o := by simpa using hbm
    simp [Ne.symm this]) (fun b hb => .inl hb) (by simp)
  have hlo : o < k.H.length := (List.getElem?_eq_some_iff.1 hm).1
  have hl : ({ k with H := k.H.set o .lock } : Wk).H[o]? = some .lock := List.getElem?_set_self hlo
  have hlen : ({ k with H := k.H.set o .lock } : Wk).H.length = k.H.length := by simp
  rw [hlen] at w2
  obtain ⟨u1, u2⟩ := w1.unlockMap (es := es') hl ⟨en', cl', by simp [cxOf, hlt], hes _ ⟨fun b g hp => by
    have q1 := l2.pm b g hp
    have q2 := w2.pm b g q1.1
    exact ⟨by rw [hlen]; exact q2.1, by rw [hlen]; exact q2.2.trans q1.2⟩, by rw [hlen]; exact Nat.le_refl _, fun _ _ => rfl⟩⟩
  simp only [List.set_set] at u1
  exact ⟨_, u1⟩

theorem mapPutE_ok (h : KR A ρ S hd fl k vals w) {nv : Nat} {t : TypeId} {m x v : SV} {mv xv vv : Value} (hm : SO (cxOf A k.H.length ρ S fl w) k.get hd m mv) (hx : SO (cxOf A k.H.length ρ S fl w) k.get hd x xv) (hv : (v, vv) ∈ vals) (e : mapPutE P nv t m x v k = some k') :
    ∃ w' S', (Instr.mapUpdate t mv xv vv).run P w = .ok () w' ∧ KR A ρ S' hd fl k' vals w' := by
  simp only [mapPutE, Option.bind_eq_some_iff] at e
  obtain ⟨⟨kt, el⟩, h1, e⟩ := e
  have hu := mapOf_ok h1
  simp only at e
  split at e
  · rename_i o kd
    split at e
    · rename_i hs
      simp only [Option.bind_eq_some_iff] at e
      obtain ⟨⟨t0, k1⟩, e1, e⟩ := e
      simp only at e
      split at e
      · rename_i y es hes
        simp only [Option.map_eq_some_iff] at e
        obtain ⟨es', hp, rfl⟩ := e
        obtain ⟨S1, M, g1, g2, g3, g4⟩ := absorb_ok h hv e1
        have hfit := absorb_fits e1 (h.vals _ hv)
        simp only [TC] at g3
        obtain ⟨rfl, g3⟩ := g3
        have hval : VV (cxOf A k1.H.length ρ S1 ([] ++ fl) w) y vv := ⟨g3, hfit⟩
        have hkey : VV (cxOf A k1.H.length ρ S1 ([] ++ fl) w) kd xv := VV.ext g2 hx
        have hm' := VV.inv hm (by simp)
        simp only [VC, List.cons.injEq, and_true] at hm'
        have hmv : mv = .map (some (ρ o)) := hm'.2
        subst hmv
        obtain ⟨_, en, cl, m2, m3⟩ := g1.map o _ hes
        have hb : w.heap[ρ o]? = some (.map en cl) := m2
        obtain ⟨r, hf⟩ := putK_find es es' hp
        obtain ⟨res, f1, f2⟩ := findKey_ok (w := w) hkey hs m3 hf
        have hck : (Instr.checkKey false 10000 kt xv).run P w = .ok () w := checkKey_ok hkey hs
        rcases f2 with ⟨rfl, rfl, f3⟩ | ⟨j, t1, k0, e0, rfl, q2, q3, rfl, q5, q6⟩
        · have : es' = es ++ [(kd, .d y)] := by
            have := f3 (.d y); rw [this] at hp; simpa using hp.symm
          subst this
          obtain ⟨S', u1⟩ := g1.setMap (es' := es ++ [(kd, .d y)]) (en' := en.push { key := xv, val := vv, born := cl }) (cl' := cl + 1) hes hb (fun c hc => by
            simp only [Array.toList_push]
            exact (m3.imp (fun a _ b ⟨p1, y, p2, p3⟩ => ⟨VV.ext hc p1, y, p2, VV.ext hc p3⟩)).append ⟨_, [], rfl, ⟨VV.ext hc hkey, y, rfl, VV.ext hc hval⟩, rfl⟩)
          refine ⟨_, S', ?_, by simpa using u1⟩
          simp [Instr.mapUpdate, run_underlying hu, run_getObj_map' hb, hck, f1, run_setObj_map' hb]
        · have : es' = es.set j (kd, .d y) := by
            have := q6 (.d y); rw [this] at hp; simpa using hp.symm
          subst this
          obtain ⟨e0', r1, r2⟩ := m3.get q2
          rw [q3] at r1
          simp only [Option.some.injEq] at r1
          subst r1
          have hks := keyStays_ok (w := w) hkey r2.1 q5
          have hj : en[j]? = some e0 := by simpa using q3
          have hjl : j < en.size := (Array.getElem?_eq_some_iff.1 hj).1
          obtain ⟨S', u1⟩ := g1.setMap (es' := es.set j (kd, .d y)) (en' := en.modify j fun e => { e with key := xv, val := vv }) (cl' := cl) hes hb (fun c hc => by
            have : (en.modify j fun e => { e with key := xv, val := vv }).toList = en.toList.set j { e0 with key := xv, val := vv } := by
              apply List.ext_getElem?
              intro i
              rw [Array.getElem?_toList, Array.getElem?_modify, List.getElem?_set]
              by_cases hij : j = i
              · subst hij; have hb := (Array.getElem?_eq_some_iff.1 hj).2; simp [hj, hjl, hb]
              · simp [hij]
            rw [this]
            exact (m3.imp (fun a _ b ⟨p1, y, p2, p3⟩ => ⟨VV.ext hc p1, y, p2, VV.ext hc p3⟩)).set j ⟨VV.ext hc hkey, y, rfl, VV.ext hc hval⟩)
          refine ⟨_, S', ?_, by simpa using u1⟩
          simp only [Nat.zero_add] at f1
          simp [Instr.mapUpdate, run_underlying hu, run_getObj_map' hb, hck, f1, hj, hks, run_setObj_map' hb]
      · cases e
    · cases e
  · cases e

/-- what an operation answers: a value, or nothing -/
def Gives (n : Next) (v : Value) : Prop := n = .value v ∨ (n = .skip ∧ v = undef)

theorem opE_ok (h : KR A ρ S hd fl k vals w) (htr : k.tr = []) {hint : Hint} {dst : Nat} {ty : TypeId} {o : Oper} {σ : Operand → SV} {ev : Operand → Value} {sv : SV} (hv : ∀ x ∈ o.op.operands, (σ x, ev x) ∈ vals) (e : opE P hint dst ty o.op σ k = some (sv, k')) :
    ∃ n v w' ρ' S' hd', (execOp ev o).run P w = .ok n w' ∧ Gives n v ∧ KR A ρ' S' hd' fl k' vals w' ∧ SO (cxOf A k'.H.length ρ' S' fl w') k'.get hd' sv v := by
  have so : ∀ x ∈ o.op.operands, SO (cxOf A k.H.length ρ S fl w) k.get hd (σ x) (ev x) := fun x hx => by
    have := h.vals _ (hv x hx)
    rw [htr] at this
    exact this
  -- an operation that changes nothing
  have pure : ∀ (f : Value → Next) (s : Sem Value) v, (execOp ev o = do Pure.pure (f (← s))) → (∀ v, f v = .value v) → s.run P w = .ok v w → k' = k → SO (cxOf A k.H.length ρ S fl w) k.get hd sv v →
      ∃ n v w' ρ' S' hd', (execOp ev o).run P w = .ok n w' ∧ Gives n v ∧ KR A ρ' S' hd' fl k' vals w' ∧ SO (cxOf A k'.H.length ρ' S' fl w') k'.get hd' sv v := by
    intro f s v h1 h2 h3 h4 h5
    subst h4
    exact ⟨.value v, v, w, ρ, S, hd, by rw [h1]; simp [h3, h2], .inl rfl, h, h5⟩
  obtain ⟨odst, op, oty, pos, after, guard⟩ := o
  simp only at e hv so pure
  cases op with
  | move x =>
    simp only [opE, Option.some.injEq, Prod.mk.injEq] at e
    obtain ⟨rfl, rfl⟩ := e
    exact ⟨.value (ev x), ev x, w, ρ, S, hd, by simp [execOp], .inl rfl, h, so x (by simp [Op.operands])⟩
  | assign x =>
    obtain ⟨S', hd', g1, g2⟩ := assignE_ok h (so x (by simp [Op.operands])) e
    exact ⟨.value (ev x), ev x, w, ρ, S', hd', by simp [execOp], .inl rfl, g1, g2⟩
  | pick c a b =>
    simp only [opE] at e
    split at e
    · rename_i t ht
      simp only [Option.some.injEq, Prod.mk.injEq] at e
      obtain ⟨rfl, rfl⟩ := e
      have hc := so c (by simp [Op.operands])
      rw [ht] at hc
      have hc := VV.of_bool hc
      refine ⟨.value (if t then ev a else ev b), _, w, ρ, S, hd, by simp [execOp, hc, asBool], .inl rfl, h, ?_⟩
      cases t
      · exact so b (by simp [Op.operands])
      · exact so a (by simp [Op.operands])
    · cases e
  | alloc el =>
    simp only [opE, Option.bind_eq_some_iff] at e
    obtain ⟨z, hz, e⟩ := e
    obtain ⟨i, zv, z1, z2, z3, z4⟩ := zeroOf_ok hz
    have hzv := ofZero_ok (ofVal_ok (c := cxOf A k.H.length ρ S ([] ++ fl) w) z3).1
    obtain ⟨ρ', S', hd', g1, g2⟩ := boxE_ok (cs := zv.cells) (ty := el) (M := []) (by simpa using h) hzv e
    exact ⟨.value _, _, _, ρ', S', hd', by simp [execOp, Instr.alloc, z4 w, newVar, newRow, newObj, Sem.run], .inl rfl, g1, g2⟩
  | box el x =>
    simp only [opE, Option.bind_eq_some_iff] at e
    obtain ⟨⟨t, k1⟩, e1, e⟩ := e
    simp only at e
    split at e
    · obtain ⟨S1, M, g1, g2, g3, g4⟩ := absorb_ok h (hv x (by simp [Op.operands])) e1
      obtain ⟨ρ', S', hd', q1, q2⟩ := boxE_ok (cs := (ev x).cells) (ty := el) g1 g3 e
      exact ⟨.value _, _, _, ρ', S', hd', by simp [execOp, Instr.box, newVar, newRow, newObj, Sem.run], .inl rfl, q1, q2⟩
    · cases e
  | build t parts =>
    simp only [opE, Option.map_eq_some_iff, Prod.mk.injEq] at e
    obtain ⟨sv', e, rfl, rfl⟩ := e
    have hp : All2 (fun (a : Nat × SV) (b : Nat × Value) => a.1 = b.1 ∧ SO (cxOf A k.H.length ρ S fl w) k.get hd a.2 b.2) (parts.toList.map fun p => (p.1, σ p.2)) (parts.toList.map fun p => (p.1, ev p.2)) := by
      have hso : ∀ p ∈ parts.toList, SO (cxOf A k.H.length ρ S fl w) k.get hd (σ p.2) (ev p.2) := fun p hp => so _ (by
        simp only [Op.operands, List.mem_toArray, List.mem_map]
        exact ⟨p, hp, rfl⟩)
      revert hso
      generalize parts.toList = ps
      induction ps with
      | nil => intro _; rfl
      | cons p ps ih => intro hso; exact ⟨_, _, rfl, ⟨rfl, hso p (by simp)⟩, ih (fun q hq => hso q (by simp [hq]))⟩
    obtain ⟨u, h1, h2⟩ := buildE_ok (P := P) (w := w) hp e
    have hpe : (parts.map fun (x : Nat × Operand) => (x.1, ev x.2)) = (parts.toList.map fun p => (p.1, ev p.2)).toArray := by
      rw [← Array.toList_inj]; simp
    refine pure Next.value (Instr.build t (parts.map fun (x : Nat × Operand) => (x.1, ev x.2))) u (by simp only [execOp]) (fun _ => rfl) ?_ rfl h2
    rw [← h1, ← hpe]
  | buildSlice t len parts =>
    simp only [opE] at e
    have hp : All2 (fun (a : Nat × SV) (b : Nat × Value) => a.1 = b.1 ∧ (a.2, b.2) ∈ vals) (parts.toList.map fun p => (p.1, σ p.2)) (parts.toList.map fun p => (p.1, ev p.2)) := by
      have hso : ∀ p ∈ parts.toList, (σ p.2, ev p.2) ∈ vals := fun p hp => hv _ (by
        simp only [Op.operands, List.mem_toArray, List.mem_map]
        exact ⟨p, hp, rfl⟩)
      revert hso
      generalize parts.toList = ps
      induction ps with
      | nil => intro _; rfl
      | cons p ps ih => intro hso; exact ⟨_, _, rfl, ⟨rfl, hso p (by simp)⟩, ih (fun q hq => hso q (by simp [hq]))⟩
    obtain ⟨v, w', ρ', S', hd', h1, h2, h3⟩ := buildSliceE_ok (P := P) h hp e
    have hpe : (parts.map fun (x : Nat × Operand) => (x.1, ev x.2)) = (parts.toList.map fun p => (p.1, ev p.2)).toArray := by
      rw [← Array.toList_inj]; simp
    rw [← hpe] at h1
    exact ⟨.value v, v, w', ρ', S', hd', by simp [execOp, h1], .inl rfl, h2, h3⟩
  | load t a =>
    simp only [opE, Option.map_eq_some_iff, Prod.mk.injEq] at e
    obtain ⟨sv', e, rfl, rfl⟩ := e
    obtain ⟨u, h1, h2⟩ := loadE_ok h (so a (by simp [Op.operands])) e
    exact pure _ _ u (by simp only [execOp]) (fun _ => rfl) h1 rfl h2
  | store t a x =>
    simp only [opE, Option.map_eq_some_iff, Prod.mk.injEq] at e
    obtain ⟨k1, e, rfl, rfl⟩ := e
    obtain ⟨w', S', h1, h2, h3⟩ := storeE_ok h (hv a (by simp [Op.operands])) (hv x (by simp [Op.operands])) e
    exact ⟨.skip, undef, w', ρ, S', hd, by simp [execOp, h1], .inr ⟨rfl, rfl⟩, h2, trivial⟩
  | nilCheck x =>
    have hx := so x (by simp [Op.operands])
    simp only [opE] at e
    have fin : ev x ≠ .pointer none → ev x ≠ .nilIface → ev x ≠ .nilFunc → (∀ m a c, ev x ≠ .func (.method m) a c) → σ x = sv → k = k' → ∃ n v w' ρ' S' hd', (execOp ev { dst := odst, op := .nilCheck x, type := oty, pos := pos, after := after, guard := guard }).run P w = .ok n w' ∧ Gives n v ∧ KR A ρ' S' hd' fl k' vals w' ∧ SO (cxOf A k'.H.length ρ' S' fl w') k'.get hd' sv v := by
      intro a1 a2 a3 a4 a5 a6
      subst a5; subst a6
      have hrun : execOp ev { dst := odst, op := .nilCheck x, type := oty, pos := pos, after := after, guard := guard } = Pure.pure (.value (ev x)) := by
        simp only [execOp]
      exact ⟨.value (ev x), ev x, w, ρ, S, hd, by rw [hrun]; rfl, .inl rfl, h, hx⟩
    split at e <;> simp only [Option.some.injEq, Prod.mk.injEq, reduceCtorEq] at e <;> (try obtain ⟨rfl, rfl⟩ := e) <;> rename_i hsx <;> rw [hsx] at hx
    · obtain ⟨t0, es, g, n, cap, el', h1, h2, h3, h4, h5, hv'⟩ := hx
      exact fin (by simp [hv']) (by simp [hv']) (by simp [hv']) (by simp [hv']) hsx rfl
    · obtain ⟨a, vs, hv', _⟩ := hx
      exact fin (by simp [hv']) (by simp [hv']) (by simp [hv']) (by simp [hv']) hsx rfl
    · have hv' := VV.inv hx (by simp)
      simp only [VC, List.cons.injEq, and_true] at hv'
      exact fin (by simp [hv'.2]) (by simp [hv'.2]) (by simp [hv'.2]) (by simp [hv'.2]) hsx rfl
    · have hv' := VV.inv hx (by simp)
      simp only [VC, List.cons.injEq, and_true] at hv'
      obtain ⟨av, bv, hv', _⟩ := hv'
      exact fin (by simp [hv']) (by simp [hv']) (by simp [hv']) (by simp [hv']) hsx rfl
  | binOp op t x y q =>
    simp only [opE, Option.map_eq_some_iff, Prod.mk.injEq] at e
    obtain ⟨d, e, rfl, rfl⟩ := e
    obtain ⟨r, h1, h2⟩ := binE_ok (P := P) (w := w) (ox := x) (oy := y) (so x (by simp [Op.operands])) (so y (by simp [Op.operands])) (by simp) e
    exact pure _ _ r (by simp only [execOp]) (fun _ => rfl) h1 rfl h2
  | unOp op t x =>
    simp only [opE, Option.map_eq_some_iff, Prod.mk.injEq] at e
    obtain ⟨d, e, rfl, rfl⟩ := e
    obtain ⟨r, h1, h2⟩ := unE_ok (P := P) (w := w) (so x (by simp [Op.operands])) e
    exact pure _ _ r (by simp only [execOp]) (fun _ => rfl) h1 rfl h2
  | convert s t x =>
    simp only [opE, Option.map_eq_some_iff, Prod.mk.injEq] at e
    obtain ⟨d, e, rfl, rfl⟩ := e
    obtain ⟨r, h1, h2⟩ := convE_ok (P := P) (w := w) (so x (by simp [Op.operands])) e
    exact pure _ _ r (by simp only [execOp]) (fun _ => rfl) h1 rfl h2
  | makeFunc f a c =>
    simp only [opE, Option.bind_eq_some_iff, Option.map_eq_some_iff, Prod.mk.injEq] at e
    obtain ⟨da, e1, dc, e2, rfl, rfl⟩ := e
    have all : ∀ l : Array Operand, (∀ x ∈ l, x ∈ a ++ c) → All2 (SO (cxOf A k.H.length ρ S fl w) k.get hd) (l.toList.map σ) (l.map ev).toList := fun l hl => by
      have hso : ∀ x ∈ l.toList, SO (cxOf A k.H.length ρ S fl w) k.get hd (σ x) (ev x) := fun x hx => so x (by simp only [Op.operands]; exact hl x (by simpa using hx))
      rw [Array.toList_map]
      revert hso
      generalize l.toList = ps
      induction ps with
      | nil => intro _; rfl
      | cons p ps ih => intro hso; exact ⟨_, _, rfl, hso p (by simp), ih (fun q hq => hso q (by simp [hq]))⟩
    refine pure Next.value (Instr.makeFunc f (a.map ev) (c.map ev)) (.func f (a.map ev) (c.map ev)) (by simp only [execOp]) (fun _ => rfl) (by simp [Instr.makeFunc]) rfl (VV.one ?_ (by simp))
    simp only [VC]
    exact ⟨_, _, rfl, SV.pures_VVs _ _ _ e1 (all a (fun x hx => by simp [hx])), SV.pures_VVs _ _ _ e2 (all c (fun x hx => by simp [hx]))⟩
  | makeMap t r =>
    have fin : k' = { k with H := k.H ++ [.map []] } → sv = .d (.map k.H.length) → (Instr.makeMap t (r.map ev)).run P w = .ok (.map (some w.heap.size)) (w.alloc (.map #[] 0)) →
        ∃ n v w' ρ' S' hd', (execOp ev { dst := odst, op := .makeMap t r, type := oty, pos := pos, after := after, guard := guard }).run P w = .ok n w' ∧ Gives n v ∧ KR A ρ' S' hd' fl k' vals w' ∧ SO (cxOf A k'.H.length ρ' S' fl w') k'.get hd' sv v := by
      intro a1 a2 a3
      subst a1; subst a2
      obtain ⟨_, ρ', S', hd', g1, g2⟩ := makeMap_ok (P := P) h (t := t)
      exact ⟨.value _, _, _, ρ', S', hd', by simp [execOp, a3]; rfl, .inl rfl, g1, by simpa using g2⟩
    cases r with
    | none =>
      simp only [opE, Option.some.injEq, Prod.mk.injEq] at e
      obtain ⟨rfl, rfl⟩ := e
      exact fin rfl rfl (makeMap_ok h).1
    | some n =>
      simp only [opE] at e
      split at e
      · rename_i kv q z hkv hn
        simp only [Option.some.injEq, Prod.mk.injEq] at e
        obtain ⟨rfl, rfl⟩ := e
        have hn' := so n (by simp [Op.operands])
        rw [hn] at hn'
        have hn' := VV.of_int hn'
        obtain ⟨kt, et⟩ := kv
        exact fin rfl rfl (by simp [Instr.makeMap, run_underlying (mapOf_ok hkv), hn', asInt, asIntOf])
      · cases e
  | makeSlice t l c =>
    simp only [opE] at e
    obtain ⟨v, w', ρ', S', hd', h1, h2, h3⟩ := makeE_ok h (so l (by simp [Op.operands])) (so c (by simp [Op.operands])) e
    exact ⟨.value v, v, w', ρ', S', hd', by simp [execOp, h1], .inl rfl, h2, h3⟩
  | slice t x lo hi mx =>
    simp only [opE, Option.map_eq_some_iff, Prod.mk.injEq] at e
    obtain ⟨sv', e, rfl, rfl⟩ := e
    have opt : ∀ z : Option Operand, (∀ y, z = some y → y ∈ (Op.slice t x lo hi mx).operands) → OptR (SO (cxOf A k.H.length ρ S fl w) k.get hd) (z.map σ) (z.map ev) := fun z hz => by
      cases z with
      | none => trivial
      | some y => exact so y (hz y rfl)
    obtain ⟨u, h1, h2⟩ := sliceE_ok h (so x (by simp [Op.operands])) (opt lo (fun y hy => by simp [Op.operands, hy])) (opt hi (fun y hy => by simp [Op.operands, hy])) (opt mx (fun y hy => by simp [Op.operands, hy])) e
    exact pure _ _ u (by simp only [execOp]) (fun _ => rfl) h1 rfl h2
  | fieldAddr t x f =>
    simp only [opE, Option.map_eq_some_iff, Prod.mk.injEq] at e
    obtain ⟨sv', e, rfl, rfl⟩ := e
    obtain ⟨u, h1, h2⟩ := fieldAddrE_ok h (so x (by simp [Op.operands])) e
    exact pure _ _ u (by simp only [execOp]) (fun _ => rfl) h1 rfl h2
  | field t x f =>
    simp only [opE, Option.map_eq_some_iff, Prod.mk.injEq] at e
    obtain ⟨sv', e, rfl, rfl⟩ := e
    obtain ⟨u, h1, h2⟩ := fieldE_ok (P := P) (w := w) (so x (by simp [Op.operands])) e
    exact pure _ _ u (by simp only [execOp]) (fun _ => rfl) h1 rfl h2
  | indexAddr t x i =>
    simp only [opE, Option.map_eq_some_iff, Prod.mk.injEq] at e
    obtain ⟨sv', e, rfl, rfl⟩ := e
    obtain ⟨u, h1, h2⟩ := indexAddrE_ok h (so x (by simp [Op.operands])) (so i (by simp [Op.operands])) e
    exact pure _ _ u (by simp only [execOp]) (fun _ => rfl) h1 rfl h2
  | index t x i =>
    simp only [opE, Option.map_eq_some_iff, Prod.mk.injEq] at e
    obtain ⟨sv', e, rfl, rfl⟩ := e
    obtain ⟨u, h1, h2⟩ := indexE_ok (P := P) (w := w) (so x (by simp [Op.operands])) (so i (by simp [Op.operands])) e
    exact pure _ _ u (by simp only [execOp]) (fun _ => rfl) h1 rfl h2
  | lookup t m key ok =>
    simp only [opE, Option.map_eq_some_iff, Prod.mk.injEq] at e
    obtain ⟨sv', e, rfl, rfl⟩ := e
    obtain ⟨u, h1, h2⟩ := lookupE_ok h (so m (by simp [Op.operands])) (so key (by simp [Op.operands])) e
    exact pure _ _ u (by simp only [execOp]) (fun _ => rfl) h1 rfl h2
  | mapUpdate t m key x =>
    simp only [opE, Option.map_eq_some_iff, Prod.mk.injEq] at e
    obtain ⟨k1, e, rfl, rfl⟩ := e
    obtain ⟨w', S', h1, h2⟩ := mapPutE_ok h (so m (by simp [Op.operands])) (so key (by simp [Op.operands])) (hv x (by simp [Op.operands])) e
    exact ⟨.skip, undef, w', ρ, S', hd, by simp [execOp, h1], .inr ⟨rfl, rfl⟩, h2, trivial⟩
  | extract x n =>
    simp only [opE] at e
    split at e
    · rename_i l hl
      simp only [Option.map_eq_some_iff, Prod.mk.injEq] at e
      obtain ⟨sv', e, rfl, rfl⟩ := e
      have hx := so x (by simp [Op.operands])
      rw [hl] at hx
      obtain ⟨vs, hvs, hx⟩ := hx
      obtain ⟨u, h1, h2⟩ := hx.get e
      refine pure Next.value (Instr.extract (ev x) n) u (by simp only [execOp]) (fun _ => rfl) ?_ rfl (SO.of_S1 (fun l hl => ?_) h2)
      · have : vs[n]? = some u := by simpa using h1
        simp [Instr.extract, hvs, this]
      · subst hl; exact h2.elim
    · cases e
  | call c =>
    obtain ⟨callee, args, argTypes⟩ := c
    cases callee with
    | builtin b =>
      cases b with
      | len =>
        simp only [opE] at e
        split at e
        · rename_i x t ha ht
          simp only [Option.map_eq_some_iff, Prod.mk.injEq] at e
          obtain ⟨n, e, rfl, rfl⟩ := e
          have ha' : args = #[x] := by rw [← Array.toList_inj]; exact ha
          have ht' : argTypes = #[t] := by rw [← Array.toList_inj]; exact ht
          subst ha'; subst ht'
          have hr := lenE_ok h (ty := oty) (so x (by simp [Op.operands, Call.operands])) e
          exact ⟨.value _, _, w, ρ, S, hd, by simp [execOp, resolve, invoke, builtin, hr], .inl rfl, h, VV.mk_int _ _⟩
        · cases e
      | append =>
        simp only [opE] at e
        split at e
        · rename_i x y t u ha ht
          split at e
          · rename_i htu
            subst htu
            have ha' : args = #[x, y] := by rw [← Array.toList_inj]; exact ha
            have ht' : argTypes = #[t, t] := by rw [← Array.toList_inj]; exact ht
            subst ha'; subst ht'
            obtain ⟨v, w', ρ', S', hd', h1, h2, h3⟩ := appendE_ok h htr (ty := oty) (hv x (by simp [Op.operands, Call.operands])) (hv y (by simp [Op.operands, Call.operands])) e
            exact ⟨.value v, v, w', ρ', S', hd', by simp [execOp, resolve, invoke, builtin, h1], .inl rfl, h2, h3⟩
          · cases e
        · cases e
      | _ => simp [opE] at e
    | _ => simp [opE] at e
  | _ => simp [opE] at e
end
end Go.Am
